/- address.Parse: the form of a first word, and the putting of the parts, form by form. -/
import Derived.Test.YtdfjpbdfafpfgaaGreatDoorAdPuts
import Derived.Deep.QuietTactic
import Derived.BigQuiet
import Derived.Lib.SplitLaws
namespace Go.Proofs.YtdfjpbdfafpfgaaGreatDoor.Ad
open Go.RowKit Go.Lib Go.Proofs.YtdfjpbdfafpfgaaGreatDoorW.PrintWords

def slashB : ByteArray := ⟨#[47]⟩
def pathB (s : ByteArray) : ByteArray := ⟨(Lib.trimPrefix s.data.toList slashB.data.toList).toArray⟩
/-- The parts of a string between its slashes. -/
def splitS (s : ByteArray) : List ByteArray := Lib.splitB slashB 0 (Lib.countB (pathB s) slashB) (pathB s)
theorem splitS_len (s : ByteArray) : (splitS s).length = Lib.countB (pathB s) slashB + 1 := Lib.splitB_all slashB (by decide) 0 _ _ rfl
/-- The number of the form of a word. -/
def numW (x : ByteArray) : Int := pick fun j => (wordOf j).toList == x.toList

set_option maxHeartbeats 4000000 in
set_option maxRecDepth 1000000 in
theorem isWord (x : ByteArray) (lb rb L : Nat) (j : Nat) (w : World) (hb : w.cell? ⟨lb, 0, none⟩ = some (.slice (some ⟨rb, 0, none⟩) (L + 1) (L + 1))) (hr : w.cell? ⟨rb, 0, none⟩ = some (.string x)) :
    Calls Tryz.prog 27 #[.agg (fcells j).toArray, .pointer (some ⟨lb, 0, none⟩)] w fun e w' => e = .returned (.bool ((wordOf j).toList == x.toList)) ∧ Below w.heap.size w w' := by
  have mixed : Tryz.prog.follows .mixedOrders = true := by kernel_rfl
  rw [fform j]
  generalize getOf j = v2 at *
  generalize putOf j = v3 at *
  generalize kindOf j = v0 at *
  generalize wordOf j = v1 at *
  generalize urgOf j = v4 at *
  go_enter Tryz.func27, Tryz.ntmps27
  go_wp2
  generalize hw1 : World.alloc w _ = w1
  have hB1 : Below w.heap.size w w1 := by rw [← hw1]; exact (Below.refl _ w).alloc (Nat.le_refl _) _
  have hb1 : w1.heap[w.heap.size]? = some (.cells #[.int .i64 v0, .string v1, v2, v3, .int .i64 v4] 44) := by rw [← hw1]; exact heap_alloc_new _ _
  clear hw1
  have q1 : w1.cell? ⟨w.heap.size, 1, none⟩ = some (.string v1) := by unfold World.cell?; rw [hb1]; rfl
  have l0 := keep_cell hB1 hb
  have l1 := keep_cell hB1 hr
  have hL : (0 : Int) < ((L + 1 : Nat) : Int) := by omega
  have hL' : (0 : Int) < (L : Int) + 1 := by omega
  have HB : Aside _ := hB1
  clear hB1 hb1 hb hr
  go_quiet (fail)
  all_goals go_wp2
  go_ret
  exact ⟨rfl, HB.out.os, HB.out.tape, HB.out.output, HB.out.size, HB.out.block⟩

theorem findWord (x : ByteArray) (lb rb L : Nat) (w : World) (hb : w.cell? ⟨lb, 0, none⟩ = some (.slice (some ⟨rb, 0, none⟩) (L + 1) (L + 1))) (hr : w.cell? ⟨rb, 0, none⟩ = some (.string x)) :
    Calls Tryz.prog 26 #[.func (.func 27) #[] #[.pointer (some ⟨lb, 0, none⟩)]] w fun e w' => e = .returned (.tuple #[formAt (numW x), .bool (decide (0 ≤ numW x))]) ∧ Below w.heap.size w w' :=
  find (fun j => (wordOf j).toList == x.toList) _ _ (enters_of Tryz.func27 rfl rfl) w fun W j _ hB =>
    isWord x lb rb L j W (keep_cell hB hb) (keep_cell hB hr)

/-- The address that a form's parts make. -/
def putA (j : Nat) (l : List ByteArray) : ByteArray × Int × ByteArray := match j, l with
  | 0, [x, y] => (⟨#[]⟩, numI x, y)
  | 2, [x] => (x, 0, ⟨#[]⟩)
  | 3, [x, y] => (x, numI y, ⟨#[]⟩)
  | 4, [x] => (x, 0, ⟨#[]⟩)
  | _, _ => (⟨#[]⟩, 0, ⟨#[]⟩)
/-- How many parts a form has. -/
def partN (j : Nat) : Nat := match j with | 0 => 2 | 2 => 1 | 3 => 2 | 4 => 1 | _ => 0
theorem partN_eq (j : Nat) (name : ByteArray) (n : Nat) (lang : ByteArray) : (partsOf j name n lang).length = partN j := by
  match j with
  | 0 => rfl | 1 => rfl | 2 => rfl | 3 => rfl | 4 => rfl | 5 => rfl | n + 6 => rfl

theorem puts (j : Nat) (hj : j < 6) : ∃ g, putOf j = .func (.func g) #[] #[] ∧ (∀ args w, (callFunc g args).run Tryz.prog w = .ok (.enter g args) w) ∧
    ∀ (ab rb : Nat) (kind : Int) (l : List ByteArray) (o c : Nat) (w : World), l.length = partN j → (∀ x ∈ l, x.size ≤ 1000) → Lex.Gl w → PutAt ab rb kind ⟨#[]⟩ 0 ⟨#[]⟩ l o w →
      Calls Tryz.prog g #[.pointer (some ⟨ab, 0, none⟩), .slice (some ⟨rb, o, none⟩) l.length c] w fun e w' => e = .returned (.tuple #[]) ∧ w.grownBy w' (some ab) ∧
        w'.heap[ab]? = some (.cells #[.int .i64 kind, .string (putA j l).1, .int .i64 (putA j l).2.1, .string (putA j l).2.2] 23 (0, 0)) := by
  have two : ∀ l : List ByteArray, l.length = 2 → ∃ x y, l = [x, y] := fun l h => by
    match l, h with
    | [x, y], _ => exact ⟨x, y, rfl⟩
  have one : ∀ l : List ByteArray, l.length = 1 → ∃ x, l = [x] := fun l h => by
    match l, h with
    | [x], _ => exact ⟨x, rfl⟩
  rcases (by omega : j = 0 ∨ j = 1 ∨ j = 2 ∨ j = 3 ∨ j = 4 ∨ j = 5) with rfl | rfl | rfl | rfl | rfl | rfl
  · refine ⟨_, rfl, enters_of Tryz.func57 rfl rfl, fun ab rb kind l o c w hl hs hG h => ?_⟩
    obtain ⟨x, y, rfl⟩ := two l hl
    exact putsEdition ab rb kind _ _ _ x y [] o c w h (hs x (by simp)) hG
  · refine ⟨_, rfl, enters_of Tryz.func60 rfl rfl, fun ab rb kind l o c w hl hs hG h => ?_⟩
    exact putsNothing ab rb kind _ _ _ l o c w h
  · refine ⟨_, rfl, enters_of Tryz.func62 rfl rfl, fun ab rb kind l o c w hl hs hG h => ?_⟩
    obtain ⟨x, rfl⟩ := one l hl
    exact putsName ab rb kind _ _ _ x [] o c w h
  · refine ⟨_, rfl, enters_of Tryz.func63 rfl rfl, fun ab rb kind l o c w hl hs hG h => ?_⟩
    obtain ⟨x, y, rfl⟩ := two l hl
    exact putsPage ab rb kind _ _ _ x y [] o c w h (hs y (by simp)) hG
  · refine ⟨_, rfl, enters_of Tryz.func62 rfl rfl, fun ab rb kind l o c w hl hs hG h => ?_⟩
    obtain ⟨x, rfl⟩ := one l hl
    exact putsName ab rb kind _ _ _ x [] o c w h
  · refine ⟨_, rfl, enters_of Tryz.func60 rfl rfl, fun ab rb kind l o c w hl hs hG h => ?_⟩
    exact putsNothing ab rb kind _ _ _ l o c w h

/-- The address that a string would be. -/
def candB (s : ByteArray) : Option (Int × ByteArray × Int × ByteArray) := match splitS s with
  | [] => none
  | x :: l => if 0 ≤ numW x ∧ l.length = partN (slotOf (numW x)) then some (kindOf (slotOf (numW x)), putA (slotOf (numW x)) l) else none
def noneB : Int × ByteArray × Int × ByteArray × Int := (0, ⟨#[]⟩, 0, ⟨#[]⟩, 120)
/-- What Parse returns. -/
def parseB (s : ByteArray) : Int × ByteArray × Int × ByteArray × Int := match candB s with
  | none => noneB
  | some (k, a, n, l) => if (fmtB k a n l).2 = 0 ∧ (fmtB k a n l).1.toList = s.toList then (k, a, n, l, 0) else noneB

theorem splitB_sizes (sep : ByteArray) : ∀ (k : Nat) (s : ByteArray), ∀ x ∈ Lib.splitB sep 0 k s, x.size ≤ s.size
  | 0, s, x, hx => by
    rw [Lib.splitB_zero] at hx
    simp only [List.mem_singleton] at hx
    rw [hx]; omega
  | k + 1, s, x, hx => by
    unfold Lib.splitB at hx
    split at hx
    · simp only [List.mem_singleton] at hx
      rw [hx]; omega
    · rcases List.mem_cons.1 hx with rfl | hx
      · rw [ByteArray.size_extract]; omega
      · have := splitB_sizes sep k _ x hx
        rw [ByteArray.size_extract] at this
        omega

theorem pathB_size (s : ByteArray) : (pathB s).size ≤ s.size := by
  have : (pathB s).size = (Lib.trimPrefix s.data.toList slashB.data.toList).length := by simp [pathB, ByteArray.size]
  rw [this]
  have e : s.data.toList.length = s.size := by simp
  unfold Lib.trimPrefix
  split
  · rw [List.length_drop]; omega
  · omega

end Go.Proofs.YtdfjpbdfafpfgaaGreatDoor.Ad
