/- address.number, and how the parts are put into an address. -/
import Derived.Test.YtdfjpbdfafpfgaaGreatDoorAdFormat
import Derived.Test.YtdfjpbdfafpfgaaGreatDoorGlA
namespace Go.Proofs.YtdfjpbdfafpfgaaGreatDoor.Ad
open Go.RowKit Go.Lib Go.Proofs.YtdfjpbdfafpfgaaGreatDoorW.PrintWords

/-- What Atoi's number is, whatever its error. -/
def numI (s : ByteArray) : Int := match Lib.atoiAll s.data.toList with | .ok v => v | .range => Lib.atoiSat s.data.toList | _ => 0

theorem atoi (s : ByteArray) (hs : s.size ≤ 1000) (w : World) (hG : Lex.Gl w) :
    Calls Tryz.prog 90 #[.string s] w fun e w' => ∃ u, e = .returned (.tuple #[.int .i64 (numI s), u]) ∧ Below w.heap.size w w' := by
  obtain ⟨-, ⟨v1, h1, h1'⟩, ⟨v2, h2, h2'⟩⟩ := hG
  unfold numI
  cases h : Lib.atoiAll s.data.toList
  · rename_i v
    refine (Tryz.strconv_Atoi_ok s (by omega) v h w).mono ?_
    rintro e w' ⟨rfl, hw⟩
    refine ⟨_, rfl, ?_⟩
    rcases hw with rfl | ⟨t, rfl⟩
    · exact Below.refl _ _
    · exact Lib.bytesWorld_below _ _ _
  · refine (Tryz.strconv_Atoi_syntax s (by omega) h v2 w h2 h2').mono ?_
    rintro e w' ⟨N, rfl, -, -, hB⟩
    exact ⟨_, rfl, hB⟩
  · refine (Tryz.strconv_Atoi_range s (by omega) h v1 w h1 h1').mono ?_
    rintro e w' ⟨N, rfl, -, -, hB⟩
    exact ⟨_, rfl, hB⟩

set_option maxHeartbeats 1000000 in
set_option maxRecDepth 100000 in
theorem number (s : ByteArray) (hs : s.size ≤ 1000) (w : World) (hG : Lex.Gl w) :
    Calls Tryz.prog 58 #[.string s] w fun e w' => e = .returned (.int .i64 (numI s)) ∧ Below w.heap.size w w' := by
  have mixed : Tryz.prog.follows .mixedOrders = true := by kernel_rfl
  have hA := atoi s hs w hG
  generalize numI s = n at *
  go_enter Tryz.func58, Tryz.ntmps58
  go_wp2_with (go_at_call 90; refine hA.mono ?_)
  rintro e w1 ⟨u, rfl, hB⟩
  go_wp2
  go_ret
  exact ⟨rfl, hB⟩

/-- Ahead of a put: the address lies in its box, the parts in their row. -/
structure PutAt (ab rb : Nat) (kind : Int) (name : ByteArray) (n : Int) (lang : ByteArray) (l : List ByteArray) (o : Nat) (w : World) : Prop where
  box : w.heap[ab]? = some (.cells #[.int .i64 kind, .string name, .int .i64 n, .string lang] 23 (0, 0))
  row : ∀ (j : Nat) x, l[j]? = some x → w.cell? ⟨rb, o + j, none⟩ = some (.string x)
  ne : rb ≠ ab

theorem PutAt.below {ab rb o : Nat} {kind n : Int} {name lang : ByteArray} {l : List ByteArray} {w w' : World} (h : PutAt ab rb kind name n lang l o w) (hb : Below w.heap.size w w') : PutAt ab rb kind name n lang l o w' := by
  refine ⟨?_, fun j x hj => keep_cell hb (h.row j x hj), h.ne⟩
  rw [hb.block ab ?_]
  · exact h.box
  · rcases Nat.lt_or_ge ab w.heap.size with h' | h'
    · exact h'
    · have := h.box; rw [Array.getElem?_eq_none h'] at this; cases this

theorem box_lt {w : World} {ab : Nat} {o : Obj} (h : w.heap[ab]? = some o) : ab < w.heap.size := by
  rcases Nat.lt_or_ge ab w.heap.size with h' | h'
  · exact h'
  · rw [Array.getElem?_eq_none h'] at h; cases h

theorem putsNothing (ab rb : Nat) (kind : Int) (name : ByteArray) (n : Int) (lang : ByteArray) (l : List ByteArray) (o c : Nat) (w : World) (h : PutAt ab rb kind name n lang l o w) :
    Calls Tryz.prog 60 #[.pointer (some ⟨ab, 0, none⟩), .slice (some ⟨rb, o, none⟩) l.length c] w fun e w' => e = .returned (.tuple #[]) ∧ w.grownBy w' (some ab) ∧ w'.heap[ab]? = some (.cells #[.int .i64 kind, .string name, .int .i64 n, .string lang] 23 (0, 0)) := by
  have mixed : Tryz.prog.follows .mixedOrders = true := by kernel_rfl
  go_enter Tryz.func60, Tryz.ntmps60
  go_wp2
  go_end0
  exact ⟨rfl, ⟨rfl, rfl, rfl, Nat.le_refl _, fun _ _ _ => rfl⟩, h.box⟩

theorem grow_set {w : World} {ab i : Nat} {v : Value} : w.grownBy (w.setCell ⟨ab, i, none⟩ v) (some ab) :=
  ⟨rfl, rfl, rfl, by simp [World.setCell], fun k _ hne => Below.heap_setCell w ⟨ab, i, none⟩ v k (by simpa using hne)⟩
theorem grow_trans {a b c : World} {r : Nat} (h : a.grownBy b (some r)) (k : b.grownBy c (some r)) : a.grownBy c (some r) :=
  ⟨k.os.trans h.os, k.tape.trans h.tape, k.output.trans h.output, Nat.le_trans h.size k.size, fun i hi hne => (k.block i (Nat.lt_of_lt_of_le hi h.size) hne).trans (h.block i hi hne)⟩
theorem grow_below {a b : World} {r : Option Nat} (h : Below a.heap.size a b) : a.grownBy b r := ⟨h.os, h.tape, h.output, h.size, fun k hk _ => h.block k hk⟩

set_option maxHeartbeats 1000000 in
set_option maxRecDepth 100000 in
theorem putsName (ab rb : Nat) (kind : Int) (name : ByteArray) (n : Int) (lang : ByteArray) (x : ByteArray) (l : List ByteArray) (o c : Nat) (w : World) (h : PutAt ab rb kind name n lang (x :: l) o w) :
    Calls Tryz.prog 62 #[.pointer (some ⟨ab, 0, none⟩), .slice (some ⟨rb, o, none⟩) (x :: l).length c] w fun e w' => e = .returned (.tuple #[]) ∧ w.grownBy w' (some ab) ∧ w'.heap[ab]? = some (.cells #[.int .i64 kind, .string x, .int .i64 n, .string lang] 23 (0, 0)) := by
  have mixed : Tryz.prog.follows .mixedOrders = true := by kernel_rfl
  have r0 : w.cell? ⟨rb, o, none⟩ = some (.string x) := h.row 0 x rfl
  have hb := h.box
  have q1 : w.cell? ⟨ab, 1, none⟩ = some (.string name) := by unfold World.cell?; rw [hb]; rfl
  have z1 : w.frozen? ⟨ab, 1, none⟩ = false := by unfold World.frozen?; rw [hb]; first | rfl | simp
  have hne := h.ne
  have hl : (0 : Int) < ((x :: l).length : Int) := by simp only [List.length_cons]; omega
  have H : Aside _ := h
  clear h hb
  generalize (x :: l).length = L at *
  go_enter Tryz.func62, Tryz.ntmps62
  go_wp2
  go_end0
  exact ⟨rfl, grow_set, (blk_put (Aside0.mk H.out.box).out 1 _ rfl)⟩

theorem set_other {W : World} {ab i rb o : Nat} {u v : Value} (h : W.cell? ⟨rb, o, none⟩ = some u) (hne : rb ≠ ab) : (W.setCell ⟨ab, i, none⟩ v).cell? ⟨rb, o, none⟩ = some u := by
  rw [World.cell?_setCell_other _ _ _ _ (by intro h; injection h with h; exact hne h.symm)]
  exact h

set_option maxHeartbeats 1000000 in
set_option maxRecDepth 100000 in
theorem putsEdition (ab rb : Nat) (kind : Int) (name : ByteArray) (n : Int) (lang : ByteArray) (x y : ByteArray) (l : List ByteArray) (o c : Nat) (w : World) (h : PutAt ab rb kind name n lang (x :: y :: l) o w) (hx : x.size ≤ 1000) (hG : Lex.Gl w) :
    Calls Tryz.prog 57 #[.pointer (some ⟨ab, 0, none⟩), .slice (some ⟨rb, o, none⟩) (x :: y :: l).length c] w fun e w' => e = .returned (.tuple #[]) ∧ w.grownBy w' (some ab) ∧ w'.heap[ab]? = some (.cells #[.int .i64 kind, .string name, .int .i64 (numI x), .string y] 23 (0, 0)) := by
  have mixed : Tryz.prog.follows .mixedOrders = true := by kernel_rfl
  have r0 : w.cell? ⟨rb, o, none⟩ = some (.string x) := h.row 0 x rfl
  have r1 : w.cell? ⟨rb, o + 1, none⟩ = some (.string y) := h.row 1 y rfl
  have hne := h.ne
  have hl : (0 : Int) < (l.length : Int) + 1 + 1 := by omega
  have hl1 : (1 : Int) < (l.length : Int) + 1 + 1 := by omega
  have HN := fun w hG => number x hx w hG
  have HN : Aside _ := HN
  have HG : Aside (Lex.Gl w.drew) := hG
  have HD : Aside (PutAt ab rb kind name n lang (x :: y :: l) o w.drew) := ⟨h.box, h.row, h.ne⟩
  clear h hG
  simp only [List.length_cons] at *
  generalize l.length = L at *
  generalize numI x = nx at *
  go_enter Tryz.func57, Tryz.ntmps57
  go_wp2
  go_region_held3 (fun W => W.cell? ⟨rb, o, none⟩ = some (.string x) ∧ W.cell? ⟨rb, o + 1, none⟩ = some (.string y))
    (first | exact ⟨r0, r1⟩ | exact ⟨s0, s1⟩ | exact ⟨set_other s0 hne, set_other s1 hne⟩ | exact ⟨set_other (set_other s0 hne) hne, set_other (set_other s1 hne) hne⟩)
    (first
    | (go_at_call 58; refine (HN.out w.drew HG.out).mono ?_; rintro e w5 ⟨rfl, hb5⟩; have H5 : Aside _ := HD.out.below hb5; have hb5' := H5.out.box; have q2 : w5.cell? ⟨ab, 2, none⟩ = some (.int .i64 n) := (by unfold World.cell?; rw [hb5']; rfl); have q3 : w5.cell? ⟨ab, 3, none⟩ = some (.string lang) := (by unfold World.cell?; rw [hb5']; rfl); have z2 : w5.frozen? ⟨ab, 2, none⟩ = false := (by unfold World.frozen?; rw [hb5']; first | rfl | simp); have z3 : w5.frozen? ⟨ab, 3, none⟩ = false := (by unfold World.frozen?; rw [hb5']; first | rfl | simp); have s0 := H5.out.row 0 x rfl; have s1 := H5.out.row 1 y rfl; have HB5 : Aside _ := hb5; clear hb5 hb5'))
  all_goals
    go_wp2
    go_end0
    exact ⟨rfl, grow_trans (grow_below (a := w) ⟨HB5.out.os, HB5.out.tape, HB5.out.output, HB5.out.size, HB5.out.block⟩) (grow_trans grow_set grow_set), blk_put (blk_put H5.out.box 2 _ rfl) 3 _ rfl⟩

set_option maxHeartbeats 1000000 in
set_option maxRecDepth 100000 in
theorem putsPage (ab rb : Nat) (kind : Int) (name : ByteArray) (n : Int) (lang : ByteArray) (x y : ByteArray) (l : List ByteArray) (o c : Nat) (w : World) (h : PutAt ab rb kind name n lang (x :: y :: l) o w) (hx : y.size ≤ 1000) (hG : Lex.Gl w) :
    Calls Tryz.prog 63 #[.pointer (some ⟨ab, 0, none⟩), .slice (some ⟨rb, o, none⟩) (x :: y :: l).length c] w fun e w' => e = .returned (.tuple #[]) ∧ w.grownBy w' (some ab) ∧ w'.heap[ab]? = some (.cells #[.int .i64 kind, .string x, .int .i64 (numI y), .string lang] 23 (0, 0)) := by
  have mixed : Tryz.prog.follows .mixedOrders = true := by kernel_rfl
  have r0 : w.cell? ⟨rb, o, none⟩ = some (.string x) := h.row 0 x rfl
  have r1 : w.cell? ⟨rb, o + 1, none⟩ = some (.string y) := h.row 1 y rfl
  have hne := h.ne
  have hl : (0 : Int) < (l.length : Int) + 1 + 1 := by omega
  have hl1 : (1 : Int) < (l.length : Int) + 1 + 1 := by omega
  have HN := fun w hG => number y hx w hG
  have HN : Aside _ := HN
  have HG : Aside (Lex.Gl w.drew) := hG
  have HD : Aside (PutAt ab rb kind name n lang (x :: y :: l) o w.drew) := ⟨h.box, h.row, h.ne⟩
  clear h hG
  simp only [List.length_cons] at *
  generalize l.length = L at *
  generalize numI y = nx at *
  go_enter Tryz.func63, Tryz.ntmps63
  go_wp2
  go_region_held3 (fun W => W.cell? ⟨rb, o, none⟩ = some (.string x) ∧ W.cell? ⟨rb, o + 1, none⟩ = some (.string y))
    (first | exact ⟨r0, r1⟩ | exact ⟨s0, s1⟩ | exact ⟨set_other s0 hne, set_other s1 hne⟩ | exact ⟨set_other (set_other s0 hne) hne, set_other (set_other s1 hne) hne⟩)
    (first
    | (go_at_call 58; refine (HN.out w.drew HG.out).mono ?_; rintro e w5 ⟨rfl, hb5⟩; have H5 : Aside _ := HD.out.below hb5; have hb5' := H5.out.box; have q2 : w5.cell? ⟨ab, 1, none⟩ = some (.string name) := (by unfold World.cell?; rw [hb5']; rfl); have q3 : w5.cell? ⟨ab, 2, none⟩ = some (.int .i64 n) := (by unfold World.cell?; rw [hb5']; rfl); have z2 : w5.frozen? ⟨ab, 1, none⟩ = false := (by unfold World.frozen?; rw [hb5']; first | rfl | simp); have z3 : w5.frozen? ⟨ab, 2, none⟩ = false := (by unfold World.frozen?; rw [hb5']; first | rfl | simp); have s0 := H5.out.row 0 x rfl; have s1 := H5.out.row 1 y rfl; have HB5 : Aside _ := hb5; clear hb5 hb5'))
  all_goals
    go_wp2
    go_end0
    exact ⟨rfl, grow_trans (grow_below (a := w) ⟨HB5.out.os, HB5.out.tape, HB5.out.output, HB5.out.size, HB5.out.block⟩) (grow_trans grow_set grow_set), blk_put (blk_put H5.out.box 1 _ rfl) 2 _ rfl⟩

end Go.Proofs.YtdfjpbdfafpfgaaGreatDoor.Ad
