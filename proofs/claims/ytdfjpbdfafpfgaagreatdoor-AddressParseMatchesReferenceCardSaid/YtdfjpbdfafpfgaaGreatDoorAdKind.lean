/- address.ofKind: the form of a kind. -/
import Derived.Test.YtdfjpbdfafpfgaaGreatDoorAdForms
namespace Go.Proofs.YtdfjpbdfafpfgaaGreatDoor.Ad
open Go.RowKit Go.Lib

theorem results_cell1 {fn : Func} {p : Tmp} {ty : TypeId} (h : fn.results = #[.cell p ty]) (tmps : Array Value) (P : Program) (w : World) :
    (results fn tmps).run P w = ((asAddr (tmps.getD p undef)).run P w).andThen fun a w₁ => (loadVar ty a).run P w₁ := by
  simp only [results, h]
  simp [Sem.run_bind, Result.andThen]

/-- The kind that a form is for; its word; its urgency. -/
def kindOf (j : Nat) : Int := match j with | 0 => 2 | 1 => 1 | 2 => 5 | 3 => 3 | 4 => 4 | 5 => 6 | _ => 0
def wordOf (j : Nat) : ByteArray := match j with
  | 0 => ⟨#[115, 116, 111, 114, 121]⟩ | 1 => ⟨#[]⟩ | 2 => ⟨#[102, 101, 101, 100]⟩ | 3 => ⟨#[116, 111, 112, 105, 99]⟩ | 4 => ⟨#[97, 117, 116, 104, 111, 114]⟩ | 5 => ⟨#[109, 97, 112]⟩ | _ => ⟨#[]⟩
def urgOf (j : Nat) : Int := match j with | 0 => 0 | 1 => 1 | 2 => 2 | 3 => 3 | 4 => 4 | 5 => 5 | _ => 0
def getOf (j : Nat) : Value := (fcells j).getD 2 .nilFunc
def putOf (j : Nat) : Value := (fcells j).getD 3 .nilFunc

theorem fform (j : Nat) : fcells j = [.int .i64 (kindOf j), .string (wordOf j), getOf j, putOf j, .int .i64 (urgOf j)] := by
  match j with
  | 0 => rfl | 1 => rfl | 2 => rfl | 3 => rfl | 4 => rfl | 5 => rfl | n + 6 => rfl
theorem getOf_one (j : Nat) : (getOf j).oneCell' = true := by
  unfold getOf fcells; split <;> rfl
theorem putOf_one (j : Nat) : (putOf j).oneCell' = true := by
  unfold putOf fcells; split <;> rfl

set_option maxHeartbeats 4000000 in
set_option maxRecDepth 1000000 in
theorem isKind (k : Int) (b : Nat) (j : Nat) (w : World) (hb : w.cell? ⟨b, 0, none⟩ = some (.int .i64 k)) :
    Calls Tryz.prog 34 #[.agg (fcells j).toArray, .pointer (some ⟨b, 0, none⟩)] w fun e w' => e = .returned (.bool (kindOf j == k)) ∧ Below w.heap.size w w' := by
  have mixed : Tryz.prog.follows .mixedOrders = true := by kernel_rfl
  have hlt := World.block_lt_of_cell? w _ hb
  have hne : b ≠ w.heap.size := Nat.ne_of_lt hlt
  rw [fform j]
  have h2 := getOf_one j
  have h3 := putOf_one j
  generalize getOf j = v2 at *
  generalize putOf j = v3 at *
  go_enter Tryz.func34, Tryz.ntmps34
  go_wp2
  go_ret
  exact ⟨rfl, (Below.refl _ _).alloc (Nat.le_refl _) _⟩

/-- The number of the form of a kind. -/
def numOf (k : Int) : Int := pick fun j => kindOf j == k

/-- The number of a form in its row (6: none). -/
def slotOf (n : Int) : Nat := if n < 0 then 6 else n.toNat
theorem formAt_eq (n : Int) : formAt n = .agg #[.int .i64 (kindOf (slotOf n)), .string (wordOf (slotOf n)), getOf (slotOf n), putOf (slotOf n), .int .i64 (urgOf (slotOf n))] := by
  show Value.agg (fcells (slotOf n)).toArray = _
  rw [fform]

theorem findKind (k : Int) (b : Nat) (w : World) (hb : w.cell? ⟨b, 0, none⟩ = some (.int .i64 k)) :
    Calls Tryz.prog 26 #[.func (.func 34) #[] #[.pointer (some ⟨b, 0, none⟩)]] w fun e w' => e = .returned (.tuple #[formAt (numOf k), .bool (decide (0 ≤ numOf k))]) ∧ Below w.heap.size w w' := by
  have hlt := World.block_lt_of_cell? w _ hb
  refine find (fun j => kindOf j == k) _ _ (enters_of Tryz.func34 rfl rfl) w fun W j hj hB => ?_
  exact isKind k b j W ((hB.cell hlt).trans hb)

set_option maxHeartbeats 4000000 in
set_option maxRecDepth 1000000 in
theorem ofKind (k : Int) (w : World) :
    Calls Tryz.prog 18 #[.int .i64 k] w fun e w' => e = .returned (formAt (numOf k)) ∧ Below w.heap.size w w' := by
  have mixed : Tryz.prog.follows .mixedOrders = true := by kernel_rfl
  have h2 := getOf_one (slotOf (numOf k))
  have h3 := putOf_one (slotOf (numOf k))
  have HF := fun b w hb => findKind k b w hb
  rw [formAt_eq] at *
  generalize getOf (slotOf (numOf k)) = v2 at *
  generalize putOf (slotOf (numOf k)) = v3 at *
  generalize kindOf (slotOf (numOf k)) = v0 at *
  generalize wordOf (slotOf (numOf k)) = v1 at *
  generalize urgOf (slotOf (numOf k)) = v4 at *
  generalize decide (0 ≤ numOf k) = v5 at *
  have HF : Aside _ := HF
  have sn : ∀ (a : Addr) (m : Mode) (w : World), (store a .nilFunc m).run Tryz.prog w = stored Tryz.prog w a .nilFunc m := fun a m w => run_store _ w a _ m rfl
  have s2 : ∀ (a : Addr) (m : Mode) (w : World), (store a v2 m).run Tryz.prog w = stored Tryz.prog w a v2 m := fun a m w => run_store _ w a _ m h2
  have s3 : ∀ (a : Addr) (m : Mode) (w : World), (store a v3 m).run Tryz.prog w = stored Tryz.prog w a v3 m := fun a m w => run_store _ w a _ m h3
  clear h2 h3
  go_enter Tryz.func18, Tryz.ntmps18
  go_wp2_with (go_at_call 26; refine (HF.out _ _ (by go_simp)).mono ?_)
  generalize hw1 : World.alloc (World.alloc w _) _ = w1
  have hB1 : Below w.heap.size w w1 := by rw [← hw1]; exact ((Below.refl _ w).alloc (Nat.le_refl _) _).alloc (by simp) _
  have hs1 : w1.heap.size = w.heap.size + 1 + 1 := by rw [← hw1]; simp
  have hb1 : w1.heap[w.heap.size + 1]? = some (.cells #[.int .i64 0, .string ⟨#[]⟩, .nilFunc, .nilFunc, .int .i64 0] 44) := by rw [← hw1]; exact heap_alloc2_new _ _ _
  clear hw1
  rintro e w2 ⟨rfl, hB2⟩
  have hB2' : Below w.heap.size w w2 := hB1.trans (hB2.mono (by omega))
  have hs2 := hB2.size
  have hb2 : w2.heap[w.heap.size + 1]? = some (.cells #[.int .i64 0, .string ⟨#[]⟩, .nilFunc, .nilFunc, .int .i64 0] 44) := by
    rw [hB2.block _ (by omega)]; exact hb1
  clear hB2 hb1
  have q0 : w2.cell? ⟨w.heap.size + 1, 0, none⟩ = some (.int .i64 0) := by unfold World.cell?; rw [hb2]; rfl
  have q1 : w2.cell? ⟨w.heap.size + 1, 1, none⟩ = some (.string ⟨#[]⟩) := by unfold World.cell?; rw [hb2]; rfl
  have q2 : w2.cell? ⟨w.heap.size + 1, 2, none⟩ = some .nilFunc := by unfold World.cell?; rw [hb2]; rfl
  have q3 : w2.cell? ⟨w.heap.size + 1, 3, none⟩ = some .nilFunc := by unfold World.cell?; rw [hb2]; rfl
  have q4 : w2.cell? ⟨w.heap.size + 1, 4, none⟩ = some (.int .i64 0) := by unfold World.cell?; rw [hb2]; rfl
  have z : ∀ i, w2.frozen? ⟨w.heap.size + 1, i, none⟩ = false := fun i => by unfold World.frozen?; rw [hb2]; first | rfl | simp
  have z0 := z 0; have z1 := z 1; have z2 := z 2; have z3 := z 3; have z4 := z 4
  have hlt : w.heap.size + 1 < w2.heap.size := by omega
  have hne : w.heap.size + 1 ≠ w2.heap.size := by omega
  have hne' : w2.heap.size ≠ w.heap.size + 1 := by omega
  have hle : w.heap.size ≤ w2.heap.size := by omega
  have HB : Aside _ := hB2'
  clear z hB1 hs1 hs2 hb2 hB2'
  go_wp2
  (try simp only [Exit.inBlock, Exit.then])
  refine bodyPost_ret (v := .agg #[.int .i64 v0, .string v1, v2, v3, .int .i64 v4]) ?_ rfl ⟨rfl, ?_⟩
  · rw [results_cell1 rfl]
    go_simp
  · refine Below.alloc ?_ (by simp; omega) _
    repeat (first | exact HB.out | refine Below.setCell (B := w.heap.size) (p := ⟨w.heap.size + 1, _, none⟩) ?_ (Nat.le_succ _) _)

end Go.Proofs.YtdfjpbdfafpfgaaGreatDoor.Ad
