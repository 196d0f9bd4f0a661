/- address.Urgency. -/
import Derived.Test.YtdfjpbdfafpfgaaGreatDoorAdFormat
namespace Go.Proofs.YtdfjpbdfafpfgaaGreatDoor.Ad
open Go.RowKit Go.Lib

def urgB (kind : Int) (name : ByteArray) (n : Int) (lang : ByteArray) : Int := if validB kind name n lang = true then urgOf (slotOf (numOf kind)) else -1

set_option maxHeartbeats 4000000 in
set_option maxRecDepth 1000000 in
theorem urgency (kind : Int) (name : ByteArray) (n : Int) (lang : ByteArray) (w : World) :
    Calls Tryz.prog 13 #[adr kind name n lang] w fun e w' => e = .returned (.int .i64 (urgB kind name n lang)) ∧ Below w.heap.size w w' := by
  have mixed : Tryz.prog.follows .mixedOrders = true := by kernel_rfl
  have HV := fun w => valid kind name n lang w
  have HV : Aside _ := HV
  have HK := fun w => ofKind kind w
  rw [formAt_eq] at HK
  have HK : Aside _ := HK
  unfold urgB
  have hfn : validB kind name n lang = true → (∃ g, getOf (slotOf (numOf kind)) = .func (.func g) #[] #[]) ∧ ∃ g, putOf (slotOf (numOf kind)) = .func (.func g) #[] #[] := fun h => by
    rcases valid_kind h with rfl | rfl | rfl | rfl | rfl | rfl <;> exact ⟨⟨_, rfl⟩, _, rfl⟩
  generalize getOf (slotOf (numOf kind)) = v2 at *
  generalize wordOf (slotOf (numOf kind)) = word at *
  generalize putOf (slotOf (numOf kind)) = v3 at *
  generalize kindOf (slotOf (numOf kind)) = v0 at *
  generalize urgOf (slotOf (numOf kind)) = v4 at *
  unfold adr at *
  cases hv : validB kind name n lang with
  | false =>
    clear hfn
    rw [hv] at HV
    rw [if_neg (by decide)]
    go_enter Tryz.func13, Tryz.ntmps13
    go_wp2_with (go_at_call 11; refine (HV.out _).mono ?_)
    generalize hw1 : World.alloc w _ = w1
    have hB1 : Below w.heap.size w w1 := by rw [← hw1]; exact (Below.refl _ w).alloc (Nat.le_refl _) _
    clear hw1
    rintro e w2 ⟨rfl, hB2⟩
    go_wp2
    go_ret
    exact ⟨rfl, hB1.trans (hB2.mono hB1.size)⟩
  | true =>
    obtain ⟨⟨g2, rfl⟩, g3, rfl⟩ := hfn hv
    clear hfn
    have hfd : ∀ w : World, (Instr.field 44 (.agg #[.int .i64 v0, .string word, .func (.func g2) #[] #[], .func (.func g3) #[] #[], .int .i64 v4]) 4).run Tryz.prog w = .ok (.int .i64 v4) w := fun _ => by kernel_rfl
    rw [hv] at HV
    rw [if_pos rfl]
    go_enter Tryz.func13, Tryz.ntmps13
    go_wp2_with (go_at_call 11; refine (HV.out _).mono ?_)
    generalize hw1 : World.alloc w _ = w1
    have hB1 : Below w.heap.size w w1 := by rw [← hw1]; exact (Below.refl _ w).alloc (Nat.le_refl _) _
    have hs1 : w1.heap.size = w.heap.size + 1 := by rw [← hw1]; simp
    have hb1 : w1.heap[w.heap.size]? = some (.cells #[.int .i64 kind, .string name, .int .i64 n, .string lang] 23) := by rw [← hw1]; exact heap_alloc_new _ _
    clear hw1
    rintro e w2 ⟨rfl, hB2⟩
    have hB2' : Below w.heap.size w w2 := hB1.trans (hB2.mono hB1.size)
    have hb2 : w2.heap[w.heap.size]? = some (.cells #[.int .i64 kind, .string name, .int .i64 n, .string lang] 23) := by rw [hB2.block _ (by omega)]; exact hb1
    have q0 : w2.cell? ⟨w.heap.size, 0, none⟩ = some (.int .i64 kind) := by unfold World.cell?; rw [hb2]; rfl
    have HB2 : Aside _ := hB2'
    clear hB1 hs1 hb1 hB2 hb2 hB2'
    go_wp2_with (go_at_call 18; refine (HK.out _).mono ?_)
    clear q0
    rintro e w3 ⟨rfl, hB3⟩
    go_wp2
    go_ret
    exact ⟨rfl, HB2.out.trans (hB3.mono HB2.out.size)⟩

end Go.Proofs.YtdfjpbdfafpfgaaGreatDoor.Ad
