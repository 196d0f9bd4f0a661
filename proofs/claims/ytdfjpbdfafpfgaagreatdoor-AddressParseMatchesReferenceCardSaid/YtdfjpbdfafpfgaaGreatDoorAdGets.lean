/- The parts of an address, form by form. -/
import Derived.Test.YtdfjpbdfafpfgaaGreatDoorAdKind
import Derived.Test.YtdfjpbdfafpfgaaGreatDoorShelf
import Derived.Laws.AppendOwn
namespace Go.Proofs.YtdfjpbdfafpfgaaGreatDoor.Ad
open Go.RowKit Go.Lib

/-- A number as text. -/
def itoaB (n : Nat) : ByteArray := ⟨(Lib.decDigits n).toArray⟩
/-- The parts that a form makes of an address. -/
def partsOf (j : Nat) (name : ByteArray) (n : Nat) (lang : ByteArray) : List ByteArray := match j with
  | 0 => [itoaB n, lang] | 2 => [name] | 3 => [name, itoaB n] | 4 => [name] | _ => []

def adr (kind : Int) (name : ByteArray) (n : Int) (lang : ByteArray) : Value := .agg #[.int .i64 kind, .string name, .int .i64 n, .string lang]

theorem ownsRow_fresh {w : World} {base : Nat} {e : TypeId} (l : List Value) (hb : base ≤ w.heap.size) (hl : l.length ≤ maxLen) :
    (w.alloc (.cells l.toArray e)).ownsRow base e 1 (.slice (some ⟨w.heap.size, 0, none⟩) l.length l.length) l.length l := by
  refine ⟨by simp, .inr ⟨w.heap.size, l.length, l.toArray, rfl, hb, heap_alloc_new _ _, Nat.le_refl _, hl, by simp, by simp⟩⟩


set_option maxHeartbeats 1000000 in
set_option maxRecDepth 100000 in

set_option maxHeartbeats 1000000 in
set_option maxRecDepth 100000 in

set_option maxHeartbeats 1000000 in
set_option maxRecDepth 100000 in
theorem getsEdition (kind : Int) (name : ByteArray) (n : Nat) (lang : ByteArray) (hn : n < 100) (w : World) (b : Nat) (hb : w.heap.size = b) :
    Calls Tryz.prog 54 #[adr kind name n lang] w fun e w' => ∃ v, e = .returned v ∧ w'.ownsRow b 9 1 v 2 [.string (itoaB n), .string lang] ∧ Below b w w' := by
  have HBB : Aside (w.heap.size = b) := hb
  clear hb
  have mixed : Tryz.prog.follows .mixedOrders = true := by kernel_rfl
  unfold adr
  go_enter Tryz.func54, Tryz.ntmps54
  go_wp2
  generalize hw1 : w.alloc _ = w1
  have hB1 : Below w.heap.size w w1 := by rw [← hw1]; exact (Below.refl _ w).alloc (Nat.le_refl _) _
  have hs1 : w1.heap.size = w.heap.size + 1 := by rw [← hw1]; simp
  have hb1 : w1.heap[w.heap.size]? = some (.cells #[.int .i64 kind, .string name, .int .i64 n, .string lang] 23) := by rw [← hw1]; exact heap_alloc_new _ _
  clear hw1
  have q1 : w1.cell? ⟨w.heap.size, 1, none⟩ = some (.string name) := by unfold World.cell?; rw [hb1]; rfl
  have q2 : w1.cell? ⟨w.heap.size, 2, none⟩ = some (.int .i64 n) := by unfold World.cell?; rw [hb1]; rfl
  have q3 : w1.cell? ⟨w.heap.size, 3, none⟩ = some (.string lang) := by unfold World.cell?; rw [hb1]; rfl
  have hle : w.heap.size ≤ w1.heap.size := by omega
  have HB : Aside _ := hB1
  clear hB1 hb1
  rw [HBB.out] at *
  go_region_with (go_at_call 55; refine (Tryz.strconv_Itoa_small n hn _).mono ?_; rintro e w' ⟨rfl, rfl⟩)
  all_goals
    go_wp2
    go_ret
    refine ⟨_, rfl, ?_, ?_⟩
    · have := ownsRow_fresh (w := w1) (base := b) (e := 9) [.string (itoaB n), .string lang] hle (by simp [maxLen])
      rw [hs1] at this
      exact this
    · exact Below.drew (Below.alloc HB.out hle _)

set_option maxHeartbeats 1000000 in
set_option maxRecDepth 100000 in
theorem getsPage (kind : Int) (name : ByteArray) (n : Nat) (lang : ByteArray) (hn : n < 100) (w : World) (b : Nat) (hb : w.heap.size = b) :
    Calls Tryz.prog 56 #[adr kind name n lang] w fun e w' => ∃ v, e = .returned v ∧ w'.ownsRow b 9 1 v 2 [.string name, .string (itoaB n)] ∧ Below b w w' := by
  have HBB : Aside (w.heap.size = b) := hb
  clear hb
  have mixed : Tryz.prog.follows .mixedOrders = true := by kernel_rfl
  unfold adr
  go_enter Tryz.func56, Tryz.ntmps56
  go_wp2
  generalize hw1 : w.alloc _ = w1
  have hB1 : Below w.heap.size w w1 := by rw [← hw1]; exact (Below.refl _ w).alloc (Nat.le_refl _) _
  have hs1 : w1.heap.size = w.heap.size + 1 := by rw [← hw1]; simp
  have hb1 : w1.heap[w.heap.size]? = some (.cells #[.int .i64 kind, .string name, .int .i64 n, .string lang] 23) := by rw [← hw1]; exact heap_alloc_new _ _
  clear hw1
  have q1 : w1.cell? ⟨w.heap.size, 1, none⟩ = some (.string name) := by unfold World.cell?; rw [hb1]; rfl
  have q2 : w1.cell? ⟨w.heap.size, 2, none⟩ = some (.int .i64 n) := by unfold World.cell?; rw [hb1]; rfl
  have q3 : w1.cell? ⟨w.heap.size, 3, none⟩ = some (.string lang) := by unfold World.cell?; rw [hb1]; rfl
  have hle : w.heap.size ≤ w1.heap.size := by omega
  have HB : Aside _ := hB1
  clear hB1 hb1
  rw [HBB.out] at *
  go_region_with (go_at_call 55; refine (Tryz.strconv_Itoa_small n hn _).mono ?_; rintro e w' ⟨rfl, rfl⟩)
  all_goals
    go_wp2
    go_ret
    refine ⟨_, rfl, ?_, ?_⟩
    · have := ownsRow_fresh (w := w1) (base := b) (e := 9) [.string name, .string (itoaB n)] hle (by simp [maxLen])
      rw [hs1] at this
      exact this
    · exact Below.drew (Below.alloc HB.out hle _)

set_option maxHeartbeats 1000000 in
set_option maxRecDepth 100000 in
theorem getsNamed (kind : Int) (name : ByteArray) (n : Nat) (lang : ByteArray) (_ : n < 100) (w : World) (b : Nat) (hb : w.heap.size = b) :
    Calls Tryz.prog 61 #[adr kind name n lang] w fun e w' => ∃ v, e = .returned v ∧ w'.ownsRow b 9 1 v 1 [.string name] ∧ Below b w w' := by
  have HBB : Aside (w.heap.size = b) := hb
  clear hb
  have mixed : Tryz.prog.follows .mixedOrders = true := by kernel_rfl
  unfold adr
  go_enter Tryz.func61, Tryz.ntmps61
  go_wp2
  go_ret
  rw [← HBB.out]
  refine ⟨_, rfl, ?_, ?_⟩
  · have := ownsRow_fresh (w := w.alloc (.cells #[.int .i64 kind, .string name, .int .i64 n, .string lang] 23)) (base := w.heap.size) (e := 9) [.string name] (by simp) (by simp [maxLen])
    have e : (w.alloc (.cells #[.int .i64 kind, .string name, .int .i64 n, .string lang] 23)).heap.size = w.heap.size + 1 := by simp
    rw [e] at this
    exact this
  · exact Below.alloc ((Below.refl _ w).alloc (Nat.le_refl _) _) (by simp) _

set_option maxHeartbeats 1000000 in
set_option maxRecDepth 100000 in
theorem getsNothing (kind : Int) (name : ByteArray) (n : Nat) (lang : ByteArray) (_ : n < 100) (w : World) (b : Nat) (hb : w.heap.size = b) :
    Calls Tryz.prog 59 #[adr kind name n lang] w fun e w' => ∃ v, e = .returned v ∧ (w'.ownsRow b 9 1 v 0 [] ∧ v = .slice none 0 0) ∧ Below b w w' := by
  have HBB : Aside (w.heap.size = b) := hb
  clear hb
  have mixed : Tryz.prog.follows .mixedOrders = true := by kernel_rfl
  unfold adr
  go_enter Tryz.func59, Tryz.ntmps59
  go_wp2
  go_ret
  refine ⟨_, rfl, ?_, ?_⟩
  · exact ⟨⟨rfl, .inl ⟨rfl, rfl⟩⟩, rfl⟩
  · rw [← HBB.out]; exact (Below.refl _ w).alloc (Nat.le_refl _) _

/-- What a form makes of an address. -/
theorem gets (j : Nat) (hj : j < 6) : ∃ g, getOf j = .func (.func g) #[] #[] ∧ (∀ args w, (callFunc g args).run Tryz.prog w = .ok (.enter g args) w) ∧
    ∀ (kind : Int) (name : ByteArray) (n : Nat) (lang : ByteArray), n < 100 → ∀ (w : World) (b : Nat), w.heap.size = b →
      Calls Tryz.prog g #[adr kind name n lang] w fun e w' => ∃ v, e = .returned v ∧ w'.ownsRow b 9 1 v (partsOf j name n lang).length ((partsOf j name n lang).map .string) ∧ (partsOf j name n lang = [] → v = .slice none 0 0) ∧ Below b w w' := by
  rcases (by omega : j = 0 ∨ j = 1 ∨ j = 2 ∨ j = 3 ∨ j = 4 ∨ j = 5) with rfl | rfl | rfl | rfl | rfl | rfl
  · exact ⟨_, rfl, enters_of Tryz.func54 rfl rfl, fun k a n l hn w b hb => (getsEdition k a n l hn w b hb).mono fun e w' ⟨v, he, ho, hB⟩ => ⟨v, he, ho, fun h => absurd h (List.cons_ne_nil _ _), hB⟩⟩
  · exact ⟨_, rfl, enters_of Tryz.func59 rfl rfl, fun k a n l hn w b hb => (getsNothing k a n l hn w b hb).mono fun e w' ⟨v, he, ho, hB⟩ => ⟨v, he, ho.1, fun _ => ho.2, hB⟩⟩
  · exact ⟨_, rfl, enters_of Tryz.func61 rfl rfl, fun k a n l hn w b hb => (getsNamed k a n l hn w b hb).mono fun e w' ⟨v, he, ho, hB⟩ => ⟨v, he, ho, fun h => absurd h (List.cons_ne_nil _ _), hB⟩⟩
  · exact ⟨_, rfl, enters_of Tryz.func56 rfl rfl, fun k a n l hn w b hb => (getsPage k a n l hn w b hb).mono fun e w' ⟨v, he, ho, hB⟩ => ⟨v, he, ho, fun h => absurd h (List.cons_ne_nil _ _), hB⟩⟩
  · exact ⟨_, rfl, enters_of Tryz.func61 rfl rfl, fun k a n l hn w b hb => (getsNamed k a n l hn w b hb).mono fun e w' ⟨v, he, ho, hB⟩ => ⟨v, he, ho, fun h => absurd h (List.cons_ne_nil _ _), hB⟩⟩
  · exact ⟨_, rfl, enters_of Tryz.func59 rfl rfl, fun k a n l hn w b hb => (getsNothing k a n l hn w b hb).mono fun e w' ⟨v, he, ho, hB⟩ => ⟨v, he, ho.1, fun _ => ho.2, hB⟩⟩

end Go.Proofs.YtdfjpbdfafpfgaaGreatDoor.Ad
