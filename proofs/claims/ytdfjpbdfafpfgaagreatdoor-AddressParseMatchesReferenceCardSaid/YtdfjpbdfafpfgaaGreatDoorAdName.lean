/- address.isName: it says of a string whether it is a name. -/
import Derived.Test.YtdfjpbdfafpfgaaGreatDoorProg
import Derived.WalkKit
import Derived.KernelRfl
import Derived.Laws.RangeString
import Derived.Laws.RangeAny
import Derived.Deep.LoopGhost
import Derived.Lib.Walk
import Derived.Lib.IndexBytes
import Derived.Laws.Strings
namespace Go.Proofs.YtdfjpbdfafpfgaaGreatDoor.Ad
open Go.RowKit Go.Lib

/-- A byte of a name. -/
def okB (c : UInt8) : Bool := (decide (97 ≤ c.toNat) && decide (c.toNat ≤ 122)) || (decide (48 ≤ c.toNat) && decide (c.toNat ≤ 57)) || decide (c.toNat = 45)
/-- A name. -/
def nameB (s : ByteArray) : Bool := s.data.toList.all okB && decide (1 ≤ s.size) && decide (s.size ≤ 20)

theorem all_get {s : ByteArray} {i : Nat} (h : ∀ (j : Nat) b, j < i → s.data.toList[j]? = some b → okB b = true) (hi : s.size ≤ i) : s.data.toList.all okB = true := by
  rw [List.all_eq_true]
  intro b hb
  obtain ⟨j, hj, e⟩ := List.getElem_of_mem hb
  refine h j b ?_ (by rw [List.getElem?_eq_getElem hj, e])
  have : j < s.size := hj
  omega

theorem nameB_bad (s : ByteArray) (i : Nat) (hi : i < s.size) (h : okB (s[i]'hi) = false) : nameB s = false := by
  have hget : s.data.toList[i]? = some (s[i]'hi) := Lib.data_getElem? s i hi
  have : s.data.toList.all okB = false := by
    cases e : s.data.toList.all okB with
    | false => rfl
    | true =>
      rw [List.all_eq_true] at e
      have := e _ (List.mem_of_getElem? hget)
      rw [h] at this
      cases this
  unfold nameB
  rw [this]; rfl

theorem okB_range {c : UInt8} (h : (48 ≤ c.toNat ∧ c.toNat ≤ 57) ∨ (97 ≤ c.toNat ∧ c.toNat ≤ 122) ∨ c.toNat = 45) : okB c = true := by
  unfold okB
  rcases h with ⟨h1, h2⟩ | ⟨h1, h2⟩ | h1
  · simp [h1, h2]
  · simp [h1, h2]
  · simp [h1]
theorem okB_not {c : UInt8} (h : c.toNat < 45 ∨ (45 < c.toNat ∧ c.toNat < 48) ∨ (57 < c.toNat ∧ c.toNat < 97) ∨ 122 < c.toNat) : okB c = false := by
  unfold okB
  simp only [Bool.or_eq_false_iff, Bool.and_eq_false_iff, decide_eq_false_iff_not]
  omega

set_option maxHeartbeats 4000000 in
set_option maxRecDepth 1000000 in
theorem isName (s : ByteArray) (w : World) :
    Calls Tryz.prog 22 #[.string s] w fun e w' => e = .returned (.bool (nameB s)) ∧ Below w.heap.size w w' := by
  have mixed : Tryz.prog.follows .mixedOrders = true := by kernel_rfl
  have hb0 : ∀ k, Below w.heap.size w (w.iter s k) := fun k => (Below.refl _ w).alloc (Nat.le_refl _) _
  go_enter Tryz.func22, Tryz.ntmps22
  go_wp2
  go_loopg [4] s.size (fun g _ wx => ∃ i : Nat, i + g = s.size ∧ wx = w.iter s i ∧ Aside (∀ (j : Nat) b, j < i → s.data.toList[j]? = some b → okB b = true))
  case atStart => exact ⟨0, by omega, rfl, fun j b hj => absurd hj (Nat.not_lt_zero _)⟩
  case round =>
    obtain ⟨i, hig, rfl, HA⟩ := hrel
    cases gk with
    | zero =>
      have hi : ¬ i < s.size := by omega
      have hnx := fun ty => run_next_end (P := Tryz.prog) w s i ty hi
      have hall := all_get HA.out (by omega)
      have hsz : s.data.toList.length = s.size := by simp
      cases hL : s.data.toList with
      | nil =>
        have he : s.toList = [] := by rw [ByteArray.toList_eq, hL]
        have hn : nameB s = false := by
          rw [hL] at hsz
          unfold nameB
          rw [← hsz]; simp
        clear hall hL
        go_wp2
        · go_ret
          exact ⟨by first | rfl | rw [hn]; rfl, hb0 _⟩
      | cons a l =>
        have he : ¬ s.toList = [] := by rw [ByteArray.toList_eq, hL]; exact List.cons_ne_nil _ _
        have hn : nameB s = decide ((s.size : Int) ≤ 20) := by
          unfold nameB
          rw [hall]
          have : 1 ≤ s.size := by rw [← hsz, hL]; simp
          rw [decide_eq_true this]
          exact decide_eq_decide.2 (by omega)
        clear hall hL
        go_wp2
        · go_ret
          refine ⟨?_, hb0 _⟩
          have he' : s.toList.isEmpty = false := by rw [← Bool.not_eq_true, List.isEmpty_iff]; exact he
          rw [hn, he']
          show Ending.returned (Value.bool (!false && decide ((s.size : Int) ≤ 20))) = _
          rw [Bool.not_false, Bool.true_and]
    | succ g =>
      have hi : i < s.size := by omega
      have hnx := fun ty => run_next_any (P := Tryz.prog) w s i ty hi
      have hget : s.data.toList[i]? = some (s[i]'hi) := Lib.data_getElem? s i hi
      have hbad := nameB_bad s i hi
      by_cases ha : (s[i]'hi).toNat < 128
      · rw [decode_ascii s i hi ha] at hnx
        generalize hc : s[i]'hi = c at *
        have HC : Aside (s.data.toList[i]? = some c) := hget
        clear hget hc
        rcases (by omega : (c.toNat < 45 ∨ (45 < c.toNat ∧ c.toNat < 48) ∨ (57 < c.toNat ∧ c.toNat < 97) ∨ 122 < c.toNat) ∨ ((48 ≤ c.toNat ∧ c.toNat ≤ 57) ∨ (97 ≤ c.toNat ∧ c.toNat ≤ 122) ∨ c.toNat = 45)) with h | h
        · have hb := hbad (okB_not h)
          clear hbad
          rcases h with h | h | h | h
          all_goals
            have hne : ((c.toNat : Int) != 45) = true := by rw [bne_iff_ne]; omega
            go_wp2
            go_ret
            exact ⟨by first | rfl | rw [hb]; rfl, hb0 _⟩
        · have hok := okB_range h
          clear hbad
          rcases h with h | h | h
          all_goals
            go_wp2
            go_roundg g
            case measure => omega
            case rel =>
              refine ⟨i + 1, by omega, rfl, fun j b hj hb => ?_⟩
              by_cases e : j = i
              · subst e
                rw [HC.out] at hb
                injection hb with hb
                rw [← hb]; exact hok
              · exact HA.out j b (by omega) hb
      · obtain ⟨h1, h2⟩ := decode_high s i hi (by omega)
        have hb := hbad (okB_not (by omega))
        clear hbad hget ha
        generalize Utf8.decode s i = d at *
        obtain ⟨r, wd⟩ := d
        simp only at h1 h2 hnx
        have hne : ((r : Int) != 45) = true := by rw [bne_iff_ne]; omega
        have hl1 : ¬ (r : Int) < 97 := by omega
        have hl2 : (122 : Int) < r := by omega
        have hl3 : ¬ (r : Int) < 48 := by omega
        have hl4 : (57 : Int) < r := by omega
        go_wp2
        go_ret
        exact ⟨by first | rfl | rw [hb]; rfl, hb0 _⟩

end Go.Proofs.YtdfjpbdfafpfgaaGreatDoor.Ad
