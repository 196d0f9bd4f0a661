/- What the small tests of bytes of the lexer answer, and how many bytes at the beginning of a string pass one of them. -/
import Derived.WalkKit
import Derived.WalkSpells
import Derived.WalkLawsBesides
import Derived.Outline

import Derived.Test.YtbgnkoecfokmaaaDoorProg
import Derived.Test.YtbgnkoecfokmaaaDoorLexSpec
namespace Go.Proofs.YtbgnkoecfokmaaaDoor.Lex
open Go.RowKit

theorem hid {p : Prop} (h : p) : Hid p := h

theorem ret_bool {a b : Bool} (h : a = b) : Ending.returned (.bool a) = .returned (.bool b) := by rw [h]
theorem ret_i64 {a b : Int} (h : a = b) : Ending.returned (.int .i64 a) = .returned (.int .i64 b) := by rw [h]

theorem lower_any (c : UInt8) (w : World) : Calls Tryd.prog 26 #[.int .u8 c.toNat] w fun e w' => e = .returned (.bool (lowerB c)) ∧ w = w' := by
  have H : Hid (lowerB c = (decide (97 ≤ c.toNat) && decide (c.toNat ≤ 122))) := hid rfl
  by_cases h1 : 97 ≤ c.toNat
  · by_cases h2 : c.toNat ≤ 122
    · go_enter Tryd.func26, Tryd.ntmps26
      go_wp2
      go_ret
      exact ⟨ret_bool (by rw [H.out]; simp [h1, h2]; omega), rfl⟩
    · go_enter Tryd.func26, Tryd.ntmps26
      go_wp2
      go_ret
      exact ⟨ret_bool (by rw [H.out]; simp [h1, h2]; omega), rfl⟩
  · go_enter Tryd.func26, Tryd.ntmps26
    go_wp2
    go_ret
    exact ⟨ret_bool (by rw [H.out]; simp [h1]), rfl⟩

theorem digit_any (c : UInt8) (w : World) : Calls Tryd.prog 28 #[.int .u8 c.toNat] w fun e w' => e = .returned (.bool (digitB c)) ∧ w = w' := by
  have H : Hid (digitB c = (decide (48 ≤ c.toNat) && decide (c.toNat ≤ 57))) := hid rfl
  by_cases h1 : 48 ≤ c.toNat
  · by_cases h2 : c.toNat ≤ 57
    · go_enter Tryd.func28, Tryd.ntmps28
      go_wp2
      go_ret
      exact ⟨ret_bool (by rw [H.out]; simp [h1, h2]; omega), rfl⟩
    · go_enter Tryd.func28, Tryd.ntmps28
      go_wp2
      go_ret
      exact ⟨ret_bool (by rw [H.out]; simp [h1, h2]; omega), rfl⟩
  · go_enter Tryd.func28, Tryd.ntmps28
    go_wp2
    go_ret
    exact ⟨ret_bool (by rw [H.out]; simp [h1]), rfl⟩

theorem plain_any (c : UInt8) (w : World) : Calls Tryd.prog 24 #[.int .u8 c.toNat] w fun e w' => e = .returned (.bool (plainB c)) ∧ w = w' := by
  have H : Hid (plainB c = (decide (32 ≤ c.toNat) && decide (c.toNat ≤ 126))) := hid rfl
  by_cases h1 : 32 ≤ c.toNat
  · by_cases h2 : c.toNat ≤ 126
    · go_enter Tryd.func24, Tryd.ntmps24
      go_wp2
      go_ret
      exact ⟨ret_bool (by rw [H.out]; simp [h1, h2]; omega), rfl⟩
    · go_enter Tryd.func24, Tryd.ntmps24
      go_wp2
      go_ret
      exact ⟨ret_bool (by rw [H.out]; simp [h1, h2]; omega), rfl⟩
  · go_enter Tryd.func24, Tryd.ntmps24
    go_wp2
    go_ret
    exact ⟨ret_bool (by rw [H.out]; simp [h1]), rfl⟩

/-- The rest of a name: letters, digits and the hyphen. -/
theorem name_any (c : UInt8) (w : World) : Calls Tryd.prog 27 #[.int .u8 c.toNat] w fun e w' => e = .returned (.bool (nameB c)) ∧ w = w' := by
  have H : Hid (nameB c = (lowerB c || digitB c || c == 45)) := hid rfl
  have H45 : Hid ((c == 45) = decide (c.toNat = 45)) := hid (by rw [Bool.eq_iff_iff]; simp [← UInt8.toNat_inj])
  have l1 := lower_any c w
  have l2 := digit_any c w
  cases e1 : lowerB c with
  | true =>
    have E1 := hid e1
    rw [e1] at l1
    clear e1
    have L1 := hid l1
    clear l1 l2
    go_enter Tryd.func27, Tryd.ntmps27
    go_wp2_with (go_at_call 26; refine L1.out.mono ?_; rintro e w' ⟨rfl, rfl⟩)
    go_ret
    exact ⟨ret_bool (by rw [H.out, E1.out]; rfl), rfl⟩
  | false =>
    have E1 := hid e1
    rw [e1] at l1
    clear e1
    have L1 := hid l1
    clear l1
    cases e2 : digitB c with
    | true =>
      have E2 := hid e2
      rw [e2] at l2
      clear e2
      have L2 := hid l2
      clear l2
      go_enter Tryd.func27, Tryd.ntmps27
      go_wp2_with (first | (go_at_call 26; refine L1.out.mono ?_; rintro e w' ⟨rfl, rfl⟩) | (go_at_call 28; refine L2.out.mono ?_; rintro e w' ⟨rfl, rfl⟩))
      go_ret
      exact ⟨ret_bool (by rw [H.out, E1.out, E2.out]; rfl), rfl⟩
    | false =>
      have E2 := hid e2
      rw [e2] at l2
      clear e2
      have L2 := hid l2
      clear l2
      go_enter Tryd.func27, Tryd.ntmps27
      go_wp2_with (first | (go_at_call 26; refine L1.out.mono ?_; rintro e w' ⟨rfl, rfl⟩) | (go_at_call 28; refine L2.out.mono ?_; rintro e w' ⟨rfl, rfl⟩))
      go_ret
      exact ⟨ret_bool (by rw [H.out, E1.out, E2.out, H45.out]; rw [Bool.eq_iff_iff]; simp; omega), rfl⟩

/-- What may stand in a string. -/
theorem str_any (c : UInt8) (w : World) : Calls Tryd.prog 29 #[.int .u8 c.toNat] w fun e w' => e = .returned (.bool (strB c)) ∧ w = w' := by
  have H : Hid (strB c = (plainB c && c != 34)) := hid rfl
  have H34 : Hid ((c != 34) = !decide (c.toNat = 34)) := hid (by rw [bne, Bool.not_inj_iff, Bool.eq_iff_iff]; simp [← UInt8.toNat_inj])
  have l1 := plain_any c w
  cases e1 : plainB c with
  | true =>
    have E1 := hid e1
    rw [e1] at l1
    clear e1
    have L1 := hid l1
    clear l1
    go_enter Tryd.func29, Tryd.ntmps29
    go_wp2_with (go_at_call 24; refine L1.out.mono ?_; rintro e w' ⟨rfl, rfl⟩)
    go_ret
    exact ⟨ret_bool (by rw [H.out, E1.out, H34.out]; rw [Bool.eq_iff_iff]; simp; omega), rfl⟩
  | false =>
    have E1 := hid e1
    rw [e1] at l1
    clear e1
    have L1 := hid l1
    clear l1
    go_enter Tryd.func29, Tryd.ntmps29
    go_wp2_with (go_at_call 24; refine L1.out.mono ?_; rintro e w' ⟨rfl, rfl⟩)
    go_ret
    exact ⟨ret_bool (by rw [H.out, E1.out]; rfl), rfl⟩

/-- What may stand in literal text. -/
theorem ok_any (c : UInt8) (w : World) : Calls Tryd.prog 23 #[.int .u8 c.toNat] w fun e w' => e = .returned (.bool (okB c)) ∧ w = w' := by
  have H : Hid (okB c = (c == 10 || plainB c)) := hid rfl
  have H10 : Hid ((c == 10) = decide (c.toNat = 10)) := hid (by rw [Bool.eq_iff_iff]; simp [← UInt8.toNat_inj])
  have L1 := hid (plain_any c w)
  by_cases h : c.toNat = 10
  · have E := hid h
    have b : ((c.toNat : Int) == 10) = true := by simp; omega
    clear h
    go_enter Tryd.func23, Tryd.ntmps23
    go_wp2_with (go_at_call 24; refine L1.out.mono ?_; rintro e w' ⟨rfl, rfl⟩)
    go_ret
    exact ⟨ret_bool (by rw [H.out, H10.out, E.out]; rfl), rfl⟩
  · have E := hid h
    have b : ((c.toNat : Int) == 10) = false := by simp; omega
    clear h
    go_enter Tryd.func23, Tryd.ntmps23
    go_wp2_with (go_at_call 24; refine L1.out.mono ?_; rintro e w' ⟨rfl, rfl⟩)
    go_ret
    exact ⟨ret_bool (by rw [H.out, H10.out]; simp [E.out]), rfl⟩

end Go.Proofs.YtbgnkoecfokmaaaDoor.Lex
