/- How long the literal text at the beginning of a source is, and how far its bytes are permitted. -/
import Derived.Lib.Strings
import Derived.Lib.IndexBytes
import Derived.Lib.Split
import Derived.Test.YtbgnkoecfokmaaaDoorLexWalkB
namespace Go.Proofs.YtbgnkoecfokmaaaDoor.Lex
open Go.RowKit Go.Shelf

set_option maxHeartbeats 400000 in
theorem litePrefix_any (s p : ByteArray) (w : World) : Calls Tryd.prog 30 #[.string s, .string p] w fun e w' => e = .returned (.bool (Lib.hasPrefix s.data.toList p.data.toList)) ∧ w = w' := by
  rw [← Lib.hasPrefix_of_take, ← Lib.size_eq, ← Lib.size_eq]
  go_enter Tryd.func30, Tryd.ntmps30
  go_wp2
  · rename_i h
    go_ret
    refine ⟨?_, rfl⟩
    show Ending.returned (Value.bool ((s.extract 0 p.size).toList == p.toList)) = _
    rw [Lib.extract_toList, Lib.toList_data]
    simp [h]
  · rename_i h
    go_ret
    refine ⟨?_, rfl⟩
    show Ending.returned (Value.bool false) = _
    simp [h]

theorem prefix_any (s p : ByteArray) (w : World) : Calls Tryd.prog 21 #[.string s, .string p] w fun e w' => e = .returned (.bool (Lib.hasPrefix s.data.toList p.data.toList)) ∧ w = w' := by
  go_enter Tryd.func21, Tryd.ntmps21
  go_wp2_with (go_at_call 30; refine (litePrefix_any _ _ _).mono ?_; rintro e w' ⟨rfl, rfl⟩)
  go_ret
  exact ⟨rfl, rfl⟩

theorem textL_ne (c : UInt8) (r : Bs) (h : c ≠ 123) : textL (c :: r) = textL r + 1 := by
  cases r with
  | nil => simp [textL, h]
  | cons d r => simp [textL, h]
theorem textL_two (r : Bs) : textL (123 :: 123 :: r) = textL r + 2 := by simp [textL]
theorem textL_one (r : Bs) (h : Lib.hasPrefix (123 :: r) [123, 123] = false) : textL (123 :: r) = 0 := by
  cases r with
  | nil => simp [textL]
  | cons d r =>
    have : d ≠ 123 := by
      rintro rfl
      simp [Lib.hasPrefix] at h
    simp [textL, this]

theorem drop_cons (s : ByteArray) (k : Nat) (h : k < s.size) : s.data.toList.drop k = s[k] :: s.data.toList.drop (k + 1) := by
  rw [List.drop_eq_getElem_cons (by simpa using h)]
  rfl

theorem drop_size (s : ByteArray) (k : Nat) (h : s.size ≤ k) : s.data.toList.drop k = [] := List.drop_eq_nil_of_le (by simpa using h)

theorem ret_two {a b c d : Int} (h1 : a = b) (h2 : c = d) : Ending.returned (.tuple #[.int .i64 a, .int .i64 c]) = .returned (.tuple #[.int .i64 b, .int .i64 d]) := by rw [h1, h2]
theorem span_upto (s : ByteArray) (k : Nat) (w : World) (hk : k ≤ s.size) (hs : s.size ≤ 140737488351232) : Calls Tryd.prog 22 #[.string (s.extract 0 k), .func (.func 23) #[] #[]] w fun e w' => e = .returned (.int .i64 (spanL okB (s.data.toList.take k) : Nat)) ∧ w = w' := by
  have h := span_any _ _ ok_any (enters_of Tryd.func23 (by kernel_rfl) rfl) (s.extract 0 k) w (by simp; omega)
  rw [Lib.extract_from_zero] at h
  exact h

set_option maxHeartbeats 1000000 in
theorem text_any (s : ByteArray) (w : World) (hs : s.size ≤ 140737488351232) :
    Calls Tryd.prog 18 #[.string s] w fun e w' => e = .returned (.tuple #[.int .i64 (textL s.data.toList : Nat), .int .i64 (spanL okB (s.data.toList.take (textL s.data.toList)) : Nat)]) ∧ w = w' := by
  have hle := textL_le s.data.toList
  have hsz : s.data.toList.length = s.size := by simp
  rw [hsz] at hle
  clear hsz
  go_enter Tryd.func18, Tryd.ntmps18
  go_wp2
  go_loop [4] (fun i => ∃ k : Nat, k ≤ s.size ∧ i = .int .i64 k ∧ Hid (textL s.data.toList = k + textL (s.data.toList.drop k))) (fun i => s.size - (intOf i).toNat)
  case atStart => exact ⟨0, Nat.zero_le _, rfl, by show _ = _; simp⟩
  case round =>
    obtain ⟨k, hk, rfl, hall⟩ := hrel
    by_cases hlt : k < s.size
    · have hd := hid (drop_cons s k hlt)
      by_cases hc : s[k].toNat = 123
      · have hb : ((s[k].toNat : Int) == 123) = true := by simp; omega
        have HC := hid (show s[k] = 123 from UInt8.toNat_inj.1 hc)
        clear hc
        have P := prefix_any (s.extract k s.size) ⟨#[123, 123]⟩ w
        rw [Lib.extract_to_end] at P
        cases hp : Lib.hasPrefix (s.data.toList.drop k) [123, 123] with
        | true =>
          have HP := hid hp
          rw [show (⟨#[123, 123]⟩ : ByteArray).data.toList = [123, 123] from rfl, hp] at P
          clear hp
          have P' := hid P
          clear P
          have hk2 : k + 2 ≤ s.size := by
            have h := HP.out
            rw [hd.out] at h
            rcases Nat.lt_or_ge (k + 1) s.size with h' | h'
            · omega
            · rw [drop_size s (k + 1) h'] at h
              simp [Lib.hasPrefix] at h
          go_wp2_with (go_at_call 21; refine P'.out.mono ?_; rintro e w' ⟨rfl, rfl⟩)
          go_round
          case rel => exact ⟨k + 2, hk2, by go_num, by
            have h := HP.out
            show _ = _
            rw [hall.out]
            rw [hd.out, HC.out] at h ⊢
            rw [drop_cons s (k + 1) (by omega)] at h ⊢
            have : s[k + 1] = 123 := by
              by_cases e : s[k + 1] = 123
              · exact e
              · exfalso; revert h; simp [Lib.hasPrefix]; exact fun h' => e h'.symm
            rw [this, textL_two, show k + 1 + 1 = k + 2 from rfl]
            omega⟩
          case measure => simp [intOf]; omega
        | false =>
          have HP := hid hp
          rw [show (⟨#[123, 123]⟩ : ByteArray).data.toList = [123, 123] from rfl, hp] at P
          clear hp
          have P' := hid P
          clear P
          have HT := hid (show textL s.data.toList = k by
            rw [hall.out]
            have h := HP.out
            rw [hd.out, HC.out] at h ⊢
            rw [textL_one _ h]; rfl)
          have S := hid (span_upto s k w hk hs)
          go_wp2_with (first | (go_at_call 21; refine P'.out.mono ?_; rintro e w' ⟨rfl, rfl⟩) | (go_at_call 22; refine S.out.mono ?_; rintro e w' ⟨rfl, rfl⟩))
          go_ret2
          exact ⟨ret_two (by rw [HT.out]) (by rw [HT.out]), rfl⟩
      · have hb : ((s[k].toNat : Int) == 123) = false := by simp; omega
        have HC := hid (show s[k] ≠ 123 from fun e => hc (by rw [e]; rfl))
        clear hc
        go_wp2
        go_round
        case rel => exact ⟨k + 1, by omega, by go_num, by
          show _ = _
          rw [hall.out, hd.out, textL_ne _ _ HC.out]
          omega⟩
        case measure => simp [intOf]; omega
    · have HT := hid (show textL s.data.toList = k by
        rw [hall.out, drop_size s k (by omega)]; rfl)
      have S := hid (span_upto s k w hk hs)
      go_wp2_with (go_at_call 22; refine S.out.mono ?_; rintro e w' ⟨rfl, rfl⟩)
      go_ret2
      exact ⟨ret_two (by rw [HT.out]) (by rw [HT.out]), rfl⟩

end Go.Proofs.YtbgnkoecfokmaaaDoor.Lex
