/- How many bytes at the beginning of a string pass a test, by whatever function value the test comes. -/
import Derived.LoopTactic
import Derived.Shelf.Abstract
import Derived.Test.YtbgnkoecfokmaaaDoorLexWalkA
namespace Go.Proofs.YtbgnkoecfokmaaaDoor.Lex
open Go.RowKit Go.Shelf

/-- A function value that tests a byte. -/
def TestAt (g : Nat) (p : UInt8 → Bool) : Prop := ∀ (c : UInt8) (w : World), Calls Tryd.prog g #[.int .u8 c.toNat] w fun e w' => e = .returned (.bool (p c)) ∧ w = w'

theorem spanL_at (p : UInt8 → Bool) (s : ByteArray) (k : Nat) (hk : k ≤ s.size) (h1 : ∀ i (h : i < s.size), i < k → p s[i] = true) (h2 : ∀ h : k < s.size, p s[k] = false) : spanL p s.data.toList = k :=
  spanL_eq p s.data.toList k (by simpa using hk) (fun i hi hik => by have := h1 i (by simpa using hi) hik; rwa [show s.data.toList[i] = s[i]'(by simpa using hi) from rfl]) (fun hl => by have := h2 (by simpa using hl); rwa [show s.data.toList[k] = s[k]'(by simpa using hl) from rfl])

set_option maxHeartbeats 400000 in
theorem span_any (g : Nat) (p : UInt8 → Bool) (hp : TestAt g p) (eg : ∀ args w, (callFunc g args).run Tryd.prog w = .ok (.enter g args) w) (s : ByteArray) (w : World) (hs : s.size ≤ 9223372036854775807) :
    Calls Tryd.prog 22 #[.string s, .func (.func g) #[] #[]] w fun e w' => e = .returned (.int .i64 (spanL p s.data.toList : Nat)) ∧ w = w' := by
  have HP := hid hp
  clear hp
  go_enter Tryd.func22, Tryd.ntmps22
  go_wp2
  go_loop [8] (fun i => ∃ k : Nat, k ≤ s.size ∧ i = .int .i64 k ∧ Hid (∀ j (h : j < s.size), j < k → p s[j] = true)) (fun i => s.size - (intOf i).toNat)
  case atStart => exact ⟨0, Nat.zero_le _, rfl, fun j _ h => by omega⟩
  case round =>
    obtain ⟨k, hk, rfl, hall⟩ := hrel
    by_cases hlt : k < s.size
    · have C := hid (HP.out s[k] w)
      cases e1 : p s[k] with
      | true =>
        have E1 := hid e1
        rw [e1] at C
        clear e1
        go_wp2_with (go_at_fn g; refine C.out.mono ?_; rintro e w' ⟨rfl, rfl⟩)
        go_round
        case rel => exact ⟨k + 1, by omega, by go_num, fun j h hj => by
          rcases Nat.lt_or_ge j k with h' | h'
          · exact hall.out j h h'
          · obtain rfl : j = k := by omega
            exact E1.out⟩
        case measure => simp [intOf]; omega
      | false =>
        have E1 := hid e1
        rw [e1] at C
        clear e1
        go_wp2_with (go_at_fn g; refine C.out.mono ?_; rintro e w' ⟨rfl, rfl⟩)
        go_ret
        exact ⟨ret_i64 (by rw [spanL_at p s k hk hall.out (fun _ => E1.out)]), rfl⟩
    · go_wp2
      go_ret
      exact ⟨ret_i64 (by rw [spanL_at p s k hk hall.out (fun h => absurd h hlt)]; omega), rfl⟩

end Go.Proofs.YtbgnkoecfokmaaaDoor.Lex
