-- Written by wip/pr.py, a program of this session, that runs the kit's printer with contracts of our own put in. Lean checks it.
import Derived.Test.YtbgnkoecfokmaaaDoorPXx0
import Derived.Test.YtbgnkoecfokmaaaDoorPXx1
import Derived.Test.YtbgnkoecfokmaaaDoorPXx2
import Derived.Test.YtbgnkoecfokmaaaDoorLexJoin
namespace Go.Proofs.YtbgnkoecfokmaaaDoor.PX
open Go.RowKit Go.Proofs.YtbgnkoecfokmaaaDoorW.PrintWords Go.Proofs.YtbgnkoecfokmaaaDoorW.PrintLast Go.Proofs.YtbgnkoecfokmaaaDoorW.PrintMore
attribute [local go_sem] max2_int min2_int max_two min_two max_three min_three max_four min_four   -- for this text's walks alone
set_option linter.unusedVariables false
set_option linter.unusedSimpArgs false

attribute [local go_sem high] eqA29
/-! ### copydesklaw09_same: function 12 -/
def copydesklaw09_same.l0 : Nat → List (S29) → List (S29) → Int → Option (Bool)
  | 0, _, _, _ => none
  | k + 1, x0, x1, x5 => if x5 < (x0.length : Int) then (if 0 ≤ x5 then (if x5 < (x1.length : Int) then (if (!(((rd_T29 x0 x5).f0) == ((rd_T29 x1 x5).f0)) || (!((((rd_T29 x0 x5).f1).toList) == (((rd_T29 x1 x5).f1).toList)) || (!(((rd_T29 x0 x5).f2) == ((rd_T29 x1 x5).f2))))) = true then (some false) else (copydesklaw09_same.l0 k x0 x1 (wrap64 (x5 + 1)))) else (none)) else (none)) else (some true)
def copydesklaw09_same.f (k : Nat) (l0 : List (S29)) (l1 : List (S29)) : Option (Bool) := if (l0.length : Int) = (l1.length : Int) then (copydesklaw09_same.l0 k l0 l1 0) else (some false)
theorem copydesklaw09_same.mono_l : ∀ k, (∀ y0 y1 y2, LeO (copydesklaw09_same.l0 k y0 y1 y2) (copydesklaw09_same.l0 (k + 1) y0 y1 y2))
  | 0 => fun _ _ _ r h => by simp [copydesklaw09_same.l0] at h
  | k + 1 => by
    have ih0 := copydesklaw09_same.mono_l k
    · intro y0 y1 y2
      unfold copydesklaw09_same.l0
      repeat' first
      | (with_reducible exact ih0 _ _ _)
      | (with_reducible exact LeO.refl _)
      | (with_reducible exact LeO.none _)
      | (with_reducible refine LeO.ite ?_ ?_)
      | (with_reducible refine LeO.bind ?_ (fun _ => ?_))
      | exact ih0 _ _ _
      | exact LeO.none _
      | refine LeO.ite ?_ ?_
      | refine LeO.bind ?_ (fun _ => ?_)
theorem copydesklaw09_same.mono : ∀ a0 a1 k, LeO (copydesklaw09_same.f k a0 a1) (copydesklaw09_same.f (k + 1) a0 a1) := by
  intro a0 a1 k
  have ih0 := copydesklaw09_same.mono_l k
  unfold copydesklaw09_same.f
  repeat' first
      | (with_reducible exact ih0 _ _ _)
      | (with_reducible exact LeO.refl _)
      | (with_reducible exact LeO.none _)
      | (with_reducible refine LeO.ite ?_ ?_)
      | (with_reducible refine LeO.bind ?_ (fun _ => ?_))
      | exact ih0 _ _ _
      | exact LeO.none _
      | refine LeO.ite ?_ ?_
      | refine LeO.bind ?_ (fun _ => ?_)
set_option maxHeartbeats 8000000 in
set_option maxRecDepth 100000 in
theorem copydesklaw09_same.calls (k : Nat) (A0 : Option Addr) (c0 : Nat) (l0 : List (S29)) (A1 : Option Addr) (c1 : Nat) (l1 : List (S29)) (r : Bool) (w : World) (hr0 : Kd.C k29 w A0 l0.length l0) (hc0 : l0.length ≤ c0) (hr1 : Kd.C k29 w A1 l1.length l1) (hc1 : l1.length ≤ c1) (h : copydesklaw09_same.f k l0 l1 = some r) :
    Calls Tryd.prog 12 #[.slice A0 l0.length c0, .slice A1 l1.length c1] w fun e w' => e = .returned (.bool r) ∧ Drawn0 w w' := by
  have hu29 := Tryd.underlying29
  have HR0 := Aside0.mk hr0
  have HC0 := Aside0.mk hc0
  clear hr0 hc0
  have HR1 := Aside0.mk hr1
  have HC1 := Aside0.mk hc1
  clear hr1 hc1
  have H : (if (l0.length : Int) = (l1.length : Int) then (copydesklaw09_same.l0 k l0 l1 0) else (some false)) = some r := h
  clear h
  by_cases c3 : (l0.length : Int) = (l1.length : Int)
  · rw [if_pos c3] at H
    have c3b0 : ((l0.length : Int) == (l1.length : Int)) = true := beq_iff_eq.mpr c3
    have c3b1 : ((l0.length : Int) != (l1.length : Int)) = false := bne_eq_false_iff_eq.mpr c3
    have c3b2 : (l0.length == l1.length) = true := by first | simpa using c3 | (simp at c3 ⊢; omega)
    clear c3
    have H' := Aside0.mk H
    clear H
    go_enter Tryd.func12, Tryd.ntmps12
    go_wp2
    repeat (go_quiet (fail); try go_wp2)
    go_loopg [5] k (fun kq v5 w' => ∃ (x5_1 : Int), v5 = .int .i64 x5_1 ∧ Aside0 (copydesklaw09_same.l0 kq l0 l1 x5_1 = some r) ∧ Aside0 (kq ≤ k) ∧ Drawn0 w w')
    case atStart => exact ⟨(0), (by first | rfl | (simp; done) | (simp [*]; done)), H', ⟨Nat.le_refl _⟩, by repeat (first | exact Drawn0.refl _ | apply Drawn0.step)⟩
    case round =>
      clear H'
      try clear c1
      try clear p2
      try clear c3
      try clear c3b0
      try clear c3b1
      try clear c3b2
      obtain ⟨x5_1, rfl, HA, HK1, ⟨m1, rfl⟩⟩ := hrel
      cases gk with
      | zero => exact absurd HA.out (by simp [copydesklaw09_same.l0])
      | succ k1 =>
        have H := HA.out
        clear HA
        simp only [copydesklaw09_same.l0] at H
        by_cases c4 : x5_1 < (l0.length : Int)
        · rw [if_pos c4] at H
          have c4b0 : decide (x5_1 < (l0.length : Int)) = true := decide_eq_true c4
          clear c4
          by_cases c5 : 0 ≤ x5_1
          · rw [if_pos c5] at H
            have c5b0 : decide (0 ≤ x5_1) = true := decide_eq_true c5
            clear c5
            by_cases c6 : x5_1 < (l1.length : Int)
            · rw [if_pos c6] at H
              have c6b0 : decide (x5_1 < (l1.length : Int)) = true := decide_eq_true c6
              clear c6
              by_cases c7 : (!(((rd_T29 l0 x5_1).f0) == ((rd_T29 l1 x5_1).f0)) || (!((((rd_T29 l0 x5_1).f1).toList) == (((rd_T29 l1 x5_1).f1).toList)) || (!(((rd_T29 l0 x5_1).f2) == ((rd_T29 l1 x5_1).f2))))) = true
              · rw [if_pos c7] at H
                have c7b0 : (!(((rd_T29 l0 x5_1).f0) == ((rd_T29 l1 x5_1).f0)) || (!((((rd_T29 l0 x5_1).f1).toList) == (((rd_T29 l1 x5_1).f1).toList)) || (!(((rd_T29 l0 x5_1).f2) == ((rd_T29 l1 x5_1).f2))))) = true := c7
                clear c7
                obtain rfl := Option.some.inj H
                have p142 : 0 ≤ (x5_1 : Int) := of_decide_eq_true (by first | (with_reducible assumption) | assumption)
                have q142 : x5_1 < (l0.length : Int) := of_decide_eq_true (by first | (with_reducible assumption) | assumption)
                obtain ⟨ad142, e142, hx142_0, hx142_1, hx142_2⟩ := at_T29 HR0.out x5_1 p142 q142
                cases e142
                replace p142 := eq_true p142
                replace q142 := eq_true q142
                have p143 : 0 ≤ (x5_1 : Int) := of_decide_eq_true (by first | (with_reducible assumption) | assumption)
                have q143 : x5_1 < (l1.length : Int) := of_decide_eq_true (by first | (with_reducible assumption) | assumption)
                obtain ⟨ad143, e143, hx143_0, hx143_1, hx143_2⟩ := at_T29 HR1.out x5_1 p143 q143
                cases e143
                replace p143 := eq_true p143
                replace q143 := eq_true q143
                go_wp2
                repeat (go_quiet (fail); try go_wp2)
                go_ret
                exact ⟨by first | rfl | (simp; done) | (simp [*]; done), by repeat (first | exact Drawn0.refl _ | apply Drawn0.step)⟩
              · rw [if_neg c7] at H
                have c7b0 : (!(((rd_T29 l0 x5_1).f0) == ((rd_T29 l1 x5_1).f0)) || (!((((rd_T29 l0 x5_1).f1).toList) == (((rd_T29 l1 x5_1).f1).toList)) || (!(((rd_T29 l0 x5_1).f2) == ((rd_T29 l1 x5_1).f2))))) = false := by simpa using c7
                clear c7
                have H' := Aside0.mk H
                clear H
                have p142 : 0 ≤ (x5_1 : Int) := of_decide_eq_true (by first | (with_reducible assumption) | assumption)
                have q142 : x5_1 < (l0.length : Int) := of_decide_eq_true (by first | (with_reducible assumption) | assumption)
                obtain ⟨ad142, e142, hx142_0, hx142_1, hx142_2⟩ := at_T29 HR0.out x5_1 p142 q142
                cases e142
                replace p142 := eq_true p142
                replace q142 := eq_true q142
                have p143 : 0 ≤ (x5_1 : Int) := of_decide_eq_true (by first | (with_reducible assumption) | assumption)
                have q143 : x5_1 < (l1.length : Int) := of_decide_eq_true (by first | (with_reducible assumption) | assumption)
                obtain ⟨ad143, e143, hx143_0, hx143_1, hx143_2⟩ := at_T29 HR1.out x5_1 p143 q143
                cases e143
                replace p143 := eq_true p143
                replace q143 := eq_true q143
                go_wp2
                repeat (go_quiet (fail); try go_wp2)
                go_roundg k1
                case measure => have := HK1.out; omega
                case rel => exact ⟨(wrap64 (x5_1 + 1)), (by first | rfl | (simp; done) | (simp [*]; done)), H', ⟨by have := HK1.out; omega⟩, by repeat (first | exact Drawn0.refl _ | apply Drawn0.step)⟩
            · rw [if_neg c6] at H
              exact absurd H (by simp)
          · rw [if_neg c5] at H
            exact absurd H (by simp)
        · rw [if_neg c4] at H
          have c4b0 : decide (x5_1 < (l0.length : Int)) = false := decide_eq_false c4
          clear c4
          obtain rfl := Option.some.inj H
          go_wp2
          repeat (go_quiet (fail); try go_wp2)
          go_ret
          exact ⟨by first | rfl | (simp; done) | (simp [*]; done), by repeat (first | exact Drawn0.refl _ | apply Drawn0.step)⟩
  · rw [if_neg c3] at H
    have c3b0 : ((l0.length : Int) == (l1.length : Int)) = false := beq_eq_false_iff_ne.mpr c3
    have c3b1 : ((l0.length : Int) != (l1.length : Int)) = true := bne_iff_ne.mpr c3
    have c3b2 : (l0.length == l1.length) = false := by first | simpa using c3 | (simp at c3 ⊢; omega)
    obtain rfl := Option.some.inj H
    go_enter Tryd.func12, Tryd.ntmps12
    go_wp2
    repeat (go_quiet (fail); try go_wp2)
    go_ret
    exact ⟨by first | rfl | (simp; done) | (simp [*]; done), by repeat (first | exact Drawn0.refl _ | apply Drawn0.step)⟩

/-! ### copydesklaw09_LexerJoins: function 4 -/
mutual
def copydesklaw09_LexerJoins.j0 : Nat → Bool → ByteArray → ByteArray → List (S29) → List (S29) → Bool → Option (Bool)
  | 0, _, _, _, _, _, _ => none
  | k + 1, x5, x6, x7, x8, x11, x49 => if x49 = true then (some x5) else (if ([] : List (S29)).length + x8.length < 4398046511104 then (copydesklaw09_LexerJoins.l0 k x5 x6 x7 x11 (([] : List (S29)) ++ x8) 0) else (none))
def copydesklaw09_LexerJoins.l0 : Nat → Bool → ByteArray → ByteArray → List (S29) → List (S29) → Int → Option (Bool)
  | 0, _, _, _, _, _, _ => none
  | k + 1, x5, x6, x7, x11, x14, x15 => if x15 < (x11.length : Int) then (if 0 ≤ x15 then (if x15 = 0 then (if (x14.length : Int) > 0 then (if ((rd_T29 x11 x15).f0) = 1 then (if 0 ≤ (wrap64 ((x14.length : Int) - 1)) then (if (wrap64 ((x14.length : Int) - 1)) < (x14.length : Int) then (if ((rd_T29 x14 (wrap64 ((x14.length : Int) - 1))).f0) = 1 then (if ((rd_T29 x14 (wrap64 ((x14.length : Int) - 1))).f1).size + ((rd_T29 x11 x15).f1).size ≤ 9223372036854775807 then (copydesklaw09_LexerJoins.l0 k x5 x6 x7 x11 (x14.set ((wrap64 ((x14.length : Int) - 1)) : Int).toNat (⟨(rd_T29 x14 (wrap64 ((x14.length : Int) - 1))).f0, ((rd_T29 x14 (wrap64 ((x14.length : Int) - 1))).f1) ++ ((rd_T29 x11 x15).f1), (rd_T29 x14 (wrap64 ((x14.length : Int) - 1))).f2⟩ : S29)) (wrap64 (x15 + 1))) else (none)) else (if x14.length < 4398046511104 then (copydesklaw09_LexerJoins.l0 k x5 x6 x7 x11 (x14 ++ [(⟨(rd_T29 x11 x15).f0, (rd_T29 x11 x15).f1, wrap64 (((rd_T29 x11 x15).f2) + (x6.size : Int))⟩ : S29)]) (wrap64 (x15 + 1))) else (none))) else (none)) else (none)) else (if x14.length < 4398046511104 then (copydesklaw09_LexerJoins.l0 k x5 x6 x7 x11 (x14 ++ [(⟨(rd_T29 x11 x15).f0, (rd_T29 x11 x15).f1, wrap64 (((rd_T29 x11 x15).f2) + (x6.size : Int))⟩ : S29)]) (wrap64 (x15 + 1))) else (none))) else (if x14.length < 4398046511104 then (copydesklaw09_LexerJoins.l0 k x5 x6 x7 x11 (x14 ++ [(⟨(rd_T29 x11 x15).f0, (rd_T29 x11 x15).f1, wrap64 (((rd_T29 x11 x15).f2) + (x6.size : Int))⟩ : S29)]) (wrap64 (x15 + 1))) else (none))) else (if x14.length < 4398046511104 then (copydesklaw09_LexerJoins.l0 k x5 x6 x7 x11 (x14 ++ [(⟨(rd_T29 x11 x15).f0, (rd_T29 x11 x15).f1, wrap64 (((rd_T29 x11 x15).f2) + (x6.size : Int))⟩ : S29)]) (wrap64 (x15 + 1))) else (none))) else (none)) else (if x6.size + x7.size ≤ 9223372036854775807 then ((lexer_Tokens.f (x6 ++ x7)).bind fun bt175 => (if x5 = true then (if bt175.2.2 = 0 then (if bt175.2.1 = 0 then ((copydesklaw09_same.f k bt175.1 x14).bind fun t180 => (some t180)) else (some false)) else (some false)) else (some false))) else (none))
end
def copydesklaw09_LexerJoins.f (k : Nat) (a0 : ByteArray) (a1 : ByteArray) : Option (Bool) := (copydesklaw09_sane.f).bind fun t144 => (if 0 ≤ (mn (a0.size : Int) 400) then (if (mn (a0.size : Int) 400) ≤ (a0.size : Int) then (if 0 ≤ (mn (a1.size : Int) 400) then (if (mn (a1.size : Int) 400) ≤ (a1.size : Int) then ((lexer_Tokens.f (a0.extract 0 ((mn (a0.size : Int) 400) : Int).toNat)).bind fun bt145 => ((lexer_Tokens.f (a1.extract 0 ((mn (a1.size : Int) 400) : Int).toNat)).bind fun bt150 => (if bt145.2.2 = 0 then (copydesklaw09_LexerJoins.j0 k t144 (a0.extract 0 ((mn (a0.size : Int) 400) : Int).toNat) (a1.extract 0 ((mn (a1.size : Int) 400) : Int).toNat) bt145.1 bt150.1 (bt150.2.2 != 0)) else (copydesklaw09_LexerJoins.j0 k t144 (a0.extract 0 ((mn (a0.size : Int) 400) : Int).toNat) (a1.extract 0 ((mn (a1.size : Int) 400) : Int).toNat) bt145.1 bt150.1 true)))) else (none)) else (none)) else (none)) else (none))
theorem copydesklaw09_LexerJoins.mono_l : ∀ k, (∀ y0 y1 y2 y3 y4 y5, LeO (copydesklaw09_LexerJoins.j0 k y0 y1 y2 y3 y4 y5) (copydesklaw09_LexerJoins.j0 (k + 1) y0 y1 y2 y3 y4 y5)) ∧ (∀ y0 y1 y2 y3 y4 y5, LeO (copydesklaw09_LexerJoins.l0 k y0 y1 y2 y3 y4 y5) (copydesklaw09_LexerJoins.l0 (k + 1) y0 y1 y2 y3 y4 y5))
  | 0 => ⟨fun _ _ _ _ _ _ r h => by simp [copydesklaw09_LexerJoins.j0] at h, fun _ _ _ _ _ _ r h => by simp [copydesklaw09_LexerJoins.l0] at h⟩
  | k + 1 => by
    obtain ⟨ih0, ih1⟩ := copydesklaw09_LexerJoins.mono_l k
    refine ⟨?_, ?_⟩
    · intro y0 y1 y2 y3 y4 y5
      unfold copydesklaw09_LexerJoins.j0
      repeat' first
      | (with_reducible exact ih0 _ _ _ _ _ _)
      | (with_reducible exact ih1 _ _ _ _ _ _)
      | (with_reducible exact copydesklaw09_same.mono _ _ _)
      | (with_reducible exact LeO.refl _)
      | (with_reducible exact LeO.none _)
      | (with_reducible refine LeO.ite ?_ ?_)
      | (with_reducible refine LeO.bind ?_ (fun _ => ?_))
      | exact ih0 _ _ _ _ _ _
      | exact ih1 _ _ _ _ _ _
      | exact copydesklaw09_same.mono _ _ _
      | exact LeO.none _
      | refine LeO.ite ?_ ?_
      | refine LeO.bind ?_ (fun _ => ?_)
    · intro y0 y1 y2 y3 y4 y5
      unfold copydesklaw09_LexerJoins.l0
      repeat' first
      | (with_reducible exact ih0 _ _ _ _ _ _)
      | (with_reducible exact ih1 _ _ _ _ _ _)
      | (with_reducible exact copydesklaw09_same.mono _ _ _)
      | (with_reducible exact LeO.refl _)
      | (with_reducible exact LeO.none _)
      | (with_reducible refine LeO.ite ?_ ?_)
      | (with_reducible refine LeO.bind ?_ (fun _ => ?_))
      | exact ih0 _ _ _ _ _ _
      | exact ih1 _ _ _ _ _ _
      | exact copydesklaw09_same.mono _ _ _
      | exact LeO.none _
      | refine LeO.ite ?_ ?_
      | refine LeO.bind ?_ (fun _ => ?_)
theorem copydesklaw09_LexerJoins.mono : ∀ a0 a1 k, LeO (copydesklaw09_LexerJoins.f k a0 a1) (copydesklaw09_LexerJoins.f (k + 1) a0 a1) := by
  intro a0 a1 k
  obtain ⟨ih0, ih1⟩ := copydesklaw09_LexerJoins.mono_l k
  unfold copydesklaw09_LexerJoins.f
  repeat' first
      | (with_reducible exact ih0 _ _ _ _ _ _)
      | (with_reducible exact ih1 _ _ _ _ _ _)
      | (with_reducible exact copydesklaw09_same.mono _ _ _)
      | (with_reducible exact LeO.refl _)
      | (with_reducible exact LeO.none _)
      | (with_reducible refine LeO.ite ?_ ?_)
      | (with_reducible refine LeO.bind ?_ (fun _ => ?_))
      | exact ih0 _ _ _ _ _ _
      | exact ih1 _ _ _ _ _ _
      | exact copydesklaw09_same.mono _ _ _
      | exact LeO.none _
      | refine LeO.ite ?_ ?_
      | refine LeO.bind ?_ (fun _ => ?_)
def copydesklaw09_LexerJoins.T17 : Bool × List (List Nat × List Nat) := (true, [([], []), ([], []), ([1], [1]), ([], []), ([], []), ([4], [4]), ([3, 5], [3, 5]), ([6], [6]), ([7], [7]), ([], []), ([9], [9]), ([8, 10], [8, 10]), ([0, 2, 0, 1, 2, 3, 4, 5, 6, 7, 8, 9, 10, 11], [0, 2]), ([12, 0, 1, 2, 3, 4, 5, 6, 7, 8, 9, 10, 11], [12]), ([13, 11, 0, 1, 2, 3, 4, 5, 6, 7, 8, 9, 10, 11], [11, 13])])
def copydesklaw09_LexerJoins.B17 : List Nat := [0, 0, 2, 0, 0, 16, 56, 120, 248, 0, 512, 2040, 4095, 8191, 16383]
theorem copydesklaw09_LexerJoins.tab17 : rtab .any (opsOf Tryd.f4 17) = copydesklaw09_LexerJoins.T17 := by kernel_rfl
theorem copydesklaw09_LexerJoins.bits17 : waitsOk copydesklaw09_LexerJoins.T17.2 copydesklaw09_LexerJoins.B17 = true := by kernel_rfl
set_option maxHeartbeats 8000000 in
set_option maxRecDepth 100000 in
theorem copydesklaw09_LexerJoins.calls (k : Nat) (a0 : ByteArray) (a1 : ByteArray) (r : Bool) (w : World) (hG : Go.Proofs.YtbgnkoecfokmaaaDoor.Lex.Gl w) (h : copydesklaw09_LexerJoins.f k a0 a1 = some r) :
    Calls Tryd.prog 4 #[.string a0, .string a1] w fun e w' => e = .returned (.bool r) ∧ Below w.heap.size w w' := by
  have hu29 := Tryd.underlying29
  have HG := Aside0.mk hG
  clear hG
  have HB := Aside0.mk (Below.refl w.heap.size w)
  have H : ((copydesklaw09_sane.f).bind fun t144 => (if 0 ≤ (mn (a0.size : Int) 400) then (if (mn (a0.size : Int) 400) ≤ (a0.size : Int) then (if 0 ≤ (mn (a1.size : Int) 400) then (if (mn (a1.size : Int) 400) ≤ (a1.size : Int) then ((lexer_Tokens.f (a0.extract 0 ((mn (a0.size : Int) 400) : Int).toNat)).bind fun bt145 => ((lexer_Tokens.f (a1.extract 0 ((mn (a1.size : Int) 400) : Int).toNat)).bind fun bt150 => (if bt145.2.2 = 0 then (copydesklaw09_LexerJoins.j0 k t144 (a0.extract 0 ((mn (a0.size : Int) 400) : Int).toNat) (a1.extract 0 ((mn (a1.size : Int) 400) : Int).toNat) bt145.1 bt150.1 (bt150.2.2 != 0)) else (copydesklaw09_LexerJoins.j0 k t144 (a0.extract 0 ((mn (a0.size : Int) 400) : Int).toNat) (a1.extract 0 ((mn (a1.size : Int) 400) : Int).toNat) bt145.1 bt150.1 true)))) else (none)) else (none)) else (none)) else (none))) = some r := h
  clear h
  replace H := Option.bind_eq_some_iff.mp H
  obtain ⟨t144, A30, H⟩ := H
  replace H : (if 0 ≤ (mn (a0.size : Int) 400) then (if (mn (a0.size : Int) 400) ≤ (a0.size : Int) then (if 0 ≤ (mn (a1.size : Int) 400) then (if (mn (a1.size : Int) 400) ≤ (a1.size : Int) then ((lexer_Tokens.f (a0.extract 0 ((mn (a0.size : Int) 400) : Int).toNat)).bind fun bt145 => ((lexer_Tokens.f (a1.extract 0 ((mn (a1.size : Int) 400) : Int).toNat)).bind fun bt150 => (if bt145.2.2 = 0 then (copydesklaw09_LexerJoins.j0 k t144 (a0.extract 0 ((mn (a0.size : Int) 400) : Int).toNat) (a1.extract 0 ((mn (a1.size : Int) 400) : Int).toNat) bt145.1 bt150.1 (bt150.2.2 != 0)) else (copydesklaw09_LexerJoins.j0 k t144 (a0.extract 0 ((mn (a0.size : Int) 400) : Int).toNat) (a1.extract 0 ((mn (a1.size : Int) 400) : Int).toNat) bt145.1 bt150.1 true)))) else (none)) else (none)) else (none)) else (none)) = some r := H
  have A3 := Aside0.mk A30
  clear A30
  obtain ⟨ji4, hji4⟩ : ∃ j_ : Int, (mn (a0.size : Int) 400) = j_ := ⟨_, rfl⟩
  replace H : (if 0 ≤ (ji4) then (if (ji4) ≤ (a0.size : Int) then (if 0 ≤ (mn (a1.size : Int) 400) then (if (mn (a1.size : Int) 400) ≤ (a1.size : Int) then ((lexer_Tokens.f (a0.extract 0 ((ji4) : Int).toNat)).bind fun bt145 => ((lexer_Tokens.f (a1.extract 0 ((mn (a1.size : Int) 400) : Int).toNat)).bind fun bt150 => (if bt145.2.2 = 0 then (copydesklaw09_LexerJoins.j0 k t144 (a0.extract 0 ((ji4) : Int).toNat) (a1.extract 0 ((mn (a1.size : Int) 400) : Int).toNat) bt145.1 bt150.1 (bt150.2.2 != 0)) else (copydesklaw09_LexerJoins.j0 k t144 (a0.extract 0 ((ji4) : Int).toNat) (a1.extract 0 ((mn (a1.size : Int) 400) : Int).toNat) bt145.1 bt150.1 true)))) else (none)) else (none)) else (none)) else (none)) = some r := by first | (rw [hji4] at H; exact H) | (simp only [hji4] at H ⊢; exact H)
  (try rw [hji4] at A3)
  (try (have hji4h : ji4 ≤ 400 := by (rw [← hji4]; unfold mn; (repeat' split) <;> omega)))
  (try (have hji4g : ji4 ≤ 64 := by omega))
  (try (have hji4l : 0 ≤ ji4 := by (rw [← hji4]; unfold mn; (repeat' split) <;> omega)))
  (try (have hji4m : 0 ≤ ji4 := by omega))
  have hji4_ : (if 400 < (a0.size : Int) then 400 else (a0.size : Int)) = ji4 := hji4
  by_cases c5 : 0 ≤ (ji4)
  · rw [if_pos c5] at H
    have c5b0 := eq_true c5
    have c5b1 : decide (0 ≤ (ji4)) = true := decide_eq_true c5
    clear c5
    by_cases c6 : (ji4) ≤ (a0.size : Int)
    · rw [if_pos c6] at H
      have c6b0 := eq_true c6
      have c6b1 : decide ((ji4) ≤ (a0.size : Int)) = true := decide_eq_true c6
      clear c6
      obtain ⟨ji7, hji7⟩ : ∃ j_ : Int, (mn (a1.size : Int) 400) = j_ := ⟨_, rfl⟩
      replace H : (if 0 ≤ (ji7) then (if (ji7) ≤ (a1.size : Int) then ((lexer_Tokens.f (a0.extract 0 ((ji4) : Int).toNat)).bind fun bt145 => ((lexer_Tokens.f (a1.extract 0 ((ji7) : Int).toNat)).bind fun bt150 => (if bt145.2.2 = 0 then (copydesklaw09_LexerJoins.j0 k t144 (a0.extract 0 ((ji4) : Int).toNat) (a1.extract 0 ((ji7) : Int).toNat) bt145.1 bt150.1 (bt150.2.2 != 0)) else (copydesklaw09_LexerJoins.j0 k t144 (a0.extract 0 ((ji4) : Int).toNat) (a1.extract 0 ((ji7) : Int).toNat) bt145.1 bt150.1 true)))) else (none)) else (none)) = some r := by first | (rw [hji7] at H; exact H) | (simp only [hji7] at H ⊢; exact H)
      (try rw [hji7] at A3)
      (try (have hji7h : ji7 ≤ 400 := by (rw [← hji7]; unfold mn; (repeat' split) <;> omega)))
      (try (have hji7g : ji7 ≤ 64 := by omega))
      (try (have hji7l : 0 ≤ ji7 := by (rw [← hji7]; unfold mn; (repeat' split) <;> omega)))
      (try (have hji7m : 0 ≤ ji7 := by omega))
      have hji7_ : (if 400 < (a1.size : Int) then 400 else (a1.size : Int)) = ji7 := hji7
      by_cases c8 : 0 ≤ (ji7)
      · rw [if_pos c8] at H
        have c8b0 := eq_true c8
        have c8b1 : decide (0 ≤ (ji7)) = true := decide_eq_true c8
        clear c8
        by_cases c9 : (ji7) ≤ (a1.size : Int)
        · rw [if_pos c9] at H
          have c9b0 := eq_true c9
          have c9b1 : decide ((ji7) ≤ (a1.size : Int)) = true := decide_eq_true c9
          clear c9
          replace H := Option.bind_eq_some_iff.mp H
          obtain ⟨⟨t145, t146, t147⟩, A100, H⟩ := H
          replace H : ((lexer_Tokens.f (a1.extract 0 ((ji7) : Int).toNat)).bind fun bt150 => (if t147 = 0 then (copydesklaw09_LexerJoins.j0 k t144 (a0.extract 0 ((ji4) : Int).toNat) (a1.extract 0 ((ji7) : Int).toNat) t145 bt150.1 (bt150.2.2 != 0)) else (copydesklaw09_LexerJoins.j0 k t144 (a0.extract 0 ((ji4) : Int).toNat) (a1.extract 0 ((ji7) : Int).toNat) t145 bt150.1 true))) = some r := H
          have A10 := Aside0.mk A100
          clear A100
          replace H := Option.bind_eq_some_iff.mp H
          obtain ⟨⟨t150, t151, t152⟩, A110, H⟩ := H
          replace H : (if t147 = 0 then (copydesklaw09_LexerJoins.j0 k t144 (a0.extract 0 ((ji4) : Int).toNat) (a1.extract 0 ((ji7) : Int).toNat) t145 t150 (t152 != 0)) else (copydesklaw09_LexerJoins.j0 k t144 (a0.extract 0 ((ji4) : Int).toNat) (a1.extract 0 ((ji7) : Int).toNat) t145 t150 true)) = some r := H
          have A11 := Aside0.mk A110
          clear A110
          have HC12 := Aside0.mk H
          clear H
          go_enter Tryd.func4, Tryd.ntmps4
          go_upto_region 6 with (first | ((with_reducible refine gate_callee (f := 7) rfl ?_); refine goesL_ (some 21) rfl rfl Tryd.func7 (by kernel_rfl) rfl #[] rfl (by (try simp only [List.map_toArray, List.map_cons, List.map_nil]); first | done | rfl | (simp only [List.length_drop, List.length_take]; rfl)) ?_; (with_reducible refine (copydesklaw09_sane.calls  t144 _ ?side99 A3.out).mono ?_); (case side99 => first | exact HG.out | exact Go.Proofs.YtbgnkoecfokmaaaDoor.Lex.Gl.below HG.out (by repeat (first | (with_reducible first | exact HB.out | apply below_alloc | apply pw_below_drewN | apply below_drew1) | exact HB.out))); rintro e w13 ⟨rfl, hb⟩; refine ⟨_, rfl, ?_⟩; have n0_ := Aside0.mk (below_step (by repeat (first | (with_reducible first | exact HB.out | apply below_alloc | apply pw_below_drewN | apply below_drew1) | exact HB.out)) hb); clear HB; have HB := n0_; clear n0_; (try clear hb); (try clear hb2); (try clear hk); (try clear hi)) | ((with_reducible refine gate_callee (f := 11) rfl ?_); refine goesL_ (some 34) rfl rfl Tryd.func11 (by kernel_rfl) rfl #[.string (a0.extract 0 ((ji4) : Int).toNat)] rfl (by (try simp only [List.map_toArray, List.map_cons, List.map_nil]); first | done | (simp only [hji4]; rfl) | rfl | (simp only [List.length_drop, List.length_take]; rfl)) ?_; (with_reducible refine (lexer_Tokens.calls (a0.extract 0 ((ji4) : Int).toNat) t145 t146 t147 _ ?side99 A10.out).mono ?_); (case side99 => first | exact HG.out | exact Go.Proofs.YtbgnkoecfokmaaaDoor.Lex.Gl.below HG.out (by repeat (first | (with_reducible first | exact HB.out | apply below_alloc | apply pw_below_drewN | apply below_drew1) | exact HB.out))); rintro e w14 ⟨v148, rfl, ho0, hb⟩; refine ⟨_, rfl, ?_⟩; have n0_ := Aside0.mk (Kd.R_lower ho0 (below_size (by repeat (first | (with_reducible first | exact HB.out | apply below_alloc | apply pw_below_drewN | apply below_drew1) | exact HB.out)))); have n1_ := Aside0.mk (below_step (by repeat (first | (with_reducible first | exact HB.out | apply below_alloc | apply pw_below_drewN | apply below_drew1) | exact HB.out)) hb); clear HB; have HO149 := n0_; have HB := n1_; clear n0_ n1_; (try clear hb); (try clear hb2); (try clear hk); (try clear hi); (try clear ho0)) | ((with_reducible refine gate_callee (f := 11) rfl ?_); refine goesL_ (some 40) rfl rfl Tryd.func11 (by kernel_rfl) rfl #[.string (a1.extract 0 ((ji7) : Int).toNat)] rfl (by (try simp only [List.map_toArray, List.map_cons, List.map_nil]); first | done | (simp only [hji7]; rfl) | rfl | (simp only [List.length_drop, List.length_take]; rfl)) ?_; (with_reducible refine (lexer_Tokens.calls (a1.extract 0 ((ji7) : Int).toNat) t150 t151 t152 _ ?side99 A11.out).mono ?_); (case side99 => first | exact HG.out | exact Go.Proofs.YtbgnkoecfokmaaaDoor.Lex.Gl.below HG.out (by repeat (first | (with_reducible first | exact HB.out | apply below_alloc | apply pw_below_drewN | apply below_drew1) | exact HB.out))); rintro e w15 ⟨v153, rfl, ho0, hb⟩; refine ⟨_, rfl, ?_⟩; have n0_ := Aside0.mk (Kd.R_elder' (by (with_reducible repeat (first | apply Kd.R_alloc | apply Kd.R_drewN | apply Kd.R_drew)); exact HO149.out) (Kd.R_base ho0) hb); have n1_ := Aside0.mk (Kd.R_lower (Kd.R_new' ho0 (Kd.R_lt (by (with_reducible repeat (first | apply Kd.R_alloc | apply Kd.R_drewN | apply Kd.R_drew)); exact HO149.out))) (below_size (by repeat (first | (with_reducible first | exact HB.out | apply below_alloc | apply pw_below_drewN | apply below_drew1) | exact HB.out)))); have n2_ := Aside0.mk (below_step (by repeat (first | (with_reducible first | exact HB.out | apply below_alloc | apply pw_below_drewN | apply below_drew1) | exact HB.out)) hb); clear HO149; clear HB; have HO149 := n0_; have HO154 := n1_; have HB := n2_; clear n0_ n1_ n2_; (try clear hb); (try clear hb2); (try clear hk); (try clear hi); (try clear ho0)))
          (try simp only [Act.put, List.setIfInBounds_toArray, List.set_cons_zero, List.set_cons_succ])
          generalize hzS0 : (a0.extract 0 ((ji4) : Int).toNat) = zS0 at HC12 ⊢
          generalize hzS1 : (a1.extract 0 ((ji7) : Int).toNat) = zS1 at HC12 ⊢
          go_cut [49] (fun v49 wc => ∃ (kq : Nat) (x49_11 : Bool), v49 = .bool x49_11 ∧ Aside0 (copydesklaw09_LexerJoins.j0 kq t144 zS0 zS1 t145 t150 x49_11 = some r) ∧ Aside0 (kq ≤ k) ∧ Aside0 (Kd.R k29 29 wc w.heap.size (fun k_ => some k_ ≠ (v153 : Value).ownBlock) v148 t145) ∧ Aside0 (Kd.R k29 29 wc w.heap.size (fun k_ => some k_ ≠ (v148 : Value).ownBlock) v153 t150) ∧ Aside0 (Below w.heap.size w wc))
          case first =>
            have H := HC12.out
            clear HC12
            by_cases c16 : t147 = 0
            · rw [if_pos c16] at H
              have c16b0 : (t147 == 0) = true := beq_iff_eq.mpr c16
              have c16b1 : (t147 != 0) = false := bne_eq_false_iff_eq.mpr c16
              clear c16
              (first | rw [c16b0] | (simp only [i64_w, i32_w]; rw [c16b0]) | skip)
              have H' := Aside0.mk H
              clear H
              go_wp2
              go_meet
              case rel => exact ⟨_, ((t152 != 0)), (by first | rfl | (simp; done) | (simp [*]; done)), H', ⟨by first | omega | exact Nat.le_refl _⟩, ⟨by (with_reducible repeat (first | apply Kd.R_alloc | apply Kd.R_drewN | apply Kd.R_drew)); exact Kd.R_mono HO149.out (fun _ hk => hk.2)⟩, ⟨by (with_reducible repeat (first | apply Kd.R_alloc | apply Kd.R_drewN | apply Kd.R_drew)); exact Kd.R_mono HO154.out (fun _ hk => hk.2)⟩, ⟨by repeat (first | (with_reducible first | exact HB.out | apply below_alloc | apply pw_below_drewN | apply below_drew1) | exact HB.out)⟩⟩
            · rw [if_neg c16] at H
              have c16b0 : (t147 == 0) = false := beq_eq_false_iff_ne.mpr c16
              have c16b1 : (t147 != 0) = true := bne_iff_ne.mpr c16
              (first | rw [c16b0] | (simp only [i64_w, i32_w]; rw [c16b0]) | skip)
              have H' := Aside0.mk H
              clear H
              go_wp2
              go_meet
              case rel => exact ⟨_, (true), (by first | rfl | (simp; done) | (simp [*]; done)), H', ⟨by first | omega | exact Nat.le_refl _⟩, ⟨by (with_reducible repeat (first | apply Kd.R_alloc | apply Kd.R_drewN | apply Kd.R_drew)); exact Kd.R_mono HO149.out (fun _ hk => hk.2)⟩, ⟨by (with_reducible repeat (first | apply Kd.R_alloc | apply Kd.R_drewN | apply Kd.R_drew)); exact Kd.R_mono HO154.out (fun _ hk => hk.2)⟩, ⟨by repeat (first | (with_reducible first | exact HB.out | apply below_alloc | apply pw_below_drewN | apply below_drew1) | exact HB.out)⟩⟩
          case rest =>
            clear HC12
            try clear c1
            try clear p2
            try clear c4
            try clear c5
            try clear c5b0
            try clear c5b1
            try clear c6
            try clear c6b0
            try clear c6b1
            try clear c7
            try clear c8
            try clear c8b0
            try clear c8b1
            try clear c9
            try clear c9b0
            try clear c9b1
            try clear c11
            try clear c16
            try clear c16b0
            try clear c16b1
            obtain ⟨kq, x49_11, rfl, HA, HJ11, HO_8, HO_11, HB⟩ := hcut
            cases kq with
            | zero => exact absurd HA.out (by simp [copydesklaw09_LexerJoins.j0])
            | succ kj11 =>
              have H := HA.out
              clear HA
              simp only [copydesklaw09_LexerJoins.j0] at H
              by_cases c17 : x49_11 = true
              · subst c17
                have H1 : (some t144) = some r := by rw [if_pos rfl] at H; exact H
                clear H
                have H := H1
                clear H1
                obtain rfl := Option.some.inj H
                go_wp2
                go_ret
                exact ⟨by first | rfl | (simp [errW_none, errW_some] <;> rfl) | (simp only [← hji4, ← hji7]; first | rfl | (simp [errW_none, errW_some] <;> rfl)) | (simp [*, errW_none, errW_some] <;> rfl), by repeat (first | (with_reducible first | exact HB.out | apply below_alloc | apply pw_below_drewN | apply below_drew1) | exact HB.out)⟩
              · replace c17 := Bool.eq_false_iff.mpr c17
                subst c17
                have H1 : (if ([] : List (S29)).length + t145.length < 4398046511104 then (copydesklaw09_LexerJoins.l0 kj11 t144 zS0 zS1 t150 (([] : List (S29)) ++ t145) 0) else (none)) = some r := by rw [if_neg (show ¬ (false = true) by decide)] at H; exact H
                clear H
                have H := H1
                clear H1
                by_cases c18 : ([] : List (S29)).length + t145.length < 4398046511104
                · rw [if_pos c18] at H
                  have LMc18 := Aside0.mk c18
                  clear c18
                  obtain ⟨y155, hy155⟩ : ∃ y_ : List (S29), y_ = (([] : List (S29)) ++ t145) := ⟨_, rfl⟩
                  replace H : (copydesklaw09_LexerJoins.l0 kj11 t144 zS0 zS1 t150 y155 0) = some r := by first | (rw [hy155]; with_reducible exact H) | (have H2_ := (Option.bind_some _ _).symm.trans H; rw [hy155]; with_reducible exact H2_) | (have H2_ := (Option.bind_some _ _).symm.trans H; with_reducible exact H2_) | with_reducible exact H | (rw [hy155]; exact H) | exact H
                  have Ny155 := Aside0.mk hy155
                  clear hy155
                  have H' := Aside0.mk H
                  clear H
                  obtain ⟨Ao20, co20, eo20⟩ := Kd.R_slice HO_8.out
                  subst eo20
                  go_wp2_with (first | ((with_reducible refine gate_builtin (b := .append) (xs := #[.tmp 51, .tmp 52]) rfl ?_); at_builtin; refine Kd.R_append_rows k29 (w0 := w) w.heap.size rfl (.tmp 51) (.tmp 52) 27 29 (.agg #[(.int .i64 0), (.string ⟨#[]⟩), (.int .i64 0)]) 32 rfl Tryd.underlying27 info29 rfl (by decide) (by omega) (.slice none 0 0) ([] : List (S29)) t145 _ _ _ (fun k_ => some k_ ≠ (.slice Ao20 t145.length co20 : Value).ownBlock ∧ some k_ ≠ (v153 : Value).ownBlock) (fun _ => False) rfl rfl ?aO ?aR (fun _ _ h => h) (fun _ h => h.elim) ?aF ?aB ?aS ?aL ?_; (case aR => repeat (first | exact (Kd.R_reads' HO_8.out).2.2 | (with_reducible refine Kd.C_alloc ?_ _) | (with_reducible refine Kd.C_drewN ?_ _) | (with_reducible refine Kd.C_drew ?_))); (case aB => exact (by repeat (first | (with_reducible first | exact HB.out | apply below_alloc | apply pw_below_drewN | apply below_drew1) | exact HB.out))); (case aF => exact (fun k_ hk => ⟨Kd.fresh' (Kd.R_lt (by (with_reducible repeat (first | apply Kd.R_alloc | apply Kd.R_drewN | apply Kd.R_drew)); exact HO_8.out)) k_ hk, Kd.fresh' (Kd.R_lt (by (with_reducible repeat (first | apply Kd.R_alloc | apply Kd.R_drewN | apply Kd.R_drew)); exact HO_11.out)) k_ hk⟩)); (case aO => exact ((Kd.R_nil _ _ _ _ (fun k_ => some k_ ≠ (.slice Ao20 t145.length co20 : Value).ownBlock ∧ some k_ ≠ (v153 : Value).ownBlock)))); (case aS => exact (below_size (by repeat (first | (with_reducible first | exact HB.out | apply below_alloc | apply pw_below_drewN | apply below_drew1) | exact HB.out)))); (case aL => have := LMc18.out; omega); intro v156 w19 ho hb hg hat; rw [← Ny155.out] at ho; have n0_ := Aside0.mk (Kd.R_after (Kd.R_apart_nil (by (with_reducible repeat (first | apply Kd.R_alloc | apply Kd.R_drewN | apply Kd.R_drew)); exact HO_8.out)) hg hat); have n1_ := Aside0.mk (Kd.R_after (Kd.R_apart_nil (by (with_reducible repeat (first | apply Kd.R_alloc | apply Kd.R_drewN | apply Kd.R_drew)); exact HO_11.out)) hg hat); have n2_ := Aside0.mk (hb); have n3_ := Aside0.mk (ho); clear HO_8; clear HO_11; clear HB; have HO_8 := n0_; have HO_11 := n1_; have HB := n2_; have HO157 := n3_; clear n0_ n1_ n2_ n3_; clear ho hb hg hat))
                  go_loopg [14, 15] kj11 (fun kq v14 v15 w' => ∃ (x11_2 : List (S29)) (x14_2 : List (S29)) (x15_2 : Int), v15 = .int .i64 x15_2 ∧ Aside0 (copydesklaw09_LexerJoins.l0 kq t144 zS0 zS1 x11_2 x14_2 x15_2 = some r) ∧ Aside0 (kq ≤ kj11) ∧ Aside0 (Kd.R k29 29 w' w.heap.size (fun k_ => some k_ ≠ (v14 : Value).ownBlock) v153 x11_2) ∧ Aside0 (Kd.R k29 29 w' w.heap.size (fun k_ => some k_ ≠ (v153 : Value).ownBlock) v14 x14_2) ∧ Aside0 (Below w.heap.size w w'))
                  case atStart => exact ⟨(t150), (y155), (0), (by first | rfl | (simp; done) | (simp [*]; done)), H', ⟨Nat.le_refl _⟩, ⟨by (with_reducible repeat (first | apply Kd.R_alloc | apply Kd.R_drewN | apply Kd.R_drew)); exact Kd.R_mono HO_11.out (fun _ hk => hk.2)⟩, ⟨by (with_reducible repeat (first | apply Kd.R_alloc | apply Kd.R_drewN | apply Kd.R_drew)); exact Kd.R_mono HO157.out (fun _ hk => hk.2)⟩, ⟨by repeat (first | (with_reducible first | exact HB.out | apply below_alloc | apply pw_below_drewN | apply below_drew1) | exact HB.out)⟩⟩
                  case round =>
                    clear H'
                    try clear c1
                    try clear p2
                    try clear c4
                    try clear c5
                    try clear c5b0
                    try clear c5b1
                    try clear c6
                    try clear c6b0
                    try clear c6b1
                    try clear c7
                    try clear c8
                    try clear c8b0
                    try clear c8b1
                    try clear c9
                    try clear c9b0
                    try clear c9b1
                    try clear c11
                    try clear c16
                    try clear c16b0
                    try clear c16b1
                    try clear c17
                    try clear c18
                    try clear p2
                    obtain ⟨x11_2, x14_2, x15_2, rfl, HA, HK2, HO_11, HO_14, HB⟩ := hrel
                    cases gk with
                    | zero => exact absurd HA.out (by simp [copydesklaw09_LexerJoins.l0])
                    | succ k2 =>
                      have H := HA.out
                      clear HA
                      simp only [copydesklaw09_LexerJoins.l0] at H
                      by_cases c21 : x15_2 < (x11_2.length : Int)
                      · rw [if_pos c21] at H
                        have c21b0 : decide (x15_2 < (x11_2.length : Int)) = true := decide_eq_true c21
                        clear c21
                        by_cases c22 : 0 ≤ x15_2
                        · rw [if_pos c22] at H
                          have c22b0 : decide (0 ≤ x15_2) = true := decide_eq_true c22
                          clear c22
                          by_cases c23 : x15_2 = 0
                          · rw [if_pos c23] at H
                            have c23b0 : (x15_2 == 0) = true := beq_iff_eq.mpr c23
                            have c23b1 : (x15_2 != 0) = false := bne_eq_false_iff_eq.mpr c23
                            clear c23
                            by_cases c24 : (x14_2.length : Int) > 0
                            · rw [if_pos c24] at H
                              have c24b0 : decide (0 < (x14_2.length : Int)) = true := decide_eq_true c24
                              have c24b1 : decide (0 < x14_2.length) = true := decide_eq_true (by omega)
                              clear c24
                              by_cases c25 : ((rd_T29 x11_2 x15_2).f0) = 1
                              · rw [if_pos c25] at H
                                have c25b0 : (((rd_T29 x11_2 x15_2).f0) == 1) = true := beq_iff_eq.mpr c25
                                have c25b1 : (((rd_T29 x11_2 x15_2).f0) != 1) = false := bne_eq_false_iff_eq.mpr c25
                                clear c25
                                obtain ⟨ji26, hji26⟩ : ∃ j_ : Int, (wrap64 ((x14_2.length : Int) - 1)) = j_ := ⟨_, rfl⟩
                                replace H : (if 0 ≤ (ji26) then (if (ji26) < (x14_2.length : Int) then (if ((rd_T29 x14_2 (ji26)).f0) = 1 then (if ((rd_T29 x14_2 (ji26)).f1).size + ((rd_T29 x11_2 x15_2).f1).size ≤ 9223372036854775807 then (copydesklaw09_LexerJoins.l0 k2 t144 zS0 zS1 x11_2 (x14_2.set ((ji26) : Int).toNat (⟨(rd_T29 x14_2 (ji26)).f0, ((rd_T29 x14_2 (ji26)).f1) ++ ((rd_T29 x11_2 x15_2).f1), (rd_T29 x14_2 (ji26)).f2⟩ : S29)) (wrap64 (x15_2 + 1))) else (none)) else (if x14_2.length < 4398046511104 then (copydesklaw09_LexerJoins.l0 k2 t144 zS0 zS1 x11_2 (x14_2 ++ [(⟨(rd_T29 x11_2 x15_2).f0, (rd_T29 x11_2 x15_2).f1, wrap64 (((rd_T29 x11_2 x15_2).f2) + (zS0.size : Int))⟩ : S29)]) (wrap64 (x15_2 + 1))) else (none))) else (none)) else (none)) = some r := by first | (rw [hji26] at H; exact H) | (simp only [hji26] at H ⊢; exact H)
                                have hji26w : (IntKind.i64.wrap ((x14_2.length : Int) - 1)) = ji26 := (i64_w _).trans hji26
                                by_cases c27 : 0 ≤ (ji26)
                                · rw [if_pos c27] at H
                                  have c27b0 : decide (0 ≤ (ji26)) = true := decide_eq_true c27
                                  clear c27
                                  by_cases c28 : (ji26) < (x14_2.length : Int)
                                  · rw [if_pos c28] at H
                                    have c28b0 : decide ((ji26) < (x14_2.length : Int)) = true := decide_eq_true c28
                                    clear c28
                                    by_cases c29 : ((rd_T29 x14_2 (ji26)).f0) = 1
                                    · rw [if_pos c29] at H
                                      have c29b0 : (((rd_T29 x14_2 (ji26)).f0) == 1) = true := beq_iff_eq.mpr c29
                                      have c29b1 : (((rd_T29 x14_2 (ji26)).f0) != 1) = false := bne_eq_false_iff_eq.mpr c29
                                      clear c29
                                      by_cases c30 : ((rd_T29 x14_2 (ji26)).f1).size + ((rd_T29 x11_2 x15_2).f1).size ≤ 9223372036854775807
                                      · rw [if_pos c30] at H
                                        have c30b0 := eq_true c30
                                        have c30b1 : decide (((rd_T29 x14_2 (ji26)).f1).size + ((rd_T29 x11_2 x15_2).f1).size ≤ 9223372036854775807) = true := decide_eq_true c30
                                        try have c30b2 : (9223372036854775807 < ((rd_T29 x14_2 (ji26)).f1).size + ((rd_T29 x11_2 x15_2).f1).size) = False := eq_false (Nat.not_lt.2 c30)
                                        obtain ⟨y162, hy162⟩ : ∃ y_ : List (S29), y_ = (x14_2.set ((ji26) : Int).toNat (⟨(rd_T29 x14_2 (ji26)).f0, ((rd_T29 x14_2 (ji26)).f1) ++ ((rd_T29 x11_2 x15_2).f1), (rd_T29 x14_2 (ji26)).f2⟩ : S29)) := ⟨_, rfl⟩
                                        replace H : (copydesklaw09_LexerJoins.l0 k2 t144 zS0 zS1 x11_2 y162 (wrap64 (x15_2 + 1))) = some r := by first | (rw [hy162]; with_reducible exact H) | (have H2_ := (Option.bind_some _ _).symm.trans H; rw [hy162]; with_reducible exact H2_) | (have H2_ := (Option.bind_some _ _).symm.trans H; with_reducible exact H2_) | with_reducible exact H | (rw [hy162]; exact H) | exact H
                                        have Ny162 := Aside0.mk hy162
                                        clear hy162
                                        have H' := Aside0.mk H
                                        clear H
                                        obtain ⟨Ao32, co32, eo32⟩ := Kd.R_slice HO_11.out
                                        subst eo32
                                        have p158 : 0 ≤ (x15_2 : Int) := of_decide_eq_true (by first | (with_reducible assumption) | assumption)
                                        have q158 : x15_2 < (x11_2.length : Int) := of_decide_eq_true (by first | (with_reducible assumption) | assumption)
                                        obtain ⟨ad158, e158, hx158_0, hx158_1, hx158_2⟩ := at_T29 (Kd.R_reads' HO_11.out).2.2 x15_2 p158 q158
                                        cases e158
                                        replace p158 := eq_true p158
                                        replace q158 := eq_true q158
                                        try go_wp2_with (first | ((with_reducible refine gate_dst (N := 16) rfl ?_); refine box_event ?hg (N := 16) ?hd (cs := #[.int .i64 0, .string (⟨#[]⟩ : ByteArray), .int .i64 0]) (t := 29) ?hr ?_; (case hd => rfl); (case hg => rfl); (case hr => first | (go_simp; done) | (go_simp; rfl)); intro gb159 hg w33 hbox hb; have n0_ := Aside0.mk (Kd.R_below (Kd.R_elderB (by (with_reducible repeat (first | apply Kd.R_alloc | apply Kd.R_drewN | apply Kd.R_drew)); exact HO_11.out) gb159 (Nat.le_of_eq hg.symm)) hb); have n1_ := Aside0.mk (Kd.R_below (Kd.R_elderB (by (with_reducible repeat (first | apply Kd.R_alloc | apply Kd.R_drewN | apply Kd.R_drew)); exact HO_14.out) gb159 (Nat.le_of_eq hg.symm)) hb); have n2_ := Aside0.mk (below_step (by repeat (first | (with_reducible first | exact HB.out | apply below_alloc | apply pw_below_drewN | apply below_drew1) | exact HB.out)) hb); have n3_ := Aside0.mk (hbox); have n4_ := Aside0.mk ((by rw [hg]; exact (below_size (by repeat (first | (with_reducible first | exact HB.out | apply below_alloc | apply pw_below_drewN | apply below_drew1) | exact HB.out))) : w.heap.size ≤ gb159)); have n5_ := Aside0.mk ((by rw [hg]; exact (below_size (by repeat (first | (with_reducible first | exact HB.out | apply below_alloc | apply pw_below_drewN | apply below_drew1) | exact HB.out))) : w.heap.size ≤ gb159)); clear HO_11; clear HO_14; clear HB; have HO_11 := n0_; have HO_14 := n1_; have HB := n2_; have BK159 := n3_; have GW159 := n4_; have GE159 := n5_; clear n0_ n1_ n2_ n3_ n4_ n5_; clear hb hbox hg; have hcz34_0 : w33.cell? ⟨gb159, 0, none⟩ = some (.int .i64 0) := (blk_cell BK159.out 0).trans rfl; have hcz34_1 : w33.cell? ⟨gb159, 1, none⟩ = some (.string (⟨#[]⟩ : ByteArray)) := (blk_cell BK159.out 1).trans rfl; have hcz34_2 : w33.cell? ⟨gb159, 2, none⟩ = some (.int .i64 0) := (blk_cell BK159.out 2).trans rfl; have hcz34y : (((w33.setCell ⟨gb159, 0, none⟩ (.int .i64 ((rd_T29 x11_2 x15_2).f0))).setCell ⟨gb159, 1, none⟩ (.string ((rd_T29 x11_2 x15_2).f1))).setCell ⟨gb159, 2, none⟩ (.int .i64 ((rd_T29 x11_2 x15_2).f2))).cell? ⟨gb159, 2, none⟩ = some (.int .i64 ((rd_T29 x11_2 x15_2).f2)) := (blk_cell (blk_put (blk_put (blk_put BK159.out 0 (.int .i64 ((rd_T29 x11_2 x15_2).f0)) rfl) 1 (.string ((rd_T29 x11_2 x15_2).f1)) rfl) 2 (.int .i64 ((rd_T29 x11_2 x15_2).f2)) rfl) 2).trans rfl; have hfz34_0 := blk_frozen BK159.out 0; have hfz34_1 := blk_frozen BK159.out 1; have hfz34_2 := blk_frozen BK159.out 2; obtain ⟨Ao35, co35, eo35⟩ := Kd.R_slice HO_14.out; subst eo35; have p160 : 0 ≤ ((ji26) : Int) := of_decide_eq_true (by first | (with_reducible assumption) | assumption); have q160 : (ji26) < (x14_2.length : Int) := of_decide_eq_true (by first | (with_reducible assumption) | assumption); obtain ⟨ad160, e160, hx160_0, hx160_1, hx160_2⟩ := at_T29 (Kd.R_reads' HO_14.out).2.2 (ji26) p160 q160; cases e160; have hn160_0 : ad160.block ≠ gb159 := (by first | exact Kd.own_blk (Kd.R_ne HO_14.out BK159.out (by decide)) | exact Kd.own_blk (Kd.R_away HO_14.out (fun _ hk => hk.2)) | exact Kd.own_blk (Kd.R_away HO_14.out (fun _ hk => hk.1.2))); have hn160_1 : ad160.block ≠ gb159 := (by first | exact Kd.own_blk (Kd.R_ne HO_14.out BK159.out (by decide)) | exact Kd.own_blk (Kd.R_away HO_14.out (fun _ hk => hk.2)) | exact Kd.own_blk (Kd.R_away HO_14.out (fun _ hk => hk.1.2))); have hn160_2 : ad160.block ≠ gb159 := (by first | exact Kd.own_blk (Kd.R_ne HO_14.out BK159.out (by decide)) | exact Kd.own_blk (Kd.R_away HO_14.out (fun _ hk => hk.2)) | exact Kd.own_blk (Kd.R_away HO_14.out (fun _ hk => hk.1.2))); have hn160_3 : ad160.block ≠ gb159 := (by first | exact Kd.own_blk (Kd.R_ne HO_14.out BK159.out (by decide)) | exact Kd.own_blk (Kd.R_away HO_14.out (fun _ hk => hk.2)) | exact Kd.own_blk (Kd.R_away HO_14.out (fun _ hk => hk.1.2))); replace hx160_0 := (cell_far (p := ⟨gb159, 0, none⟩) (by first | (rw [add_block]; exact hn160_0) | (show (Addr.add _ _).block ≠ _; rw [add_block]; exact hn160_0) | exact hn160_0) (.int .i64 ((rd_T29 x11_2 x15_2).f0))).trans hx160_0; replace hx160_1 := (cell_far (p := ⟨gb159, 0, none⟩) (by first | (rw [add_block]; exact hn160_0) | (show (Addr.add _ _).block ≠ _; rw [add_block]; exact hn160_0) | exact hn160_0) (.int .i64 ((rd_T29 x11_2 x15_2).f0))).trans hx160_1; replace hx160_2 := (cell_far (p := ⟨gb159, 0, none⟩) (by first | (rw [add_block]; exact hn160_0) | (show (Addr.add _ _).block ≠ _; rw [add_block]; exact hn160_0) | exact hn160_0) (.int .i64 ((rd_T29 x11_2 x15_2).f0))).trans hx160_2; replace hx160_0 := (cell_far (p := ⟨gb159, 1, none⟩) (by first | (rw [add_block]; exact hn160_1) | (show (Addr.add _ _).block ≠ _; rw [add_block]; exact hn160_1) | exact hn160_1) (.string ((rd_T29 x11_2 x15_2).f1))).trans hx160_0; replace hx160_1 := (cell_far (p := ⟨gb159, 1, none⟩) (by first | (rw [add_block]; exact hn160_1) | (show (Addr.add _ _).block ≠ _; rw [add_block]; exact hn160_1) | exact hn160_1) (.string ((rd_T29 x11_2 x15_2).f1))).trans hx160_1; replace hx160_2 := (cell_far (p := ⟨gb159, 1, none⟩) (by first | (rw [add_block]; exact hn160_1) | (show (Addr.add _ _).block ≠ _; rw [add_block]; exact hn160_1) | exact hn160_1) (.string ((rd_T29 x11_2 x15_2).f1))).trans hx160_2; replace hx160_0 := (cell_far (p := ⟨gb159, 2, none⟩) (by first | (rw [add_block]; exact hn160_2) | (show (Addr.add _ _).block ≠ _; rw [add_block]; exact hn160_2) | exact hn160_2) (.int .i64 ((rd_T29 x11_2 x15_2).f2))).trans hx160_0; replace hx160_1 := (cell_far (p := ⟨gb159, 2, none⟩) (by first | (rw [add_block]; exact hn160_2) | (show (Addr.add _ _).block ≠ _; rw [add_block]; exact hn160_2) | exact hn160_2) (.int .i64 ((rd_T29 x11_2 x15_2).f2))).trans hx160_1; replace hx160_2 := (cell_far (p := ⟨gb159, 2, none⟩) (by first | (rw [add_block]; exact hn160_2) | (show (Addr.add _ _).block ≠ _; rw [add_block]; exact hn160_2) | exact hn160_2) (.int .i64 ((rd_T29 x11_2 x15_2).f2))).trans hx160_2; replace hx160_0 := (cell_far (p := ⟨gb159, 2, none⟩) (by first | (rw [add_block]; exact hn160_3) | (show (Addr.add _ _).block ≠ _; rw [add_block]; exact hn160_3) | exact hn160_3) (.int .i64 (wrap64 (((rd_T29 x11_2 x15_2).f2) + (zS0.size : Int))))).trans hx160_0; replace hx160_1 := (cell_far (p := ⟨gb159, 2, none⟩) (by first | (rw [add_block]; exact hn160_3) | (show (Addr.add _ _).block ≠ _; rw [add_block]; exact hn160_3) | exact hn160_3) (.int .i64 (wrap64 (((rd_T29 x11_2 x15_2).f2) + (zS0.size : Int))))).trans hx160_1; replace hx160_2 := (cell_far (p := ⟨gb159, 2, none⟩) (by first | (rw [add_block]; exact hn160_3) | (show (Addr.add _ _).block ≠ _; rw [add_block]; exact hn160_3) | exact hn160_3) (.int .i64 (wrap64 (((rd_T29 x11_2 x15_2).f2) + (zS0.size : Int))))).trans hx160_2; clear hn160_0; clear hn160_1; clear hn160_2; clear hn160_3; replace p160 := eq_true p160; replace q160 := eq_true q160))
                                        have n0_ : Aside0 (Kd.R k29 29 ((((w33.setCell ⟨gb159, 0, none⟩ (.int .i64 ((rd_T29 x11_2 x15_2).f0))).setCell ⟨gb159, 1, none⟩ (.string ((rd_T29 x11_2 x15_2).f1))).setCell ⟨gb159, 2, none⟩ (.int .i64 ((rd_T29 x11_2 x15_2).f2))).setCell ⟨gb159, 2, none⟩ (.int .i64 (wrap64 (((rd_T29 x11_2 x15_2).f2) + (zS0.size : Int))))) w.heap.size (fun k_ => some k_ ≠ (.slice (some ad160) x14_2.length co35 : Value).ownBlock ∧ k_ ≠ gb159) (.slice (some ad158) x11_2.length co32) x11_2) := ⟨by (with_reducible repeat (first | apply Kd.R_alloc | apply Kd.R_drewN | apply Kd.R_drew)); exact Kd.R_mono (Kd.R_far (p := ⟨gb159, 2, none⟩) (Kd.R_far (p := ⟨gb159, 2, none⟩) (Kd.R_far (p := ⟨gb159, 1, none⟩) (Kd.R_far (p := ⟨gb159, 0, none⟩) (Kd.R_mono HO_11.out (fun k_ hk => (⟨hk, hk.2⟩ : _ ∧ k_ ≠ gb159))) (fun _ hk => hk.2) (.int .i64 ((rd_T29 x11_2 x15_2).f0))) (fun _ hk => hk.2) (.string ((rd_T29 x11_2 x15_2).f1))) (fun _ hk => hk.2) (.int .i64 ((rd_T29 x11_2 x15_2).f2))) (fun _ hk => hk.2) (.int .i64 (wrap64 (((rd_T29 x11_2 x15_2).f2) + (zS0.size : Int))))) (fun _ hk => ⟨hk.1.1, hk.1.2⟩)⟩
                                        have n1_ : Aside0 (Kd.R k29 29 ((((w33.setCell ⟨gb159, 0, none⟩ (.int .i64 ((rd_T29 x11_2 x15_2).f0))).setCell ⟨gb159, 1, none⟩ (.string ((rd_T29 x11_2 x15_2).f1))).setCell ⟨gb159, 2, none⟩ (.int .i64 ((rd_T29 x11_2 x15_2).f2))).setCell ⟨gb159, 2, none⟩ (.int .i64 (wrap64 (((rd_T29 x11_2 x15_2).f2) + (zS0.size : Int))))) w.heap.size (fun k_ => some k_ ≠ (.slice (some ad158) x11_2.length co32 : Value).ownBlock ∧ k_ ≠ gb159) (.slice (some ad160) x14_2.length co35) x14_2) := ⟨by (with_reducible repeat (first | apply Kd.R_alloc | apply Kd.R_drewN | apply Kd.R_drew)); exact Kd.R_mono (Kd.R_far (p := ⟨gb159, 2, none⟩) (Kd.R_far (p := ⟨gb159, 2, none⟩) (Kd.R_far (p := ⟨gb159, 1, none⟩) (Kd.R_far (p := ⟨gb159, 0, none⟩) (Kd.R_mono HO_14.out (fun k_ hk => (⟨hk, hk.2⟩ : _ ∧ k_ ≠ gb159))) (fun _ hk => hk.2) (.int .i64 ((rd_T29 x11_2 x15_2).f0))) (fun _ hk => hk.2) (.string ((rd_T29 x11_2 x15_2).f1))) (fun _ hk => hk.2) (.int .i64 ((rd_T29 x11_2 x15_2).f2))) (fun _ hk => hk.2) (.int .i64 (wrap64 (((rd_T29 x11_2 x15_2).f2) + (zS0.size : Int))))) (fun _ hk => ⟨hk.1.1, hk.1.2⟩)⟩
                                        have n2_ : Aside0 (((((w33.setCell ⟨gb159, 0, none⟩ (.int .i64 ((rd_T29 x11_2 x15_2).f0))).setCell ⟨gb159, 1, none⟩ (.string ((rd_T29 x11_2 x15_2).f1))).setCell ⟨gb159, 2, none⟩ (.int .i64 ((rd_T29 x11_2 x15_2).f2))).setCell ⟨gb159, 2, none⟩ (.int .i64 (wrap64 (((rd_T29 x11_2 x15_2).f2) + (zS0.size : Int))))).heap[gb159]? = some (.cells #[.int .i64 ((rd_T29 x11_2 x15_2).f0), .string ((rd_T29 x11_2 x15_2).f1), .int .i64 (wrap64 (((rd_T29 x11_2 x15_2).f2) + (zS0.size : Int)))] 29 (0, 0))) := ⟨by (with_reducible repeat (first | refine blk_drewN ?_ _ | refine blk_drew ?_ | refine blk_alloc ?_ _)); refine blk_put (cs := #[.int .i64 ((rd_T29 x11_2 x15_2).f0), .string ((rd_T29 x11_2 x15_2).f1), .int .i64 ((rd_T29 x11_2 x15_2).f2)]) ?_ 2 _ rfl; (with_reducible repeat (first | refine blk_drewN ?_ _ | refine blk_drew ?_ | refine blk_alloc ?_ _)); refine blk_put (cs := #[.int .i64 ((rd_T29 x11_2 x15_2).f0), .string ((rd_T29 x11_2 x15_2).f1), .int .i64 0]) ?_ 2 _ rfl; (with_reducible repeat (first | refine blk_drewN ?_ _ | refine blk_drew ?_ | refine blk_alloc ?_ _)); refine blk_put (cs := #[.int .i64 ((rd_T29 x11_2 x15_2).f0), .string (⟨#[]⟩ : ByteArray), .int .i64 0]) ?_ 1 _ rfl; (with_reducible repeat (first | refine blk_drewN ?_ _ | refine blk_drew ?_ | refine blk_alloc ?_ _)); refine blk_put (cs := #[.int .i64 0, .string (⟨#[]⟩ : ByteArray), .int .i64 0]) ?_ 0 _ rfl; (with_reducible repeat (first | refine blk_drewN ?_ _ | refine blk_drew ?_ | refine blk_alloc ?_ _)); exact BK159.out⟩
                                        have n3_ : Aside0 (Below w.heap.size w ((((w33.setCell ⟨gb159, 0, none⟩ (.int .i64 ((rd_T29 x11_2 x15_2).f0))).setCell ⟨gb159, 1, none⟩ (.string ((rd_T29 x11_2 x15_2).f1))).setCell ⟨gb159, 2, none⟩ (.int .i64 ((rd_T29 x11_2 x15_2).f2))).setCell ⟨gb159, 2, none⟩ (.int .i64 (wrap64 (((rd_T29 x11_2 x15_2).f2) + (zS0.size : Int)))))) := ⟨by repeat (first | (with_reducible first | exact HB.out | apply below_alloc | apply pw_below_drewN | apply below_drew1 | refine below_set ?_ GE159.out) | exact HB.out)⟩
                                        (try clear HO_11)
                                        (try clear HO_14)
                                        (try clear BK159)
                                        (try clear HB)
                                        generalize ((((w33.setCell ⟨gb159, 0, none⟩ (.int .i64 ((rd_T29 x11_2 x15_2).f0))).setCell ⟨gb159, 1, none⟩ (.string ((rd_T29 x11_2 x15_2).f1))).setCell ⟨gb159, 2, none⟩ (.int .i64 ((rd_T29 x11_2 x15_2).f2))).setCell ⟨gb159, 2, none⟩ (.int .i64 (wrap64 (((rd_T29 x11_2 x15_2).f2) + (zS0.size : Int))))) = w36 at n0_ n1_ n2_ n3_ ⊢
                                        have HO_11 := n0_
                                        have HO_14 := n1_
                                        have BK159 := n2_
                                        have HB := n3_
                                        clear n0_ n1_ n2_ n3_
                                        have n0_ := Aside0.mk (Kd.R_drew HO_11.out)
                                        have n1_ := Aside0.mk (Kd.R_drew HO_14.out)
                                        have n2_ := Aside0.mk (blk_drew BK159.out)
                                        have n3_ := Aside0.mk (below_drew1 HB.out)
                                        clear HO_11
                                        clear HO_14
                                        clear BK159
                                        clear HB
                                        have HO_11 := n0_
                                        have HO_14 := n1_
                                        have BK159 := n2_
                                        have HB := n3_
                                        clear n0_ n1_ n2_ n3_
                                        have p161 : 0 ≤ ((ji26) : Int) := of_decide_eq_true (by first | (with_reducible assumption) | assumption)
                                        have q161 : (ji26) < (x14_2.length : Int) := of_decide_eq_true (by first | (with_reducible assumption) | assumption)
                                        obtain ⟨ad161, e161, hx161_0, hx161_1, hx161_2⟩ := at_T29 (Kd.R_reads' HO_14.out).2.2 (ji26) p161 q161
                                        obtain rfl : ad160 = ad161 := (by injection e161)
                                        replace p161 := eq_true p161
                                        replace q161 := eq_true q161
                                        have p31 : 0 ≤ ((ji26) : Int) := of_decide_eq_true (by first | (with_reducible assumption) | assumption)
                                        have q31 : ((ji26) : Int) < ((x14_2.length : Int) : Int) := of_decide_eq_true (by first | (with_reducible assumption) | assumption)
                                        obtain ⟨go31, co31, eo31, gb31, gl31, cl31, HG31⟩ := Kd.R_form HO_14.out (by omega)
                                        (first | cases eo31 | (injection eo31 with ea_ en_ ec_; (first | subst ea_ | (injection ea_ with ea_; subst ea_)); subst ec_; clear en_))
                                        have GB31 := Aside0.mk gb31
                                        have GG31 := Aside0.mk HG31
                                        clear gb31 gl31 HG31
                                        (first | simp only [add_plain] at hx160_0 | skip)
                                        (first | simp only [add_plain] at hx160_1 | skip)
                                        (first | simp only [add_plain] at hx160_2 | skip)
                                        (first | simp only [add_plain] at hx161_0 | skip)
                                        (first | simp only [add_plain] at hx161_1 | skip)
                                        (first | simp only [add_plain] at hx161_2 | skip)
                                        obtain ⟨ce31, hcl31, hM31, hcc31, hfr31⟩ := Kd.R_elem HO_14.out z29 ((ji26) : Int) p31 q31
                                        obtain rfl := k29_openM hM31
                                        have hx31_0 : World.cell? _ ⟨go31, ((ji26) : Int).toNat * 3, none⟩ = some (.int .i64 ((rd_T29 x14_2 (ji26)).f0)) := hcc31 0 _ rfl
                                        have hx31_1 : World.cell? _ ⟨go31, ((ji26) : Int).toNat * 3 + 1, none⟩ = some (.string ((rd_T29 x14_2 (ji26)).f1)) := hcc31 1 _ rfl
                                        have hx31_2 : World.cell? _ ⟨go31, ((ji26) : Int).toNat * 3 + 2, none⟩ = some (.int .i64 ((rd_T29 x14_2 (ji26)).f2)) := hcc31 2 _ rfl
                                        have hf31_0 : World.frozen? _ ⟨go31, ((ji26) : Int).toNat * 3, none⟩ = false := hfr31 0
                                        have hf31_1 : World.frozen? _ ⟨go31, ((ji26) : Int).toNat * 3 + 1, none⟩ = false := hfr31 1
                                        have hf31_2 : World.frozen? _ ⟨go31, ((ji26) : Int).toNat * 3 + 2, none⟩ = false := hfr31 2
                                        clear hcl31 hcc31 hfr31 hM31
                                        replace p31 := eq_true p31
                                        replace q31 := eq_true q31
                                        obtain ⟨ce38, hcl38, hM38, hcc38, hfr38⟩ := Kd.R_elem HO_14.out z29 ((ji26) : Int) (of_decide_eq_true (by first | (with_reducible assumption) | assumption)) (by have h_ : ((ji26) : Int) < ((x14_2.length : Int) : Int) := of_decide_eq_true (by first | (with_reducible assumption) | assumption); first | exact h_ | (have e_ := (Kd.R_reads' HO_14.out).1; omega) | simpa using h_)
                                        obtain rfl := k29_openM hM38
                                        have HP38 := (Kd.R_seg HO_14.out ((ji26) : Int) (of_decide_eq_true (by first | (with_reducible assumption) | assumption)) (by have h_ : ((ji26) : Int) < ((x14_2.length : Int) : Int) := of_decide_eq_true (by first | (with_reducible assumption) | assumption); first | exact h_ | (have e_ := (Kd.R_reads' HO_14.out).1; omega) | simpa using h_) (seg := [.string (((rd_T29 x14_2 (ji26)).f1) ++ ((rd_T29 x11_2 x15_2).f1))]) (j := 1) hcl38 hcc38 (show 2 ≤ 3 from by decide) (x' := (⟨(rd_T29 x14_2 (ji26)).f0, ((rd_T29 x14_2 (ji26)).f1) ++ ((rd_T29 x11_2 x15_2).f1), (rd_T29 x14_2 (ji26)).f2⟩ : S29)) (k29_mkM _ _ _ (⟨(rd_T29 x14_2 (ji26)).f0, ((rd_T29 x14_2 (ji26)).f1) ++ ((rd_T29 x11_2 x15_2).f1), (rd_T29 x14_2 (ji26)).f2⟩ : S29) ) (fun _ hk => hk)).1
                                        rw [← Ny162.out] at HP38
                                        have HQ38 := Aside0.mk HP38
                                        clear hcl38 hcc38 hfr38 hM38 HP38
                                        refine start_ (n := 15) (S := fun w' => w'.cell? ⟨gb159, 0, none⟩ = some (.int .i64 ((rd_T29 x11_2 x15_2).f0)) ∧ w'.cell? ⟨gb159, 1, none⟩ = some (.string ((rd_T29 x11_2 x15_2).f1)) ∧ w'.cell? ⟨gb159, 2, none⟩ = some (.int .i64 (wrap64 (((rd_T29 x11_2 x15_2).f2) + (zS0.size : Int)))) ∧ w'.cell? ⟨go31, ((ji26) : Int).toNat * 3, none⟩ = some (.int .i64 ((rd_T29 x14_2 (ji26)).f0)) ∧ w'.cell? ⟨go31, ((ji26) : Int).toNat * 3 + 1, none⟩ = some (.string ((rd_T29 x14_2 (ji26)).f1)) ∧ w'.cell? ⟨go31, ((ji26) : Int).toNat * 3 + 2, none⟩ = some (.int .i64 ((rd_T29 x14_2 (ji26)).f2))) (ds := [14]) #[false, false, false, false, false, false, false, false, false, false, false, false, false, false, false] (by kernel_rfl) rfl rfl ⟨(blk_cell BK159.out 0).trans rfl, (blk_cell BK159.out 1).trans rfl, (blk_cell BK159.out 2).trans rfl, hx161_0, hx161_1, hx161_2⟩ (fun hHeld => ?_); refine with_tabW copydesklaw09_LexerJoins.tab17 copydesklaw09_LexerJoins.bits17 (fun HT_ HW_ => ?_)
                                        generalize w36.drew = w37 at HO_11 HO_14 BK159 HB GG31 HQ38 hf31_0 hf31_1 hf31_2 hx160_0 hx160_1 hx160_2 hx161_0 hx161_1 hx161_2 hx31_0 hx31_1 hx31_2 hHeld ⊢
                                        refine pure_ (i := 0) (N := some 92) (v := ?_) (a' := ?_) #[true, false, false, false, false, false, false, false, false, false, false, false, false, false, false] rfl rfl (any_of HT_.out (by kernel_rfl)) (fun _ _ _ h => h) (Or.inl ⟨by rfl, ?_⟩) ?_ ?_
                                        rotate_left
                                        · intro w'
                                          go_simp
                                          with_reducible rfl
                                        rotate_left
                                        · simp only [Act.put, List.setIfInBounds_toArray, List.set_cons_zero, List.set_cons_succ, i64_w, i32_w]
                                          rfl
                                        refine pure_ (i := 1) (N := some 93) (v := ?_) (a' := ?_) #[true, true, false, false, false, false, false, false, false, false, false, false, false, false, false] rfl rfl (any_of HT_.out (by kernel_rfl)) (fun _ _ _ h => h) (Or.inl ⟨by rfl, ?_⟩) ?_ ?_
                                        rotate_left
                                        · intro w'
                                          go_simp
                                          with_reducible rfl
                                        rotate_left
                                        · simp only [Act.put, List.setIfInBounds_toArray, List.set_cons_zero, List.set_cons_succ, i64_w, i32_w]
                                          rfl
                                        refine pure_ (i := 2) (N := some 94) (v := ?_) (a' := ?_) #[true, true, true, false, false, false, false, false, false, false, false, false, false, false, false] rfl rfl (any_of HT_.out (by kernel_rfl)) (fun _ _ _ h => h) (Or.inl ⟨by rfl, ?_⟩) ?_ ?_
                                        rotate_left
                                        · intro w'
                                          go_simp
                                          with_reducible rfl
                                        rotate_left
                                        · simp only [Act.put, List.setIfInBounds_toArray, List.set_cons_zero, List.set_cons_succ, i64_w, i32_w]
                                          rfl
                                        refine pure_ (i := 3) (N := some 95) (v := ?_) (a' := ?_) #[true, true, true, true, false, false, false, false, false, false, false, false, false, false, false] rfl rfl (any_of HT_.out (by kernel_rfl)) (fun _ _ _ h => h) (Or.inl ⟨by rfl, ?_⟩) ?_ ?_
                                        rotate_left
                                        · intro w'
                                          go_simp
                                          with_reducible rfl
                                        rotate_left
                                        · simp only [Act.put, List.setIfInBounds_toArray, List.set_cons_zero, List.set_cons_succ, i64_w, i32_w]
                                          rfl
                                        refine pure_ (i := 4) (N := some 96) (v := ?_) (a' := ?_) #[true, true, true, true, true, false, false, false, false, false, false, false, false, false, false] rfl rfl (any_of HT_.out (by kernel_rfl)) (fun _ _ _ h => h) (Or.inl ⟨by rfl, ?_⟩) ?_ ?_
                                        rotate_left
                                        · intro w'
                                          go_simp
                                          with_reducible rfl
                                        rotate_left
                                        · simp only [Act.put, List.setIfInBounds_toArray, List.set_cons_zero, List.set_cons_succ, i64_w, i32_w]
                                          rfl
                                        refine pure_ (i := 5) (N := some 97) (v := ?_) (a' := ?_) #[true, true, true, true, true, true, false, false, false, false, false, false, false, false, false] rfl rfl (any_of HT_.out (by kernel_rfl)) (fun _ _ _ h => h) (Or.inl ⟨by rfl, ?_⟩) ?_ ?_
                                        rotate_left
                                        · intro w'
                                          go_simp
                                          with_reducible rfl
                                        rotate_left
                                        · simp only [Act.put, List.setIfInBounds_toArray, List.set_cons_zero, List.set_cons_succ, i64_w, i32_w]
                                          rfl
                                        refine pure_ (i := 6) (N := some 98) (v := ?_) (a' := ?_) #[true, true, true, true, true, true, true, false, false, false, false, false, false, false, false] rfl rfl (any_of HT_.out (by kernel_rfl)) (fun _ _ _ h => h) (Or.inl ⟨by rfl, ?_⟩) ?_ ?_
                                        rotate_left
                                        · intro w'
                                          go_simp
                                          with_reducible rfl
                                        rotate_left
                                        · simp only [Act.put, List.setIfInBounds_toArray, List.set_cons_zero, List.set_cons_succ, i64_w, i32_w]
                                          rfl
                                        refine pure_ (i := 7) (N := some 99) (v := ?_) (a' := ?_) #[true, true, true, true, true, true, true, true, false, false, false, false, false, false, false] rfl rfl (any_of HT_.out (by kernel_rfl)) (fun _ _ _ h => h) (Or.inl ⟨by rfl, ?_⟩) ?_ ?_
                                        rotate_left
                                        · intro w'
                                          go_simp
                                          with_reducible rfl
                                        rotate_left
                                        · simp only [Act.put, List.setIfInBounds_toArray, List.set_cons_zero, List.set_cons_succ, i64_w, i32_w]
                                          rfl
                                        refine pure_ (i := 9) (N := some 101) (v := ?_) (a' := ?_) #[true, true, true, true, true, true, true, true, false, true, false, false, false, false, false] rfl rfl (any_of HT_.out (by kernel_rfl)) (fun _ _ _ h => h) (Or.inl ⟨by rfl, ?_⟩) ?_ ?_
                                        rotate_left
                                        · intro w'
                                          go_simp
                                          with_reducible rfl
                                        rotate_left
                                        · simp only [Act.put, List.setIfInBounds_toArray, List.set_cons_zero, List.set_cons_succ, i64_w, i32_w]
                                          rfl
                                        refine take_ (i := 8) (N := some 100) (v := ?_) (a' := ?_) #[true, true, true, true, true, true, true, true, true, true, false, false, false, false, false] rfl rfl (take_ofW HT_.out HW_.out (by kernel_rfl)) (fun _ _ _ h => h) (Or.inl ⟨by rfl, ?_⟩) hHeld ?_ ?_
                                        rotate_left
                                        · rintro w' ⟨s0, s1, s2, s3, s4, s5⟩
                                          go_simp
                                          with_reducible rfl
                                        rotate_left
                                        · simp only [Act.put, List.setIfInBounds_toArray, List.set_cons_zero, List.set_cons_succ, i64_w, i32_w]
                                          rfl
                                        refine take_ (i := 10) (N := some 102) (v := ?_) (a' := ?_) #[true, true, true, true, true, true, true, true, true, true, true, false, false, false, false] rfl rfl (take_ofW HT_.out HW_.out (by kernel_rfl)) (fun _ _ _ h => h) (Or.inl ⟨by rfl, ?_⟩) hHeld ?_ ?_
                                        rotate_left
                                        · rintro w' ⟨s0, s1, s2, s3, s4, s5⟩
                                          go_simp
                                          with_reducible rfl
                                        rotate_left
                                        · simp only [Act.put, List.setIfInBounds_toArray, List.set_cons_zero, List.set_cons_succ, i64_w, i32_w]
                                          rfl
                                        refine pure_ (i := 11) (N := some 103) (v := ?_) (a' := ?_) #[true, true, true, true, true, true, true, true, true, true, true, true, false, false, false] rfl rfl (any_of HT_.out (by kernel_rfl)) (fun _ _ _ h => h) (Or.inl ⟨by rfl, ?_⟩) ?_ ?_
                                        rotate_left
                                        · intro w'
                                          go_simp
                                          with_reducible rfl
                                        rotate_left
                                        · simp only [Act.put, List.setIfInBounds_toArray, List.set_cons_zero, List.set_cons_succ, i64_w, i32_w]
                                          rfl
                                        refine pure_ (i := 12) (N := some 104) (v := ?_) (a' := ?_) #[true, true, true, true, true, true, true, true, true, true, true, true, true, false, false] rfl rfl (any_of HT_.out (by kernel_rfl)) (fun _ _ _ h => h) (Or.inl ⟨by rfl, ?_⟩) ?_ ?_
                                        rotate_left
                                        · intro w'
                                          go_simp
                                          with_reducible rfl
                                        rotate_left
                                        · simp only [Act.put, List.setIfInBounds_toArray, List.set_cons_zero, List.set_cons_succ, i64_w, i32_w]
                                          rfl
                                        refine pure_ (i := 13) (N := some 105) (v := ?_) (a' := ?_) #[true, true, true, true, true, true, true, true, true, true, true, true, true, true, false] rfl rfl (any_of HT_.out (by kernel_rfl)) (fun _ _ _ h => h) (Or.inl ⟨by rfl, ?_⟩) ?_ ?_
                                        rotate_left
                                        · intro w'
                                          go_simp
                                          with_reducible rfl
                                        rotate_left
                                        · simp only [Act.put, List.setIfInBounds_toArray, List.set_cons_zero, List.set_cons_succ, i64_w, i32_w]
                                          rfl
                                        refine last_ (i := 14) (N := none) #[true, true, true, true, true, true, true, true, true, true, true, true, true, true, true] rfl rfl (one_of HT_.out (by kernel_rfl)) (by decide) (fun K hK => ?_)
                                        refine skip_ (w1 := ?_) (by rfl) rfl ?_ ?_
                                        rotate_left
                                        · go_simp
                                          rfl
                                        refine hK.out _ _ ?_
                                        clear hK K
                                        refine done_ (done_of HT_.out (by kernel_rfl)) ?_
                                        try go_wp2
                                        go_roundg k2
                                        case measure => have := HJ11.out; have := HK2.out; omega
                                        case rel => exact ⟨(x11_2), (y162), (wrap64 (x15_2 + 1)), (by first | rfl | (simp; done) | (simp [*]; done)), H', ⟨by have := HJ11.out; have := HK2.out; omega⟩, ⟨by (with_reducible repeat (first | apply Kd.R_alloc | apply Kd.R_drewN | apply Kd.R_drew)); exact Kd.R_mono (Kd.R_far (p := ⟨go31, ((ji26) : Int).toNat * 3 + 1, none⟩) (Kd.R_mono HO_11.out (fun k_ hk => (⟨hk, fun e_ => hk.1 (by rw [e_]; rfl)⟩ : _ ∧ k_ ≠ go31))) (fun _ hk => hk.2) (.string (((rd_T29 x14_2 (ji26)).f1) ++ ((rd_T29 x11_2 x15_2).f1)))) (fun _ hk => hk.1.1)⟩, ⟨by (with_reducible repeat (first | apply Kd.R_alloc | apply Kd.R_drewN | apply Kd.R_drew)); exact Kd.R_mono HQ38.out (fun _ hk => hk.1)⟩, ⟨by repeat (first | (with_reducible first | exact HB.out | apply below_alloc | apply pw_below_drewN | apply below_drew1 | refine below_set ?_ GB31.out | refine below_set ?_ GE159.out) | exact HB.out)⟩⟩
                                      · rw [if_neg c30] at H
                                        exact absurd H (by simp)
                                    · rw [if_neg c29] at H
                                      have c29b0 : (((rd_T29 x14_2 (ji26)).f0) == 1) = false := beq_eq_false_iff_ne.mpr c29
                                      have c29b1 : (((rd_T29 x14_2 (ji26)).f0) != 1) = true := bne_iff_ne.mpr c29
                                      by_cases c39 : x14_2.length < 4398046511104
                                      · rw [if_pos c39] at H
                                        have LMc39 := Aside0.mk c39
                                        clear c39
                                        obtain ⟨y163, hy163⟩ : ∃ y_ : List (S29), y_ = (x14_2 ++ [(⟨(rd_T29 x11_2 x15_2).f0, (rd_T29 x11_2 x15_2).f1, wrap64 (((rd_T29 x11_2 x15_2).f2) + (zS0.size : Int))⟩ : S29)]) := ⟨_, rfl⟩
                                        replace H : (copydesklaw09_LexerJoins.l0 k2 t144 zS0 zS1 x11_2 y163 (wrap64 (x15_2 + 1))) = some r := by first | (rw [hy163]; with_reducible exact H) | (have H2_ := (Option.bind_some _ _).symm.trans H; rw [hy163]; with_reducible exact H2_) | (have H2_ := (Option.bind_some _ _).symm.trans H; with_reducible exact H2_) | with_reducible exact H | (rw [hy163]; exact H) | exact H
                                        have Ny163 := Aside0.mk hy163
                                        clear hy163
                                        have H' := Aside0.mk H
                                        clear H
                                        obtain ⟨Ao40, co40, eo40⟩ := Kd.R_slice HO_11.out
                                        subst eo40
                                        have p158 : 0 ≤ (x15_2 : Int) := of_decide_eq_true (by first | (with_reducible assumption) | assumption)
                                        have q158 : x15_2 < (x11_2.length : Int) := of_decide_eq_true (by first | (with_reducible assumption) | assumption)
                                        obtain ⟨ad158, e158, hx158_0, hx158_1, hx158_2⟩ := at_T29 (Kd.R_reads' HO_11.out).2.2 x15_2 p158 q158
                                        cases e158
                                        replace p158 := eq_true p158
                                        replace q158 := eq_true q158
                                        go_wp2_with (first | ((with_reducible refine gate_dst (N := 16) rfl ?_); refine box_event ?hg (N := 16) ?hd (cs := #[.int .i64 0, .string (⟨#[]⟩ : ByteArray), .int .i64 0]) (t := 29) ?hr ?_; (case hd => rfl); (case hg => rfl); (case hr => first | (go_simp; done) | (go_simp; rfl)); intro gb159 hg w41 hbox hb; have n0_ := Aside0.mk (Kd.R_below (Kd.R_elderB (by (with_reducible repeat (first | apply Kd.R_alloc | apply Kd.R_drewN | apply Kd.R_drew)); exact HO_11.out) gb159 (Nat.le_of_eq hg.symm)) hb); have n1_ := Aside0.mk (Kd.R_below (Kd.R_elderB (by (with_reducible repeat (first | apply Kd.R_alloc | apply Kd.R_drewN | apply Kd.R_drew)); exact HO_14.out) gb159 (Nat.le_of_eq hg.symm)) hb); have n2_ := Aside0.mk (below_step (by repeat (first | (with_reducible first | exact HB.out | apply below_alloc | apply pw_below_drewN | apply below_drew1) | exact HB.out)) hb); have n3_ := Aside0.mk (hbox); have n4_ := Aside0.mk ((by rw [hg]; exact (below_size (by repeat (first | (with_reducible first | exact HB.out | apply below_alloc | apply pw_below_drewN | apply below_drew1) | exact HB.out))) : w.heap.size ≤ gb159)); have n5_ := Aside0.mk ((by rw [hg]; exact (below_size (by repeat (first | (with_reducible first | exact HB.out | apply below_alloc | apply pw_below_drewN | apply below_drew1) | exact HB.out))) : w.heap.size ≤ gb159)); clear HO_11; clear HO_14; clear HB; have HO_11 := n0_; have HO_14 := n1_; have HB := n2_; have BK159 := n3_; have GW159 := n4_; have GE159 := n5_; clear n0_ n1_ n2_ n3_ n4_ n5_; clear hb hbox hg; have hcz42_0 : w41.cell? ⟨gb159, 0, none⟩ = some (.int .i64 0) := (blk_cell BK159.out 0).trans rfl; have hcz42_1 : w41.cell? ⟨gb159, 1, none⟩ = some (.string (⟨#[]⟩ : ByteArray)) := (blk_cell BK159.out 1).trans rfl; have hcz42_2 : w41.cell? ⟨gb159, 2, none⟩ = some (.int .i64 0) := (blk_cell BK159.out 2).trans rfl; have hcz42y : (((w41.setCell ⟨gb159, 0, none⟩ (.int .i64 ((rd_T29 x11_2 x15_2).f0))).setCell ⟨gb159, 1, none⟩ (.string ((rd_T29 x11_2 x15_2).f1))).setCell ⟨gb159, 2, none⟩ (.int .i64 ((rd_T29 x11_2 x15_2).f2))).cell? ⟨gb159, 2, none⟩ = some (.int .i64 ((rd_T29 x11_2 x15_2).f2)) := (blk_cell (blk_put (blk_put (blk_put BK159.out 0 (.int .i64 ((rd_T29 x11_2 x15_2).f0)) rfl) 1 (.string ((rd_T29 x11_2 x15_2).f1)) rfl) 2 (.int .i64 ((rd_T29 x11_2 x15_2).f2)) rfl) 2).trans rfl; have hfz42_0 := blk_frozen BK159.out 0; have hfz42_1 := blk_frozen BK159.out 1; have hfz42_2 := blk_frozen BK159.out 2; obtain ⟨Ao43, co43, eo43⟩ := Kd.R_slice HO_14.out; subst eo43; have p160 : 0 ≤ ((ji26) : Int) := of_decide_eq_true (by first | (with_reducible assumption) | assumption); have q160 : (ji26) < (x14_2.length : Int) := of_decide_eq_true (by first | (with_reducible assumption) | assumption); obtain ⟨ad160, e160, hx160_0, hx160_1, hx160_2⟩ := at_T29 (Kd.R_reads' HO_14.out).2.2 (ji26) p160 q160; cases e160; have hn160_0 : ad160.block ≠ gb159 := (by first | exact Kd.own_blk (Kd.R_ne HO_14.out BK159.out (by decide)) | exact Kd.own_blk (Kd.R_away HO_14.out (fun _ hk => hk.2)) | exact Kd.own_blk (Kd.R_away HO_14.out (fun _ hk => hk.1.2))); have hn160_1 : ad160.block ≠ gb159 := (by first | exact Kd.own_blk (Kd.R_ne HO_14.out BK159.out (by decide)) | exact Kd.own_blk (Kd.R_away HO_14.out (fun _ hk => hk.2)) | exact Kd.own_blk (Kd.R_away HO_14.out (fun _ hk => hk.1.2))); have hn160_2 : ad160.block ≠ gb159 := (by first | exact Kd.own_blk (Kd.R_ne HO_14.out BK159.out (by decide)) | exact Kd.own_blk (Kd.R_away HO_14.out (fun _ hk => hk.2)) | exact Kd.own_blk (Kd.R_away HO_14.out (fun _ hk => hk.1.2))); have hn160_3 : ad160.block ≠ gb159 := (by first | exact Kd.own_blk (Kd.R_ne HO_14.out BK159.out (by decide)) | exact Kd.own_blk (Kd.R_away HO_14.out (fun _ hk => hk.2)) | exact Kd.own_blk (Kd.R_away HO_14.out (fun _ hk => hk.1.2))); replace hx160_0 := (cell_far (p := ⟨gb159, 0, none⟩) (by first | (rw [add_block]; exact hn160_0) | (show (Addr.add _ _).block ≠ _; rw [add_block]; exact hn160_0) | exact hn160_0) (.int .i64 ((rd_T29 x11_2 x15_2).f0))).trans hx160_0; replace hx160_1 := (cell_far (p := ⟨gb159, 0, none⟩) (by first | (rw [add_block]; exact hn160_0) | (show (Addr.add _ _).block ≠ _; rw [add_block]; exact hn160_0) | exact hn160_0) (.int .i64 ((rd_T29 x11_2 x15_2).f0))).trans hx160_1; replace hx160_2 := (cell_far (p := ⟨gb159, 0, none⟩) (by first | (rw [add_block]; exact hn160_0) | (show (Addr.add _ _).block ≠ _; rw [add_block]; exact hn160_0) | exact hn160_0) (.int .i64 ((rd_T29 x11_2 x15_2).f0))).trans hx160_2; replace hx160_0 := (cell_far (p := ⟨gb159, 1, none⟩) (by first | (rw [add_block]; exact hn160_1) | (show (Addr.add _ _).block ≠ _; rw [add_block]; exact hn160_1) | exact hn160_1) (.string ((rd_T29 x11_2 x15_2).f1))).trans hx160_0; replace hx160_1 := (cell_far (p := ⟨gb159, 1, none⟩) (by first | (rw [add_block]; exact hn160_1) | (show (Addr.add _ _).block ≠ _; rw [add_block]; exact hn160_1) | exact hn160_1) (.string ((rd_T29 x11_2 x15_2).f1))).trans hx160_1; replace hx160_2 := (cell_far (p := ⟨gb159, 1, none⟩) (by first | (rw [add_block]; exact hn160_1) | (show (Addr.add _ _).block ≠ _; rw [add_block]; exact hn160_1) | exact hn160_1) (.string ((rd_T29 x11_2 x15_2).f1))).trans hx160_2; replace hx160_0 := (cell_far (p := ⟨gb159, 2, none⟩) (by first | (rw [add_block]; exact hn160_2) | (show (Addr.add _ _).block ≠ _; rw [add_block]; exact hn160_2) | exact hn160_2) (.int .i64 ((rd_T29 x11_2 x15_2).f2))).trans hx160_0; replace hx160_1 := (cell_far (p := ⟨gb159, 2, none⟩) (by first | (rw [add_block]; exact hn160_2) | (show (Addr.add _ _).block ≠ _; rw [add_block]; exact hn160_2) | exact hn160_2) (.int .i64 ((rd_T29 x11_2 x15_2).f2))).trans hx160_1; replace hx160_2 := (cell_far (p := ⟨gb159, 2, none⟩) (by first | (rw [add_block]; exact hn160_2) | (show (Addr.add _ _).block ≠ _; rw [add_block]; exact hn160_2) | exact hn160_2) (.int .i64 ((rd_T29 x11_2 x15_2).f2))).trans hx160_2; replace hx160_0 := (cell_far (p := ⟨gb159, 2, none⟩) (by first | (rw [add_block]; exact hn160_3) | (show (Addr.add _ _).block ≠ _; rw [add_block]; exact hn160_3) | exact hn160_3) (.int .i64 (wrap64 (((rd_T29 x11_2 x15_2).f2) + (zS0.size : Int))))).trans hx160_0; replace hx160_1 := (cell_far (p := ⟨gb159, 2, none⟩) (by first | (rw [add_block]; exact hn160_3) | (show (Addr.add _ _).block ≠ _; rw [add_block]; exact hn160_3) | exact hn160_3) (.int .i64 (wrap64 (((rd_T29 x11_2 x15_2).f2) + (zS0.size : Int))))).trans hx160_1; replace hx160_2 := (cell_far (p := ⟨gb159, 2, none⟩) (by first | (rw [add_block]; exact hn160_3) | (show (Addr.add _ _).block ≠ _; rw [add_block]; exact hn160_3) | exact hn160_3) (.int .i64 (wrap64 (((rd_T29 x11_2 x15_2).f2) + (zS0.size : Int))))).trans hx160_2; clear hn160_0; clear hn160_1; clear hn160_2; clear hn160_3; replace p160 := eq_true p160; replace q160 := eq_true q160) | ((with_reducible refine gate_builtin (b := .append) (xs := #[.tmp 106, .tmp 108]) rfl ?_); at_builtin; refine Kd.R_append k29 (w0 := w) w.heap.size rfl (.tmp 106) (.tmp 108) 27 29 (.agg #[(.int .i64 0), (.string ⟨#[]⟩), (.int .i64 0)]) 32 rfl Tryd.underlying27 info29 rfl (by decide) (by omega) (.slice (some ad160) x14_2.length co43) x14_2 (⟨(rd_T29 x11_2 x15_2).f0, (rd_T29 x11_2 x15_2).f1, wrap64 (((rd_T29 x11_2 x15_2).f2) + (zS0.size : Int))⟩ : S29) [.int .i64 ((rd_T29 x11_2 x15_2).f0), .string ((rd_T29 x11_2 x15_2).f1), .int .i64 (wrap64 (((rd_T29 x11_2 x15_2).f2) + (zS0.size : Int)))] (fun k_ => some k_ ≠ (.slice (some ad158) x11_2.length co40 : Value).ownBlock ∧ k_ ≠ gb159) (fun _ => False) rfl (by first | (go_simp; done) | (go_simp; rfl)) ?aP (fun _ hk => hk.elim) ?aF ?aO ?aB ?aS ?aL ?_; (case aP => exact k29_mkM _ _ _ (⟨(rd_T29 x11_2 x15_2).f0, (rd_T29 x11_2 x15_2).f1, wrap64 (((rd_T29 x11_2 x15_2).f2) + (zS0.size : Int))⟩ : S29)); (case aB => exact (by repeat (first | (with_reducible first | exact HB.out | apply below_alloc | apply pw_below_drewN | apply below_drew1 | refine below_set ?_ GE159.out) | exact HB.out))); (case aF => exact (fun k_ hk => ⟨Kd.fresh' (Kd.R_lt (by (with_reducible repeat (first | apply Kd.R_alloc | apply Kd.R_drewN | apply Kd.R_drew)); exact (Kd.R_mono (Kd.R_far (p := ⟨gb159, 2, none⟩) (Kd.R_far (p := ⟨gb159, 2, none⟩) (Kd.R_far (p := ⟨gb159, 1, none⟩) (Kd.R_far (p := ⟨gb159, 0, none⟩) (Kd.R_mono HO_11.out (fun k_ hk => (⟨hk, hk.2⟩ : _ ∧ k_ ≠ gb159))) (fun _ hk => hk.2) (.int .i64 ((rd_T29 x11_2 x15_2).f0))) (fun _ hk => hk.2) (.string ((rd_T29 x11_2 x15_2).f1))) (fun _ hk => hk.2) (.int .i64 ((rd_T29 x11_2 x15_2).f2))) (fun _ hk => hk.2) (.int .i64 (wrap64 (((rd_T29 x11_2 x15_2).f2) + (zS0.size : Int))))) (fun _ h_ => h_.1)))) k_ hk, Kd.freshB (g := gb159) (o := .cells #[.int .i64 ((rd_T29 x11_2 x15_2).f0), .string ((rd_T29 x11_2 x15_2).f1), .int .i64 (wrap64 (((rd_T29 x11_2 x15_2).f2) + (zS0.size : Int)))] 29 (0, 0)) (by (with_reducible repeat (first | refine blk_drewN ?_ _ | refine blk_drew ?_ | refine blk_alloc ?_ _)); refine blk_put (cs := #[.int .i64 ((rd_T29 x11_2 x15_2).f0), .string ((rd_T29 x11_2 x15_2).f1), .int .i64 ((rd_T29 x11_2 x15_2).f2)]) ?_ 2 _ rfl; (with_reducible repeat (first | refine blk_drewN ?_ _ | refine blk_drew ?_ | refine blk_alloc ?_ _)); refine blk_put (cs := #[.int .i64 ((rd_T29 x11_2 x15_2).f0), .string ((rd_T29 x11_2 x15_2).f1), .int .i64 0]) ?_ 2 _ rfl; (with_reducible repeat (first | refine blk_drewN ?_ _ | refine blk_drew ?_ | refine blk_alloc ?_ _)); refine blk_put (cs := #[.int .i64 ((rd_T29 x11_2 x15_2).f0), .string (⟨#[]⟩ : ByteArray), .int .i64 0]) ?_ 1 _ rfl; (with_reducible repeat (first | refine blk_drewN ?_ _ | refine blk_drew ?_ | refine blk_alloc ?_ _)); refine blk_put (cs := #[.int .i64 0, .string (⟨#[]⟩ : ByteArray), .int .i64 0]) ?_ 0 _ rfl; (with_reducible repeat (first | refine blk_drewN ?_ _ | refine blk_drew ?_ | refine blk_alloc ?_ _)); exact BK159.out) k_ hk⟩)); (case aO => exact (by (with_reducible repeat (first | apply Kd.R_alloc | apply Kd.R_drewN | apply Kd.R_drew)); exact Kd.R_mono (Kd.R_far (p := ⟨gb159, 2, none⟩) (Kd.R_far (p := ⟨gb159, 2, none⟩) (Kd.R_far (p := ⟨gb159, 1, none⟩) (Kd.R_far (p := ⟨gb159, 0, none⟩) (Kd.R_mono HO_14.out (fun k_ hk => (⟨hk, hk.2⟩ : _ ∧ k_ ≠ gb159))) (fun _ hk => hk.2) (.int .i64 ((rd_T29 x11_2 x15_2).f0))) (fun _ hk => hk.2) (.string ((rd_T29 x11_2 x15_2).f1))) (fun _ hk => hk.2) (.int .i64 ((rd_T29 x11_2 x15_2).f2))) (fun _ hk => hk.2) (.int .i64 (wrap64 (((rd_T29 x11_2 x15_2).f2) + (zS0.size : Int))))) (fun _ hk => ⟨hk.1.1, hk.1.2⟩))); (case aS => exact (below_size (by repeat (first | (with_reducible first | exact HB.out | apply below_alloc | apply pw_below_drewN | apply below_drew1 | refine below_set ?_ GE159.out) | exact HB.out)))); (case aL => have := LMc39.out; omega); intro v164 w44 ho hb hg hat; rw [← Ny163.out] at ho; have n0_ := Aside0.mk (Kd.R_after (ok := (fun k_ => k_ ≠ gb159)) (by (with_reducible repeat (first | apply Kd.R_alloc | apply Kd.R_drewN | apply Kd.R_drew)); exact Kd.R_mono (Kd.R_far (p := ⟨gb159, 2, none⟩) (Kd.R_far (p := ⟨gb159, 2, none⟩) (Kd.R_far (p := ⟨gb159, 1, none⟩) (Kd.R_far (p := ⟨gb159, 0, none⟩) (Kd.R_mono HO_11.out (fun k_ hk => (⟨hk, hk.2⟩ : _ ∧ k_ ≠ gb159))) (fun _ hk => hk.2) (.int .i64 ((rd_T29 x11_2 x15_2).f0))) (fun _ hk => hk.2) (.string ((rd_T29 x11_2 x15_2).f1))) (fun _ hk => hk.2) (.int .i64 ((rd_T29 x11_2 x15_2).f2))) (fun _ hk => hk.2) (.int .i64 (wrap64 (((rd_T29 x11_2 x15_2).f2) + (zS0.size : Int))))) (fun _ hk => ⟨hk.1.2, hk.1.1⟩)) hg hat); have n1_ := Aside0.mk (blk_grown (g := gb159) (o := .cells #[.int .i64 ((rd_T29 x11_2 x15_2).f0), .string ((rd_T29 x11_2 x15_2).f1), .int .i64 (wrap64 (((rd_T29 x11_2 x15_2).f2) + (zS0.size : Int)))] 29 (0, 0)) (by (with_reducible repeat (first | refine blk_drewN ?_ _ | refine blk_drew ?_ | refine blk_alloc ?_ _)); refine blk_put (cs := #[.int .i64 ((rd_T29 x11_2 x15_2).f0), .string ((rd_T29 x11_2 x15_2).f1), .int .i64 ((rd_T29 x11_2 x15_2).f2)]) ?_ 2 _ rfl; (with_reducible repeat (first | refine blk_drewN ?_ _ | refine blk_drew ?_ | refine blk_alloc ?_ _)); refine blk_put (cs := #[.int .i64 ((rd_T29 x11_2 x15_2).f0), .string ((rd_T29 x11_2 x15_2).f1), .int .i64 0]) ?_ 2 _ rfl; (with_reducible repeat (first | refine blk_drewN ?_ _ | refine blk_drew ?_ | refine blk_alloc ?_ _)); refine blk_put (cs := #[.int .i64 ((rd_T29 x11_2 x15_2).f0), .string (⟨#[]⟩ : ByteArray), .int .i64 0]) ?_ 1 _ rfl; (with_reducible repeat (first | refine blk_drewN ?_ _ | refine blk_drew ?_ | refine blk_alloc ?_ _)); refine blk_put (cs := #[.int .i64 0, .string (⟨#[]⟩ : ByteArray), .int .i64 0]) ?_ 0 _ rfl; (with_reducible repeat (first | refine blk_drewN ?_ _ | refine blk_drew ?_ | refine blk_alloc ?_ _)); exact BK159.out) hg (Kd.R_away HO_14.out (fun _ hk => hk.2))); have n2_ := Aside0.mk (hb); have n3_ := Aside0.mk (ho); clear HO_11; clear BK159; clear HB; clear HO_14; have HO_11 := n0_; have BK159 := n1_; have HB := n2_; have HO165 := n3_; clear n0_ n1_ n2_ n3_; clear ho hb hg hat))
                                        go_roundg k2
                                        case measure => have := HJ11.out; have := HK2.out; omega
                                        case rel => exact ⟨(x11_2), (y163), (wrap64 (x15_2 + 1)), (by first | rfl | (simp; done) | (simp [*]; done)), H', ⟨by have := HJ11.out; have := HK2.out; omega⟩, ⟨by (with_reducible repeat (first | apply Kd.R_alloc | apply Kd.R_drewN | apply Kd.R_drew)); exact Kd.R_mono HO_11.out (fun _ hk => hk.2)⟩, ⟨by (with_reducible repeat (first | apply Kd.R_alloc | apply Kd.R_drewN | apply Kd.R_drew)); exact Kd.R_mono HO165.out (fun _ hk => hk.1)⟩, ⟨by repeat (first | (with_reducible first | exact HB.out | apply below_alloc | apply pw_below_drewN | apply below_drew1 | refine below_set ?_ GE159.out) | exact HB.out)⟩⟩
                                      · rw [if_neg c39] at H
                                        exact absurd H (by simp)
                                  · rw [if_neg c28] at H
                                    exact absurd H (by simp)
                                · rw [if_neg c27] at H
                                  exact absurd H (by simp)
                              · rw [if_neg c25] at H
                                have c25b0 : (((rd_T29 x11_2 x15_2).f0) == 1) = false := beq_eq_false_iff_ne.mpr c25
                                have c25b1 : (((rd_T29 x11_2 x15_2).f0) != 1) = true := bne_iff_ne.mpr c25
                                by_cases c45 : x14_2.length < 4398046511104
                                · rw [if_pos c45] at H
                                  have LMc45 := Aside0.mk c45
                                  clear c45
                                  obtain ⟨y166, hy166⟩ : ∃ y_ : List (S29), y_ = (x14_2 ++ [(⟨(rd_T29 x11_2 x15_2).f0, (rd_T29 x11_2 x15_2).f1, wrap64 (((rd_T29 x11_2 x15_2).f2) + (zS0.size : Int))⟩ : S29)]) := ⟨_, rfl⟩
                                  replace H : (copydesklaw09_LexerJoins.l0 k2 t144 zS0 zS1 x11_2 y166 (wrap64 (x15_2 + 1))) = some r := by first | (rw [hy166]; with_reducible exact H) | (have H2_ := (Option.bind_some _ _).symm.trans H; rw [hy166]; with_reducible exact H2_) | (have H2_ := (Option.bind_some _ _).symm.trans H; with_reducible exact H2_) | with_reducible exact H | (rw [hy166]; exact H) | exact H
                                  have Ny166 := Aside0.mk hy166
                                  clear hy166
                                  have H' := Aside0.mk H
                                  clear H
                                  obtain ⟨Ao46, co46, eo46⟩ := Kd.R_slice HO_11.out
                                  subst eo46
                                  have p158 : 0 ≤ (x15_2 : Int) := of_decide_eq_true (by first | (with_reducible assumption) | assumption)
                                  have q158 : x15_2 < (x11_2.length : Int) := of_decide_eq_true (by first | (with_reducible assumption) | assumption)
                                  obtain ⟨ad158, e158, hx158_0, hx158_1, hx158_2⟩ := at_T29 (Kd.R_reads' HO_11.out).2.2 x15_2 p158 q158
                                  cases e158
                                  replace p158 := eq_true p158
                                  replace q158 := eq_true q158
                                  go_wp2_with (first | ((with_reducible refine gate_dst (N := 16) rfl ?_); refine box_event ?hg (N := 16) ?hd (cs := #[.int .i64 0, .string (⟨#[]⟩ : ByteArray), .int .i64 0]) (t := 29) ?hr ?_; (case hd => rfl); (case hg => rfl); (case hr => first | (go_simp; done) | (go_simp; rfl)); intro gb159 hg w47 hbox hb; have n0_ := Aside0.mk (Kd.R_below (Kd.R_elderB (by (with_reducible repeat (first | apply Kd.R_alloc | apply Kd.R_drewN | apply Kd.R_drew)); exact HO_11.out) gb159 (Nat.le_of_eq hg.symm)) hb); have n1_ := Aside0.mk (Kd.R_below (Kd.R_elderB (by (with_reducible repeat (first | apply Kd.R_alloc | apply Kd.R_drewN | apply Kd.R_drew)); exact HO_14.out) gb159 (Nat.le_of_eq hg.symm)) hb); have n2_ := Aside0.mk (below_step (by repeat (first | (with_reducible first | exact HB.out | apply below_alloc | apply pw_below_drewN | apply below_drew1) | exact HB.out)) hb); have n3_ := Aside0.mk (hbox); have n4_ := Aside0.mk ((by rw [hg]; exact (below_size (by repeat (first | (with_reducible first | exact HB.out | apply below_alloc | apply pw_below_drewN | apply below_drew1) | exact HB.out))) : w.heap.size ≤ gb159)); have n5_ := Aside0.mk ((by rw [hg]; exact (below_size (by repeat (first | (with_reducible first | exact HB.out | apply below_alloc | apply pw_below_drewN | apply below_drew1) | exact HB.out))) : w.heap.size ≤ gb159)); clear HO_11; clear HO_14; clear HB; have HO_11 := n0_; have HO_14 := n1_; have HB := n2_; have BK159 := n3_; have GW159 := n4_; have GE159 := n5_; clear n0_ n1_ n2_ n3_ n4_ n5_; clear hb hbox hg; have hcz48_0 : w47.cell? ⟨gb159, 0, none⟩ = some (.int .i64 0) := (blk_cell BK159.out 0).trans rfl; have hcz48_1 : w47.cell? ⟨gb159, 1, none⟩ = some (.string (⟨#[]⟩ : ByteArray)) := (blk_cell BK159.out 1).trans rfl; have hcz48_2 : w47.cell? ⟨gb159, 2, none⟩ = some (.int .i64 0) := (blk_cell BK159.out 2).trans rfl; have hcz48y : (((w47.setCell ⟨gb159, 0, none⟩ (.int .i64 ((rd_T29 x11_2 x15_2).f0))).setCell ⟨gb159, 1, none⟩ (.string ((rd_T29 x11_2 x15_2).f1))).setCell ⟨gb159, 2, none⟩ (.int .i64 ((rd_T29 x11_2 x15_2).f2))).cell? ⟨gb159, 2, none⟩ = some (.int .i64 ((rd_T29 x11_2 x15_2).f2)) := (blk_cell (blk_put (blk_put (blk_put BK159.out 0 (.int .i64 ((rd_T29 x11_2 x15_2).f0)) rfl) 1 (.string ((rd_T29 x11_2 x15_2).f1)) rfl) 2 (.int .i64 ((rd_T29 x11_2 x15_2).f2)) rfl) 2).trans rfl; have hfz48_0 := blk_frozen BK159.out 0; have hfz48_1 := blk_frozen BK159.out 1; have hfz48_2 := blk_frozen BK159.out 2; obtain ⟨Ao49, co49, eo49⟩ := Kd.R_slice HO_14.out; subst eo49) | ((with_reducible refine gate_builtin (b := .append) (xs := #[.tmp 106, .tmp 108]) rfl ?_); at_builtin; refine Kd.R_append k29 (w0 := w) w.heap.size rfl (.tmp 106) (.tmp 108) 27 29 (.agg #[(.int .i64 0), (.string ⟨#[]⟩), (.int .i64 0)]) 32 rfl Tryd.underlying27 info29 rfl (by decide) (by omega) (.slice Ao49 x14_2.length co49) x14_2 (⟨(rd_T29 x11_2 x15_2).f0, (rd_T29 x11_2 x15_2).f1, wrap64 (((rd_T29 x11_2 x15_2).f2) + (zS0.size : Int))⟩ : S29) [.int .i64 ((rd_T29 x11_2 x15_2).f0), .string ((rd_T29 x11_2 x15_2).f1), .int .i64 (wrap64 (((rd_T29 x11_2 x15_2).f2) + (zS0.size : Int)))] (fun k_ => some k_ ≠ (.slice (some ad158) x11_2.length co46 : Value).ownBlock ∧ k_ ≠ gb159) (fun _ => False) rfl (by first | (go_simp; done) | (go_simp; rfl)) ?aP (fun _ hk => hk.elim) ?aF ?aO ?aB ?aS ?aL ?_; (case aP => exact k29_mkM _ _ _ (⟨(rd_T29 x11_2 x15_2).f0, (rd_T29 x11_2 x15_2).f1, wrap64 (((rd_T29 x11_2 x15_2).f2) + (zS0.size : Int))⟩ : S29)); (case aB => exact (by repeat (first | (with_reducible first | exact HB.out | apply below_alloc | apply pw_below_drewN | apply below_drew1 | refine below_set ?_ GE159.out) | exact HB.out))); (case aF => exact (fun k_ hk => ⟨Kd.fresh' (Kd.R_lt (by (with_reducible repeat (first | apply Kd.R_alloc | apply Kd.R_drewN | apply Kd.R_drew)); exact (Kd.R_mono (Kd.R_far (p := ⟨gb159, 2, none⟩) (Kd.R_far (p := ⟨gb159, 2, none⟩) (Kd.R_far (p := ⟨gb159, 1, none⟩) (Kd.R_far (p := ⟨gb159, 0, none⟩) (Kd.R_mono HO_11.out (fun k_ hk => (⟨hk, hk.2⟩ : _ ∧ k_ ≠ gb159))) (fun _ hk => hk.2) (.int .i64 ((rd_T29 x11_2 x15_2).f0))) (fun _ hk => hk.2) (.string ((rd_T29 x11_2 x15_2).f1))) (fun _ hk => hk.2) (.int .i64 ((rd_T29 x11_2 x15_2).f2))) (fun _ hk => hk.2) (.int .i64 (wrap64 (((rd_T29 x11_2 x15_2).f2) + (zS0.size : Int))))) (fun _ h_ => h_.1)))) k_ hk, Kd.freshB (g := gb159) (o := .cells #[.int .i64 ((rd_T29 x11_2 x15_2).f0), .string ((rd_T29 x11_2 x15_2).f1), .int .i64 (wrap64 (((rd_T29 x11_2 x15_2).f2) + (zS0.size : Int)))] 29 (0, 0)) (by (with_reducible repeat (first | refine blk_drewN ?_ _ | refine blk_drew ?_ | refine blk_alloc ?_ _)); refine blk_put (cs := #[.int .i64 ((rd_T29 x11_2 x15_2).f0), .string ((rd_T29 x11_2 x15_2).f1), .int .i64 ((rd_T29 x11_2 x15_2).f2)]) ?_ 2 _ rfl; (with_reducible repeat (first | refine blk_drewN ?_ _ | refine blk_drew ?_ | refine blk_alloc ?_ _)); refine blk_put (cs := #[.int .i64 ((rd_T29 x11_2 x15_2).f0), .string ((rd_T29 x11_2 x15_2).f1), .int .i64 0]) ?_ 2 _ rfl; (with_reducible repeat (first | refine blk_drewN ?_ _ | refine blk_drew ?_ | refine blk_alloc ?_ _)); refine blk_put (cs := #[.int .i64 ((rd_T29 x11_2 x15_2).f0), .string (⟨#[]⟩ : ByteArray), .int .i64 0]) ?_ 1 _ rfl; (with_reducible repeat (first | refine blk_drewN ?_ _ | refine blk_drew ?_ | refine blk_alloc ?_ _)); refine blk_put (cs := #[.int .i64 0, .string (⟨#[]⟩ : ByteArray), .int .i64 0]) ?_ 0 _ rfl; (with_reducible repeat (first | refine blk_drewN ?_ _ | refine blk_drew ?_ | refine blk_alloc ?_ _)); exact BK159.out) k_ hk⟩)); (case aO => exact (by (with_reducible repeat (first | apply Kd.R_alloc | apply Kd.R_drewN | apply Kd.R_drew)); exact Kd.R_mono (Kd.R_far (p := ⟨gb159, 2, none⟩) (Kd.R_far (p := ⟨gb159, 2, none⟩) (Kd.R_far (p := ⟨gb159, 1, none⟩) (Kd.R_far (p := ⟨gb159, 0, none⟩) (Kd.R_mono HO_14.out (fun k_ hk => (⟨hk, hk.2⟩ : _ ∧ k_ ≠ gb159))) (fun _ hk => hk.2) (.int .i64 ((rd_T29 x11_2 x15_2).f0))) (fun _ hk => hk.2) (.string ((rd_T29 x11_2 x15_2).f1))) (fun _ hk => hk.2) (.int .i64 ((rd_T29 x11_2 x15_2).f2))) (fun _ hk => hk.2) (.int .i64 (wrap64 (((rd_T29 x11_2 x15_2).f2) + (zS0.size : Int))))) (fun _ hk => ⟨hk.1.1, hk.1.2⟩))); (case aS => exact (below_size (by repeat (first | (with_reducible first | exact HB.out | apply below_alloc | apply pw_below_drewN | apply below_drew1 | refine below_set ?_ GE159.out) | exact HB.out)))); (case aL => have := LMc45.out; omega); intro v167 w50 ho hb hg hat; rw [← Ny166.out] at ho; have n0_ := Aside0.mk (Kd.R_after (ok := (fun k_ => k_ ≠ gb159)) (by (with_reducible repeat (first | apply Kd.R_alloc | apply Kd.R_drewN | apply Kd.R_drew)); exact Kd.R_mono (Kd.R_far (p := ⟨gb159, 2, none⟩) (Kd.R_far (p := ⟨gb159, 2, none⟩) (Kd.R_far (p := ⟨gb159, 1, none⟩) (Kd.R_far (p := ⟨gb159, 0, none⟩) (Kd.R_mono HO_11.out (fun k_ hk => (⟨hk, hk.2⟩ : _ ∧ k_ ≠ gb159))) (fun _ hk => hk.2) (.int .i64 ((rd_T29 x11_2 x15_2).f0))) (fun _ hk => hk.2) (.string ((rd_T29 x11_2 x15_2).f1))) (fun _ hk => hk.2) (.int .i64 ((rd_T29 x11_2 x15_2).f2))) (fun _ hk => hk.2) (.int .i64 (wrap64 (((rd_T29 x11_2 x15_2).f2) + (zS0.size : Int))))) (fun _ hk => ⟨hk.1.2, hk.1.1⟩)) hg hat); have n1_ := Aside0.mk (blk_grown (g := gb159) (o := .cells #[.int .i64 ((rd_T29 x11_2 x15_2).f0), .string ((rd_T29 x11_2 x15_2).f1), .int .i64 (wrap64 (((rd_T29 x11_2 x15_2).f2) + (zS0.size : Int)))] 29 (0, 0)) (by (with_reducible repeat (first | refine blk_drewN ?_ _ | refine blk_drew ?_ | refine blk_alloc ?_ _)); refine blk_put (cs := #[.int .i64 ((rd_T29 x11_2 x15_2).f0), .string ((rd_T29 x11_2 x15_2).f1), .int .i64 ((rd_T29 x11_2 x15_2).f2)]) ?_ 2 _ rfl; (with_reducible repeat (first | refine blk_drewN ?_ _ | refine blk_drew ?_ | refine blk_alloc ?_ _)); refine blk_put (cs := #[.int .i64 ((rd_T29 x11_2 x15_2).f0), .string ((rd_T29 x11_2 x15_2).f1), .int .i64 0]) ?_ 2 _ rfl; (with_reducible repeat (first | refine blk_drewN ?_ _ | refine blk_drew ?_ | refine blk_alloc ?_ _)); refine blk_put (cs := #[.int .i64 ((rd_T29 x11_2 x15_2).f0), .string (⟨#[]⟩ : ByteArray), .int .i64 0]) ?_ 1 _ rfl; (with_reducible repeat (first | refine blk_drewN ?_ _ | refine blk_drew ?_ | refine blk_alloc ?_ _)); refine blk_put (cs := #[.int .i64 0, .string (⟨#[]⟩ : ByteArray), .int .i64 0]) ?_ 0 _ rfl; (with_reducible repeat (first | refine blk_drewN ?_ _ | refine blk_drew ?_ | refine blk_alloc ?_ _)); exact BK159.out) hg (Kd.R_away HO_14.out (fun _ hk => hk.2))); have n2_ := Aside0.mk (hb); have n3_ := Aside0.mk (ho); clear HO_11; clear BK159; clear HB; clear HO_14; have HO_11 := n0_; have BK159 := n1_; have HB := n2_; have HO168 := n3_; clear n0_ n1_ n2_ n3_; clear ho hb hg hat))
                                  go_roundg k2
                                  case measure => have := HJ11.out; have := HK2.out; omega
                                  case rel => exact ⟨(x11_2), (y166), (wrap64 (x15_2 + 1)), (by first | rfl | (simp; done) | (simp [*]; done)), H', ⟨by have := HJ11.out; have := HK2.out; omega⟩, ⟨by (with_reducible repeat (first | apply Kd.R_alloc | apply Kd.R_drewN | apply Kd.R_drew)); exact Kd.R_mono HO_11.out (fun _ hk => hk.2)⟩, ⟨by (with_reducible repeat (first | apply Kd.R_alloc | apply Kd.R_drewN | apply Kd.R_drew)); exact Kd.R_mono HO168.out (fun _ hk => hk.1)⟩, ⟨by repeat (first | (with_reducible first | exact HB.out | apply below_alloc | apply pw_below_drewN | apply below_drew1 | refine below_set ?_ GE159.out) | exact HB.out)⟩⟩
                                · rw [if_neg c45] at H
                                  exact absurd H (by simp)
                            · rw [if_neg c24] at H
                              have c24b0 : decide (0 < (x14_2.length : Int)) = false := decide_eq_false c24
                              have c24b1 : decide (0 < x14_2.length) = false := decide_eq_false (by omega)
                              clear c24
                              by_cases c51 : x14_2.length < 4398046511104
                              · rw [if_pos c51] at H
                                have LMc51 := Aside0.mk c51
                                clear c51
                                obtain ⟨y169, hy169⟩ : ∃ y_ : List (S29), y_ = (x14_2 ++ [(⟨(rd_T29 x11_2 x15_2).f0, (rd_T29 x11_2 x15_2).f1, wrap64 (((rd_T29 x11_2 x15_2).f2) + (zS0.size : Int))⟩ : S29)]) := ⟨_, rfl⟩
                                replace H : (copydesklaw09_LexerJoins.l0 k2 t144 zS0 zS1 x11_2 y169 (wrap64 (x15_2 + 1))) = some r := by first | (rw [hy169]; with_reducible exact H) | (have H2_ := (Option.bind_some _ _).symm.trans H; rw [hy169]; with_reducible exact H2_) | (have H2_ := (Option.bind_some _ _).symm.trans H; with_reducible exact H2_) | with_reducible exact H | (rw [hy169]; exact H) | exact H
                                have Ny169 := Aside0.mk hy169
                                clear hy169
                                have H' := Aside0.mk H
                                clear H
                                obtain ⟨Ao52, co52, eo52⟩ := Kd.R_slice HO_11.out
                                subst eo52
                                have p158 : 0 ≤ (x15_2 : Int) := of_decide_eq_true (by first | (with_reducible assumption) | assumption)
                                have q158 : x15_2 < (x11_2.length : Int) := of_decide_eq_true (by first | (with_reducible assumption) | assumption)
                                obtain ⟨ad158, e158, hx158_0, hx158_1, hx158_2⟩ := at_T29 (Kd.R_reads' HO_11.out).2.2 x15_2 p158 q158
                                cases e158
                                replace p158 := eq_true p158
                                replace q158 := eq_true q158
                                go_wp2_with (first | ((with_reducible refine gate_dst (N := 16) rfl ?_); refine box_event ?hg (N := 16) ?hd (cs := #[.int .i64 0, .string (⟨#[]⟩ : ByteArray), .int .i64 0]) (t := 29) ?hr ?_; (case hd => rfl); (case hg => rfl); (case hr => first | (go_simp; done) | (go_simp; rfl)); intro gb159 hg w53 hbox hb; have n0_ := Aside0.mk (Kd.R_below (Kd.R_elderB (by (with_reducible repeat (first | apply Kd.R_alloc | apply Kd.R_drewN | apply Kd.R_drew)); exact HO_11.out) gb159 (Nat.le_of_eq hg.symm)) hb); have n1_ := Aside0.mk (Kd.R_below (Kd.R_elderB (by (with_reducible repeat (first | apply Kd.R_alloc | apply Kd.R_drewN | apply Kd.R_drew)); exact HO_14.out) gb159 (Nat.le_of_eq hg.symm)) hb); have n2_ := Aside0.mk (below_step (by repeat (first | (with_reducible first | exact HB.out | apply below_alloc | apply pw_below_drewN | apply below_drew1) | exact HB.out)) hb); have n3_ := Aside0.mk (hbox); have n4_ := Aside0.mk ((by rw [hg]; exact (below_size (by repeat (first | (with_reducible first | exact HB.out | apply below_alloc | apply pw_below_drewN | apply below_drew1) | exact HB.out))) : w.heap.size ≤ gb159)); have n5_ := Aside0.mk ((by rw [hg]; exact (below_size (by repeat (first | (with_reducible first | exact HB.out | apply below_alloc | apply pw_below_drewN | apply below_drew1) | exact HB.out))) : w.heap.size ≤ gb159)); clear HO_11; clear HO_14; clear HB; have HO_11 := n0_; have HO_14 := n1_; have HB := n2_; have BK159 := n3_; have GW159 := n4_; have GE159 := n5_; clear n0_ n1_ n2_ n3_ n4_ n5_; clear hb hbox hg; have hcz54_0 : w53.cell? ⟨gb159, 0, none⟩ = some (.int .i64 0) := (blk_cell BK159.out 0).trans rfl; have hcz54_1 : w53.cell? ⟨gb159, 1, none⟩ = some (.string (⟨#[]⟩ : ByteArray)) := (blk_cell BK159.out 1).trans rfl; have hcz54_2 : w53.cell? ⟨gb159, 2, none⟩ = some (.int .i64 0) := (blk_cell BK159.out 2).trans rfl; have hcz54y : (((w53.setCell ⟨gb159, 0, none⟩ (.int .i64 ((rd_T29 x11_2 x15_2).f0))).setCell ⟨gb159, 1, none⟩ (.string ((rd_T29 x11_2 x15_2).f1))).setCell ⟨gb159, 2, none⟩ (.int .i64 ((rd_T29 x11_2 x15_2).f2))).cell? ⟨gb159, 2, none⟩ = some (.int .i64 ((rd_T29 x11_2 x15_2).f2)) := (blk_cell (blk_put (blk_put (blk_put BK159.out 0 (.int .i64 ((rd_T29 x11_2 x15_2).f0)) rfl) 1 (.string ((rd_T29 x11_2 x15_2).f1)) rfl) 2 (.int .i64 ((rd_T29 x11_2 x15_2).f2)) rfl) 2).trans rfl; have hfz54_0 := blk_frozen BK159.out 0; have hfz54_1 := blk_frozen BK159.out 1; have hfz54_2 := blk_frozen BK159.out 2; obtain ⟨Ao55, co55, eo55⟩ := Kd.R_slice HO_14.out; subst eo55) | ((with_reducible refine gate_builtin (b := .append) (xs := #[.tmp 106, .tmp 108]) rfl ?_); at_builtin; refine Kd.R_append k29 (w0 := w) w.heap.size rfl (.tmp 106) (.tmp 108) 27 29 (.agg #[(.int .i64 0), (.string ⟨#[]⟩), (.int .i64 0)]) 32 rfl Tryd.underlying27 info29 rfl (by decide) (by omega) (.slice Ao55 x14_2.length co55) x14_2 (⟨(rd_T29 x11_2 x15_2).f0, (rd_T29 x11_2 x15_2).f1, wrap64 (((rd_T29 x11_2 x15_2).f2) + (zS0.size : Int))⟩ : S29) [.int .i64 ((rd_T29 x11_2 x15_2).f0), .string ((rd_T29 x11_2 x15_2).f1), .int .i64 (wrap64 (((rd_T29 x11_2 x15_2).f2) + (zS0.size : Int)))] (fun k_ => some k_ ≠ (.slice (some ad158) x11_2.length co52 : Value).ownBlock ∧ k_ ≠ gb159) (fun _ => False) rfl (by first | (go_simp; done) | (go_simp; rfl)) ?aP (fun _ hk => hk.elim) ?aF ?aO ?aB ?aS ?aL ?_; (case aP => exact k29_mkM _ _ _ (⟨(rd_T29 x11_2 x15_2).f0, (rd_T29 x11_2 x15_2).f1, wrap64 (((rd_T29 x11_2 x15_2).f2) + (zS0.size : Int))⟩ : S29)); (case aB => exact (by repeat (first | (with_reducible first | exact HB.out | apply below_alloc | apply pw_below_drewN | apply below_drew1 | refine below_set ?_ GE159.out) | exact HB.out))); (case aF => exact (fun k_ hk => ⟨Kd.fresh' (Kd.R_lt (by (with_reducible repeat (first | apply Kd.R_alloc | apply Kd.R_drewN | apply Kd.R_drew)); exact (Kd.R_mono (Kd.R_far (p := ⟨gb159, 2, none⟩) (Kd.R_far (p := ⟨gb159, 2, none⟩) (Kd.R_far (p := ⟨gb159, 1, none⟩) (Kd.R_far (p := ⟨gb159, 0, none⟩) (Kd.R_mono HO_11.out (fun k_ hk => (⟨hk, hk.2⟩ : _ ∧ k_ ≠ gb159))) (fun _ hk => hk.2) (.int .i64 ((rd_T29 x11_2 x15_2).f0))) (fun _ hk => hk.2) (.string ((rd_T29 x11_2 x15_2).f1))) (fun _ hk => hk.2) (.int .i64 ((rd_T29 x11_2 x15_2).f2))) (fun _ hk => hk.2) (.int .i64 (wrap64 (((rd_T29 x11_2 x15_2).f2) + (zS0.size : Int))))) (fun _ h_ => h_.1)))) k_ hk, Kd.freshB (g := gb159) (o := .cells #[.int .i64 ((rd_T29 x11_2 x15_2).f0), .string ((rd_T29 x11_2 x15_2).f1), .int .i64 (wrap64 (((rd_T29 x11_2 x15_2).f2) + (zS0.size : Int)))] 29 (0, 0)) (by (with_reducible repeat (first | refine blk_drewN ?_ _ | refine blk_drew ?_ | refine blk_alloc ?_ _)); refine blk_put (cs := #[.int .i64 ((rd_T29 x11_2 x15_2).f0), .string ((rd_T29 x11_2 x15_2).f1), .int .i64 ((rd_T29 x11_2 x15_2).f2)]) ?_ 2 _ rfl; (with_reducible repeat (first | refine blk_drewN ?_ _ | refine blk_drew ?_ | refine blk_alloc ?_ _)); refine blk_put (cs := #[.int .i64 ((rd_T29 x11_2 x15_2).f0), .string ((rd_T29 x11_2 x15_2).f1), .int .i64 0]) ?_ 2 _ rfl; (with_reducible repeat (first | refine blk_drewN ?_ _ | refine blk_drew ?_ | refine blk_alloc ?_ _)); refine blk_put (cs := #[.int .i64 ((rd_T29 x11_2 x15_2).f0), .string (⟨#[]⟩ : ByteArray), .int .i64 0]) ?_ 1 _ rfl; (with_reducible repeat (first | refine blk_drewN ?_ _ | refine blk_drew ?_ | refine blk_alloc ?_ _)); refine blk_put (cs := #[.int .i64 0, .string (⟨#[]⟩ : ByteArray), .int .i64 0]) ?_ 0 _ rfl; (with_reducible repeat (first | refine blk_drewN ?_ _ | refine blk_drew ?_ | refine blk_alloc ?_ _)); exact BK159.out) k_ hk⟩)); (case aO => exact (by (with_reducible repeat (first | apply Kd.R_alloc | apply Kd.R_drewN | apply Kd.R_drew)); exact Kd.R_mono (Kd.R_far (p := ⟨gb159, 2, none⟩) (Kd.R_far (p := ⟨gb159, 2, none⟩) (Kd.R_far (p := ⟨gb159, 1, none⟩) (Kd.R_far (p := ⟨gb159, 0, none⟩) (Kd.R_mono HO_14.out (fun k_ hk => (⟨hk, hk.2⟩ : _ ∧ k_ ≠ gb159))) (fun _ hk => hk.2) (.int .i64 ((rd_T29 x11_2 x15_2).f0))) (fun _ hk => hk.2) (.string ((rd_T29 x11_2 x15_2).f1))) (fun _ hk => hk.2) (.int .i64 ((rd_T29 x11_2 x15_2).f2))) (fun _ hk => hk.2) (.int .i64 (wrap64 (((rd_T29 x11_2 x15_2).f2) + (zS0.size : Int))))) (fun _ hk => ⟨hk.1.1, hk.1.2⟩))); (case aS => exact (below_size (by repeat (first | (with_reducible first | exact HB.out | apply below_alloc | apply pw_below_drewN | apply below_drew1 | refine below_set ?_ GE159.out) | exact HB.out)))); (case aL => have := LMc51.out; omega); intro v170 w56 ho hb hg hat; rw [← Ny169.out] at ho; have n0_ := Aside0.mk (Kd.R_after (ok := (fun k_ => k_ ≠ gb159)) (by (with_reducible repeat (first | apply Kd.R_alloc | apply Kd.R_drewN | apply Kd.R_drew)); exact Kd.R_mono (Kd.R_far (p := ⟨gb159, 2, none⟩) (Kd.R_far (p := ⟨gb159, 2, none⟩) (Kd.R_far (p := ⟨gb159, 1, none⟩) (Kd.R_far (p := ⟨gb159, 0, none⟩) (Kd.R_mono HO_11.out (fun k_ hk => (⟨hk, hk.2⟩ : _ ∧ k_ ≠ gb159))) (fun _ hk => hk.2) (.int .i64 ((rd_T29 x11_2 x15_2).f0))) (fun _ hk => hk.2) (.string ((rd_T29 x11_2 x15_2).f1))) (fun _ hk => hk.2) (.int .i64 ((rd_T29 x11_2 x15_2).f2))) (fun _ hk => hk.2) (.int .i64 (wrap64 (((rd_T29 x11_2 x15_2).f2) + (zS0.size : Int))))) (fun _ hk => ⟨hk.1.2, hk.1.1⟩)) hg hat); have n1_ := Aside0.mk (blk_grown (g := gb159) (o := .cells #[.int .i64 ((rd_T29 x11_2 x15_2).f0), .string ((rd_T29 x11_2 x15_2).f1), .int .i64 (wrap64 (((rd_T29 x11_2 x15_2).f2) + (zS0.size : Int)))] 29 (0, 0)) (by (with_reducible repeat (first | refine blk_drewN ?_ _ | refine blk_drew ?_ | refine blk_alloc ?_ _)); refine blk_put (cs := #[.int .i64 ((rd_T29 x11_2 x15_2).f0), .string ((rd_T29 x11_2 x15_2).f1), .int .i64 ((rd_T29 x11_2 x15_2).f2)]) ?_ 2 _ rfl; (with_reducible repeat (first | refine blk_drewN ?_ _ | refine blk_drew ?_ | refine blk_alloc ?_ _)); refine blk_put (cs := #[.int .i64 ((rd_T29 x11_2 x15_2).f0), .string ((rd_T29 x11_2 x15_2).f1), .int .i64 0]) ?_ 2 _ rfl; (with_reducible repeat (first | refine blk_drewN ?_ _ | refine blk_drew ?_ | refine blk_alloc ?_ _)); refine blk_put (cs := #[.int .i64 ((rd_T29 x11_2 x15_2).f0), .string (⟨#[]⟩ : ByteArray), .int .i64 0]) ?_ 1 _ rfl; (with_reducible repeat (first | refine blk_drewN ?_ _ | refine blk_drew ?_ | refine blk_alloc ?_ _)); refine blk_put (cs := #[.int .i64 0, .string (⟨#[]⟩ : ByteArray), .int .i64 0]) ?_ 0 _ rfl; (with_reducible repeat (first | refine blk_drewN ?_ _ | refine blk_drew ?_ | refine blk_alloc ?_ _)); exact BK159.out) hg (Kd.R_away HO_14.out (fun _ hk => hk.2))); have n2_ := Aside0.mk (hb); have n3_ := Aside0.mk (ho); clear HO_11; clear BK159; clear HB; clear HO_14; have HO_11 := n0_; have BK159 := n1_; have HB := n2_; have HO171 := n3_; clear n0_ n1_ n2_ n3_; clear ho hb hg hat))
                                go_roundg k2
                                case measure => have := HJ11.out; have := HK2.out; omega
                                case rel => exact ⟨(x11_2), (y169), (wrap64 (x15_2 + 1)), (by first | rfl | (simp; done) | (simp [*]; done)), H', ⟨by have := HJ11.out; have := HK2.out; omega⟩, ⟨by (with_reducible repeat (first | apply Kd.R_alloc | apply Kd.R_drewN | apply Kd.R_drew)); exact Kd.R_mono HO_11.out (fun _ hk => hk.2)⟩, ⟨by (with_reducible repeat (first | apply Kd.R_alloc | apply Kd.R_drewN | apply Kd.R_drew)); exact Kd.R_mono HO171.out (fun _ hk => hk.1)⟩, ⟨by repeat (first | (with_reducible first | exact HB.out | apply below_alloc | apply pw_below_drewN | apply below_drew1 | refine below_set ?_ GE159.out) | exact HB.out)⟩⟩
                              · rw [if_neg c51] at H
                                exact absurd H (by simp)
                          · rw [if_neg c23] at H
                            have c23b0 : (x15_2 == 0) = false := beq_eq_false_iff_ne.mpr c23
                            have c23b1 : (x15_2 != 0) = true := bne_iff_ne.mpr c23
                            by_cases c57 : x14_2.length < 4398046511104
                            · rw [if_pos c57] at H
                              have LMc57 := Aside0.mk c57
                              clear c57
                              obtain ⟨y172, hy172⟩ : ∃ y_ : List (S29), y_ = (x14_2 ++ [(⟨(rd_T29 x11_2 x15_2).f0, (rd_T29 x11_2 x15_2).f1, wrap64 (((rd_T29 x11_2 x15_2).f2) + (zS0.size : Int))⟩ : S29)]) := ⟨_, rfl⟩
                              replace H : (copydesklaw09_LexerJoins.l0 k2 t144 zS0 zS1 x11_2 y172 (wrap64 (x15_2 + 1))) = some r := by first | (rw [hy172]; with_reducible exact H) | (have H2_ := (Option.bind_some _ _).symm.trans H; rw [hy172]; with_reducible exact H2_) | (have H2_ := (Option.bind_some _ _).symm.trans H; with_reducible exact H2_) | with_reducible exact H | (rw [hy172]; exact H) | exact H
                              have Ny172 := Aside0.mk hy172
                              clear hy172
                              have H' := Aside0.mk H
                              clear H
                              obtain ⟨Ao58, co58, eo58⟩ := Kd.R_slice HO_11.out
                              subst eo58
                              have p158 : 0 ≤ (x15_2 : Int) := of_decide_eq_true (by first | (with_reducible assumption) | assumption)
                              have q158 : x15_2 < (x11_2.length : Int) := of_decide_eq_true (by first | (with_reducible assumption) | assumption)
                              obtain ⟨ad158, e158, hx158_0, hx158_1, hx158_2⟩ := at_T29 (Kd.R_reads' HO_11.out).2.2 x15_2 p158 q158
                              cases e158
                              replace p158 := eq_true p158
                              replace q158 := eq_true q158
                              go_wp2_with (first | ((with_reducible refine gate_dst (N := 16) rfl ?_); refine box_event ?hg (N := 16) ?hd (cs := #[.int .i64 0, .string (⟨#[]⟩ : ByteArray), .int .i64 0]) (t := 29) ?hr ?_; (case hd => rfl); (case hg => rfl); (case hr => first | (go_simp; done) | (go_simp; rfl)); intro gb159 hg w59 hbox hb; have n0_ := Aside0.mk (Kd.R_below (Kd.R_elderB (by (with_reducible repeat (first | apply Kd.R_alloc | apply Kd.R_drewN | apply Kd.R_drew)); exact HO_11.out) gb159 (Nat.le_of_eq hg.symm)) hb); have n1_ := Aside0.mk (Kd.R_below (Kd.R_elderB (by (with_reducible repeat (first | apply Kd.R_alloc | apply Kd.R_drewN | apply Kd.R_drew)); exact HO_14.out) gb159 (Nat.le_of_eq hg.symm)) hb); have n2_ := Aside0.mk (below_step (by repeat (first | (with_reducible first | exact HB.out | apply below_alloc | apply pw_below_drewN | apply below_drew1) | exact HB.out)) hb); have n3_ := Aside0.mk (hbox); have n4_ := Aside0.mk ((by rw [hg]; exact (below_size (by repeat (first | (with_reducible first | exact HB.out | apply below_alloc | apply pw_below_drewN | apply below_drew1) | exact HB.out))) : w.heap.size ≤ gb159)); have n5_ := Aside0.mk ((by rw [hg]; exact (below_size (by repeat (first | (with_reducible first | exact HB.out | apply below_alloc | apply pw_below_drewN | apply below_drew1) | exact HB.out))) : w.heap.size ≤ gb159)); clear HO_11; clear HO_14; clear HB; have HO_11 := n0_; have HO_14 := n1_; have HB := n2_; have BK159 := n3_; have GW159 := n4_; have GE159 := n5_; clear n0_ n1_ n2_ n3_ n4_ n5_; clear hb hbox hg; have hcz60_0 : w59.cell? ⟨gb159, 0, none⟩ = some (.int .i64 0) := (blk_cell BK159.out 0).trans rfl; have hcz60_1 : w59.cell? ⟨gb159, 1, none⟩ = some (.string (⟨#[]⟩ : ByteArray)) := (blk_cell BK159.out 1).trans rfl; have hcz60_2 : w59.cell? ⟨gb159, 2, none⟩ = some (.int .i64 0) := (blk_cell BK159.out 2).trans rfl; have hcz60y : (((w59.setCell ⟨gb159, 0, none⟩ (.int .i64 ((rd_T29 x11_2 x15_2).f0))).setCell ⟨gb159, 1, none⟩ (.string ((rd_T29 x11_2 x15_2).f1))).setCell ⟨gb159, 2, none⟩ (.int .i64 ((rd_T29 x11_2 x15_2).f2))).cell? ⟨gb159, 2, none⟩ = some (.int .i64 ((rd_T29 x11_2 x15_2).f2)) := (blk_cell (blk_put (blk_put (blk_put BK159.out 0 (.int .i64 ((rd_T29 x11_2 x15_2).f0)) rfl) 1 (.string ((rd_T29 x11_2 x15_2).f1)) rfl) 2 (.int .i64 ((rd_T29 x11_2 x15_2).f2)) rfl) 2).trans rfl; have hfz60_0 := blk_frozen BK159.out 0; have hfz60_1 := blk_frozen BK159.out 1; have hfz60_2 := blk_frozen BK159.out 2; obtain ⟨Ao61, co61, eo61⟩ := Kd.R_slice HO_14.out; subst eo61) | ((with_reducible refine gate_builtin (b := .append) (xs := #[.tmp 106, .tmp 108]) rfl ?_); at_builtin; refine Kd.R_append k29 (w0 := w) w.heap.size rfl (.tmp 106) (.tmp 108) 27 29 (.agg #[(.int .i64 0), (.string ⟨#[]⟩), (.int .i64 0)]) 32 rfl Tryd.underlying27 info29 rfl (by decide) (by omega) (.slice Ao61 x14_2.length co61) x14_2 (⟨(rd_T29 x11_2 x15_2).f0, (rd_T29 x11_2 x15_2).f1, wrap64 (((rd_T29 x11_2 x15_2).f2) + (zS0.size : Int))⟩ : S29) [.int .i64 ((rd_T29 x11_2 x15_2).f0), .string ((rd_T29 x11_2 x15_2).f1), .int .i64 (wrap64 (((rd_T29 x11_2 x15_2).f2) + (zS0.size : Int)))] (fun k_ => some k_ ≠ (.slice (some ad158) x11_2.length co58 : Value).ownBlock ∧ k_ ≠ gb159) (fun _ => False) rfl (by first | (go_simp; done) | (go_simp; rfl)) ?aP (fun _ hk => hk.elim) ?aF ?aO ?aB ?aS ?aL ?_; (case aP => exact k29_mkM _ _ _ (⟨(rd_T29 x11_2 x15_2).f0, (rd_T29 x11_2 x15_2).f1, wrap64 (((rd_T29 x11_2 x15_2).f2) + (zS0.size : Int))⟩ : S29)); (case aB => exact (by repeat (first | (with_reducible first | exact HB.out | apply below_alloc | apply pw_below_drewN | apply below_drew1 | refine below_set ?_ GE159.out) | exact HB.out))); (case aF => exact (fun k_ hk => ⟨Kd.fresh' (Kd.R_lt (by (with_reducible repeat (first | apply Kd.R_alloc | apply Kd.R_drewN | apply Kd.R_drew)); exact (Kd.R_mono (Kd.R_far (p := ⟨gb159, 2, none⟩) (Kd.R_far (p := ⟨gb159, 2, none⟩) (Kd.R_far (p := ⟨gb159, 1, none⟩) (Kd.R_far (p := ⟨gb159, 0, none⟩) (Kd.R_mono HO_11.out (fun k_ hk => (⟨hk, hk.2⟩ : _ ∧ k_ ≠ gb159))) (fun _ hk => hk.2) (.int .i64 ((rd_T29 x11_2 x15_2).f0))) (fun _ hk => hk.2) (.string ((rd_T29 x11_2 x15_2).f1))) (fun _ hk => hk.2) (.int .i64 ((rd_T29 x11_2 x15_2).f2))) (fun _ hk => hk.2) (.int .i64 (wrap64 (((rd_T29 x11_2 x15_2).f2) + (zS0.size : Int))))) (fun _ h_ => h_.1)))) k_ hk, Kd.freshB (g := gb159) (o := .cells #[.int .i64 ((rd_T29 x11_2 x15_2).f0), .string ((rd_T29 x11_2 x15_2).f1), .int .i64 (wrap64 (((rd_T29 x11_2 x15_2).f2) + (zS0.size : Int)))] 29 (0, 0)) (by (with_reducible repeat (first | refine blk_drewN ?_ _ | refine blk_drew ?_ | refine blk_alloc ?_ _)); refine blk_put (cs := #[.int .i64 ((rd_T29 x11_2 x15_2).f0), .string ((rd_T29 x11_2 x15_2).f1), .int .i64 ((rd_T29 x11_2 x15_2).f2)]) ?_ 2 _ rfl; (with_reducible repeat (first | refine blk_drewN ?_ _ | refine blk_drew ?_ | refine blk_alloc ?_ _)); refine blk_put (cs := #[.int .i64 ((rd_T29 x11_2 x15_2).f0), .string ((rd_T29 x11_2 x15_2).f1), .int .i64 0]) ?_ 2 _ rfl; (with_reducible repeat (first | refine blk_drewN ?_ _ | refine blk_drew ?_ | refine blk_alloc ?_ _)); refine blk_put (cs := #[.int .i64 ((rd_T29 x11_2 x15_2).f0), .string (⟨#[]⟩ : ByteArray), .int .i64 0]) ?_ 1 _ rfl; (with_reducible repeat (first | refine blk_drewN ?_ _ | refine blk_drew ?_ | refine blk_alloc ?_ _)); refine blk_put (cs := #[.int .i64 0, .string (⟨#[]⟩ : ByteArray), .int .i64 0]) ?_ 0 _ rfl; (with_reducible repeat (first | refine blk_drewN ?_ _ | refine blk_drew ?_ | refine blk_alloc ?_ _)); exact BK159.out) k_ hk⟩)); (case aO => exact (by (with_reducible repeat (first | apply Kd.R_alloc | apply Kd.R_drewN | apply Kd.R_drew)); exact Kd.R_mono (Kd.R_far (p := ⟨gb159, 2, none⟩) (Kd.R_far (p := ⟨gb159, 2, none⟩) (Kd.R_far (p := ⟨gb159, 1, none⟩) (Kd.R_far (p := ⟨gb159, 0, none⟩) (Kd.R_mono HO_14.out (fun k_ hk => (⟨hk, hk.2⟩ : _ ∧ k_ ≠ gb159))) (fun _ hk => hk.2) (.int .i64 ((rd_T29 x11_2 x15_2).f0))) (fun _ hk => hk.2) (.string ((rd_T29 x11_2 x15_2).f1))) (fun _ hk => hk.2) (.int .i64 ((rd_T29 x11_2 x15_2).f2))) (fun _ hk => hk.2) (.int .i64 (wrap64 (((rd_T29 x11_2 x15_2).f2) + (zS0.size : Int))))) (fun _ hk => ⟨hk.1.1, hk.1.2⟩))); (case aS => exact (below_size (by repeat (first | (with_reducible first | exact HB.out | apply below_alloc | apply pw_below_drewN | apply below_drew1 | refine below_set ?_ GE159.out) | exact HB.out)))); (case aL => have := LMc57.out; omega); intro v173 w62 ho hb hg hat; rw [← Ny172.out] at ho; have n0_ := Aside0.mk (Kd.R_after (ok := (fun k_ => k_ ≠ gb159)) (by (with_reducible repeat (first | apply Kd.R_alloc | apply Kd.R_drewN | apply Kd.R_drew)); exact Kd.R_mono (Kd.R_far (p := ⟨gb159, 2, none⟩) (Kd.R_far (p := ⟨gb159, 2, none⟩) (Kd.R_far (p := ⟨gb159, 1, none⟩) (Kd.R_far (p := ⟨gb159, 0, none⟩) (Kd.R_mono HO_11.out (fun k_ hk => (⟨hk, hk.2⟩ : _ ∧ k_ ≠ gb159))) (fun _ hk => hk.2) (.int .i64 ((rd_T29 x11_2 x15_2).f0))) (fun _ hk => hk.2) (.string ((rd_T29 x11_2 x15_2).f1))) (fun _ hk => hk.2) (.int .i64 ((rd_T29 x11_2 x15_2).f2))) (fun _ hk => hk.2) (.int .i64 (wrap64 (((rd_T29 x11_2 x15_2).f2) + (zS0.size : Int))))) (fun _ hk => ⟨hk.1.2, hk.1.1⟩)) hg hat); have n1_ := Aside0.mk (blk_grown (g := gb159) (o := .cells #[.int .i64 ((rd_T29 x11_2 x15_2).f0), .string ((rd_T29 x11_2 x15_2).f1), .int .i64 (wrap64 (((rd_T29 x11_2 x15_2).f2) + (zS0.size : Int)))] 29 (0, 0)) (by (with_reducible repeat (first | refine blk_drewN ?_ _ | refine blk_drew ?_ | refine blk_alloc ?_ _)); refine blk_put (cs := #[.int .i64 ((rd_T29 x11_2 x15_2).f0), .string ((rd_T29 x11_2 x15_2).f1), .int .i64 ((rd_T29 x11_2 x15_2).f2)]) ?_ 2 _ rfl; (with_reducible repeat (first | refine blk_drewN ?_ _ | refine blk_drew ?_ | refine blk_alloc ?_ _)); refine blk_put (cs := #[.int .i64 ((rd_T29 x11_2 x15_2).f0), .string ((rd_T29 x11_2 x15_2).f1), .int .i64 0]) ?_ 2 _ rfl; (with_reducible repeat (first | refine blk_drewN ?_ _ | refine blk_drew ?_ | refine blk_alloc ?_ _)); refine blk_put (cs := #[.int .i64 ((rd_T29 x11_2 x15_2).f0), .string (⟨#[]⟩ : ByteArray), .int .i64 0]) ?_ 1 _ rfl; (with_reducible repeat (first | refine blk_drewN ?_ _ | refine blk_drew ?_ | refine blk_alloc ?_ _)); refine blk_put (cs := #[.int .i64 0, .string (⟨#[]⟩ : ByteArray), .int .i64 0]) ?_ 0 _ rfl; (with_reducible repeat (first | refine blk_drewN ?_ _ | refine blk_drew ?_ | refine blk_alloc ?_ _)); exact BK159.out) hg (Kd.R_away HO_14.out (fun _ hk => hk.2))); have n2_ := Aside0.mk (hb); have n3_ := Aside0.mk (ho); clear HO_11; clear BK159; clear HB; clear HO_14; have HO_11 := n0_; have BK159 := n1_; have HB := n2_; have HO174 := n3_; clear n0_ n1_ n2_ n3_; clear ho hb hg hat))
                              go_roundg k2
                              case measure => have := HJ11.out; have := HK2.out; omega
                              case rel => exact ⟨(x11_2), (y172), (wrap64 (x15_2 + 1)), (by first | rfl | (simp; done) | (simp [*]; done)), H', ⟨by have := HJ11.out; have := HK2.out; omega⟩, ⟨by (with_reducible repeat (first | apply Kd.R_alloc | apply Kd.R_drewN | apply Kd.R_drew)); exact Kd.R_mono HO_11.out (fun _ hk => hk.2)⟩, ⟨by (with_reducible repeat (first | apply Kd.R_alloc | apply Kd.R_drewN | apply Kd.R_drew)); exact Kd.R_mono HO174.out (fun _ hk => hk.1)⟩, ⟨by repeat (first | (with_reducible first | exact HB.out | apply below_alloc | apply pw_below_drewN | apply below_drew1 | refine below_set ?_ GE159.out) | exact HB.out)⟩⟩
                            · rw [if_neg c57] at H
                              exact absurd H (by simp)
                        · rw [if_neg c22] at H
                          exact absurd H (by simp)
                      · rw [if_neg c21] at H
                        have c21b0 : decide (x15_2 < (x11_2.length : Int)) = false := decide_eq_false c21
                        clear c21
                        by_cases c63 : zS0.size + zS1.size ≤ 9223372036854775807
                        · rw [if_pos c63] at H
                          have c63b0 := eq_true c63
                          have c63b1 : decide (zS0.size + zS1.size ≤ 9223372036854775807) = true := decide_eq_true c63
                          try have c63b2 : (9223372036854775807 < zS0.size + zS1.size) = False := eq_false (Nat.not_lt.2 c63)
                          replace H := Option.bind_eq_some_iff.mp H
                          obtain ⟨⟨t175, t176, t177⟩, A640, H⟩ := H
                          replace H : (if t144 = true then (if t177 = 0 then (if t176 = 0 then ((copydesklaw09_same.f k2 t175 x14_2).bind fun t180 => (some t180)) else (some false)) else (some false)) else (some false)) = some r := H
                          have A64 := Aside0.mk A640
                          clear A640
                          by_cases c65 : t144 = true
                          · subst c65
                            have H1 : (if t177 = 0 then (if t176 = 0 then ((copydesklaw09_same.f k2 t175 x14_2).bind fun t180 => (some t180)) else (some false)) else (some false)) = some r := by rw [if_pos rfl] at H; exact H
                            clear H
                            have H := H1
                            clear H1
                            by_cases c66 : t177 = 0
                            · rw [if_pos c66] at H
                              have c66b0 : (t177 == 0) = true := beq_iff_eq.mpr c66
                              have c66b1 : (t177 != 0) = false := bne_eq_false_iff_eq.mpr c66
                              clear c66
                              by_cases c67 : t176 = 0
                              · rw [if_pos c67] at H
                                have c67b0 : (t176 == 0) = true := beq_iff_eq.mpr c67
                                have c67b1 : (t176 != 0) = false := bne_eq_false_iff_eq.mpr c67
                                clear c67
                                replace H := Option.bind_eq_some_iff.mp H
                                obtain ⟨t180, A680, H⟩ := H
                                replace H : (some t180) = some r := H
                                have A68 := Aside0.mk A680
                                clear A680
                                obtain rfl := Option.some.inj H
                                obtain ⟨Ao69, co69, eo69⟩ := Kd.R_slice HO_11.out
                                subst eo69
                                go_wp2_with (first | ((with_reducible refine gate_callee (f := 11) rfl ?_); refine goesL_ (some 114) rfl rfl Tryd.func11 (by kernel_rfl) rfl #[.string (zS0 ++ zS1)] rfl (by (try simp only [List.map_toArray, List.map_cons, List.map_nil]); first | done | (simp only [hji4, hji7]; rfl) | rfl | (simp only [List.length_drop, List.length_take]; rfl)) ?_; (with_reducible refine (lexer_Tokens.calls (zS0 ++ zS1) t175 t176 t177 _ ?side99 A64.out).mono ?_); (case side99 => first | exact HG.out | exact Go.Proofs.YtbgnkoecfokmaaaDoor.Lex.Gl.below HG.out (by repeat (first | (with_reducible first | exact HB.out | apply below_alloc | apply pw_below_drewN | apply below_drew1) | exact HB.out))); rintro e w70 ⟨v178, rfl, ho0, hb⟩; refine ⟨_, rfl, ?_⟩; have n0_ := Aside0.mk (Kd.R_elder' (by (with_reducible repeat (first | apply Kd.R_alloc | apply Kd.R_drewN | apply Kd.R_drew)); exact HO_11.out) (Kd.R_base ho0) hb); have n1_ := Aside0.mk (Kd.R_elder' (by (with_reducible repeat (first | apply Kd.R_alloc | apply Kd.R_drewN | apply Kd.R_drew)); exact HO_14.out) (Kd.R_base ho0) hb); have n2_ := Aside0.mk (Kd.R_lower (Kd.R_new' (Kd.R_new' ho0 (Kd.R_lt (by (with_reducible repeat (first | apply Kd.R_alloc | apply Kd.R_drewN | apply Kd.R_drew)); exact HO_11.out))) (Kd.R_lt (by (with_reducible repeat (first | apply Kd.R_alloc | apply Kd.R_drewN | apply Kd.R_drew)); exact HO_14.out))) (below_size (by repeat (first | (with_reducible first | exact HB.out | apply below_alloc | apply pw_below_drewN | apply below_drew1) | exact HB.out)))); have n3_ := Aside0.mk (below_step (by repeat (first | (with_reducible first | exact HB.out | apply below_alloc | apply pw_below_drewN | apply below_drew1) | exact HB.out)) hb); clear HO_11; clear HO_14; clear HB; have HO_11 := n0_; have HO_14 := n1_; have HO179 := n2_; have HB := n3_; clear n0_ n1_ n2_ n3_; (try clear hb); (try clear hb2); (try clear hk); (try clear hi); (try clear ho0); obtain ⟨Ao71, co71, eo71⟩ := Kd.R_slice HO179.out; subst eo71; obtain ⟨Ao72, co72, eo72⟩ := Kd.R_slice HO_14.out; subst eo72) | (go_at_call 12; (with_reducible refine (copydesklaw09_same.calls k2 _ _ t175 _ _ x14_2 t180 _ ?side1 ?side2 ?side3 ?side4 A68.out).mono ?_); (case side1 => repeat (first | exact (Kd.R_reads' HO179.out).2.2 | (with_reducible refine Kd.C_alloc ?_ _) | (with_reducible refine Kd.C_drewN ?_ _) | (with_reducible refine Kd.C_drew ?_))); (case side2 => exact (Kd.R_reads' HO179.out).2.1); (case side3 => repeat (first | exact (Kd.R_reads' HO_14.out).2.2 | (with_reducible refine Kd.C_alloc ?_ _) | (with_reducible refine Kd.C_drewN ?_ _) | (with_reducible refine Kd.C_drew ?_))); (case side4 => exact (Kd.R_reads' HO_14.out).2.1); rintro e w' ⟨rfl, ⟨nd, rfl⟩⟩))
                                go_ret
                                exact ⟨by first | rfl | (simp [errW_none, errW_some] <;> rfl) | (simp only [← hji4, ← hji7]; first | rfl | (simp [errW_none, errW_some] <;> rfl)) | (simp [*, errW_none, errW_some] <;> rfl), by repeat (first | (with_reducible first | exact HB.out | apply below_alloc | apply pw_below_drewN | apply below_drew1) | exact HB.out)⟩
                              · rw [if_neg c67] at H
                                have c67b0 : (t176 == 0) = false := beq_eq_false_iff_ne.mpr c67
                                have c67b1 : (t176 != 0) = true := bne_iff_ne.mpr c67
                                obtain rfl := Option.some.inj H
                                obtain ⟨Ao73, co73, eo73⟩ := Kd.R_slice HO_11.out
                                subst eo73
                                go_wp2_with (first | ((with_reducible refine gate_callee (f := 11) rfl ?_); refine goesL_ (some 114) rfl rfl Tryd.func11 (by kernel_rfl) rfl #[.string (zS0 ++ zS1)] rfl (by (try simp only [List.map_toArray, List.map_cons, List.map_nil]); first | done | (simp only [hji4, hji7]; rfl) | rfl | (simp only [List.length_drop, List.length_take]; rfl)) ?_; (with_reducible refine (lexer_Tokens.calls (zS0 ++ zS1) t175 t176 t177 _ ?side99 A64.out).mono ?_); (case side99 => first | exact HG.out | exact Go.Proofs.YtbgnkoecfokmaaaDoor.Lex.Gl.below HG.out (by repeat (first | (with_reducible first | exact HB.out | apply below_alloc | apply pw_below_drewN | apply below_drew1) | exact HB.out))); rintro e w74 ⟨v178, rfl, ho0, hb⟩; refine ⟨_, rfl, ?_⟩; have n0_ := Aside0.mk (Kd.R_elder' (by (with_reducible repeat (first | apply Kd.R_alloc | apply Kd.R_drewN | apply Kd.R_drew)); exact HO_11.out) (Kd.R_base ho0) hb); have n1_ := Aside0.mk (Kd.R_elder' (by (with_reducible repeat (first | apply Kd.R_alloc | apply Kd.R_drewN | apply Kd.R_drew)); exact HO_14.out) (Kd.R_base ho0) hb); have n2_ := Aside0.mk (Kd.R_lower (Kd.R_new' (Kd.R_new' ho0 (Kd.R_lt (by (with_reducible repeat (first | apply Kd.R_alloc | apply Kd.R_drewN | apply Kd.R_drew)); exact HO_11.out))) (Kd.R_lt (by (with_reducible repeat (first | apply Kd.R_alloc | apply Kd.R_drewN | apply Kd.R_drew)); exact HO_14.out))) (below_size (by repeat (first | (with_reducible first | exact HB.out | apply below_alloc | apply pw_below_drewN | apply below_drew1) | exact HB.out)))); have n3_ := Aside0.mk (below_step (by repeat (first | (with_reducible first | exact HB.out | apply below_alloc | apply pw_below_drewN | apply below_drew1) | exact HB.out)) hb); clear HO_11; clear HO_14; clear HB; have HO_11 := n0_; have HO_14 := n1_; have HO179 := n2_; have HB := n3_; clear n0_ n1_ n2_ n3_; (try clear hb); (try clear hb2); (try clear hk); (try clear hi); (try clear ho0)))
                                go_ret
                                exact ⟨by first | rfl | (simp [errW_none, errW_some] <;> rfl) | (simp only [← hji4, ← hji7]; first | rfl | (simp [errW_none, errW_some] <;> rfl)) | (simp [*, errW_none, errW_some] <;> rfl), by repeat (first | (with_reducible first | exact HB.out | apply below_alloc | apply pw_below_drewN | apply below_drew1) | exact HB.out)⟩
                            · rw [if_neg c66] at H
                              have c66b0 : (t177 == 0) = false := beq_eq_false_iff_ne.mpr c66
                              have c66b1 : (t177 != 0) = true := bne_iff_ne.mpr c66
                              obtain rfl := Option.some.inj H
                              obtain ⟨Ao75, co75, eo75⟩ := Kd.R_slice HO_11.out
                              subst eo75
                              go_wp2_with (first | ((with_reducible refine gate_callee (f := 11) rfl ?_); refine goesL_ (some 114) rfl rfl Tryd.func11 (by kernel_rfl) rfl #[.string (zS0 ++ zS1)] rfl (by (try simp only [List.map_toArray, List.map_cons, List.map_nil]); first | done | (simp only [hji4, hji7]; rfl) | rfl | (simp only [List.length_drop, List.length_take]; rfl)) ?_; (with_reducible refine (lexer_Tokens.calls (zS0 ++ zS1) t175 t176 t177 _ ?side99 A64.out).mono ?_); (case side99 => first | exact HG.out | exact Go.Proofs.YtbgnkoecfokmaaaDoor.Lex.Gl.below HG.out (by repeat (first | (with_reducible first | exact HB.out | apply below_alloc | apply pw_below_drewN | apply below_drew1) | exact HB.out))); rintro e w76 ⟨v178, rfl, ho0, hb⟩; refine ⟨_, rfl, ?_⟩; have n0_ := Aside0.mk (Kd.R_elder' (by (with_reducible repeat (first | apply Kd.R_alloc | apply Kd.R_drewN | apply Kd.R_drew)); exact HO_11.out) (Kd.R_base ho0) hb); have n1_ := Aside0.mk (Kd.R_elder' (by (with_reducible repeat (first | apply Kd.R_alloc | apply Kd.R_drewN | apply Kd.R_drew)); exact HO_14.out) (Kd.R_base ho0) hb); have n2_ := Aside0.mk (Kd.R_lower (Kd.R_new' (Kd.R_new' ho0 (Kd.R_lt (by (with_reducible repeat (first | apply Kd.R_alloc | apply Kd.R_drewN | apply Kd.R_drew)); exact HO_11.out))) (Kd.R_lt (by (with_reducible repeat (first | apply Kd.R_alloc | apply Kd.R_drewN | apply Kd.R_drew)); exact HO_14.out))) (below_size (by repeat (first | (with_reducible first | exact HB.out | apply below_alloc | apply pw_below_drewN | apply below_drew1) | exact HB.out)))); have n3_ := Aside0.mk (below_step (by repeat (first | (with_reducible first | exact HB.out | apply below_alloc | apply pw_below_drewN | apply below_drew1) | exact HB.out)) hb); clear HO_11; clear HO_14; clear HB; have HO_11 := n0_; have HO_14 := n1_; have HO179 := n2_; have HB := n3_; clear n0_ n1_ n2_ n3_; (try clear hb); (try clear hb2); (try clear hk); (try clear hi); (try clear ho0)))
                              go_ret
                              exact ⟨by first | rfl | (simp [errW_none, errW_some] <;> rfl) | (simp only [← hji4, ← hji7]; first | rfl | (simp [errW_none, errW_some] <;> rfl)) | (simp [*, errW_none, errW_some] <;> rfl), by repeat (first | (with_reducible first | exact HB.out | apply below_alloc | apply pw_below_drewN | apply below_drew1) | exact HB.out)⟩
                          · replace c65 := Bool.eq_false_iff.mpr c65
                            subst c65
                            have H1 : (some false) = some r := by rw [if_neg (show ¬ (false = true) by decide)] at H; exact H
                            clear H
                            have H := H1
                            clear H1
                            obtain rfl := Option.some.inj H
                            obtain ⟨Ao77, co77, eo77⟩ := Kd.R_slice HO_11.out
                            subst eo77
                            go_wp2_with (first | ((with_reducible refine gate_callee (f := 11) rfl ?_); refine goesL_ (some 114) rfl rfl Tryd.func11 (by kernel_rfl) rfl #[.string (zS0 ++ zS1)] rfl (by (try simp only [List.map_toArray, List.map_cons, List.map_nil]); first | done | (simp only [hji4, hji7]; rfl) | rfl | (simp only [List.length_drop, List.length_take]; rfl)) ?_; (with_reducible refine (lexer_Tokens.calls (zS0 ++ zS1) t175 t176 t177 _ ?side99 A64.out).mono ?_); (case side99 => first | exact HG.out | exact Go.Proofs.YtbgnkoecfokmaaaDoor.Lex.Gl.below HG.out (by repeat (first | (with_reducible first | exact HB.out | apply below_alloc | apply pw_below_drewN | apply below_drew1) | exact HB.out))); rintro e w78 ⟨v178, rfl, ho0, hb⟩; refine ⟨_, rfl, ?_⟩; have n0_ := Aside0.mk (Kd.R_elder' (by (with_reducible repeat (first | apply Kd.R_alloc | apply Kd.R_drewN | apply Kd.R_drew)); exact HO_11.out) (Kd.R_base ho0) hb); have n1_ := Aside0.mk (Kd.R_elder' (by (with_reducible repeat (first | apply Kd.R_alloc | apply Kd.R_drewN | apply Kd.R_drew)); exact HO_14.out) (Kd.R_base ho0) hb); have n2_ := Aside0.mk (Kd.R_lower (Kd.R_new' (Kd.R_new' ho0 (Kd.R_lt (by (with_reducible repeat (first | apply Kd.R_alloc | apply Kd.R_drewN | apply Kd.R_drew)); exact HO_11.out))) (Kd.R_lt (by (with_reducible repeat (first | apply Kd.R_alloc | apply Kd.R_drewN | apply Kd.R_drew)); exact HO_14.out))) (below_size (by repeat (first | (with_reducible first | exact HB.out | apply below_alloc | apply pw_below_drewN | apply below_drew1) | exact HB.out)))); have n3_ := Aside0.mk (below_step (by repeat (first | (with_reducible first | exact HB.out | apply below_alloc | apply pw_below_drewN | apply below_drew1) | exact HB.out)) hb); clear HO_11; clear HO_14; clear HB; have HO_11 := n0_; have HO_14 := n1_; have HO179 := n2_; have HB := n3_; clear n0_ n1_ n2_ n3_; (try clear hb); (try clear hb2); (try clear hk); (try clear hi); (try clear ho0)))
                            go_ret
                            exact ⟨by first | rfl | (simp [errW_none, errW_some] <;> rfl) | (simp only [← hji4, ← hji7]; first | rfl | (simp [errW_none, errW_some] <;> rfl)) | (simp [*, errW_none, errW_some] <;> rfl), by repeat (first | (with_reducible first | exact HB.out | apply below_alloc | apply pw_below_drewN | apply below_drew1) | exact HB.out)⟩
                        · rw [if_neg c63] at H
                          exact absurd H (by simp)
                · rw [if_neg c18] at H
                  exact absurd H (by simp)
        · rw [if_neg c9] at H
          exact absurd H (by simp)
      · rw [if_neg c8] at H
        exact absurd H (by simp)
    · rw [if_neg c6] at H
      exact absurd H (by simp)
  · rw [if_neg c5] at H
    exact absurd H (by simp)

/-- THE ONE PURE STATEMENT of copydesklaw09_LexerJoins: yours. -/
def copydesklaw09_LexerJoins.Pure : Prop := ∀ (a0 : ByteArray) (a1 : ByteArray), a0.size ≤ 140737488351232 → a1.size ≤ 140737488351232 → ∃ k, copydesklaw09_LexerJoins.f k a0 a1 = some true
theorem copydesklaw09_LexerJoins.walk (P : copydesklaw09_LexerJoins.Pure) (a0 : ByteArray) (a1 : ByteArray) (w : World) (w0 : a0.size ≤ 140737488351232) (w1 : a1.size ≤ 140737488351232) (hG : Go.Proofs.YtbgnkoecfokmaaaDoor.Lex.Gl w) :
    Calls Tryd.prog 4 #[.string a0, .string a1] w fun e w' => e = .returned (.bool true) ∧ Below w.heap.size w w' := by
  obtain ⟨k, h⟩ := P a0 a1 w0 w1
  refine (copydesklaw09_LexerJoins.calls k a0 a1 true w hG h).mono ?_
  rintro e w' ⟨rfl, hd⟩
  exact ⟨rfl, hd⟩

end Go.Proofs.YtbgnkoecfokmaaaDoor.PX
