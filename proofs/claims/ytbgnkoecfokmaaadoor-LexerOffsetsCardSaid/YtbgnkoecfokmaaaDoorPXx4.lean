-- Written by wip/pr.py, a program of this session, that runs the kit's printer with contracts of our own put in. Lean checks it.
import Derived.Test.YtbgnkoecfokmaaaDoorPXx0
import Derived.Test.YtbgnkoecfokmaaaDoorPXx2
import Derived.Test.YtbgnkoecfokmaaaDoorLexJoin
namespace Go.Proofs.YtbgnkoecfokmaaaDoor.PX
open Go.RowKit Go.Proofs.YtbgnkoecfokmaaaDoorW.PrintWords Go.Proofs.YtbgnkoecfokmaaaDoorW.PrintLast Go.Proofs.YtbgnkoecfokmaaaDoorW.PrintMore
attribute [local go_sem] max2_int min2_int max_two min_two max_three min_three max_four min_four   -- for this text's walks alone
set_option linter.unusedVariables false
set_option linter.unusedSimpArgs false

/-! ### copydesklaw09_LexerOffsets: function 6 -/
mutual
def copydesklaw09_LexerOffsets.l0 : Nat → Bool → ByteArray → List (S29) → Int → Bool → Int → Option (Bool)
  | 0, _, _, _, _, _, _ => none
  | k + 1, x3, x4, x5, x8, x9, x10 => if x10 < (x5.length : Int) then (if 0 ≤ x10 then (if ((rd_T29 x5 x10).f2) < x8 then (copydesklaw09_LexerOffsets.j1 k x3 x4 x5 x8 x9 x10 true ((rd_T29 x5 x10).f0) ((rd_T29 x5 x10).f1) ((rd_T29 x5 x10).f2)) else (copydesklaw09_LexerOffsets.j1 k x3 x4 x5 x8 x9 x10 (decide (((rd_T29 x5 x10).f2) ≥ (x4.size : Int))) ((rd_T29 x5 x10).f0) ((rd_T29 x5 x10).f1) ((rd_T29 x5 x10).f2))) else (none)) else (if x3 = true then (if x9 = true then (some false) else (some (x8 == (x4.size : Int)))) else (some false))
def copydesklaw09_LexerOffsets.j1 : Nat → Bool → ByteArray → List (S29) → Int → Bool → Int → Bool → Int → ByteArray → Int → Option (Bool)
  | 0, _, _, _, _, _, _, _, _, _, _ => none
  | k + 1, x3, x4, x5, x8, x9, x10, x54, x189000, x189001, x189002 => if x54 = true then (some false) else (copydesklaw09_LexerOffsets.l1 k x3 x4 x5 x9 x10 x8 x189000 x189001 x189002)
def copydesklaw09_LexerOffsets.l1 : Nat → Bool → ByteArray → List (S29) → Bool → Int → Int → Int → ByteArray → Int → Option (Bool)
  | 0, _, _, _, _, _, _, _, _, _ => none
  | k + 1, x3, x4, x5, x9, x10, x12, x189000, x189001, x189002 => if x12 < x189002 then (if x9 = true then (if 0 ≤ x12 then (if x12 < (x4.size : Int) then (if (bt x4 x12) = 32 then (copydesklaw09_LexerOffsets.l1 k x3 x4 x5 x9 x10 (wrap64 (x12 + 1)) x189000 x189001 x189002) else (if (bt x4 x12) = 10 then (copydesklaw09_LexerOffsets.l1 k x3 x4 x5 x9 x10 (wrap64 (x12 + 1)) x189000 x189001 x189002) else (some false))) else (none)) else (none)) else (some false)) else (if x189000 = 1 then ((copydesklaw09_escaped.f k x189001).bind fun t189 => (if (true == x9) = true then (some false) else (if (t189.size : Int) > (wrap64 ((x4.size : Int) - x189002)) then (some false) else (if 0 ≤ x189002 then (if x189002 ≤ (wrap64 (x189002 + (t189.size : Int))) then (if (wrap64 (x189002 + (t189.size : Int))) ≤ (x4.size : Int) then (if (x4.extract (x189002 : Int).toNat ((wrap64 (x189002 + (t189.size : Int))) : Int).toNat).toList = t189.toList then (copydesklaw09_LexerOffsets.l0 k x3 x4 x5 (wrap64 (x189002 + (t189.size : Int))) false (wrap64 (x10 + 1))) else (some false)) else (none)) else (none)) else (none))))) else (if x189000 = 4 then (if 1 + x189001.size ≤ 9223372036854775807 then (if (1 + x189001.size) + 1 ≤ 9223372036854775807 then (if ((x189000 == 6) == x9) = true then (some false) else (if (1 + (x189001.size : Int) + 1) > (wrap64 ((x4.size : Int) - x189002)) then (some false) else (if 0 ≤ x189002 then (if x189002 ≤ (wrap64 (x189002 + (1 + (x189001.size : Int) + 1))) then (if (wrap64 (x189002 + (1 + (x189001.size : Int) + 1))) ≤ (x4.size : Int) then (if (x4.extract (x189002 : Int).toNat ((wrap64 (x189002 + (1 + (x189001.size : Int) + 1))) : Int).toNat).toList = (((⟨#[34]⟩ : ByteArray) ++ x189001) ++ (⟨#[34]⟩ : ByteArray)).toList then (copydesklaw09_LexerOffsets.l0 k x3 x4 x5 (wrap64 (x189002 + (1 + (x189001.size : Int) + 1))) (x189000 != 7) (wrap64 (x10 + 1))) else (some false)) else (none)) else (none)) else (none)))) else (none)) else (none)) else (if ((x189000 == 6) == x9) = true then (some false) else (if (x189001.size : Int) > (wrap64 ((x4.size : Int) - x189002)) then (some false) else (if 0 ≤ x189002 then (if x189002 ≤ (wrap64 (x189002 + (x189001.size : Int))) then (if (wrap64 (x189002 + (x189001.size : Int))) ≤ (x4.size : Int) then (if (x4.extract (x189002 : Int).toNat ((wrap64 (x189002 + (x189001.size : Int))) : Int).toNat).toList = x189001.toList then (copydesklaw09_LexerOffsets.l0 k x3 x4 x5 (wrap64 (x189002 + (x189001.size : Int))) (x189000 != 7) (wrap64 (x10 + 1))) else (some false)) else (none)) else (none)) else (none))))))
end
def copydesklaw09_LexerOffsets.f (k : Nat) (a0 : ByteArray) : Option (Bool) := (copydesklaw09_sane.f).bind fun t181 => (if 0 ≤ (mn (a0.size : Int) 1000) then (if (mn (a0.size : Int) 1000) ≤ (a0.size : Int) then ((lexer_Tokens.f (a0.extract 0 ((mn (a0.size : Int) 1000) : Int).toNat)).bind fun bt182 => (if bt182.2.2 = 0 then (copydesklaw09_LexerOffsets.l0 k t181 (a0.extract 0 ((mn (a0.size : Int) 1000) : Int).toNat) bt182.1 0 false 0) else (if t181 = true then (some ((bt182.1.length : Int) == 0)) else (some false)))) else (none)) else (none))
theorem copydesklaw09_LexerOffsets.mono_l : ∀ k, (∀ y0 y1 y2 y3 y4 y5, LeO (copydesklaw09_LexerOffsets.l0 k y0 y1 y2 y3 y4 y5) (copydesklaw09_LexerOffsets.l0 (k + 1) y0 y1 y2 y3 y4 y5)) ∧ (∀ y0 y1 y2 y3 y4 y5 y6 y7 y8 y9, LeO (copydesklaw09_LexerOffsets.j1 k y0 y1 y2 y3 y4 y5 y6 y7 y8 y9) (copydesklaw09_LexerOffsets.j1 (k + 1) y0 y1 y2 y3 y4 y5 y6 y7 y8 y9)) ∧ (∀ y0 y1 y2 y3 y4 y5 y6 y7 y8, LeO (copydesklaw09_LexerOffsets.l1 k y0 y1 y2 y3 y4 y5 y6 y7 y8) (copydesklaw09_LexerOffsets.l1 (k + 1) y0 y1 y2 y3 y4 y5 y6 y7 y8))
  | 0 => ⟨fun _ _ _ _ _ _ r h => by simp [copydesklaw09_LexerOffsets.l0] at h, fun _ _ _ _ _ _ _ _ _ _ r h => by simp [copydesklaw09_LexerOffsets.j1] at h, fun _ _ _ _ _ _ _ _ _ r h => by simp [copydesklaw09_LexerOffsets.l1] at h⟩
  | k + 1 => by
    obtain ⟨ih0, ih1, ih2⟩ := copydesklaw09_LexerOffsets.mono_l k
    refine ⟨?_, ?_, ?_⟩
    · intro y0 y1 y2 y3 y4 y5
      unfold copydesklaw09_LexerOffsets.l0
      repeat' first
      | (with_reducible exact ih0 _ _ _ _ _ _)
      | (with_reducible exact ih1 _ _ _ _ _ _ _ _ _ _)
      | (with_reducible exact ih2 _ _ _ _ _ _ _ _ _)
      | (with_reducible exact copydesklaw09_escaped.mono _ _)
      | (with_reducible exact LeO.refl _)
      | (with_reducible exact LeO.none _)
      | (with_reducible refine LeO.ite ?_ ?_)
      | (with_reducible refine LeO.bind ?_ (fun _ => ?_))
      | exact ih0 _ _ _ _ _ _
      | exact ih1 _ _ _ _ _ _ _ _ _ _
      | exact ih2 _ _ _ _ _ _ _ _ _
      | exact copydesklaw09_escaped.mono _ _
      | exact LeO.none _
      | refine LeO.ite ?_ ?_
      | refine LeO.bind ?_ (fun _ => ?_)
    · intro y0 y1 y2 y3 y4 y5 y6 y7 y8 y9
      unfold copydesklaw09_LexerOffsets.j1
      repeat' first
      | (with_reducible exact ih0 _ _ _ _ _ _)
      | (with_reducible exact ih1 _ _ _ _ _ _ _ _ _ _)
      | (with_reducible exact ih2 _ _ _ _ _ _ _ _ _)
      | (with_reducible exact copydesklaw09_escaped.mono _ _)
      | (with_reducible exact LeO.refl _)
      | (with_reducible exact LeO.none _)
      | (with_reducible refine LeO.ite ?_ ?_)
      | (with_reducible refine LeO.bind ?_ (fun _ => ?_))
      | exact ih0 _ _ _ _ _ _
      | exact ih1 _ _ _ _ _ _ _ _ _ _
      | exact ih2 _ _ _ _ _ _ _ _ _
      | exact copydesklaw09_escaped.mono _ _
      | exact LeO.none _
      | refine LeO.ite ?_ ?_
      | refine LeO.bind ?_ (fun _ => ?_)
    · intro y0 y1 y2 y3 y4 y5 y6 y7 y8
      unfold copydesklaw09_LexerOffsets.l1
      repeat' first
      | (with_reducible exact ih0 _ _ _ _ _ _)
      | (with_reducible exact ih1 _ _ _ _ _ _ _ _ _ _)
      | (with_reducible exact ih2 _ _ _ _ _ _ _ _ _)
      | (with_reducible exact copydesklaw09_escaped.mono _ _)
      | (with_reducible exact LeO.refl _)
      | (with_reducible exact LeO.none _)
      | (with_reducible refine LeO.ite ?_ ?_)
      | (with_reducible refine LeO.bind ?_ (fun _ => ?_))
      | exact ih0 _ _ _ _ _ _
      | exact ih1 _ _ _ _ _ _ _ _ _ _
      | exact ih2 _ _ _ _ _ _ _ _ _
      | exact copydesklaw09_escaped.mono _ _
      | exact LeO.none _
      | refine LeO.ite ?_ ?_
      | refine LeO.bind ?_ (fun _ => ?_)
theorem copydesklaw09_LexerOffsets.mono : ∀ a0 k, LeO (copydesklaw09_LexerOffsets.f k a0) (copydesklaw09_LexerOffsets.f (k + 1) a0) := by
  intro a0 k
  obtain ⟨ih0, ih1, ih2⟩ := copydesklaw09_LexerOffsets.mono_l k
  unfold copydesklaw09_LexerOffsets.f
  repeat' first
      | (with_reducible exact ih0 _ _ _ _ _ _)
      | (with_reducible exact ih1 _ _ _ _ _ _ _ _ _ _)
      | (with_reducible exact ih2 _ _ _ _ _ _ _ _ _)
      | (with_reducible exact copydesklaw09_escaped.mono _ _)
      | (with_reducible exact LeO.refl _)
      | (with_reducible exact LeO.none _)
      | (with_reducible refine LeO.ite ?_ ?_)
      | (with_reducible refine LeO.bind ?_ (fun _ => ?_))
      | exact ih0 _ _ _ _ _ _
      | exact ih1 _ _ _ _ _ _ _ _ _ _
      | exact ih2 _ _ _ _ _ _ _ _ _
      | exact copydesklaw09_escaped.mono _ _
      | exact LeO.none _
      | refine LeO.ite ?_ ?_
      | refine LeO.bind ?_ (fun _ => ?_)
set_option maxHeartbeats 8000000 in
set_option maxRecDepth 100000 in
theorem copydesklaw09_LexerOffsets.calls (k : Nat) (a0 : ByteArray) (r : Bool) (w : World) (hG : Go.Proofs.YtbgnkoecfokmaaaDoor.Lex.Gl w) (h : copydesklaw09_LexerOffsets.f k a0 = some r) :
    Calls Tryd.prog 6 #[.string a0] w fun e w' => e = .returned (.bool r) ∧ Below w.heap.size w w' := by
  have hu29 := Tryd.underlying29
  have HG := Aside0.mk hG
  clear hG
  have HB := Aside0.mk (Below.refl w.heap.size w)
  have H : ((copydesklaw09_sane.f).bind fun t181 => (if 0 ≤ (mn (a0.size : Int) 1000) then (if (mn (a0.size : Int) 1000) ≤ (a0.size : Int) then ((lexer_Tokens.f (a0.extract 0 ((mn (a0.size : Int) 1000) : Int).toNat)).bind fun bt182 => (if bt182.2.2 = 0 then (copydesklaw09_LexerOffsets.l0 k t181 (a0.extract 0 ((mn (a0.size : Int) 1000) : Int).toNat) bt182.1 0 false 0) else (if t181 = true then (some ((bt182.1.length : Int) == 0)) else (some false)))) else (none)) else (none))) = some r := h
  clear h
  replace H := Option.bind_eq_some_iff.mp H
  obtain ⟨t181, A20, H⟩ := H
  replace H : (if 0 ≤ (mn (a0.size : Int) 1000) then (if (mn (a0.size : Int) 1000) ≤ (a0.size : Int) then ((lexer_Tokens.f (a0.extract 0 ((mn (a0.size : Int) 1000) : Int).toNat)).bind fun bt182 => (if bt182.2.2 = 0 then (copydesklaw09_LexerOffsets.l0 k t181 (a0.extract 0 ((mn (a0.size : Int) 1000) : Int).toNat) bt182.1 0 false 0) else (if t181 = true then (some ((bt182.1.length : Int) == 0)) else (some false)))) else (none)) else (none)) = some r := H
  have A2 := Aside0.mk A20
  clear A20
  obtain ⟨ji3, hji3⟩ : ∃ j_ : Int, (mn (a0.size : Int) 1000) = j_ := ⟨_, rfl⟩
  replace H : (if 0 ≤ (ji3) then (if (ji3) ≤ (a0.size : Int) then ((lexer_Tokens.f (a0.extract 0 ((ji3) : Int).toNat)).bind fun bt182 => (if bt182.2.2 = 0 then (copydesklaw09_LexerOffsets.l0 k t181 (a0.extract 0 ((ji3) : Int).toNat) bt182.1 0 false 0) else (if t181 = true then (some ((bt182.1.length : Int) == 0)) else (some false)))) else (none)) else (none)) = some r := by first | (rw [hji3] at H; exact H) | (simp only [hji3] at H ⊢; exact H)
  (try rw [hji3] at A2)
  (try (have hji3h : ji3 ≤ 1000 := by (rw [← hji3]; unfold mn; (repeat' split) <;> omega)))
  (try (have hji3g : ji3 ≤ 64 := by omega))
  (try (have hji3l : 0 ≤ ji3 := by (rw [← hji3]; unfold mn; (repeat' split) <;> omega)))
  (try (have hji3m : 0 ≤ ji3 := by omega))
  have hji3_ : (if 1000 < (a0.size : Int) then 1000 else (a0.size : Int)) = ji3 := hji3
  by_cases c4 : 0 ≤ (ji3)
  · rw [if_pos c4] at H
    have c4b0 := eq_true c4
    have c4b1 : decide (0 ≤ (ji3)) = true := decide_eq_true c4
    clear c4
    by_cases c5 : (ji3) ≤ (a0.size : Int)
    · rw [if_pos c5] at H
      have c5b0 := eq_true c5
      have c5b1 : decide ((ji3) ≤ (a0.size : Int)) = true := decide_eq_true c5
      clear c5
      replace H := Option.bind_eq_some_iff.mp H
      obtain ⟨⟨t182, t183, t184⟩, A60, H⟩ := H
      replace H : (if t184 = 0 then (copydesklaw09_LexerOffsets.l0 k t181 (a0.extract 0 ((ji3) : Int).toNat) t182 0 false 0) else (if t181 = true then (some ((t182.length : Int) == 0)) else (some false))) = some r := H
      have A6 := Aside0.mk A60
      clear A60
      by_cases c7 : t184 = 0
      · rw [if_pos c7] at H
        have c7b0 : (t184 == 0) = true := beq_iff_eq.mpr c7
        have c7b1 : (t184 != 0) = false := bne_eq_false_iff_eq.mpr c7
        clear c7
        have H' := Aside0.mk H
        clear H
        go_enter Tryd.func6, Tryd.ntmps6
        go_wp2_with (first | ((with_reducible refine gate_callee (f := 7) rfl ?_); refine goesL_ (some 14) rfl rfl Tryd.func7 (by kernel_rfl) rfl #[] rfl (by (try simp only [List.map_toArray, List.map_cons, List.map_nil]); first | done | rfl | (simp only [List.length_drop, List.length_take]; rfl)) ?_; (with_reducible refine (copydesklaw09_sane.calls  t181 _ ?side99 A2.out).mono ?_); (case side99 => first | exact HG.out | exact Go.Proofs.YtbgnkoecfokmaaaDoor.Lex.Gl.below HG.out (by repeat (first | (with_reducible first | exact HB.out | apply below_alloc | apply pw_below_drewN | apply below_drew1) | exact HB.out))); rintro e w8 ⟨rfl, hb⟩; refine ⟨_, rfl, ?_⟩; have n0_ := Aside0.mk (below_step (by repeat (first | (with_reducible first | exact HB.out | apply below_alloc | apply pw_below_drewN | apply below_drew1) | exact HB.out)) hb); clear HB; have HB := n0_; clear n0_; (try clear hb); (try clear hb2); (try clear hk); (try clear hi)) | ((with_reducible refine gate_callee (f := 11) rfl ?_); refine goesL_ (some 22) rfl rfl Tryd.func11 (by kernel_rfl) rfl #[.string (a0.extract 0 ((ji3) : Int).toNat)] rfl (by (try simp only [List.map_toArray, List.map_cons, List.map_nil]); first | done | (simp only [hji3]; rfl) | rfl | (simp only [List.length_drop, List.length_take]; rfl)) ?_; (with_reducible refine (lexer_Tokens.calls (a0.extract 0 ((ji3) : Int).toNat) t182 t183 t184 _ ?side99 A6.out).mono ?_); (case side99 => first | exact HG.out | exact Go.Proofs.YtbgnkoecfokmaaaDoor.Lex.Gl.below HG.out (by repeat (first | (with_reducible first | exact HB.out | apply below_alloc | apply pw_below_drewN | apply below_drew1) | exact HB.out))); rintro e w9 ⟨v185, rfl, ho0, hb⟩; refine ⟨_, rfl, ?_⟩; have n0_ := Aside0.mk (Kd.R_lower ho0 (below_size (by repeat (first | (with_reducible first | exact HB.out | apply below_alloc | apply pw_below_drewN | apply below_drew1) | exact HB.out)))); have n1_ := Aside0.mk (below_step (by repeat (first | (with_reducible first | exact HB.out | apply below_alloc | apply pw_below_drewN | apply below_drew1) | exact HB.out)) hb); clear HB; have HO186 := n0_; have HB := n1_; clear n0_ n1_; (try clear hb); (try clear hb2); (try clear hk); (try clear hi); (try clear ho0)))
        generalize hzS0 : (a0.extract 0 ((ji3) : Int).toNat) = zS0 at H' ⊢
        go_loopg [8, 9, 10] k (fun kq v8 v9 v10 w' => ∃ (x8_1 : Int) (x9_1 : Bool) (x10_1 : Int), v8 = .int .i64 x8_1 ∧ v9 = .bool x9_1 ∧ v10 = .int .i64 x10_1 ∧ Aside0 (copydesklaw09_LexerOffsets.l0 kq t181 zS0 t182 x8_1 x9_1 x10_1 = some r) ∧ Aside0 (kq ≤ k) ∧ Aside0 (Kd.R k29 29 w' w.heap.size (fun _ => True) v185 t182) ∧ Aside0 (Below w.heap.size w w'))
        case atStart => exact ⟨(0), (false), (0), (by first | rfl | (simp; done) | (simp [*]; done)), (by first | rfl | (simp; done) | (simp [*]; done)), (by first | rfl | (simp; done) | (simp [*]; done)), H', ⟨Nat.le_refl _⟩, ⟨by (with_reducible repeat (first | apply Kd.R_alloc | apply Kd.R_drewN | apply Kd.R_drew)); exact HO186.out⟩, ⟨by repeat (first | (with_reducible first | exact HB.out | apply below_alloc | apply pw_below_drewN | apply below_drew1) | exact HB.out)⟩⟩
        case round =>
          clear H'
          try clear c1
          try clear p2
          try clear c4
          try clear c4b0
          try clear c4b1
          try clear c5
          try clear c5b0
          try clear c5b1
          try clear c6
          try clear c7
          try clear c7b0
          try clear c7b1
          obtain ⟨x8_1, x9_1, x10_1, rfl, rfl, rfl, HA, HK1, HO_5, HB⟩ := hrel
          cases gk with
          | zero => exact absurd HA.out (by simp [copydesklaw09_LexerOffsets.l0])
          | succ k1 =>
            have H := HA.out
            clear HA
            simp only [copydesklaw09_LexerOffsets.l0] at H
            by_cases c10 : x10_1 < (t182.length : Int)
            · rw [if_pos c10] at H
              have c10b0 : decide (x10_1 < (t182.length : Int)) = true := decide_eq_true c10
              clear c10
              by_cases c11 : 0 ≤ x10_1
              · rw [if_pos c11] at H
                have c11b0 : decide (0 ≤ x10_1) = true := decide_eq_true c11
                clear c11
                have HC12 := Aside0.mk H
                clear H
                obtain ⟨Ao13, co13, eo13⟩ := Kd.R_slice HO_5.out
                subst eo13
                have p187 : 0 ≤ (x10_1 : Int) := of_decide_eq_true (by first | (with_reducible assumption) | assumption)
                have q187 : x10_1 < (t182.length : Int) := of_decide_eq_true (by first | (with_reducible assumption) | assumption)
                obtain ⟨ad187, e187, hx187_0, hx187_1, hx187_2⟩ := at_T29 (Kd.R_reads' HO_5.out).2.2 x10_1 p187 q187
                cases e187
                replace p187 := eq_true p187
                replace q187 := eq_true q187
                go_upto_region 12 with (first | ((with_reducible refine gate_dst (N := 11) rfl ?_); (try (refine gate_guard (by rfl) ?_; dsimp only)); refine box_event ?hg (N := 11) ?hd (cs := #[.int .i64 0, .string (⟨#[]⟩ : ByteArray), .int .i64 0]) (t := 29) ?hr ?_; (case hd => rfl); (case hg => rfl); (case hr => first | (go_simp; done) | (go_simp; rfl)); intro gb188 hg w14 hbox hb; have n0_ := Aside0.mk (Kd.R_below (Kd.R_elderB (by (with_reducible repeat (first | apply Kd.R_alloc | apply Kd.R_drewN | apply Kd.R_drew)); exact HO_5.out) gb188 (Nat.le_of_eq hg.symm)) hb); have n1_ := Aside0.mk (below_step (by repeat (first | (with_reducible first | exact HB.out | apply below_alloc | apply pw_below_drewN | apply below_drew1) | exact HB.out)) hb); have n2_ := Aside0.mk (hbox); have n3_ := Aside0.mk ((by rw [hg]; exact (below_size (by repeat (first | (with_reducible first | exact HB.out | apply below_alloc | apply pw_below_drewN | apply below_drew1) | exact HB.out))) : w.heap.size ≤ gb188)); have n4_ := Aside0.mk ((by rw [hg]; exact (below_size (by repeat (first | (with_reducible first | exact HB.out | apply below_alloc | apply pw_below_drewN | apply below_drew1) | exact HB.out))) : w.heap.size ≤ gb188)); clear HO_5; clear HB; have HO_5 := n0_; have HB := n1_; have BK188 := n2_; have GW188 := n3_; have GE188 := n4_; clear n0_ n1_ n2_ n3_ n4_; clear hb hbox hg; have hcz15_0 : w14.cell? ⟨gb188, 0, none⟩ = some (.int .i64 0) := (blk_cell BK188.out 0).trans rfl; have hcz15_1 : w14.cell? ⟨gb188, 1, none⟩ = some (.string (⟨#[]⟩ : ByteArray)) := (blk_cell BK188.out 1).trans rfl; have hcz15_2 : w14.cell? ⟨gb188, 2, none⟩ = some (.int .i64 0) := (blk_cell BK188.out 2).trans rfl; have hfz15_0 := blk_frozen BK188.out 0; have hfz15_1 := blk_frozen BK188.out 1; have hfz15_2 := blk_frozen BK188.out 2))
                (try simp only [Act.put, List.setIfInBounds_toArray, List.set_cons_zero, List.set_cons_succ])
                go_cut [54] (fun v54 wc => ∃ (kq : Nat) (x54_11 : Bool), v54 = .bool x54_11 ∧ Aside0 (copydesklaw09_LexerOffsets.j1 kq t181 zS0 t182 x8_1 x9_1 x10_1 x54_11 ((rd_T29 t182 x10_1).f0) ((rd_T29 t182 x10_1).f1) ((rd_T29 t182 x10_1).f2) = some r) ∧ Aside0 (kq ≤ k1) ∧ Aside0 (Kd.R k29 29 wc w.heap.size (fun k_ => k_ ≠ gb188) (.slice (some ad187) t182.length co13) t182) ∧ Aside0 (wc.heap[gb188]? = some (.cells #[.int .i64 ((rd_T29 t182 x10_1).f0), .string ((rd_T29 t182 x10_1).f1), .int .i64 ((rd_T29 t182 x10_1).f2)] 29 (0, 0))) ∧ Aside0 (Below w.heap.size w wc))
                case first =>
                  have H := HC12.out
                  clear HC12
                  by_cases c16 : ((rd_T29 t182 x10_1).f2) < x8_1
                  · rw [if_pos c16] at H
                    have c16b0 : decide (((rd_T29 t182 x10_1).f2) < x8_1) = true := decide_eq_true c16
                    clear c16
                    (first | rw [c16b0] | (simp only [i64_w, i32_w]; rw [c16b0]) | skip)
                    have H' := Aside0.mk H
                    clear H
                    have hcz17_0 : w14.cell? ⟨gb188, 0, none⟩ = some (.int .i64 0) := (blk_cell BK188.out 0).trans rfl
                    have hcz17_1 : w14.cell? ⟨gb188, 1, none⟩ = some (.string (⟨#[]⟩ : ByteArray)) := (blk_cell BK188.out 1).trans rfl
                    have hcz17_2 : w14.cell? ⟨gb188, 2, none⟩ = some (.int .i64 0) := (blk_cell BK188.out 2).trans rfl
                    have hfz17_0 := blk_frozen BK188.out 0
                    have hfz17_1 := blk_frozen BK188.out 1
                    have hfz17_2 := blk_frozen BK188.out 2
                    go_wp2
                    go_meet
                    case rel => exact ⟨_, (true), (by first | rfl | (simp; done) | (simp [*]; done)), H', ⟨by have := HK1.out; first | omega | exact Nat.le_refl _⟩, ⟨by (with_reducible repeat (first | apply Kd.R_alloc | apply Kd.R_drewN | apply Kd.R_drew)); exact Kd.R_mono (Kd.R_far (p := ⟨gb188, 2, none⟩) (Kd.R_far (p := ⟨gb188, 1, none⟩) (Kd.R_far (p := ⟨gb188, 0, none⟩) (Kd.R_mono HO_5.out (fun k_ hk => (⟨hk, hk.2⟩ : _ ∧ k_ ≠ gb188))) (fun _ hk => hk.2) (.int .i64 ((rd_T29 t182 x10_1).f0))) (fun _ hk => hk.2) (.string ((rd_T29 t182 x10_1).f1))) (fun _ hk => hk.2) (.int .i64 ((rd_T29 t182 x10_1).f2))) (fun _ hk => hk.1.2)⟩, ⟨by (with_reducible repeat (first | refine blk_drewN ?_ _ | refine blk_drew ?_ | refine blk_alloc ?_ _)); refine blk_put (cs := #[.int .i64 ((rd_T29 t182 x10_1).f0), .string ((rd_T29 t182 x10_1).f1), .int .i64 0]) ?_ 2 _ rfl; (with_reducible repeat (first | refine blk_drewN ?_ _ | refine blk_drew ?_ | refine blk_alloc ?_ _)); refine blk_put (cs := #[.int .i64 ((rd_T29 t182 x10_1).f0), .string (⟨#[]⟩ : ByteArray), .int .i64 0]) ?_ 1 _ rfl; (with_reducible repeat (first | refine blk_drewN ?_ _ | refine blk_drew ?_ | refine blk_alloc ?_ _)); refine blk_put (cs := #[.int .i64 0, .string (⟨#[]⟩ : ByteArray), .int .i64 0]) ?_ 0 _ rfl; (with_reducible repeat (first | refine blk_drewN ?_ _ | refine blk_drew ?_ | refine blk_alloc ?_ _)); exact BK188.out⟩, ⟨by repeat (first | (with_reducible first | exact HB.out | apply below_alloc | apply pw_below_drewN | apply below_drew1 | refine below_set ?_ GE188.out) | exact HB.out)⟩⟩
                  · rw [if_neg c16] at H
                    have c16b0 : decide (((rd_T29 t182 x10_1).f2) < x8_1) = false := decide_eq_false c16
                    clear c16
                    (first | rw [c16b0] | (simp only [i64_w, i32_w]; rw [c16b0]) | skip)
                    have H' := Aside0.mk H
                    clear H
                    have hcz18_0 : w14.cell? ⟨gb188, 0, none⟩ = some (.int .i64 0) := (blk_cell BK188.out 0).trans rfl
                    have hcz18_1 : w14.cell? ⟨gb188, 1, none⟩ = some (.string (⟨#[]⟩ : ByteArray)) := (blk_cell BK188.out 1).trans rfl
                    have hcz18_2 : w14.cell? ⟨gb188, 2, none⟩ = some (.int .i64 0) := (blk_cell BK188.out 2).trans rfl
                    have hfz18_0 := blk_frozen BK188.out 0
                    have hfz18_1 := blk_frozen BK188.out 1
                    have hfz18_2 := blk_frozen BK188.out 2
                    go_wp2
                    go_meet
                    case rel => exact ⟨_, (decide (((rd_T29 t182 x10_1).f2) ≥ (zS0.size : Int))), (by first | rfl | (simp; done) | (simp only [← hji3] <;> (first | rfl | simp)) | (simp [*]; done)), H', ⟨by have := HK1.out; first | omega | exact Nat.le_refl _⟩, ⟨by (with_reducible repeat (first | apply Kd.R_alloc | apply Kd.R_drewN | apply Kd.R_drew)); exact Kd.R_mono (Kd.R_far (p := ⟨gb188, 2, none⟩) (Kd.R_far (p := ⟨gb188, 1, none⟩) (Kd.R_far (p := ⟨gb188, 0, none⟩) (Kd.R_mono HO_5.out (fun k_ hk => (⟨hk, hk.2⟩ : _ ∧ k_ ≠ gb188))) (fun _ hk => hk.2) (.int .i64 ((rd_T29 t182 x10_1).f0))) (fun _ hk => hk.2) (.string ((rd_T29 t182 x10_1).f1))) (fun _ hk => hk.2) (.int .i64 ((rd_T29 t182 x10_1).f2))) (fun _ hk => hk.1.2)⟩, ⟨by (with_reducible repeat (first | refine blk_drewN ?_ _ | refine blk_drew ?_ | refine blk_alloc ?_ _)); refine blk_put (cs := #[.int .i64 ((rd_T29 t182 x10_1).f0), .string ((rd_T29 t182 x10_1).f1), .int .i64 0]) ?_ 2 _ rfl; (with_reducible repeat (first | refine blk_drewN ?_ _ | refine blk_drew ?_ | refine blk_alloc ?_ _)); refine blk_put (cs := #[.int .i64 ((rd_T29 t182 x10_1).f0), .string (⟨#[]⟩ : ByteArray), .int .i64 0]) ?_ 1 _ rfl; (with_reducible repeat (first | refine blk_drewN ?_ _ | refine blk_drew ?_ | refine blk_alloc ?_ _)); refine blk_put (cs := #[.int .i64 0, .string (⟨#[]⟩ : ByteArray), .int .i64 0]) ?_ 0 _ rfl; (with_reducible repeat (first | refine blk_drewN ?_ _ | refine blk_drew ?_ | refine blk_alloc ?_ _)); exact BK188.out⟩, ⟨by repeat (first | (with_reducible first | exact HB.out | apply below_alloc | apply pw_below_drewN | apply below_drew1 | refine below_set ?_ GE188.out) | exact HB.out)⟩⟩
                case rest =>
                  clear HC12
                  try clear c1
                  try clear p1
                  try clear q1
                  try clear hx1
                  try clear p2
                  try clear c4
                  try clear c4b0
                  try clear c4b1
                  try clear c5
                  try clear c5b0
                  try clear c5b1
                  try clear c6
                  try clear c7
                  try clear c7b0
                  try clear c7b1
                  try clear c10
                  try clear c10b0
                  try clear c11
                  try clear c11b0
                  try clear c16
                  try clear c16b0
                  try clear p18
                  try clear q18
                  try clear hx18
                  try clear hcz15_0
                  try clear hcz15_1
                  try clear hcz15_2
                  try clear hcz17_0
                  try clear hcz17_1
                  try clear hcz17_2
                  try clear hcz18_0
                  try clear hcz18_1
                  try clear hcz18_2
                  try clear hfz15_0
                  try clear hfz15_1
                  try clear hfz15_2
                  try clear hfz17_0
                  try clear hfz17_1
                  try clear hfz17_2
                  try clear hfz18_0
                  try clear hfz18_1
                  try clear hfz18_2
                  try clear hx187_0
                  try clear hx187_1
                  try clear hx187_2
                  try clear p187
                  try clear p2
                  try clear q187
                  obtain ⟨kq, x54_11, rfl, HA, HJ11, HO_5, BK188, HB⟩ := hcut
                  cases kq with
                  | zero => exact absurd HA.out (by simp [copydesklaw09_LexerOffsets.j1])
                  | succ kj11 =>
                    have H := HA.out
                    clear HA
                    simp only [copydesklaw09_LexerOffsets.j1] at H
                    by_cases c19 : x54_11 = true
                    · subst c19
                      have H1 : (some false) = some r := by rw [if_pos rfl] at H; exact H
                      clear H
                      have H := H1
                      clear H1
                      obtain rfl := Option.some.inj H
                      go_wp2
                      go_ret
                      exact ⟨by first | rfl | (simp [errW_none, errW_some] <;> rfl) | (simp only [← hji3]; first | rfl | (simp [errW_none, errW_some] <;> rfl)) | (simp [*, errW_none, errW_some] <;> rfl), by repeat (first | (with_reducible first | exact HB.out | apply below_alloc | apply pw_below_drewN | apply below_drew1 | refine below_set ?_ GE188.out) | exact HB.out)⟩
                    · replace c19 := Bool.eq_false_iff.mpr c19
                      subst c19
                      have H1 : (copydesklaw09_LexerOffsets.l1 kj11 t181 zS0 t182 x9_1 x10_1 x8_1 ((rd_T29 t182 x10_1).f0) ((rd_T29 t182 x10_1).f1) ((rd_T29 t182 x10_1).f2)) = some r := by rw [if_neg (show ¬ (false = true) by decide)] at H; exact H
                      clear H
                      have H := H1
                      clear H1
                      have H' := Aside0.mk H
                      clear H
                      go_wp2
                      go_loopg [12] kj11 (fun kq v12 w' => ∃ (x12_3 : Int), v12 = .int .i64 x12_3 ∧ Aside0 (copydesklaw09_LexerOffsets.l1 kq t181 zS0 t182 x9_1 x10_1 x12_3 ((rd_T29 t182 x10_1).f0) ((rd_T29 t182 x10_1).f1) ((rd_T29 t182 x10_1).f2) = some r) ∧ Aside0 (kq ≤ kj11) ∧ Aside0 (Kd.R k29 29 w' w.heap.size (fun k_ => k_ ≠ gb188) (.slice (some ad187) t182.length co13) t182) ∧ Aside0 (w'.heap[gb188]? = some (.cells #[.int .i64 ((rd_T29 t182 x10_1).f0), .string ((rd_T29 t182 x10_1).f1), .int .i64 ((rd_T29 t182 x10_1).f2)] 29 (0, 0))) ∧ Aside0 (Below w.heap.size w w'))
                      case atStart => exact ⟨(x8_1), (by first | rfl | (simp; done) | (simp [*]; done)), H', ⟨Nat.le_refl _⟩, ⟨by (with_reducible repeat (first | apply Kd.R_alloc | apply Kd.R_drewN | apply Kd.R_drew)); exact HO_5.out⟩, ⟨by (with_reducible repeat (first | refine blk_drewN ?_ _ | refine blk_drew ?_ | refine blk_alloc ?_ _)); exact BK188.out⟩, ⟨by repeat (first | (with_reducible first | exact HB.out | apply below_alloc | apply pw_below_drewN | apply below_drew1 | refine below_set ?_ GE188.out) | exact HB.out)⟩⟩
                      case round =>
                        clear H'
                        try clear c1
                        try clear p1
                        try clear q1
                        try clear hx1
                        try clear p2
                        try clear c4
                        try clear c4b0
                        try clear c4b1
                        try clear c5
                        try clear c5b0
                        try clear c5b1
                        try clear c6
                        try clear c7
                        try clear c7b0
                        try clear c7b1
                        try clear c10
                        try clear c10b0
                        try clear c11
                        try clear c11b0
                        try clear c16
                        try clear c16b0
                        try clear p18
                        try clear q18
                        try clear hx18
                        try clear c19
                        try clear hcz15_0
                        try clear hcz15_1
                        try clear hcz15_2
                        try clear hcz17_0
                        try clear hcz17_1
                        try clear hcz17_2
                        try clear hcz18_0
                        try clear hcz18_1
                        try clear hcz18_2
                        try clear hfz15_0
                        try clear hfz15_1
                        try clear hfz15_2
                        try clear hfz17_0
                        try clear hfz17_1
                        try clear hfz17_2
                        try clear hfz18_0
                        try clear hfz18_1
                        try clear hfz18_2
                        try clear hx187_0
                        try clear hx187_1
                        try clear hx187_2
                        try clear p1
                        try clear p18
                        try clear p187
                        try clear p2
                        try clear q1
                        try clear q18
                        try clear q187
                        obtain ⟨x12_3, rfl, HA, HK3, HO_5, BK188, HB⟩ := hrel
                        cases gk with
                        | zero => exact absurd HA.out (by simp [copydesklaw09_LexerOffsets.l1])
                        | succ k3 =>
                          have H := HA.out
                          clear HA
                          simp only [copydesklaw09_LexerOffsets.l1] at H
                          by_cases c20 : x12_3 < ((rd_T29 t182 x10_1).f2)
                          · rw [if_pos c20] at H
                            have c20b0 : decide (x12_3 < ((rd_T29 t182 x10_1).f2)) = true := decide_eq_true c20
                            clear c20
                            by_cases c21 : x9_1 = true
                            · subst c21
                              have H1 : (if 0 ≤ x12_3 then (if x12_3 < (zS0.size : Int) then (if (bt zS0 x12_3) = 32 then (copydesklaw09_LexerOffsets.l1 k3 t181 zS0 t182 true x10_1 (wrap64 (x12_3 + 1)) ((rd_T29 t182 x10_1).f0) ((rd_T29 t182 x10_1).f1) ((rd_T29 t182 x10_1).f2)) else (if (bt zS0 x12_3) = 10 then (copydesklaw09_LexerOffsets.l1 k3 t181 zS0 t182 true x10_1 (wrap64 (x12_3 + 1)) ((rd_T29 t182 x10_1).f0) ((rd_T29 t182 x10_1).f1) ((rd_T29 t182 x10_1).f2)) else (some false))) else (none)) else (none)) = some r := by rw [if_pos rfl] at H; exact H
                              clear H
                              have H := H1
                              clear H1
                              by_cases c22 : 0 ≤ x12_3
                              · rw [if_pos c22] at H
                                have c22b0 : decide (0 ≤ x12_3) = true := decide_eq_true c22
                                clear c22
                                by_cases c23 : x12_3 < (zS0.size : Int)
                                · rw [if_pos c23] at H
                                  have c23b0 : decide (x12_3 < (zS0.size : Int)) = true := decide_eq_true c23
                                  clear c23
                                  by_cases c25 : (bt zS0 x12_3) = 32
                                  · rw [if_pos c25] at H
                                    have c25b0 : ((bt zS0 x12_3) == 32) = true := beq_iff_eq.mpr c25
                                    have c25b1 : ((bt zS0 x12_3) != 32) = false := bne_eq_false_iff_eq.mpr c25
                                    clear c25
                                    have H' := Aside0.mk H
                                    clear H
                                    have hcz26_0 : wr.cell? ⟨gb188, 0, none⟩ = some (.int .i64 ((rd_T29 t182 x10_1).f0)) := (blk_cell BK188.out 0).trans rfl
                                    have hcz26_1 : wr.cell? ⟨gb188, 1, none⟩ = some (.string ((rd_T29 t182 x10_1).f1)) := (blk_cell BK188.out 1).trans rfl
                                    have hcz26_2 : wr.cell? ⟨gb188, 2, none⟩ = some (.int .i64 ((rd_T29 t182 x10_1).f2)) := (blk_cell BK188.out 2).trans rfl
                                    have hfz26_0 := blk_frozen BK188.out 0
                                    have hfz26_1 := blk_frozen BK188.out 1
                                    have hfz26_2 := blk_frozen BK188.out 2
                                    have p24 : 0 ≤ (x12_3 : Int) := of_decide_eq_true (by first | (with_reducible assumption) | assumption)
                                    have q24 : x12_3 < (zS0.size : Int) := of_decide_eq_true (by first | (with_reducible assumption) | assumption)
                                    have hx24 := bt_at zS0 x12_3
                                    replace p24 := eq_true p24
                                    replace q24 := eq_true q24
                                    go_wp2
                                    go_roundg k3
                                    case measure => have := HK1.out; have := HJ11.out; have := HK3.out; omega
                                    case rel => exact ⟨(wrap64 (x12_3 + 1)), (by first | rfl | (simp; done) | (simp [*]; done)), H', ⟨by have := HK1.out; have := HJ11.out; have := HK3.out; omega⟩, ⟨by (with_reducible repeat (first | apply Kd.R_alloc | apply Kd.R_drewN | apply Kd.R_drew)); exact HO_5.out⟩, ⟨by (with_reducible repeat (first | refine blk_drewN ?_ _ | refine blk_drew ?_ | refine blk_alloc ?_ _)); exact BK188.out⟩, ⟨by repeat (first | (with_reducible first | exact HB.out | apply below_alloc | apply pw_below_drewN | apply below_drew1 | refine below_set ?_ GE188.out) | exact HB.out)⟩⟩
                                  · rw [if_neg c25] at H
                                    have c25b0 : ((bt zS0 x12_3) == 32) = false := beq_eq_false_iff_ne.mpr c25
                                    have c25b1 : ((bt zS0 x12_3) != 32) = true := bne_iff_ne.mpr c25
                                    by_cases c28 : (bt zS0 x12_3) = 10
                                    · rw [if_pos c28] at H
                                      have c28b0 : ((bt zS0 x12_3) == 10) = true := beq_iff_eq.mpr c28
                                      have c28b1 : ((bt zS0 x12_3) != 10) = false := bne_eq_false_iff_eq.mpr c28
                                      clear c28
                                      have H' := Aside0.mk H
                                      clear H
                                      have hcz29_0 : wr.cell? ⟨gb188, 0, none⟩ = some (.int .i64 ((rd_T29 t182 x10_1).f0)) := (blk_cell BK188.out 0).trans rfl
                                      have hcz29_1 : wr.cell? ⟨gb188, 1, none⟩ = some (.string ((rd_T29 t182 x10_1).f1)) := (blk_cell BK188.out 1).trans rfl
                                      have hcz29_2 : wr.cell? ⟨gb188, 2, none⟩ = some (.int .i64 ((rd_T29 t182 x10_1).f2)) := (blk_cell BK188.out 2).trans rfl
                                      have hfz29_0 := blk_frozen BK188.out 0
                                      have hfz29_1 := blk_frozen BK188.out 1
                                      have hfz29_2 := blk_frozen BK188.out 2
                                      have p24 : 0 ≤ (x12_3 : Int) := of_decide_eq_true (by first | (with_reducible assumption) | assumption)
                                      have q24 : x12_3 < (zS0.size : Int) := of_decide_eq_true (by first | (with_reducible assumption) | assumption)
                                      have hx24 := bt_at zS0 x12_3
                                      replace p24 := eq_true p24
                                      replace q24 := eq_true q24
                                      have p27 : 0 ≤ (x12_3 : Int) := of_decide_eq_true (by first | (with_reducible assumption) | assumption)
                                      have q27 : x12_3 < (zS0.size : Int) := of_decide_eq_true (by first | (with_reducible assumption) | assumption)
                                      have hx27 := bt_at zS0 x12_3
                                      replace p27 := eq_true p27
                                      replace q27 := eq_true q27
                                      go_wp2
                                      go_roundg k3
                                      case measure => have := HK1.out; have := HJ11.out; have := HK3.out; omega
                                      case rel => exact ⟨(wrap64 (x12_3 + 1)), (by first | rfl | (simp; done) | (simp [*]; done)), H', ⟨by have := HK1.out; have := HJ11.out; have := HK3.out; omega⟩, ⟨by (with_reducible repeat (first | apply Kd.R_alloc | apply Kd.R_drewN | apply Kd.R_drew)); exact HO_5.out⟩, ⟨by (with_reducible repeat (first | refine blk_drewN ?_ _ | refine blk_drew ?_ | refine blk_alloc ?_ _)); exact BK188.out⟩, ⟨by repeat (first | (with_reducible first | exact HB.out | apply below_alloc | apply pw_below_drewN | apply below_drew1 | refine below_set ?_ GE188.out) | exact HB.out)⟩⟩
                                    · rw [if_neg c28] at H
                                      have c28b0 : ((bt zS0 x12_3) == 10) = false := beq_eq_false_iff_ne.mpr c28
                                      have c28b1 : ((bt zS0 x12_3) != 10) = true := bne_iff_ne.mpr c28
                                      obtain rfl := Option.some.inj H
                                      have hcz30_0 : wr.cell? ⟨gb188, 0, none⟩ = some (.int .i64 ((rd_T29 t182 x10_1).f0)) := (blk_cell BK188.out 0).trans rfl
                                      have hcz30_1 : wr.cell? ⟨gb188, 1, none⟩ = some (.string ((rd_T29 t182 x10_1).f1)) := (blk_cell BK188.out 1).trans rfl
                                      have hcz30_2 : wr.cell? ⟨gb188, 2, none⟩ = some (.int .i64 ((rd_T29 t182 x10_1).f2)) := (blk_cell BK188.out 2).trans rfl
                                      have hfz30_0 := blk_frozen BK188.out 0
                                      have hfz30_1 := blk_frozen BK188.out 1
                                      have hfz30_2 := blk_frozen BK188.out 2
                                      have p24 : 0 ≤ (x12_3 : Int) := of_decide_eq_true (by first | (with_reducible assumption) | assumption)
                                      have q24 : x12_3 < (zS0.size : Int) := of_decide_eq_true (by first | (with_reducible assumption) | assumption)
                                      have hx24 := bt_at zS0 x12_3
                                      replace p24 := eq_true p24
                                      replace q24 := eq_true q24
                                      have p27 : 0 ≤ (x12_3 : Int) := of_decide_eq_true (by first | (with_reducible assumption) | assumption)
                                      have q27 : x12_3 < (zS0.size : Int) := of_decide_eq_true (by first | (with_reducible assumption) | assumption)
                                      have hx27 := bt_at zS0 x12_3
                                      replace p27 := eq_true p27
                                      replace q27 := eq_true q27
                                      go_wp2
                                      go_ret
                                      exact ⟨by first | rfl | (simp [errW_none, errW_some] <;> rfl) | (simp only [← hji3]; first | rfl | (simp [errW_none, errW_some] <;> rfl)) | (simp [*, errW_none, errW_some] <;> rfl), by repeat (first | (with_reducible first | exact HB.out | apply below_alloc | apply pw_below_drewN | apply below_drew1 | refine below_set ?_ GE188.out) | exact HB.out)⟩
                                · rw [if_neg c23] at H
                                  exact absurd H (by simp)
                              · rw [if_neg c22] at H
                                exact absurd H (by simp)
                            · replace c21 := Bool.eq_false_iff.mpr c21
                              subst c21
                              have H1 : (some false) = some r := by rw [if_neg (show ¬ (false = true) by decide)] at H; exact H
                              clear H
                              have H := H1
                              clear H1
                              obtain rfl := Option.some.inj H
                              have hcz31_0 : wr.cell? ⟨gb188, 0, none⟩ = some (.int .i64 ((rd_T29 t182 x10_1).f0)) := (blk_cell BK188.out 0).trans rfl
                              have hcz31_1 : wr.cell? ⟨gb188, 1, none⟩ = some (.string ((rd_T29 t182 x10_1).f1)) := (blk_cell BK188.out 1).trans rfl
                              have hcz31_2 : wr.cell? ⟨gb188, 2, none⟩ = some (.int .i64 ((rd_T29 t182 x10_1).f2)) := (blk_cell BK188.out 2).trans rfl
                              have hfz31_0 := blk_frozen BK188.out 0
                              have hfz31_1 := blk_frozen BK188.out 1
                              have hfz31_2 := blk_frozen BK188.out 2
                              go_wp2
                              go_ret
                              exact ⟨by first | rfl | (simp [errW_none, errW_some] <;> rfl) | (simp only [← hji3]; first | rfl | (simp [errW_none, errW_some] <;> rfl)) | (simp [*, errW_none, errW_some] <;> rfl), by repeat (first | (with_reducible first | exact HB.out | apply below_alloc | apply pw_below_drewN | apply below_drew1 | refine below_set ?_ GE188.out) | exact HB.out)⟩
                          · rw [if_neg c20] at H
                            have c20b0 : decide (x12_3 < ((rd_T29 t182 x10_1).f2)) = false := decide_eq_false c20
                            clear c20
                            by_cases c32 : ((rd_T29 t182 x10_1).f0) = 1
                            · rw [if_pos c32] at H
                              have c32b0 : (((rd_T29 t182 x10_1).f0) == 1) = true := beq_iff_eq.mpr c32
                              have c32b1 : (((rd_T29 t182 x10_1).f0) != 1) = false := bne_eq_false_iff_eq.mpr c32
                              clear c32
                              replace H := Option.bind_eq_some_iff.mp H
                              obtain ⟨t189, A330, H⟩ := H
                              replace H : (if (true == x9_1) = true then (some false) else (if (t189.size : Int) > (wrap64 ((zS0.size : Int) - ((rd_T29 t182 x10_1).f2))) then (some false) else (if 0 ≤ ((rd_T29 t182 x10_1).f2) then (if ((rd_T29 t182 x10_1).f2) ≤ (wrap64 (((rd_T29 t182 x10_1).f2) + (t189.size : Int))) then (if (wrap64 (((rd_T29 t182 x10_1).f2) + (t189.size : Int))) ≤ (zS0.size : Int) then (if (zS0.extract (((rd_T29 t182 x10_1).f2) : Int).toNat ((wrap64 (((rd_T29 t182 x10_1).f2) + (t189.size : Int))) : Int).toNat).toList = t189.toList then (copydesklaw09_LexerOffsets.l0 k3 t181 zS0 t182 (wrap64 (((rd_T29 t182 x10_1).f2) + (t189.size : Int))) false (wrap64 (x10_1 + 1))) else (some false)) else (none)) else (none)) else (none)))) = some r := H
                              have A33 := Aside0.mk A330
                              clear A330
                              by_cases c34 : (true == x9_1) = true
                              · rw [if_pos c34] at H
                                have c34b0 : (true == x9_1) = true := c34
                                (try (have c34b1 : decide (true = x9_1) = true := by simpa using c34))
                                (try (have c34b2 : (true == x9_1) = true := by simpa using c34))
                                clear c34
                                obtain rfl := Option.some.inj H
                                have hcz35_0 : wr.cell? ⟨gb188, 0, none⟩ = some (.int .i64 ((rd_T29 t182 x10_1).f0)) := (blk_cell BK188.out 0).trans rfl
                                have hcz35_1 : wr.cell? ⟨gb188, 1, none⟩ = some (.string ((rd_T29 t182 x10_1).f1)) := (blk_cell BK188.out 1).trans rfl
                                have hcz35_2 : wr.cell? ⟨gb188, 2, none⟩ = some (.int .i64 ((rd_T29 t182 x10_1).f2)) := (blk_cell BK188.out 2).trans rfl
                                have hfz35_0 := blk_frozen BK188.out 0
                                have hfz35_1 := blk_frozen BK188.out 1
                                have hfz35_2 := blk_frozen BK188.out 2
                                go_wp2_with (first | ((with_reducible refine gate_callee (f := 9) rfl ?_); refine goesL_ (some 84) rfl rfl Tryd.func9 (by kernel_rfl) rfl #[.string ((rd_T29 t182 x10_1).f1)] rfl (by (try simp only [List.map_toArray, List.map_cons, List.map_nil]); first | done | rfl | (simp only [List.length_drop, List.length_take]; rfl)) ?_; (with_reducible refine (copydesklaw09_escaped.calls k3 ((rd_T29 t182 x10_1).f1) t189 _ A33.out).mono ?_); rintro e w36 ⟨rfl, hb⟩; refine ⟨_, rfl, ?_⟩; have n0_ := Aside0.mk (Kd.R_below (by (with_reducible repeat (first | apply Kd.R_alloc | apply Kd.R_drewN | apply Kd.R_drew)); exact HO_5.out) hb); have n1_ := Aside0.mk (blk_below (g := gb188) (o := .cells #[.int .i64 ((rd_T29 t182 x10_1).f0), .string ((rd_T29 t182 x10_1).f1), .int .i64 ((rd_T29 t182 x10_1).f2)] 29 (0, 0)) (by (with_reducible repeat (first | refine blk_drewN ?_ _ | refine blk_drew ?_ | refine blk_alloc ?_ _)); exact BK188.out) hb); have n2_ := Aside0.mk (below_step (by repeat (first | (with_reducible first | exact HB.out | apply below_alloc | apply pw_below_drewN | apply below_drew1 | refine below_set ?_ GE188.out) | exact HB.out)) hb); clear HO_5; clear BK188; clear HB; have HO_5 := n0_; have BK188 := n1_; have HB := n2_; clear n0_ n1_ n2_; (try clear hb); (try clear hb2); (try clear hk); (try clear hi); have hcz37_0 : w36.cell? ⟨gb188, 0, none⟩ = some (.int .i64 ((rd_T29 t182 x10_1).f0)) := (blk_cell BK188.out 0).trans rfl; have hcz37_1 : w36.cell? ⟨gb188, 1, none⟩ = some (.string ((rd_T29 t182 x10_1).f1)) := (blk_cell BK188.out 1).trans rfl; have hcz37_2 : w36.cell? ⟨gb188, 2, none⟩ = some (.int .i64 ((rd_T29 t182 x10_1).f2)) := (blk_cell BK188.out 2).trans rfl; have hfz37_0 := blk_frozen BK188.out 0; have hfz37_1 := blk_frozen BK188.out 1; have hfz37_2 := blk_frozen BK188.out 2))
                                go_ret
                                exact ⟨by first | rfl | (simp [errW_none, errW_some] <;> rfl) | (simp only [← hji3]; first | rfl | (simp [errW_none, errW_some] <;> rfl)) | (simp [*, errW_none, errW_some] <;> rfl), by repeat (first | (with_reducible first | exact HB.out | apply below_alloc | apply pw_below_drewN | apply below_drew1 | refine below_set ?_ GE188.out) | exact HB.out)⟩
                              · rw [if_neg c34] at H
                                have c34b0 : (true == x9_1) = false := by simpa using c34
                                (try (have c34b1 : decide (true = x9_1) = false := by simpa using c34))
                                (try (have c34b2 : (true == x9_1) = false := by simpa using c34))
                                (try (have c34b3 : ¬ (true = x9_1) := by simpa using c34))
                                clear c34
                                by_cases c38 : (t189.size : Int) > (wrap64 ((zS0.size : Int) - ((rd_T29 t182 x10_1).f2)))
                                · rw [if_pos c38] at H
                                  have c38b0 : decide ((wrap64 ((zS0.size : Int) - ((rd_T29 t182 x10_1).f2))) < (t189.size : Int)) = true := decide_eq_true c38
                                  clear c38
                                  obtain rfl := Option.some.inj H
                                  have hcz39_0 : wr.cell? ⟨gb188, 0, none⟩ = some (.int .i64 ((rd_T29 t182 x10_1).f0)) := (blk_cell BK188.out 0).trans rfl
                                  have hcz39_1 : wr.cell? ⟨gb188, 1, none⟩ = some (.string ((rd_T29 t182 x10_1).f1)) := (blk_cell BK188.out 1).trans rfl
                                  have hcz39_2 : wr.cell? ⟨gb188, 2, none⟩ = some (.int .i64 ((rd_T29 t182 x10_1).f2)) := (blk_cell BK188.out 2).trans rfl
                                  have hfz39_0 := blk_frozen BK188.out 0
                                  have hfz39_1 := blk_frozen BK188.out 1
                                  have hfz39_2 := blk_frozen BK188.out 2
                                  go_wp2_with (first | ((with_reducible refine gate_callee (f := 9) rfl ?_); refine goesL_ (some 84) rfl rfl Tryd.func9 (by kernel_rfl) rfl #[.string ((rd_T29 t182 x10_1).f1)] rfl (by (try simp only [List.map_toArray, List.map_cons, List.map_nil]); first | done | rfl | (simp only [List.length_drop, List.length_take]; rfl)) ?_; (with_reducible refine (copydesklaw09_escaped.calls k3 ((rd_T29 t182 x10_1).f1) t189 _ A33.out).mono ?_); rintro e w40 ⟨rfl, hb⟩; refine ⟨_, rfl, ?_⟩; have n0_ := Aside0.mk (Kd.R_below (by (with_reducible repeat (first | apply Kd.R_alloc | apply Kd.R_drewN | apply Kd.R_drew)); exact HO_5.out) hb); have n1_ := Aside0.mk (blk_below (g := gb188) (o := .cells #[.int .i64 ((rd_T29 t182 x10_1).f0), .string ((rd_T29 t182 x10_1).f1), .int .i64 ((rd_T29 t182 x10_1).f2)] 29 (0, 0)) (by (with_reducible repeat (first | refine blk_drewN ?_ _ | refine blk_drew ?_ | refine blk_alloc ?_ _)); exact BK188.out) hb); have n2_ := Aside0.mk (below_step (by repeat (first | (with_reducible first | exact HB.out | apply below_alloc | apply pw_below_drewN | apply below_drew1 | refine below_set ?_ GE188.out) | exact HB.out)) hb); clear HO_5; clear BK188; clear HB; have HO_5 := n0_; have BK188 := n1_; have HB := n2_; clear n0_ n1_ n2_; (try clear hb); (try clear hb2); (try clear hk); (try clear hi); have hcz41_0 : w40.cell? ⟨gb188, 0, none⟩ = some (.int .i64 ((rd_T29 t182 x10_1).f0)) := (blk_cell BK188.out 0).trans rfl; have hcz41_1 : w40.cell? ⟨gb188, 1, none⟩ = some (.string ((rd_T29 t182 x10_1).f1)) := (blk_cell BK188.out 1).trans rfl; have hcz41_2 : w40.cell? ⟨gb188, 2, none⟩ = some (.int .i64 ((rd_T29 t182 x10_1).f2)) := (blk_cell BK188.out 2).trans rfl; have hfz41_0 := blk_frozen BK188.out 0; have hfz41_1 := blk_frozen BK188.out 1; have hfz41_2 := blk_frozen BK188.out 2))
                                  go_ret
                                  exact ⟨by first | rfl | (simp [errW_none, errW_some] <;> rfl) | (simp only [← hji3]; first | rfl | (simp [errW_none, errW_some] <;> rfl)) | (simp [*, errW_none, errW_some] <;> rfl), by repeat (first | (with_reducible first | exact HB.out | apply below_alloc | apply pw_below_drewN | apply below_drew1 | refine below_set ?_ GE188.out) | exact HB.out)⟩
                                · rw [if_neg c38] at H
                                  have c38b0 : decide ((wrap64 ((zS0.size : Int) - ((rd_T29 t182 x10_1).f2))) < (t189.size : Int)) = false := decide_eq_false c38
                                  clear c38
                                  by_cases c42 : 0 ≤ ((rd_T29 t182 x10_1).f2)
                                  · rw [if_pos c42] at H
                                    have c42b0 := eq_true c42
                                    have c42b1 : decide (0 ≤ ((rd_T29 t182 x10_1).f2)) = true := decide_eq_true c42
                                    clear c42
                                    by_cases c43 : ((rd_T29 t182 x10_1).f2) ≤ (wrap64 (((rd_T29 t182 x10_1).f2) + (t189.size : Int)))
                                    · rw [if_pos c43] at H
                                      have c43b0 := eq_true c43
                                      have c43b1 : decide (((rd_T29 t182 x10_1).f2) ≤ (wrap64 (((rd_T29 t182 x10_1).f2) + (t189.size : Int)))) = true := decide_eq_true c43
                                      by_cases c44 : (wrap64 (((rd_T29 t182 x10_1).f2) + (t189.size : Int))) ≤ (zS0.size : Int)
                                      · rw [if_pos c44] at H
                                        have c44b0 := eq_true c44
                                        have c44b1 : decide ((wrap64 (((rd_T29 t182 x10_1).f2) + (t189.size : Int))) ≤ (zS0.size : Int)) = true := decide_eq_true c44
                                        by_cases c45 : (zS0.extract (((rd_T29 t182 x10_1).f2) : Int).toNat ((wrap64 (((rd_T29 t182 x10_1).f2) + (t189.size : Int))) : Int).toNat).toList = t189.toList
                                        · rw [if_pos c45] at H
                                          have c45b0 : ((zS0.extract (((rd_T29 t182 x10_1).f2) : Int).toNat ((wrap64 (((rd_T29 t182 x10_1).f2) + (t189.size : Int))) : Int).toNat).toList == t189.toList) = true := beq_iff_eq.mpr c45
                                          have c45b1 : ((zS0.extract (((rd_T29 t182 x10_1).f2) : Int).toNat ((wrap64 (((rd_T29 t182 x10_1).f2) + (t189.size : Int))) : Int).toNat).toList != t189.toList) = false := bne_eq_false_iff_eq.mpr c45
                                          clear c45
                                          have H' := Aside0.mk H
                                          clear H
                                          have hcz46_0 : wr.cell? ⟨gb188, 0, none⟩ = some (.int .i64 ((rd_T29 t182 x10_1).f0)) := (blk_cell BK188.out 0).trans rfl
                                          have hcz46_1 : wr.cell? ⟨gb188, 1, none⟩ = some (.string ((rd_T29 t182 x10_1).f1)) := (blk_cell BK188.out 1).trans rfl
                                          have hcz46_2 : wr.cell? ⟨gb188, 2, none⟩ = some (.int .i64 ((rd_T29 t182 x10_1).f2)) := (blk_cell BK188.out 2).trans rfl
                                          have hfz46_0 := blk_frozen BK188.out 0
                                          have hfz46_1 := blk_frozen BK188.out 1
                                          have hfz46_2 := blk_frozen BK188.out 2
                                          go_wp2_with (first | ((with_reducible refine gate_callee (f := 9) rfl ?_); refine goesL_ (some 84) rfl rfl Tryd.func9 (by kernel_rfl) rfl #[.string ((rd_T29 t182 x10_1).f1)] rfl (by (try simp only [List.map_toArray, List.map_cons, List.map_nil]); first | done | rfl | (simp only [List.length_drop, List.length_take]; rfl)) ?_; (with_reducible refine (copydesklaw09_escaped.calls k3 ((rd_T29 t182 x10_1).f1) t189 _ A33.out).mono ?_); rintro e w47 ⟨rfl, hb⟩; refine ⟨_, rfl, ?_⟩; have n0_ := Aside0.mk (Kd.R_below (by (with_reducible repeat (first | apply Kd.R_alloc | apply Kd.R_drewN | apply Kd.R_drew)); exact HO_5.out) hb); have n1_ := Aside0.mk (blk_below (g := gb188) (o := .cells #[.int .i64 ((rd_T29 t182 x10_1).f0), .string ((rd_T29 t182 x10_1).f1), .int .i64 ((rd_T29 t182 x10_1).f2)] 29 (0, 0)) (by (with_reducible repeat (first | refine blk_drewN ?_ _ | refine blk_drew ?_ | refine blk_alloc ?_ _)); exact BK188.out) hb); have n2_ := Aside0.mk (below_step (by repeat (first | (with_reducible first | exact HB.out | apply below_alloc | apply pw_below_drewN | apply below_drew1 | refine below_set ?_ GE188.out) | exact HB.out)) hb); clear HO_5; clear BK188; clear HB; have HO_5 := n0_; have BK188 := n1_; have HB := n2_; clear n0_ n1_ n2_; (try clear hb); (try clear hb2); (try clear hk); (try clear hi); have hcz48_0 : w47.cell? ⟨gb188, 0, none⟩ = some (.int .i64 ((rd_T29 t182 x10_1).f0)) := (blk_cell BK188.out 0).trans rfl; have hcz48_1 : w47.cell? ⟨gb188, 1, none⟩ = some (.string ((rd_T29 t182 x10_1).f1)) := (blk_cell BK188.out 1).trans rfl; have hcz48_2 : w47.cell? ⟨gb188, 2, none⟩ = some (.int .i64 ((rd_T29 t182 x10_1).f2)) := (blk_cell BK188.out 2).trans rfl; have hfz48_0 := blk_frozen BK188.out 0; have hfz48_1 := blk_frozen BK188.out 1; have hfz48_2 := blk_frozen BK188.out 2))
                                          go_roundg k3
                                          case measure => have := HK1.out; have := HJ11.out; have := HK3.out; omega
                                          case rel => exact ⟨(wrap64 (((rd_T29 t182 x10_1).f2) + (t189.size : Int))), (false), (wrap64 (x10_1 + 1)), (by first | rfl | (simp; done) | (simp [*]; done)), (by first | rfl | (simp; done) | (simp [*]; done)), (by first | rfl | (simp; done) | (simp [*]; done)), H', ⟨by have := HK1.out; have := HJ11.out; have := HK3.out; omega⟩, ⟨by (with_reducible repeat (first | apply Kd.R_alloc | apply Kd.R_drewN | apply Kd.R_drew)); exact Kd.R_mono HO_5.out (fun _ hk => trivial)⟩, ⟨by repeat (first | (with_reducible first | exact HB.out | apply below_alloc | apply pw_below_drewN | apply below_drew1 | refine below_set ?_ GE188.out) | exact HB.out)⟩⟩
                                        · rw [if_neg c45] at H
                                          have c45b0 : ((zS0.extract (((rd_T29 t182 x10_1).f2) : Int).toNat ((wrap64 (((rd_T29 t182 x10_1).f2) + (t189.size : Int))) : Int).toNat).toList == t189.toList) = false := beq_eq_false_iff_ne.mpr c45
                                          have c45b1 : ((zS0.extract (((rd_T29 t182 x10_1).f2) : Int).toNat ((wrap64 (((rd_T29 t182 x10_1).f2) + (t189.size : Int))) : Int).toNat).toList != t189.toList) = true := bne_iff_ne.mpr c45
                                          obtain rfl := Option.some.inj H
                                          have hcz49_0 : wr.cell? ⟨gb188, 0, none⟩ = some (.int .i64 ((rd_T29 t182 x10_1).f0)) := (blk_cell BK188.out 0).trans rfl
                                          have hcz49_1 : wr.cell? ⟨gb188, 1, none⟩ = some (.string ((rd_T29 t182 x10_1).f1)) := (blk_cell BK188.out 1).trans rfl
                                          have hcz49_2 : wr.cell? ⟨gb188, 2, none⟩ = some (.int .i64 ((rd_T29 t182 x10_1).f2)) := (blk_cell BK188.out 2).trans rfl
                                          have hfz49_0 := blk_frozen BK188.out 0
                                          have hfz49_1 := blk_frozen BK188.out 1
                                          have hfz49_2 := blk_frozen BK188.out 2
                                          go_wp2_with (first | ((with_reducible refine gate_callee (f := 9) rfl ?_); refine goesL_ (some 84) rfl rfl Tryd.func9 (by kernel_rfl) rfl #[.string ((rd_T29 t182 x10_1).f1)] rfl (by (try simp only [List.map_toArray, List.map_cons, List.map_nil]); first | done | rfl | (simp only [List.length_drop, List.length_take]; rfl)) ?_; (with_reducible refine (copydesklaw09_escaped.calls k3 ((rd_T29 t182 x10_1).f1) t189 _ A33.out).mono ?_); rintro e w50 ⟨rfl, hb⟩; refine ⟨_, rfl, ?_⟩; have n0_ := Aside0.mk (Kd.R_below (by (with_reducible repeat (first | apply Kd.R_alloc | apply Kd.R_drewN | apply Kd.R_drew)); exact HO_5.out) hb); have n1_ := Aside0.mk (blk_below (g := gb188) (o := .cells #[.int .i64 ((rd_T29 t182 x10_1).f0), .string ((rd_T29 t182 x10_1).f1), .int .i64 ((rd_T29 t182 x10_1).f2)] 29 (0, 0)) (by (with_reducible repeat (first | refine blk_drewN ?_ _ | refine blk_drew ?_ | refine blk_alloc ?_ _)); exact BK188.out) hb); have n2_ := Aside0.mk (below_step (by repeat (first | (with_reducible first | exact HB.out | apply below_alloc | apply pw_below_drewN | apply below_drew1 | refine below_set ?_ GE188.out) | exact HB.out)) hb); clear HO_5; clear BK188; clear HB; have HO_5 := n0_; have BK188 := n1_; have HB := n2_; clear n0_ n1_ n2_; (try clear hb); (try clear hb2); (try clear hk); (try clear hi); have hcz51_0 : w50.cell? ⟨gb188, 0, none⟩ = some (.int .i64 ((rd_T29 t182 x10_1).f0)) := (blk_cell BK188.out 0).trans rfl; have hcz51_1 : w50.cell? ⟨gb188, 1, none⟩ = some (.string ((rd_T29 t182 x10_1).f1)) := (blk_cell BK188.out 1).trans rfl; have hcz51_2 : w50.cell? ⟨gb188, 2, none⟩ = some (.int .i64 ((rd_T29 t182 x10_1).f2)) := (blk_cell BK188.out 2).trans rfl; have hfz51_0 := blk_frozen BK188.out 0; have hfz51_1 := blk_frozen BK188.out 1; have hfz51_2 := blk_frozen BK188.out 2))
                                          go_ret
                                          exact ⟨by first | rfl | (simp [errW_none, errW_some] <;> rfl) | (simp only [← hji3]; first | rfl | (simp [errW_none, errW_some] <;> rfl)) | (simp [*, errW_none, errW_some] <;> rfl), by repeat (first | (with_reducible first | exact HB.out | apply below_alloc | apply pw_below_drewN | apply below_drew1 | refine below_set ?_ GE188.out) | exact HB.out)⟩
                                      · rw [if_neg c44] at H
                                        exact absurd H (by simp)
                                    · rw [if_neg c43] at H
                                      exact absurd H (by simp)
                                  · rw [if_neg c42] at H
                                    exact absurd H (by simp)
                            · rw [if_neg c32] at H
                              have c32b0 : (((rd_T29 t182 x10_1).f0) == 1) = false := beq_eq_false_iff_ne.mpr c32
                              have c32b1 : (((rd_T29 t182 x10_1).f0) != 1) = true := bne_iff_ne.mpr c32
                              by_cases c52 : ((rd_T29 t182 x10_1).f0) = 4
                              · rw [if_pos c52] at H
                                have c52b0 : (((rd_T29 t182 x10_1).f0) == 4) = true := beq_iff_eq.mpr c52
                                have c52b1 : (((rd_T29 t182 x10_1).f0) != 4) = false := bne_eq_false_iff_eq.mpr c52
                                clear c52
                                by_cases c53 : 1 + ((rd_T29 t182 x10_1).f1).size ≤ 9223372036854775807
                                · rw [if_pos c53] at H
                                  have c53b0 := eq_true c53
                                  have c53b1 : decide (1 + ((rd_T29 t182 x10_1).f1).size ≤ 9223372036854775807) = true := decide_eq_true c53
                                  try have c53b2 : (9223372036854775807 < 1 + ((rd_T29 t182 x10_1).f1).size) = False := eq_false (Nat.not_lt.2 c53)
                                  by_cases c54 : (1 + ((rd_T29 t182 x10_1).f1).size) + 1 ≤ 9223372036854775807
                                  · rw [if_pos c54] at H
                                    have c54b0 := eq_true c54
                                    have c54b1 : decide ((1 + ((rd_T29 t182 x10_1).f1).size) + 1 ≤ 9223372036854775807) = true := decide_eq_true c54
                                    try have c54b2 : (9223372036854775807 < (1 + ((rd_T29 t182 x10_1).f1).size) + 1) = False := eq_false (Nat.not_lt.2 c54)
                                    by_cases c55 : ((((rd_T29 t182 x10_1).f0) == 6) == x9_1) = true
                                    · rw [if_pos c55] at H
                                      have c55b0 : ((((rd_T29 t182 x10_1).f0) == 6) == x9_1) = true := c55
                                      (try (have c55b1 : decide ((((rd_T29 t182 x10_1).f0) == 6) = x9_1) = true := by simpa using c55))
                                      (try (have c55b2 : ((((rd_T29 t182 x10_1).f0) == 6) == x9_1) = true := by simpa using c55))
                                      clear c55
                                      obtain rfl := Option.some.inj H
                                      have hcz56_0 : wr.cell? ⟨gb188, 0, none⟩ = some (.int .i64 ((rd_T29 t182 x10_1).f0)) := (blk_cell BK188.out 0).trans rfl
                                      have hcz56_1 : wr.cell? ⟨gb188, 1, none⟩ = some (.string ((rd_T29 t182 x10_1).f1)) := (blk_cell BK188.out 1).trans rfl
                                      have hcz56_2 : wr.cell? ⟨gb188, 2, none⟩ = some (.int .i64 ((rd_T29 t182 x10_1).f2)) := (blk_cell BK188.out 2).trans rfl
                                      have hfz56_0 := blk_frozen BK188.out 0
                                      have hfz56_1 := blk_frozen BK188.out 1
                                      have hfz56_2 := blk_frozen BK188.out 2
                                      go_wp2
                                      go_ret
                                      exact ⟨by first | rfl | (simp [errW_none, errW_some] <;> rfl) | (simp only [← hji3]; first | rfl | (simp [errW_none, errW_some] <;> rfl)) | (simp [*, errW_none, errW_some] <;> rfl), by repeat (first | (with_reducible first | exact HB.out | apply below_alloc | apply pw_below_drewN | apply below_drew1 | refine below_set ?_ GE188.out) | exact HB.out)⟩
                                    · rw [if_neg c55] at H
                                      have c55b0 : ((((rd_T29 t182 x10_1).f0) == 6) == x9_1) = false := by simpa using c55
                                      (try (have c55b1 : decide ((((rd_T29 t182 x10_1).f0) == 6) = x9_1) = false := by simpa using c55))
                                      (try (have c55b2 : ((((rd_T29 t182 x10_1).f0) == 6) == x9_1) = false := by simpa using c55))
                                      (try (have c55b3 : ¬ ((((rd_T29 t182 x10_1).f0) == 6) = x9_1) := by simpa using c55))
                                      clear c55
                                      by_cases c57 : (1 + (((rd_T29 t182 x10_1).f1).size : Int) + 1) > (wrap64 ((zS0.size : Int) - ((rd_T29 t182 x10_1).f2)))
                                      · rw [if_pos c57] at H
                                        have c57b0 : decide ((wrap64 ((zS0.size : Int) - ((rd_T29 t182 x10_1).f2))) < (1 + (((rd_T29 t182 x10_1).f1).size : Int) + 1)) = true := decide_eq_true c57
                                        clear c57
                                        obtain rfl := Option.some.inj H
                                        have hcz58_0 : wr.cell? ⟨gb188, 0, none⟩ = some (.int .i64 ((rd_T29 t182 x10_1).f0)) := (blk_cell BK188.out 0).trans rfl
                                        have hcz58_1 : wr.cell? ⟨gb188, 1, none⟩ = some (.string ((rd_T29 t182 x10_1).f1)) := (blk_cell BK188.out 1).trans rfl
                                        have hcz58_2 : wr.cell? ⟨gb188, 2, none⟩ = some (.int .i64 ((rd_T29 t182 x10_1).f2)) := (blk_cell BK188.out 2).trans rfl
                                        have hfz58_0 := blk_frozen BK188.out 0
                                        have hfz58_1 := blk_frozen BK188.out 1
                                        have hfz58_2 := blk_frozen BK188.out 2
                                        go_wp2
                                        go_ret
                                        exact ⟨by first | rfl | (simp [errW_none, errW_some] <;> rfl) | (simp only [← hji3]; first | rfl | (simp [errW_none, errW_some] <;> rfl)) | (simp [*, errW_none, errW_some] <;> rfl), by repeat (first | (with_reducible first | exact HB.out | apply below_alloc | apply pw_below_drewN | apply below_drew1 | refine below_set ?_ GE188.out) | exact HB.out)⟩
                                      · rw [if_neg c57] at H
                                        have c57b0 : decide ((wrap64 ((zS0.size : Int) - ((rd_T29 t182 x10_1).f2))) < (1 + (((rd_T29 t182 x10_1).f1).size : Int) + 1)) = false := decide_eq_false c57
                                        clear c57
                                        by_cases c59 : 0 ≤ ((rd_T29 t182 x10_1).f2)
                                        · rw [if_pos c59] at H
                                          have c59b0 := eq_true c59
                                          have c59b1 : decide (0 ≤ ((rd_T29 t182 x10_1).f2)) = true := decide_eq_true c59
                                          clear c59
                                          by_cases c60 : ((rd_T29 t182 x10_1).f2) ≤ (wrap64 (((rd_T29 t182 x10_1).f2) + (1 + (((rd_T29 t182 x10_1).f1).size : Int) + 1)))
                                          · rw [if_pos c60] at H
                                            have c60b0 := eq_true c60
                                            have c60b1 : decide (((rd_T29 t182 x10_1).f2) ≤ (wrap64 (((rd_T29 t182 x10_1).f2) + (1 + (((rd_T29 t182 x10_1).f1).size : Int) + 1)))) = true := decide_eq_true c60
                                            by_cases c61 : (wrap64 (((rd_T29 t182 x10_1).f2) + (1 + (((rd_T29 t182 x10_1).f1).size : Int) + 1))) ≤ (zS0.size : Int)
                                            · rw [if_pos c61] at H
                                              have c61b0 := eq_true c61
                                              have c61b1 : decide ((wrap64 (((rd_T29 t182 x10_1).f2) + (1 + (((rd_T29 t182 x10_1).f1).size : Int) + 1))) ≤ (zS0.size : Int)) = true := decide_eq_true c61
                                              by_cases c62 : (zS0.extract (((rd_T29 t182 x10_1).f2) : Int).toNat ((wrap64 (((rd_T29 t182 x10_1).f2) + (1 + (((rd_T29 t182 x10_1).f1).size : Int) + 1))) : Int).toNat).toList = (((⟨#[34]⟩ : ByteArray) ++ ((rd_T29 t182 x10_1).f1)) ++ (⟨#[34]⟩ : ByteArray)).toList
                                              · rw [if_pos c62] at H
                                                have c62b0 : ((zS0.extract (((rd_T29 t182 x10_1).f2) : Int).toNat ((wrap64 (((rd_T29 t182 x10_1).f2) + (1 + (((rd_T29 t182 x10_1).f1).size : Int) + 1))) : Int).toNat).toList == (((⟨#[34]⟩ : ByteArray) ++ ((rd_T29 t182 x10_1).f1)) ++ (⟨#[34]⟩ : ByteArray)).toList) = true := beq_iff_eq.mpr c62
                                                have c62b1 : ((zS0.extract (((rd_T29 t182 x10_1).f2) : Int).toNat ((wrap64 (((rd_T29 t182 x10_1).f2) + (1 + (((rd_T29 t182 x10_1).f1).size : Int) + 1))) : Int).toNat).toList != (((⟨#[34]⟩ : ByteArray) ++ ((rd_T29 t182 x10_1).f1)) ++ (⟨#[34]⟩ : ByteArray)).toList) = false := bne_eq_false_iff_eq.mpr c62
                                                clear c62
                                                have H' := Aside0.mk H
                                                clear H
                                                have hcz63_0 : wr.cell? ⟨gb188, 0, none⟩ = some (.int .i64 ((rd_T29 t182 x10_1).f0)) := (blk_cell BK188.out 0).trans rfl
                                                have hcz63_1 : wr.cell? ⟨gb188, 1, none⟩ = some (.string ((rd_T29 t182 x10_1).f1)) := (blk_cell BK188.out 1).trans rfl
                                                have hcz63_2 : wr.cell? ⟨gb188, 2, none⟩ = some (.int .i64 ((rd_T29 t182 x10_1).f2)) := (blk_cell BK188.out 2).trans rfl
                                                have hfz63_0 := blk_frozen BK188.out 0
                                                have hfz63_1 := blk_frozen BK188.out 1
                                                have hfz63_2 := blk_frozen BK188.out 2
                                                go_wp2
                                                go_roundg k3
                                                case measure => have := HK1.out; have := HJ11.out; have := HK3.out; omega
                                                case rel => exact ⟨(wrap64 (((rd_T29 t182 x10_1).f2) + (1 + (((rd_T29 t182 x10_1).f1).size : Int) + 1))), ((((rd_T29 t182 x10_1).f0) != 7)), (wrap64 (x10_1 + 1)), (by first | rfl | (simp; done) | (simp [*]; done)), (by first | rfl | (simp; done) | (simp [*]; done)), (by first | rfl | (simp; done) | (simp [*]; done)), H', ⟨by have := HK1.out; have := HJ11.out; have := HK3.out; omega⟩, ⟨by (with_reducible repeat (first | apply Kd.R_alloc | apply Kd.R_drewN | apply Kd.R_drew)); exact Kd.R_mono HO_5.out (fun _ hk => trivial)⟩, ⟨by repeat (first | (with_reducible first | exact HB.out | apply below_alloc | apply pw_below_drewN | apply below_drew1 | refine below_set ?_ GE188.out) | exact HB.out)⟩⟩
                                              · rw [if_neg c62] at H
                                                have c62b0 : ((zS0.extract (((rd_T29 t182 x10_1).f2) : Int).toNat ((wrap64 (((rd_T29 t182 x10_1).f2) + (1 + (((rd_T29 t182 x10_1).f1).size : Int) + 1))) : Int).toNat).toList == (((⟨#[34]⟩ : ByteArray) ++ ((rd_T29 t182 x10_1).f1)) ++ (⟨#[34]⟩ : ByteArray)).toList) = false := beq_eq_false_iff_ne.mpr c62
                                                have c62b1 : ((zS0.extract (((rd_T29 t182 x10_1).f2) : Int).toNat ((wrap64 (((rd_T29 t182 x10_1).f2) + (1 + (((rd_T29 t182 x10_1).f1).size : Int) + 1))) : Int).toNat).toList != (((⟨#[34]⟩ : ByteArray) ++ ((rd_T29 t182 x10_1).f1)) ++ (⟨#[34]⟩ : ByteArray)).toList) = true := bne_iff_ne.mpr c62
                                                obtain rfl := Option.some.inj H
                                                have hcz64_0 : wr.cell? ⟨gb188, 0, none⟩ = some (.int .i64 ((rd_T29 t182 x10_1).f0)) := (blk_cell BK188.out 0).trans rfl
                                                have hcz64_1 : wr.cell? ⟨gb188, 1, none⟩ = some (.string ((rd_T29 t182 x10_1).f1)) := (blk_cell BK188.out 1).trans rfl
                                                have hcz64_2 : wr.cell? ⟨gb188, 2, none⟩ = some (.int .i64 ((rd_T29 t182 x10_1).f2)) := (blk_cell BK188.out 2).trans rfl
                                                have hfz64_0 := blk_frozen BK188.out 0
                                                have hfz64_1 := blk_frozen BK188.out 1
                                                have hfz64_2 := blk_frozen BK188.out 2
                                                go_wp2
                                                go_ret
                                                exact ⟨by first | rfl | (simp [errW_none, errW_some] <;> rfl) | (simp only [← hji3]; first | rfl | (simp [errW_none, errW_some] <;> rfl)) | (simp [*, errW_none, errW_some] <;> rfl), by repeat (first | (with_reducible first | exact HB.out | apply below_alloc | apply pw_below_drewN | apply below_drew1 | refine below_set ?_ GE188.out) | exact HB.out)⟩
                                            · rw [if_neg c61] at H
                                              exact absurd H (by simp)
                                          · rw [if_neg c60] at H
                                            exact absurd H (by simp)
                                        · rw [if_neg c59] at H
                                          exact absurd H (by simp)
                                  · rw [if_neg c54] at H
                                    exact absurd H (by simp)
                                · rw [if_neg c53] at H
                                  exact absurd H (by simp)
                              · rw [if_neg c52] at H
                                have c52b0 : (((rd_T29 t182 x10_1).f0) == 4) = false := beq_eq_false_iff_ne.mpr c52
                                have c52b1 : (((rd_T29 t182 x10_1).f0) != 4) = true := bne_iff_ne.mpr c52
                                by_cases c65 : ((((rd_T29 t182 x10_1).f0) == 6) == x9_1) = true
                                · rw [if_pos c65] at H
                                  have c65b0 : ((((rd_T29 t182 x10_1).f0) == 6) == x9_1) = true := c65
                                  (try (have c65b1 : decide ((((rd_T29 t182 x10_1).f0) == 6) = x9_1) = true := by simpa using c65))
                                  (try (have c65b2 : ((((rd_T29 t182 x10_1).f0) == 6) == x9_1) = true := by simpa using c65))
                                  clear c65
                                  obtain rfl := Option.some.inj H
                                  have hcz66_0 : wr.cell? ⟨gb188, 0, none⟩ = some (.int .i64 ((rd_T29 t182 x10_1).f0)) := (blk_cell BK188.out 0).trans rfl
                                  have hcz66_1 : wr.cell? ⟨gb188, 1, none⟩ = some (.string ((rd_T29 t182 x10_1).f1)) := (blk_cell BK188.out 1).trans rfl
                                  have hcz66_2 : wr.cell? ⟨gb188, 2, none⟩ = some (.int .i64 ((rd_T29 t182 x10_1).f2)) := (blk_cell BK188.out 2).trans rfl
                                  have hfz66_0 := blk_frozen BK188.out 0
                                  have hfz66_1 := blk_frozen BK188.out 1
                                  have hfz66_2 := blk_frozen BK188.out 2
                                  go_wp2
                                  go_ret
                                  exact ⟨by first | rfl | (simp [errW_none, errW_some] <;> rfl) | (simp only [← hji3]; first | rfl | (simp [errW_none, errW_some] <;> rfl)) | (simp [*, errW_none, errW_some] <;> rfl), by repeat (first | (with_reducible first | exact HB.out | apply below_alloc | apply pw_below_drewN | apply below_drew1 | refine below_set ?_ GE188.out) | exact HB.out)⟩
                                · rw [if_neg c65] at H
                                  have c65b0 : ((((rd_T29 t182 x10_1).f0) == 6) == x9_1) = false := by simpa using c65
                                  (try (have c65b1 : decide ((((rd_T29 t182 x10_1).f0) == 6) = x9_1) = false := by simpa using c65))
                                  (try (have c65b2 : ((((rd_T29 t182 x10_1).f0) == 6) == x9_1) = false := by simpa using c65))
                                  (try (have c65b3 : ¬ ((((rd_T29 t182 x10_1).f0) == 6) = x9_1) := by simpa using c65))
                                  clear c65
                                  by_cases c67 : (((rd_T29 t182 x10_1).f1).size : Int) > (wrap64 ((zS0.size : Int) - ((rd_T29 t182 x10_1).f2)))
                                  · rw [if_pos c67] at H
                                    have c67b0 : decide ((wrap64 ((zS0.size : Int) - ((rd_T29 t182 x10_1).f2))) < (((rd_T29 t182 x10_1).f1).size : Int)) = true := decide_eq_true c67
                                    clear c67
                                    obtain rfl := Option.some.inj H
                                    have hcz68_0 : wr.cell? ⟨gb188, 0, none⟩ = some (.int .i64 ((rd_T29 t182 x10_1).f0)) := (blk_cell BK188.out 0).trans rfl
                                    have hcz68_1 : wr.cell? ⟨gb188, 1, none⟩ = some (.string ((rd_T29 t182 x10_1).f1)) := (blk_cell BK188.out 1).trans rfl
                                    have hcz68_2 : wr.cell? ⟨gb188, 2, none⟩ = some (.int .i64 ((rd_T29 t182 x10_1).f2)) := (blk_cell BK188.out 2).trans rfl
                                    have hfz68_0 := blk_frozen BK188.out 0
                                    have hfz68_1 := blk_frozen BK188.out 1
                                    have hfz68_2 := blk_frozen BK188.out 2
                                    go_wp2
                                    go_ret
                                    exact ⟨by first | rfl | (simp [errW_none, errW_some] <;> rfl) | (simp only [← hji3]; first | rfl | (simp [errW_none, errW_some] <;> rfl)) | (simp [*, errW_none, errW_some] <;> rfl), by repeat (first | (with_reducible first | exact HB.out | apply below_alloc | apply pw_below_drewN | apply below_drew1 | refine below_set ?_ GE188.out) | exact HB.out)⟩
                                  · rw [if_neg c67] at H
                                    have c67b0 : decide ((wrap64 ((zS0.size : Int) - ((rd_T29 t182 x10_1).f2))) < (((rd_T29 t182 x10_1).f1).size : Int)) = false := decide_eq_false c67
                                    clear c67
                                    by_cases c69 : 0 ≤ ((rd_T29 t182 x10_1).f2)
                                    · rw [if_pos c69] at H
                                      have c69b0 := eq_true c69
                                      have c69b1 : decide (0 ≤ ((rd_T29 t182 x10_1).f2)) = true := decide_eq_true c69
                                      clear c69
                                      by_cases c70 : ((rd_T29 t182 x10_1).f2) ≤ (wrap64 (((rd_T29 t182 x10_1).f2) + (((rd_T29 t182 x10_1).f1).size : Int)))
                                      · rw [if_pos c70] at H
                                        have c70b0 := eq_true c70
                                        have c70b1 : decide (((rd_T29 t182 x10_1).f2) ≤ (wrap64 (((rd_T29 t182 x10_1).f2) + (((rd_T29 t182 x10_1).f1).size : Int)))) = true := decide_eq_true c70
                                        by_cases c71 : (wrap64 (((rd_T29 t182 x10_1).f2) + (((rd_T29 t182 x10_1).f1).size : Int))) ≤ (zS0.size : Int)
                                        · rw [if_pos c71] at H
                                          have c71b0 := eq_true c71
                                          have c71b1 : decide ((wrap64 (((rd_T29 t182 x10_1).f2) + (((rd_T29 t182 x10_1).f1).size : Int))) ≤ (zS0.size : Int)) = true := decide_eq_true c71
                                          by_cases c72 : (zS0.extract (((rd_T29 t182 x10_1).f2) : Int).toNat ((wrap64 (((rd_T29 t182 x10_1).f2) + (((rd_T29 t182 x10_1).f1).size : Int))) : Int).toNat).toList = ((rd_T29 t182 x10_1).f1).toList
                                          · rw [if_pos c72] at H
                                            have c72b0 : ((zS0.extract (((rd_T29 t182 x10_1).f2) : Int).toNat ((wrap64 (((rd_T29 t182 x10_1).f2) + (((rd_T29 t182 x10_1).f1).size : Int))) : Int).toNat).toList == ((rd_T29 t182 x10_1).f1).toList) = true := beq_iff_eq.mpr c72
                                            have c72b1 : ((zS0.extract (((rd_T29 t182 x10_1).f2) : Int).toNat ((wrap64 (((rd_T29 t182 x10_1).f2) + (((rd_T29 t182 x10_1).f1).size : Int))) : Int).toNat).toList != ((rd_T29 t182 x10_1).f1).toList) = false := bne_eq_false_iff_eq.mpr c72
                                            clear c72
                                            have H' := Aside0.mk H
                                            clear H
                                            have hcz73_0 : wr.cell? ⟨gb188, 0, none⟩ = some (.int .i64 ((rd_T29 t182 x10_1).f0)) := (blk_cell BK188.out 0).trans rfl
                                            have hcz73_1 : wr.cell? ⟨gb188, 1, none⟩ = some (.string ((rd_T29 t182 x10_1).f1)) := (blk_cell BK188.out 1).trans rfl
                                            have hcz73_2 : wr.cell? ⟨gb188, 2, none⟩ = some (.int .i64 ((rd_T29 t182 x10_1).f2)) := (blk_cell BK188.out 2).trans rfl
                                            have hfz73_0 := blk_frozen BK188.out 0
                                            have hfz73_1 := blk_frozen BK188.out 1
                                            have hfz73_2 := blk_frozen BK188.out 2
                                            go_wp2
                                            go_roundg k3
                                            case measure => have := HK1.out; have := HJ11.out; have := HK3.out; omega
                                            case rel => exact ⟨(wrap64 (((rd_T29 t182 x10_1).f2) + (((rd_T29 t182 x10_1).f1).size : Int))), ((((rd_T29 t182 x10_1).f0) != 7)), (wrap64 (x10_1 + 1)), (by first | rfl | (simp; done) | (simp [*]; done)), (by first | rfl | (simp; done) | (simp [*]; done)), (by first | rfl | (simp; done) | (simp [*]; done)), H', ⟨by have := HK1.out; have := HJ11.out; have := HK3.out; omega⟩, ⟨by (with_reducible repeat (first | apply Kd.R_alloc | apply Kd.R_drewN | apply Kd.R_drew)); exact Kd.R_mono HO_5.out (fun _ hk => trivial)⟩, ⟨by repeat (first | (with_reducible first | exact HB.out | apply below_alloc | apply pw_below_drewN | apply below_drew1 | refine below_set ?_ GE188.out) | exact HB.out)⟩⟩
                                          · rw [if_neg c72] at H
                                            have c72b0 : ((zS0.extract (((rd_T29 t182 x10_1).f2) : Int).toNat ((wrap64 (((rd_T29 t182 x10_1).f2) + (((rd_T29 t182 x10_1).f1).size : Int))) : Int).toNat).toList == ((rd_T29 t182 x10_1).f1).toList) = false := beq_eq_false_iff_ne.mpr c72
                                            have c72b1 : ((zS0.extract (((rd_T29 t182 x10_1).f2) : Int).toNat ((wrap64 (((rd_T29 t182 x10_1).f2) + (((rd_T29 t182 x10_1).f1).size : Int))) : Int).toNat).toList != ((rd_T29 t182 x10_1).f1).toList) = true := bne_iff_ne.mpr c72
                                            obtain rfl := Option.some.inj H
                                            have hcz74_0 : wr.cell? ⟨gb188, 0, none⟩ = some (.int .i64 ((rd_T29 t182 x10_1).f0)) := (blk_cell BK188.out 0).trans rfl
                                            have hcz74_1 : wr.cell? ⟨gb188, 1, none⟩ = some (.string ((rd_T29 t182 x10_1).f1)) := (blk_cell BK188.out 1).trans rfl
                                            have hcz74_2 : wr.cell? ⟨gb188, 2, none⟩ = some (.int .i64 ((rd_T29 t182 x10_1).f2)) := (blk_cell BK188.out 2).trans rfl
                                            have hfz74_0 := blk_frozen BK188.out 0
                                            have hfz74_1 := blk_frozen BK188.out 1
                                            have hfz74_2 := blk_frozen BK188.out 2
                                            go_wp2
                                            go_ret
                                            exact ⟨by first | rfl | (simp [errW_none, errW_some] <;> rfl) | (simp only [← hji3]; first | rfl | (simp [errW_none, errW_some] <;> rfl)) | (simp [*, errW_none, errW_some] <;> rfl), by repeat (first | (with_reducible first | exact HB.out | apply below_alloc | apply pw_below_drewN | apply below_drew1 | refine below_set ?_ GE188.out) | exact HB.out)⟩
                                        · rw [if_neg c71] at H
                                          exact absurd H (by simp)
                                      · rw [if_neg c70] at H
                                        exact absurd H (by simp)
                                    · rw [if_neg c69] at H
                                      exact absurd H (by simp)
              · rw [if_neg c11] at H
                exact absurd H (by simp)
            · rw [if_neg c10] at H
              have c10b0 : decide (x10_1 < (t182.length : Int)) = false := decide_eq_false c10
              clear c10
              by_cases c75 : t181 = true
              · subst c75
                have H1 : (if x9_1 = true then (some false) else (some (x8_1 == (zS0.size : Int)))) = some r := by rw [if_pos rfl] at H; exact H
                clear H
                have H := H1
                clear H1
                by_cases c76 : x9_1 = true
                · subst c76
                  have H1 : (some false) = some r := by rw [if_pos rfl] at H; exact H
                  clear H
                  have H := H1
                  clear H1
                  obtain rfl := Option.some.inj H
                  obtain ⟨Ao77, co77, eo77⟩ := Kd.R_slice HO_5.out
                  subst eo77
                  go_wp2
                  go_ret
                  exact ⟨by first | rfl | (simp [errW_none, errW_some] <;> rfl) | (simp only [← hji3]; first | rfl | (simp [errW_none, errW_some] <;> rfl)) | (simp [*, errW_none, errW_some] <;> rfl), by repeat (first | (with_reducible first | exact HB.out | apply below_alloc | apply pw_below_drewN | apply below_drew1) | exact HB.out)⟩
                · replace c76 := Bool.eq_false_iff.mpr c76
                  subst c76
                  have H1 : (some (x8_1 == (zS0.size : Int))) = some r := by rw [if_neg (show ¬ (false = true) by decide)] at H; exact H
                  clear H
                  have H := H1
                  clear H1
                  obtain rfl := Option.some.inj H
                  obtain ⟨Ao78, co78, eo78⟩ := Kd.R_slice HO_5.out
                  subst eo78
                  go_wp2
                  go_ret
                  exact ⟨by first | rfl | (simp [errW_none, errW_some] <;> rfl) | (simp only [← hji3]; first | rfl | (simp [errW_none, errW_some] <;> rfl)) | (simp [*, errW_none, errW_some] <;> rfl), by repeat (first | (with_reducible first | exact HB.out | apply below_alloc | apply pw_below_drewN | apply below_drew1) | exact HB.out)⟩
              · replace c75 := Bool.eq_false_iff.mpr c75
                subst c75
                have H1 : (some false) = some r := by rw [if_neg (show ¬ (false = true) by decide)] at H; exact H
                clear H
                have H := H1
                clear H1
                obtain rfl := Option.some.inj H
                obtain ⟨Ao79, co79, eo79⟩ := Kd.R_slice HO_5.out
                subst eo79
                go_wp2
                go_ret
                exact ⟨by first | rfl | (simp [errW_none, errW_some] <;> rfl) | (simp only [← hji3]; first | rfl | (simp [errW_none, errW_some] <;> rfl)) | (simp [*, errW_none, errW_some] <;> rfl), by repeat (first | (with_reducible first | exact HB.out | apply below_alloc | apply pw_below_drewN | apply below_drew1) | exact HB.out)⟩
      · rw [if_neg c7] at H
        have c7b0 : (t184 == 0) = false := beq_eq_false_iff_ne.mpr c7
        have c7b1 : (t184 != 0) = true := bne_iff_ne.mpr c7
        by_cases c80 : t181 = true
        · subst c80
          have H1 : (some ((t182.length : Int) == 0)) = some r := by rw [if_pos rfl] at H; exact H
          clear H
          have H := H1
          clear H1
          obtain rfl := Option.some.inj H
          go_enter Tryd.func6, Tryd.ntmps6
          go_wp2_with (first | ((with_reducible refine gate_callee (f := 7) rfl ?_); refine goesL_ (some 14) rfl rfl Tryd.func7 (by kernel_rfl) rfl #[] rfl (by (try simp only [List.map_toArray, List.map_cons, List.map_nil]); first | done | rfl | (simp only [List.length_drop, List.length_take]; rfl)) ?_; (with_reducible refine (copydesklaw09_sane.calls  true _ ?side99 A2.out).mono ?_); (case side99 => first | exact HG.out | exact Go.Proofs.YtbgnkoecfokmaaaDoor.Lex.Gl.below HG.out (by repeat (first | (with_reducible first | exact HB.out | apply below_alloc | apply pw_below_drewN | apply below_drew1) | exact HB.out))); rintro e w81 ⟨rfl, hb⟩; refine ⟨_, rfl, ?_⟩; have n0_ := Aside0.mk (below_step (by repeat (first | (with_reducible first | exact HB.out | apply below_alloc | apply pw_below_drewN | apply below_drew1) | exact HB.out)) hb); clear HB; have HB := n0_; clear n0_; (try clear hb); (try clear hb2); (try clear hk); (try clear hi)) | ((with_reducible refine gate_callee (f := 11) rfl ?_); refine goesL_ (some 22) rfl rfl Tryd.func11 (by kernel_rfl) rfl #[.string (a0.extract 0 ((ji3) : Int).toNat)] rfl (by (try simp only [List.map_toArray, List.map_cons, List.map_nil]); first | done | (simp only [hji3]; rfl) | rfl | (simp only [List.length_drop, List.length_take]; rfl)) ?_; (with_reducible refine (lexer_Tokens.calls (a0.extract 0 ((ji3) : Int).toNat) t182 t183 t184 _ ?side99 A6.out).mono ?_); (case side99 => first | exact HG.out | exact Go.Proofs.YtbgnkoecfokmaaaDoor.Lex.Gl.below HG.out (by repeat (first | (with_reducible first | exact HB.out | apply below_alloc | apply pw_below_drewN | apply below_drew1) | exact HB.out))); rintro e w82 ⟨v185, rfl, ho0, hb⟩; refine ⟨_, rfl, ?_⟩; have n0_ := Aside0.mk (Kd.R_lower ho0 (below_size (by repeat (first | (with_reducible first | exact HB.out | apply below_alloc | apply pw_below_drewN | apply below_drew1) | exact HB.out)))); have n1_ := Aside0.mk (below_step (by repeat (first | (with_reducible first | exact HB.out | apply below_alloc | apply pw_below_drewN | apply below_drew1) | exact HB.out)) hb); clear HB; have HO186 := n0_; have HB := n1_; clear n0_ n1_; (try clear hb); (try clear hb2); (try clear hk); (try clear hi); (try clear ho0); obtain ⟨Ao83, co83, eo83⟩ := Kd.R_slice HO186.out; subst eo83))
          go_ret
          exact ⟨by first | rfl | (simp [errW_none, errW_some] <;> rfl) | (simp only [← hji3]; first | rfl | (simp [errW_none, errW_some] <;> rfl)) | (simp [*, errW_none, errW_some] <;> rfl), by repeat (first | (with_reducible first | exact HB.out | apply below_alloc | apply pw_below_drewN | apply below_drew1) | exact HB.out)⟩
        · replace c80 := Bool.eq_false_iff.mpr c80
          subst c80
          have H1 : (some false) = some r := by rw [if_neg (show ¬ (false = true) by decide)] at H; exact H
          clear H
          have H := H1
          clear H1
          obtain rfl := Option.some.inj H
          go_enter Tryd.func6, Tryd.ntmps6
          go_wp2_with (first | ((with_reducible refine gate_callee (f := 7) rfl ?_); refine goesL_ (some 14) rfl rfl Tryd.func7 (by kernel_rfl) rfl #[] rfl (by (try simp only [List.map_toArray, List.map_cons, List.map_nil]); first | done | rfl | (simp only [List.length_drop, List.length_take]; rfl)) ?_; (with_reducible refine (copydesklaw09_sane.calls  false _ ?side99 A2.out).mono ?_); (case side99 => first | exact HG.out | exact Go.Proofs.YtbgnkoecfokmaaaDoor.Lex.Gl.below HG.out (by repeat (first | (with_reducible first | exact HB.out | apply below_alloc | apply pw_below_drewN | apply below_drew1) | exact HB.out))); rintro e w84 ⟨rfl, hb⟩; refine ⟨_, rfl, ?_⟩; have n0_ := Aside0.mk (below_step (by repeat (first | (with_reducible first | exact HB.out | apply below_alloc | apply pw_below_drewN | apply below_drew1) | exact HB.out)) hb); clear HB; have HB := n0_; clear n0_; (try clear hb); (try clear hb2); (try clear hk); (try clear hi)) | ((with_reducible refine gate_callee (f := 11) rfl ?_); refine goesL_ (some 22) rfl rfl Tryd.func11 (by kernel_rfl) rfl #[.string (a0.extract 0 ((ji3) : Int).toNat)] rfl (by (try simp only [List.map_toArray, List.map_cons, List.map_nil]); first | done | (simp only [hji3]; rfl) | rfl | (simp only [List.length_drop, List.length_take]; rfl)) ?_; (with_reducible refine (lexer_Tokens.calls (a0.extract 0 ((ji3) : Int).toNat) t182 t183 t184 _ ?side99 A6.out).mono ?_); (case side99 => first | exact HG.out | exact Go.Proofs.YtbgnkoecfokmaaaDoor.Lex.Gl.below HG.out (by repeat (first | (with_reducible first | exact HB.out | apply below_alloc | apply pw_below_drewN | apply below_drew1) | exact HB.out))); rintro e w85 ⟨v185, rfl, ho0, hb⟩; refine ⟨_, rfl, ?_⟩; have n0_ := Aside0.mk (Kd.R_lower ho0 (below_size (by repeat (first | (with_reducible first | exact HB.out | apply below_alloc | apply pw_below_drewN | apply below_drew1) | exact HB.out)))); have n1_ := Aside0.mk (below_step (by repeat (first | (with_reducible first | exact HB.out | apply below_alloc | apply pw_below_drewN | apply below_drew1) | exact HB.out)) hb); clear HB; have HO186 := n0_; have HB := n1_; clear n0_ n1_; (try clear hb); (try clear hb2); (try clear hk); (try clear hi); (try clear ho0)))
          go_ret
          exact ⟨by first | rfl | (simp [errW_none, errW_some] <;> rfl) | (simp only [← hji3]; first | rfl | (simp [errW_none, errW_some] <;> rfl)) | (simp [*, errW_none, errW_some] <;> rfl), by repeat (first | (with_reducible first | exact HB.out | apply below_alloc | apply pw_below_drewN | apply below_drew1) | exact HB.out)⟩
    · rw [if_neg c5] at H
      exact absurd H (by simp)
  · rw [if_neg c4] at H
    exact absurd H (by simp)

/-- THE ONE PURE STATEMENT of copydesklaw09_LexerOffsets: yours. -/
def copydesklaw09_LexerOffsets.Pure : Prop := ∀ (a0 : ByteArray), a0.size ≤ 140737488351232 → ∃ k, copydesklaw09_LexerOffsets.f k a0 = some true
theorem copydesklaw09_LexerOffsets.walk (P : copydesklaw09_LexerOffsets.Pure) (a0 : ByteArray) (w : World) (w0 : a0.size ≤ 140737488351232) (hG : Go.Proofs.YtbgnkoecfokmaaaDoor.Lex.Gl w) :
    Calls Tryd.prog 6 #[.string a0] w fun e w' => e = .returned (.bool true) ∧ Below w.heap.size w w' := by
  obtain ⟨k, h⟩ := P a0 w0
  refine (copydesklaw09_LexerOffsets.calls k a0 true w hG h).mono ?_
  rintro e w' ⟨rfl, hd⟩
  exact ⟨rfl, hd⟩

end Go.Proofs.YtbgnkoecfokmaaaDoor.PX
