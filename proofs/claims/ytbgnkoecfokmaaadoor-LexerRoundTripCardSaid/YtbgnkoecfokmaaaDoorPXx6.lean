-- Written by wip/pr.py, a program of this session, that runs the kit's printer with contracts of our own put in. Lean checks it.
import Derived.Test.YtbgnkoecfokmaaaDoorPXx0
import Derived.Test.YtbgnkoecfokmaaaDoorPXx5
import Derived.Test.YtbgnkoecfokmaaaDoorLexJoin
namespace Go.Proofs.YtbgnkoecfokmaaaDoor.PX
open Go.RowKit Go.Proofs.YtbgnkoecfokmaaaDoorW.PrintWords Go.Proofs.YtbgnkoecfokmaaaDoorW.PrintLast Go.Proofs.YtbgnkoecfokmaaaDoorW.PrintMore
attribute [local go_sem] max2_int min2_int max_two min_two max_three min_three max_four min_four   -- for this text's walks alone
set_option linter.unusedVariables false
set_option linter.unusedSimpArgs false

/-! ### copydesklaw09_built: function 10 -/
mutual
def copydesklaw09_built.l0 : Nat → Int → List Int → List ByteArray → List Int → ByteArray → List (S29) → Int → Int → Option (ByteArray × (List (S29)))
  | 0, _, _, _, _, _, _, _, _ => none
  | k + 1, x0, x1, x2, x3, x10, x11, x12, x13 => if x13 < (x1.length : Int) then (copydesklaw09_built.j1 k x0 x1 x2 x3 x10 x11 x12 x13 (decide (x13 < 8))) else (copydesklaw09_built.j1 k x0 x1 x2 x3 x10 x11 x12 x13 false)
def copydesklaw09_built.j1 : Nat → Int → List Int → List ByteArray → List Int → ByteArray → List (S29) → Int → Int → Bool → Option (ByteArray × (List (S29)))
  | 0, _, _, _, _, _, _, _, _, _ => none
  | k + 1, x0, x1, x2, x3, x10, x11, x12, x13, x29 => if x29 = true then ((some (([2, 3, 4, 5] : List Int) : List Int)).bind fun y221 => (if 0 ≤ x13 then (if x13 < (x1.length : Int) then ((copydesklaw09_pick.f (rd x1 x13) 4).bind fun t225 => (if 0 ≤ t225 then (if t225 < (y221.length : Int) then (if x13 < (x2.length : Int) then (copydesklaw09_built.j2 k x0 x1 x2 x3 x10 x11 x12 x13 (rd y221 t225) (rdOf ByteArray.empty x2 x13) 0) else (copydesklaw09_built.j2 k x0 x1 x2 x3 x10 x11 x12 x13 (rd y221 t225) (⟨#[]⟩ : ByteArray) 0)) else (none)) else (none))) else (none)) else (none))) else ((copydesklaw09_gap.f (x1.length : Int) false).bind fun t217 => (if x10.size + t217.size ≤ 9223372036854775807 then (if x11.length < 4398046511104 then (if (x10.size + t217.size) + 1 ≤ 9223372036854775807 then (some ((x10 ++ t217) ++ (⟨#[125]⟩ : ByteArray), (x11 ++ [(⟨7, (⟨#[125]⟩ : ByteArray), wrap64 (x0 + ((x10.size : Int) + (t217.size : Int)))⟩ : S29)]))) else (none)) else (none)) else (none)))
def copydesklaw09_built.j2 : Nat → Int → List Int → List ByteArray → List Int → ByteArray → List (S29) → Int → Int → Int → ByteArray → Int → Option (ByteArray × (List (S29)))
  | 0, _, _, _, _, _, _, _, _, _, _, _ => none
  | k + 1, x0, x1, x2, x3, x10, x11, x12, x13, x14, x15, x16 => if x13 < (x3.length : Int) then (if 0 ≤ x13 then (copydesklaw09_built.j3 k x0 x1 x2 x3 x10 x11 x12 x13 x14 x15 (rd x3 x13)) else (none)) else (copydesklaw09_built.j3 k x0 x1 x2 x3 x10 x11 x12 x13 x14 x15 x16)
def copydesklaw09_built.j3 : Nat → Int → List Int → List ByteArray → List Int → ByteArray → List (S29) → Int → Int → Int → ByteArray → Int → Option (ByteArray × (List (S29)))
  | 0, _, _, _, _, _, _, _, _, _, _, _ => none
  | k + 1, x0, x1, x2, x3, x10, x11, x12, x13, x14, x15, x16 => if x12 = 2 then (if x14 = 2 then (copydesklaw09_built.j4 k x0 x1 x2 x3 x10 x11 x13 x14 x15 x16 true) else (copydesklaw09_built.j4 k x0 x1 x2 x3 x10 x11 x13 x14 x15 x16 (x14 == 3))) else (if x12 = 3 then (if x14 = 2 then (copydesklaw09_built.j4 k x0 x1 x2 x3 x10 x11 x13 x14 x15 x16 true) else (copydesklaw09_built.j4 k x0 x1 x2 x3 x10 x11 x13 x14 x15 x16 (x14 == 3))) else (copydesklaw09_built.j4 k x0 x1 x2 x3 x10 x11 x13 x14 x15 x16 false))
def copydesklaw09_built.j4 : Nat → Int → List Int → List ByteArray → List Int → ByteArray → List (S29) → Int → Int → ByteArray → Int → Bool → Option (ByteArray × (List (S29)))
  | 0, _, _, _, _, _, _, _, _, _, _, _ => none
  | k + 1, x0, x1, x2, x3, x10, x11, x13, x14, x15, x16, x17 => (copydesklaw09_gap.f x16 x17).bind fun t229 => (if x10.size + t229.size ≤ 9223372036854775807 then ((copydesklaw09_word.f k x14 x15).bind fun t230 => (if x14 = 4 then (if (x10.size + t229.size) + 1 ≤ 9223372036854775807 then (if (x10.size + t229.size + 1) + t230.size ≤ 9223372036854775807 then (if (x10.size + t229.size + 1 + t230.size) + 1 ≤ 9223372036854775807 then (if x11.length < 4398046511104 then (copydesklaw09_built.l0 k x0 x1 x2 x3 ((((x10 ++ t229) ++ (⟨#[34]⟩ : ByteArray)) ++ t230) ++ (⟨#[34]⟩ : ByteArray)) (x11 ++ [(⟨x14, t230, wrap64 (x0 + ((x10.size : Int) + (t229.size : Int)))⟩ : S29)]) x14 (wrap64 (x13 + 1))) else (none)) else (none)) else (none)) else (none)) else (if x14 = 5 then (if (x10.size + t229.size) + 1 ≤ 9223372036854775807 then (if x11.length < 4398046511104 then (copydesklaw09_built.l0 k x0 x1 x2 x3 ((x10 ++ t229) ++ (⟨#[124]⟩ : ByteArray)) (x11 ++ [(⟨x14, (⟨#[124]⟩ : ByteArray), wrap64 (x0 + ((x10.size : Int) + (t229.size : Int)))⟩ : S29)]) x14 (wrap64 (x13 + 1))) else (none)) else (none)) else (if (x10.size + t229.size) + t230.size ≤ 9223372036854775807 then (if x11.length < 4398046511104 then (copydesklaw09_built.l0 k x0 x1 x2 x3 ((x10 ++ t229) ++ t230) (x11 ++ [(⟨x14, t230, wrap64 (x0 + ((x10.size : Int) + (t229.size : Int)))⟩ : S29)]) x14 (wrap64 (x13 + 1))) else (none)) else (none))))) else (none))
end
def copydesklaw09_built.f (k : Nat) (a0 : Int) (l1 : List Int) (l2 : List ByteArray) (l3 : List Int) : Option (ByteArray × (List (S29))) := copydesklaw09_built.l0 k a0 l1 l2 l3 (⟨#[123]⟩ : ByteArray) (([(⟨6, (⟨#[123]⟩ : ByteArray), a0⟩ : S29)] : List (S29))) 6 0
theorem copydesklaw09_built.mono_l : ∀ k, (∀ y0 y1 y2 y3 y4 y5 y6 y7, LeO (copydesklaw09_built.l0 k y0 y1 y2 y3 y4 y5 y6 y7) (copydesklaw09_built.l0 (k + 1) y0 y1 y2 y3 y4 y5 y6 y7)) ∧ (∀ y0 y1 y2 y3 y4 y5 y6 y7 y8, LeO (copydesklaw09_built.j1 k y0 y1 y2 y3 y4 y5 y6 y7 y8) (copydesklaw09_built.j1 (k + 1) y0 y1 y2 y3 y4 y5 y6 y7 y8)) ∧ (∀ y0 y1 y2 y3 y4 y5 y6 y7 y8 y9 y10, LeO (copydesklaw09_built.j2 k y0 y1 y2 y3 y4 y5 y6 y7 y8 y9 y10) (copydesklaw09_built.j2 (k + 1) y0 y1 y2 y3 y4 y5 y6 y7 y8 y9 y10)) ∧ (∀ y0 y1 y2 y3 y4 y5 y6 y7 y8 y9 y10, LeO (copydesklaw09_built.j3 k y0 y1 y2 y3 y4 y5 y6 y7 y8 y9 y10) (copydesklaw09_built.j3 (k + 1) y0 y1 y2 y3 y4 y5 y6 y7 y8 y9 y10)) ∧ (∀ y0 y1 y2 y3 y4 y5 y6 y7 y8 y9 y10, LeO (copydesklaw09_built.j4 k y0 y1 y2 y3 y4 y5 y6 y7 y8 y9 y10) (copydesklaw09_built.j4 (k + 1) y0 y1 y2 y3 y4 y5 y6 y7 y8 y9 y10))
  | 0 => ⟨fun _ _ _ _ _ _ _ _ r h => by simp [copydesklaw09_built.l0] at h, fun _ _ _ _ _ _ _ _ _ r h => by simp [copydesklaw09_built.j1] at h, fun _ _ _ _ _ _ _ _ _ _ _ r h => by simp [copydesklaw09_built.j2] at h, fun _ _ _ _ _ _ _ _ _ _ _ r h => by simp [copydesklaw09_built.j3] at h, fun _ _ _ _ _ _ _ _ _ _ _ r h => by simp [copydesklaw09_built.j4] at h⟩
  | k + 1 => by
    obtain ⟨ih0, ih1, ih2, ih3, ih4⟩ := copydesklaw09_built.mono_l k
    refine ⟨?_, ?_, ?_, ?_, ?_⟩
    · intro y0 y1 y2 y3 y4 y5 y6 y7
      unfold copydesklaw09_built.l0
      repeat' first
      | (with_reducible exact ih0 _ _ _ _ _ _ _ _)
      | (with_reducible exact ih1 _ _ _ _ _ _ _ _ _)
      | (with_reducible exact ih2 _ _ _ _ _ _ _ _ _ _ _)
      | (with_reducible exact ih3 _ _ _ _ _ _ _ _ _ _ _)
      | (with_reducible exact ih4 _ _ _ _ _ _ _ _ _ _ _)
      | (with_reducible exact copydesklaw09_word.mono _ _ _)
      | (with_reducible exact LeO.refl _)
      | (with_reducible exact LeO.none _)
      | (with_reducible refine LeO.ite ?_ ?_)
      | (with_reducible refine LeO.bind ?_ (fun _ => ?_))
      | exact ih0 _ _ _ _ _ _ _ _
      | exact ih1 _ _ _ _ _ _ _ _ _
      | exact ih2 _ _ _ _ _ _ _ _ _ _ _
      | exact ih3 _ _ _ _ _ _ _ _ _ _ _
      | exact ih4 _ _ _ _ _ _ _ _ _ _ _
      | exact copydesklaw09_word.mono _ _ _
      | exact LeO.none _
      | refine LeO.ite ?_ ?_
      | refine LeO.bind ?_ (fun _ => ?_)
    · intro y0 y1 y2 y3 y4 y5 y6 y7 y8
      unfold copydesklaw09_built.j1
      repeat' first
      | (with_reducible exact ih0 _ _ _ _ _ _ _ _)
      | (with_reducible exact ih1 _ _ _ _ _ _ _ _ _)
      | (with_reducible exact ih2 _ _ _ _ _ _ _ _ _ _ _)
      | (with_reducible exact ih3 _ _ _ _ _ _ _ _ _ _ _)
      | (with_reducible exact ih4 _ _ _ _ _ _ _ _ _ _ _)
      | (with_reducible exact copydesklaw09_word.mono _ _ _)
      | (with_reducible exact LeO.refl _)
      | (with_reducible exact LeO.none _)
      | (with_reducible refine LeO.ite ?_ ?_)
      | (with_reducible refine LeO.bind ?_ (fun _ => ?_))
      | exact ih0 _ _ _ _ _ _ _ _
      | exact ih1 _ _ _ _ _ _ _ _ _
      | exact ih2 _ _ _ _ _ _ _ _ _ _ _
      | exact ih3 _ _ _ _ _ _ _ _ _ _ _
      | exact ih4 _ _ _ _ _ _ _ _ _ _ _
      | exact copydesklaw09_word.mono _ _ _
      | exact LeO.none _
      | refine LeO.ite ?_ ?_
      | refine LeO.bind ?_ (fun _ => ?_)
    · intro y0 y1 y2 y3 y4 y5 y6 y7 y8 y9 y10
      unfold copydesklaw09_built.j2
      repeat' first
      | (with_reducible exact ih0 _ _ _ _ _ _ _ _)
      | (with_reducible exact ih1 _ _ _ _ _ _ _ _ _)
      | (with_reducible exact ih2 _ _ _ _ _ _ _ _ _ _ _)
      | (with_reducible exact ih3 _ _ _ _ _ _ _ _ _ _ _)
      | (with_reducible exact ih4 _ _ _ _ _ _ _ _ _ _ _)
      | (with_reducible exact copydesklaw09_word.mono _ _ _)
      | (with_reducible exact LeO.refl _)
      | (with_reducible exact LeO.none _)
      | (with_reducible refine LeO.ite ?_ ?_)
      | (with_reducible refine LeO.bind ?_ (fun _ => ?_))
      | exact ih0 _ _ _ _ _ _ _ _
      | exact ih1 _ _ _ _ _ _ _ _ _
      | exact ih2 _ _ _ _ _ _ _ _ _ _ _
      | exact ih3 _ _ _ _ _ _ _ _ _ _ _
      | exact ih4 _ _ _ _ _ _ _ _ _ _ _
      | exact copydesklaw09_word.mono _ _ _
      | exact LeO.none _
      | refine LeO.ite ?_ ?_
      | refine LeO.bind ?_ (fun _ => ?_)
    · intro y0 y1 y2 y3 y4 y5 y6 y7 y8 y9 y10
      unfold copydesklaw09_built.j3
      repeat' first
      | (with_reducible exact ih0 _ _ _ _ _ _ _ _)
      | (with_reducible exact ih1 _ _ _ _ _ _ _ _ _)
      | (with_reducible exact ih2 _ _ _ _ _ _ _ _ _ _ _)
      | (with_reducible exact ih3 _ _ _ _ _ _ _ _ _ _ _)
      | (with_reducible exact ih4 _ _ _ _ _ _ _ _ _ _ _)
      | (with_reducible exact copydesklaw09_word.mono _ _ _)
      | (with_reducible exact LeO.refl _)
      | (with_reducible exact LeO.none _)
      | (with_reducible refine LeO.ite ?_ ?_)
      | (with_reducible refine LeO.bind ?_ (fun _ => ?_))
      | exact ih0 _ _ _ _ _ _ _ _
      | exact ih1 _ _ _ _ _ _ _ _ _
      | exact ih2 _ _ _ _ _ _ _ _ _ _ _
      | exact ih3 _ _ _ _ _ _ _ _ _ _ _
      | exact ih4 _ _ _ _ _ _ _ _ _ _ _
      | exact copydesklaw09_word.mono _ _ _
      | exact LeO.none _
      | refine LeO.ite ?_ ?_
      | refine LeO.bind ?_ (fun _ => ?_)
    · intro y0 y1 y2 y3 y4 y5 y6 y7 y8 y9 y10
      unfold copydesklaw09_built.j4
      repeat' first
      | (with_reducible exact ih0 _ _ _ _ _ _ _ _)
      | (with_reducible exact ih1 _ _ _ _ _ _ _ _ _)
      | (with_reducible exact ih2 _ _ _ _ _ _ _ _ _ _ _)
      | (with_reducible exact ih3 _ _ _ _ _ _ _ _ _ _ _)
      | (with_reducible exact ih4 _ _ _ _ _ _ _ _ _ _ _)
      | (with_reducible exact copydesklaw09_word.mono _ _ _)
      | (with_reducible exact LeO.refl _)
      | (with_reducible exact LeO.none _)
      | (with_reducible refine LeO.ite ?_ ?_)
      | (with_reducible refine LeO.bind ?_ (fun _ => ?_))
      | exact ih0 _ _ _ _ _ _ _ _
      | exact ih1 _ _ _ _ _ _ _ _ _
      | exact ih2 _ _ _ _ _ _ _ _ _ _ _
      | exact ih3 _ _ _ _ _ _ _ _ _ _ _
      | exact ih4 _ _ _ _ _ _ _ _ _ _ _
      | exact copydesklaw09_word.mono _ _ _
      | exact LeO.none _
      | refine LeO.ite ?_ ?_
      | refine LeO.bind ?_ (fun _ => ?_)
theorem copydesklaw09_built.mono : ∀ a0 a1 a2 a3 k, LeO (copydesklaw09_built.f k a0 a1 a2 a3) (copydesklaw09_built.f (k + 1) a0 a1 a2 a3) := by
  intro a0 a1 a2 a3 k
  obtain ⟨ih0, ih1, ih2, ih3, ih4⟩ := copydesklaw09_built.mono_l k
  unfold copydesklaw09_built.f
  repeat' first
      | (with_reducible exact ih0 _ _ _ _ _ _ _ _)
      | (with_reducible exact ih1 _ _ _ _ _ _ _ _ _)
      | (with_reducible exact ih2 _ _ _ _ _ _ _ _ _ _ _)
      | (with_reducible exact ih3 _ _ _ _ _ _ _ _ _ _ _)
      | (with_reducible exact ih4 _ _ _ _ _ _ _ _ _ _ _)
      | (with_reducible exact copydesklaw09_word.mono _ _ _)
      | (with_reducible exact LeO.refl _)
      | (with_reducible exact LeO.none _)
      | (with_reducible refine LeO.ite ?_ ?_)
      | (with_reducible refine LeO.bind ?_ (fun _ => ?_))
      | exact ih0 _ _ _ _ _ _ _ _
      | exact ih1 _ _ _ _ _ _ _ _ _
      | exact ih2 _ _ _ _ _ _ _ _ _ _ _
      | exact ih3 _ _ _ _ _ _ _ _ _ _ _
      | exact ih4 _ _ _ _ _ _ _ _ _ _ _
      | exact copydesklaw09_word.mono _ _ _
      | exact LeO.none _
      | refine LeO.ite ?_ ?_
      | refine LeO.bind ?_ (fun _ => ?_)
set_option maxHeartbeats 8000000 in
set_option maxRecDepth 100000 in
theorem copydesklaw09_built.calls (k : Nat) (a0 : Int) (A1 : Option Addr) (c1 : Nat) (l1 : List Int) (A2 : Option Addr) (c2 : Nat) (l2 : List ByteArray) (A3 : Option Addr) (c3 : Nat) (l3 : List Int) (r1 : ByteArray) (r2 : List (S29)) (w : World) (hr1 : Kd.C (Kd.int .i64) w A1 l1.length l1) (hc1 : l1.length ≤ c1) (hr2 : Kd.C Kd.string w A2 l2.length l2) (hc2 : l2.length ≤ c2) (hr3 : Kd.C (Kd.int .i64) w A3 l3.length l3) (hc3 : l3.length ≤ c3) (h : copydesklaw09_built.f k a0 l1 l2 l3 = some (r1, r2)) :
    Calls Tryd.prog 10 #[.int .i64 a0, .slice A1 l1.length c1, .slice A2 l2.length c2, .slice A3 l3.length c3] w fun e w' => ∃ v1_ : Value, e = .returned (.tuple #[.string r1, v1_]) ∧ Kd.R k29 29 w' w.heap.size (fun _ => True) v1_ r2 ∧ Below w.heap.size w w' := by
  have hu29 := Tryd.underlying29
  have HR1 := Aside0.mk hr1
  have HC1 := Aside0.mk hc1
  clear hr1 hc1
  have HR2 := Aside0.mk hr2
  have HC2 := Aside0.mk hc2
  clear hr2 hc2
  have HR3 := Aside0.mk hr3
  have HC3 := Aside0.mk hc3
  clear hr3 hc3
  have HB := Aside0.mk (Below.refl w.heap.size w)
  have H : (copydesklaw09_built.l0 k a0 l1 l2 l3 (⟨#[123]⟩ : ByteArray) (([(⟨6, (⟨#[123]⟩ : ByteArray), a0⟩ : S29)] : List (S29))) 6 0) = some (r1, r2) := h
  clear h
  obtain ⟨y214, hy214⟩ : ∃ y_ : List (S29), y_ = (([(⟨6, (⟨#[123]⟩ : ByteArray), a0⟩ : S29)] : List (S29))) := ⟨_, rfl⟩
  replace H : (copydesklaw09_built.l0 k a0 l1 l2 l3 (⟨#[123]⟩ : ByteArray) y214 6 0) = some (r1, r2) := by first | (rw [hy214]; with_reducible exact H) | (have H2_ := (Option.bind_some _ _).symm.trans H; rw [hy214]; with_reducible exact H2_) | (have H2_ := (Option.bind_some _ _).symm.trans H; with_reducible exact H2_) | with_reducible exact H | (rw [hy214]; exact H) | exact H
  have Ny214 := Aside0.mk hy214
  clear hy214
  have H' := Aside0.mk H
  clear H
  go_enter Tryd.func10, Tryd.ntmps10
  go_wp2_with (first | ((with_reducible refine gate_dst (N := 21) rfl ?_); refine Kd.R_lit k29 _ 29 ?hg (N := 21) ?hd (xs := ([(⟨6, (⟨#[123]⟩ : ByteArray), a0⟩ : S29)] : List (S29))) (inner := [.int .i64 6, .string (⟨#[123]⟩ : ByteArray), .int .i64 a0]) (ok := fun _ => True) (okp := fun _ => True) ?hr ?hp (fun _ hk => hk) trivial (Below.refl _ _) (Nat.le_refl _) (by simp) ?_; (case hd => rfl); (case hg => rfl); (case hr => first | (go_simp; done) | (go_simp; rfl)); (case hp => exact (Reps.c3 (show Kd.M k29 _ _ _ (⟨6, (⟨#[123]⟩ : ByteArray), a0⟩ : S29) [.int .i64 6, .string (⟨#[123]⟩ : ByteArray), .int .i64 a0] from (k29_mkM _ _ _ (⟨6, (⟨#[123]⟩ : ByteArray), a0⟩ : S29) )) (Reps.none _ _))); intro v215 w5 ho6 hb hg_ hnew_; clear hg_ hnew_; (first | rw [← Ny214.out] at ho6 | (simp only [Int.reduceToNat] at ho6; rw [← Ny214.out] at ho6)); have n0_ := Aside0.mk (Kd.R_lower ho6 (below_size (by repeat (first | (with_reducible first | exact HB.out | apply below_alloc | apply pw_below_drewN | apply below_drew1) | exact HB.out)))); have n1_ := Aside0.mk (below_step (by repeat (first | (with_reducible first | exact HB.out | apply below_alloc | apply pw_below_drewN | apply below_drew1) | exact HB.out)) hb); clear HB; have HO216 := n0_; have HB := n1_; clear n0_ n1_; clear hb ho6))
  go_loopg [10, 11, 12, 13] k (fun kq v10 v11 v12 v13 w' => ∃ (x10_1 : ByteArray) (x11_1 : List (S29)) (x12_1 : Int) (x13_1 : Int), v10 = .string x10_1 ∧ v12 = .int .i64 x12_1 ∧ v13 = .int .i64 x13_1 ∧ Aside0 (copydesklaw09_built.l0 kq a0 l1 l2 l3 x10_1 x11_1 x12_1 x13_1 = some (r1, r2)) ∧ Aside0 (kq ≤ k) ∧ Aside0 (Kd.R k29 29 w' w.heap.size (fun _ => True) v11 x11_1) ∧ Aside0 (Below w.heap.size w w'))
  case atStart => exact ⟨((⟨#[123]⟩ : ByteArray)), (y214), (6), (0), (by first | rfl | (simp; done) | (simp [*]; done)), (by first | rfl | (simp; done) | (simp [*]; done)), (by first | rfl | (simp; done) | (simp [*]; done)), H', ⟨Nat.le_refl _⟩, ⟨by (with_reducible repeat (first | apply Kd.R_alloc | apply Kd.R_drewN | apply Kd.R_drew)); exact HO216.out⟩, ⟨by repeat (first | (with_reducible first | exact HB.out | apply below_alloc | apply pw_below_drewN | apply below_drew1) | exact HB.out)⟩⟩
  case round =>
    clear H'
    try clear c1
    try clear c2
    try clear p2
    try clear c3
    obtain ⟨x10_1, x11_1, x12_1, x13_1, rfl, rfl, rfl, HA, HK1, HO_11, HB⟩ := hrel
    cases gk with
    | zero => exact absurd HA.out (by simp [copydesklaw09_built.l0])
    | succ k1 =>
      have H := HA.out
      clear HA
      simp only [copydesklaw09_built.l0] at H
      have HC7 := Aside0.mk H
      clear H
      go_upto_region 5 with (fail)
      go_cut [29] (fun v29 wc => ∃ (kq : Nat) (x29_6 : Bool), v29 = .bool x29_6 ∧ Aside0 (copydesklaw09_built.j1 kq a0 l1 l2 l3 x10_1 x11_1 x12_1 x13_1 x29_6 = some (r1, r2)) ∧ Aside0 (kq ≤ k1) ∧ Aside0 (Kd.R k29 29 wc w.heap.size (fun _ => True) u11 x11_1) ∧ Aside0 (Below w.heap.size w wc))
      case first =>
        have H := HC7.out
        clear HC7
        by_cases c8 : x13_1 < (l1.length : Int)
        · rw [if_pos c8] at H
          have c8b0 : decide (x13_1 < (l1.length : Int)) = true := decide_eq_true c8
          clear c8
          (first | rw [c8b0] | (simp only [i64_w, i32_w]; rw [c8b0]) | skip)
          have H' := Aside0.mk H
          clear H
          go_wp2
          go_meet
          case rel => exact ⟨_, (decide (x13_1 < 8)), (by first | rfl | (simp; done) | (simp [*]; done)), H', ⟨by have := HK1.out; first | omega | exact Nat.le_refl _⟩, ⟨by (with_reducible repeat (first | apply Kd.R_alloc | apply Kd.R_drewN | apply Kd.R_drew)); exact HO_11.out⟩, ⟨by repeat (first | (with_reducible first | exact HB.out | apply below_alloc | apply pw_below_drewN | apply below_drew1) | exact HB.out)⟩⟩
        · rw [if_neg c8] at H
          have c8b0 : decide (x13_1 < (l1.length : Int)) = false := decide_eq_false c8
          clear c8
          (first | rw [c8b0] | (simp only [i64_w, i32_w]; rw [c8b0]) | skip)
          have H' := Aside0.mk H
          clear H
          go_wp2
          go_meet
          case rel => exact ⟨_, (false), (by first | rfl | (simp; done) | (simp [*]; done)), H', ⟨by have := HK1.out; first | omega | exact Nat.le_refl _⟩, ⟨by (with_reducible repeat (first | apply Kd.R_alloc | apply Kd.R_drewN | apply Kd.R_drew)); exact HO_11.out⟩, ⟨by repeat (first | (with_reducible first | exact HB.out | apply below_alloc | apply pw_below_drewN | apply below_drew1) | exact HB.out)⟩⟩
      case rest =>
        clear HC7
        try clear c1
        try clear c2
        try clear p2
        try clear c3
        try clear c8
        try clear c8b0
        try clear p2
        obtain ⟨kq, x29_6, rfl, HA, HJ6, HO_11, HB⟩ := hcut
        cases kq with
        | zero => exact absurd HA.out (by simp [copydesklaw09_built.j1])
        | succ kj6 =>
          have H := HA.out
          clear HA
          simp only [copydesklaw09_built.j1] at H
          by_cases c9 : x29_6 = true
          · subst c9
            have H1 : ((some (([2, 3, 4, 5] : List Int) : List Int)).bind fun y221 => (if 0 ≤ x13_1 then (if x13_1 < (l1.length : Int) then ((copydesklaw09_pick.f (rd l1 x13_1) 4).bind fun t225 => (if 0 ≤ t225 then (if t225 < (y221.length : Int) then (if x13_1 < (l2.length : Int) then (copydesklaw09_built.j2 kj6 a0 l1 l2 l3 x10_1 x11_1 x12_1 x13_1 (rd y221 t225) (rdOf ByteArray.empty l2 x13_1) 0) else (copydesklaw09_built.j2 kj6 a0 l1 l2 l3 x10_1 x11_1 x12_1 x13_1 (rd y221 t225) (⟨#[]⟩ : ByteArray) 0)) else (none)) else (none))) else (none)) else (none))) = some (r1, r2) := by rw [if_pos rfl] at H; exact H
            clear H
            have H := H1
            clear H1
            obtain ⟨y221, hy221⟩ : ∃ y_ : List Int, y_ = (([2, 3, 4, 5] : List Int)) := ⟨_, rfl⟩
            replace H : (if 0 ≤ x13_1 then (if x13_1 < (l1.length : Int) then ((copydesklaw09_pick.f (rd l1 x13_1) 4).bind fun t225 => (if 0 ≤ t225 then (if t225 < (y221.length : Int) then (if x13_1 < (l2.length : Int) then (copydesklaw09_built.j2 kj6 a0 l1 l2 l3 x10_1 x11_1 x12_1 x13_1 (rd y221 t225) (rdOf ByteArray.empty l2 x13_1) 0) else (copydesklaw09_built.j2 kj6 a0 l1 l2 l3 x10_1 x11_1 x12_1 x13_1 (rd y221 t225) (⟨#[]⟩ : ByteArray) 0)) else (none)) else (none))) else (none)) else (none)) = some (r1, r2) := by first | (rw [hy221]; with_reducible exact H) | (have H2_ := (Option.bind_some _ _).symm.trans H; rw [hy221]; with_reducible exact H2_) | (have H2_ := (Option.bind_some _ _).symm.trans H; with_reducible exact H2_) | with_reducible exact H | (rw [hy221]; exact H) | exact H
            have Ny221 := Aside0.mk hy221
            clear hy221
            by_cases c10 : 0 ≤ x13_1
            · rw [if_pos c10] at H
              have c10b0 : decide (0 ≤ x13_1) = true := decide_eq_true c10
              clear c10
              by_cases c11 : x13_1 < (l1.length : Int)
              · rw [if_pos c11] at H
                have c11b0 : decide (x13_1 < (l1.length : Int)) = true := decide_eq_true c11
                clear c11
                replace H := Option.bind_eq_some_iff.mp H
                obtain ⟨t225, A120, H⟩ := H
                replace H : (if 0 ≤ t225 then (if t225 < (y221.length : Int) then (if x13_1 < (l2.length : Int) then (copydesklaw09_built.j2 kj6 a0 l1 l2 l3 x10_1 x11_1 x12_1 x13_1 (rd y221 t225) (rdOf ByteArray.empty l2 x13_1) 0) else (copydesklaw09_built.j2 kj6 a0 l1 l2 l3 x10_1 x11_1 x12_1 x13_1 (rd y221 t225) (⟨#[]⟩ : ByteArray) 0)) else (none)) else (none)) = some (r1, r2) := H
                have A12 := Aside0.mk A120
                clear A120
                by_cases c13 : 0 ≤ t225
                · rw [if_pos c13] at H
                  have c13b0 : decide (0 ≤ t225) = true := decide_eq_true c13
                  clear c13
                  by_cases c14 : t225 < (y221.length : Int)
                  · rw [if_pos c14] at H
                    have c14b0 : decide (t225 < (y221.length : Int)) = true := decide_eq_true c14
                    clear c14
                    have HC15 := Aside0.mk H
                    clear H
                    go_upto_if 43 with (first | ((with_reducible refine gate_dst (N := 32) rfl ?_); refine Kd.R_lit (Kd.int .i64) _ 3 ?hg (N := 32) ?hd (xs := ([2, 3, 4, 5] : List Int)) (inner := [.int .i64 2, .int .i64 3, .int .i64 4, .int .i64 5]) (ok := fun _ => True) (okp := fun _ => True) ?hr ?hp (fun _ hk => hk) trivial (Below.refl _ _) (Nat.le_refl _) (by simp) ?_; (case hd => rfl); (case hg => rfl); (case hr => first | (go_simp; done) | (go_simp; rfl)); (case hp => exact (Reps.one (show Kd.M (Kd.int .i64) _ _ _ 2 [.int .i64 2] from rfl) (Reps.one (show Kd.M (Kd.int .i64) _ _ _ 3 [.int .i64 3] from rfl) (Reps.one (show Kd.M (Kd.int .i64) _ _ _ 4 [.int .i64 4] from rfl) (Reps.one (show Kd.M (Kd.int .i64) _ _ _ 5 [.int .i64 5] from rfl) (Reps.none _ _)))))); intro v222 w16 ho17 hb hg_ hnew_; clear hg_ hnew_; (first | rw [← Ny221.out] at ho17 | (simp only [Int.reduceToNat] at ho17; rw [← Ny221.out] at ho17)); have n0_ := Aside0.mk (Kd.R_below (by (with_reducible repeat (first | apply Kd.R_alloc | apply Kd.R_drewN | apply Kd.R_drew)); exact HO_11.out) hb); have n1_ := Aside0.mk (Kd.R_lower ho17 (below_size (by repeat (first | (with_reducible first | exact HB.out | apply below_alloc | apply pw_below_drewN | apply below_drew1) | exact HB.out)))); have n2_ := Aside0.mk (below_step (by repeat (first | (with_reducible first | exact HB.out | apply below_alloc | apply pw_below_drewN | apply below_drew1) | exact HB.out)) hb); clear HO_11; clear HB; have HO_11 := n0_; have HO223 := n1_; have HB := n2_; clear n0_ n1_ n2_; clear hb ho17; have p224 : 0 ≤ (x13_1 : Int) := of_decide_eq_true (by first | (with_reducible assumption) | assumption); have q224 : x13_1 < (l1.length : Int) := of_decide_eq_true (by first | (with_reducible assumption) | assumption); obtain ⟨ad224, e224, hx224_0⟩ := Kd.at_int HR1.out x13_1 p224 q224; cases e224; replace hx224_0 := (HB.out.cell (World.block_lt_of_cell? w _ hx224_0)).trans hx224_0; replace p224 := eq_true p224; replace q224 := eq_true q224) | ((with_reducible refine gate_callee (f := 13) rfl ?_); refine goesL_ (some 37) rfl rfl Tryd.func13 (by kernel_rfl) rfl #[.int .i64 (rd l1 x13_1), .int .i64 4] rfl (by (try simp only [List.map_toArray, List.map_cons, List.map_nil]); first | done | rfl | (simp only [List.length_drop, List.length_take]; rfl)) ?_; (with_reducible refine (copydesklaw09_pick.calls (rd l1 x13_1) 4 t225 _ A12.out).mono ?_); rintro e w' ⟨rfl, ⟨nd, rfl⟩⟩; refine ⟨_, rfl, ?_⟩; obtain ⟨Ao18, co18, eo18⟩ := Kd.R_slice HO223.out; subst eo18; have p226 : 0 ≤ (t225 : Int) := of_decide_eq_true (by first | (with_reducible assumption) | assumption); have q226 : t225 < (y221.length : Int) := of_decide_eq_true (by first | (with_reducible assumption) | assumption); obtain ⟨ad226, e226, hx226_0⟩ := Kd.at_int (Kd.R_reads' HO223.out).2.2 t225 p226 q226; cases e226; replace p226 := eq_true p226; replace q226 := eq_true q226))
                    (try simp only [Act.put, List.setIfInBounds_toArray, List.set_cons_zero, List.set_cons_succ])
                    go_cut [15] (fun v15 wc => ∃ (kq : Nat) (x15_14 : ByteArray), v15 = .string x15_14 ∧ Aside0 (copydesklaw09_built.j2 kq a0 l1 l2 l3 x10_1 x11_1 x12_1 x13_1 (rd y221 t225) x15_14 0 = some (r1, r2)) ∧ Aside0 (kq ≤ kj6) ∧ Aside0 (Kd.R k29 29 wc w.heap.size (fun _ => True) u11 x11_1) ∧ Aside0 (Below w.heap.size w wc))
                    case first =>
                      have H := HC15.out
                      clear HC15
                      by_cases c19 : x13_1 < (l2.length : Int)
                      · rw [if_pos c19] at H
                        have c19b0 : decide (x13_1 < (l2.length : Int)) = true := decide_eq_true c19
                        clear c19
                        (first | rw [c19b0] | (simp only [i64_w, i32_w]; rw [c19b0]) | skip)
                        have H' := Aside0.mk H
                        clear H
                        have p227 : 0 ≤ (x13_1 : Int) := of_decide_eq_true (by first | (with_reducible assumption) | assumption)
                        have q227 : x13_1 < (l2.length : Int) := of_decide_eq_true (by first | (with_reducible assumption) | assumption)
                        obtain ⟨ad227, e227, hx227_0⟩ := Kd.at_string HR2.out x13_1 p227 q227
                        cases e227
                        replace hx227_0 := (HB.out.cell (World.block_lt_of_cell? w _ hx227_0)).trans hx227_0
                        replace p227 := eq_true p227
                        replace q227 := eq_true q227
                        go_wp2
                        go_meet
                        case rel => exact ⟨_, (rdOf ByteArray.empty l2 x13_1), (by first | rfl | (simp; done) | (simp [*]; done)), H', ⟨by have := HK1.out; have := HJ6.out; first | omega | exact Nat.le_refl _⟩, ⟨by (with_reducible repeat (first | apply Kd.R_alloc | apply Kd.R_drewN | apply Kd.R_drew)); exact HO_11.out⟩, ⟨by repeat (first | (with_reducible first | exact HB.out | apply below_alloc | apply pw_below_drewN | apply below_drew1) | exact HB.out)⟩⟩
                      · rw [if_neg c19] at H
                        have c19b0 : decide (x13_1 < (l2.length : Int)) = false := decide_eq_false c19
                        clear c19
                        (first | rw [c19b0] | (simp only [i64_w, i32_w]; rw [c19b0]) | skip)
                        have H' := Aside0.mk H
                        clear H
                        go_wp2
                        go_meet
                        case rel => exact ⟨_, ((⟨#[]⟩ : ByteArray)), (by first | rfl | (simp; done) | (simp [*]; done)), H', ⟨by have := HK1.out; have := HJ6.out; first | omega | exact Nat.le_refl _⟩, ⟨by (with_reducible repeat (first | apply Kd.R_alloc | apply Kd.R_drewN | apply Kd.R_drew)); exact HO_11.out⟩, ⟨by repeat (first | (with_reducible first | exact HB.out | apply below_alloc | apply pw_below_drewN | apply below_drew1) | exact HB.out)⟩⟩
                    case rest =>
                      clear HC15
                      try clear c1
                      try clear c2
                      try clear p2
                      try clear q2
                      try clear hx2
                      try clear c3
                      try clear c8
                      try clear c8b0
                      try clear c9
                      try clear c10
                      try clear c10b0
                      try clear c11
                      try clear c11b0
                      try clear c13
                      try clear c13b0
                      try clear c14
                      try clear c14b0
                      try clear c19
                      try clear c19b0
                      try clear hx224_0
                      try clear hx226_0
                      try clear hx227_0
                      try clear p2
                      try clear p224
                      try clear p226
                      try clear p227
                      try clear q224
                      try clear q226
                      try clear q227
                      obtain ⟨kq, x15_14, rfl, HA, HJ14, HO_11, HB⟩ := hcut
                      cases kq with
                      | zero => exact absurd HA.out (by simp [copydesklaw09_built.j2])
                      | succ kj14 =>
                        have H := HA.out
                        clear HA
                        simp only [copydesklaw09_built.j2] at H
                        have HC20 := Aside0.mk H
                        clear H
                        go_upto_if 51 with (fail)
                        go_cut [16] (fun v16 wc => ∃ (kq : Nat) (x16_19 : Int), v16 = .int .i64 x16_19 ∧ Aside0 (copydesklaw09_built.j3 kq a0 l1 l2 l3 x10_1 x11_1 x12_1 x13_1 (rd y221 t225) x15_14 x16_19 = some (r1, r2)) ∧ Aside0 (kq ≤ kj14) ∧ Aside0 (Kd.R k29 29 wc w.heap.size (fun _ => True) u11 x11_1) ∧ Aside0 (Below w.heap.size w wc))
                        case first =>
                          have H := HC20.out
                          clear HC20
                          by_cases c21 : x13_1 < (l3.length : Int)
                          · rw [if_pos c21] at H
                            have c21b0 : decide (x13_1 < (l3.length : Int)) = true := decide_eq_true c21
                            clear c21
                            (first | rw [c21b0] | (simp only [i64_w, i32_w]; rw [c21b0]) | skip)
                            by_cases c22 : 0 ≤ x13_1
                            · rw [if_pos c22] at H
                              have c22b0 : decide (0 ≤ x13_1) = true := decide_eq_true c22
                              clear c22
                              have H' := Aside0.mk H
                              clear H
                              have p228 : 0 ≤ (x13_1 : Int) := of_decide_eq_true (by first | (with_reducible assumption) | assumption)
                              have q228 : x13_1 < (l3.length : Int) := of_decide_eq_true (by first | (with_reducible assumption) | assumption)
                              obtain ⟨ad228, e228, hx228_0⟩ := Kd.at_int HR3.out x13_1 p228 q228
                              cases e228
                              replace hx228_0 := (HB.out.cell (World.block_lt_of_cell? w _ hx228_0)).trans hx228_0
                              replace p228 := eq_true p228
                              replace q228 := eq_true q228
                              go_wp2
                              go_meet
                              case rel => exact ⟨_, (rd l3 x13_1), (by first | rfl | (simp; done) | (simp [*]; done)), H', ⟨by have := HK1.out; have := HJ6.out; have := HJ14.out; first | omega | exact Nat.le_refl _⟩, ⟨by (with_reducible repeat (first | apply Kd.R_alloc | apply Kd.R_drewN | apply Kd.R_drew)); exact HO_11.out⟩, ⟨by repeat (first | (with_reducible first | exact HB.out | apply below_alloc | apply pw_below_drewN | apply below_drew1) | exact HB.out)⟩⟩
                            · rw [if_neg c22] at H
                              exact absurd H (by simp)
                          · rw [if_neg c21] at H
                            have c21b0 : decide (x13_1 < (l3.length : Int)) = false := decide_eq_false c21
                            clear c21
                            (first | rw [c21b0] | (simp only [i64_w, i32_w]; rw [c21b0]) | skip)
                            have H' := Aside0.mk H
                            clear H
                            go_wp2
                            go_meet
                            case rel => exact ⟨_, (0), (by first | rfl | (simp; done) | (simp [*]; done)), H', ⟨by have := HK1.out; have := HJ6.out; have := HJ14.out; first | omega | exact Nat.le_refl _⟩, ⟨by (with_reducible repeat (first | apply Kd.R_alloc | apply Kd.R_drewN | apply Kd.R_drew)); exact HO_11.out⟩, ⟨by repeat (first | (with_reducible first | exact HB.out | apply below_alloc | apply pw_below_drewN | apply below_drew1) | exact HB.out)⟩⟩
                        case rest =>
                          clear HC20
                          try clear c1
                          try clear c2
                          try clear p2
                          try clear q2
                          try clear hx2
                          try clear c3
                          try clear c8
                          try clear c8b0
                          try clear c9
                          try clear c10
                          try clear c10b0
                          try clear c11
                          try clear c11b0
                          try clear c13
                          try clear c13b0
                          try clear c14
                          try clear c14b0
                          try clear c19
                          try clear c19b0
                          try clear c21
                          try clear c21b0
                          try clear c22
                          try clear c22b0
                          try clear p22
                          try clear q22
                          try clear hx22
                          try clear hx224_0
                          try clear hx226_0
                          try clear hx227_0
                          try clear hx228_0
                          try clear p2
                          try clear p224
                          try clear p226
                          try clear p227
                          try clear p228
                          try clear q2
                          try clear q224
                          try clear q226
                          try clear q227
                          try clear q228
                          obtain ⟨kq, x16_19, rfl, HA, HJ19, HO_11, HB⟩ := hcut
                          cases kq with
                          | zero => exact absurd HA.out (by simp [copydesklaw09_built.j3])
                          | succ kj19 =>
                            have H := HA.out
                            clear HA
                            simp only [copydesklaw09_built.j3] at H
                            have HC23 := Aside0.mk H
                            clear H
                            go_upto_region 14 with (fail)
                            go_cut [17] (fun v17 wc => ∃ (kq : Nat) (x17_22 : Bool), v17 = .bool x17_22 ∧ Aside0 (copydesklaw09_built.j4 kq a0 l1 l2 l3 x10_1 x11_1 x13_1 (rd y221 t225) x15_14 x16_19 x17_22 = some (r1, r2)) ∧ Aside0 (kq ≤ kj19) ∧ Aside0 (Kd.R k29 29 wc w.heap.size (fun _ => True) u11 x11_1) ∧ Aside0 (Below w.heap.size w wc))
                            case first =>
                              have H := HC23.out
                              clear HC23
                              by_cases c24 : x12_1 = 2
                              · rw [if_pos c24] at H
                                have c24b0 : (x12_1 == 2) = true := beq_iff_eq.mpr c24
                                have c24b1 : (x12_1 != 2) = false := bne_eq_false_iff_eq.mpr c24
                                clear c24
                                (first | rw [c24b0] | (simp only [i64_w, i32_w]; rw [c24b0]) | skip)
                                by_cases c25 : (rd y221 t225) = 2
                                · rw [if_pos c25] at H
                                  have c25b0 : ((rd y221 t225) == 2) = true := beq_iff_eq.mpr c25
                                  have c25b1 : ((rd y221 t225) != 2) = false := bne_eq_false_iff_eq.mpr c25
                                  clear c25
                                  have H' := Aside0.mk H
                                  clear H
                                  go_wp2
                                  go_meet
                                  case rel => exact ⟨_, (true), (by first | rfl | (simp; done) | (simp [*]; done)), H', ⟨by have := HK1.out; have := HJ6.out; have := HJ14.out; have := HJ19.out; first | omega | exact Nat.le_refl _⟩, ⟨by (with_reducible repeat (first | apply Kd.R_alloc | apply Kd.R_drewN | apply Kd.R_drew)); exact HO_11.out⟩, ⟨by repeat (first | (with_reducible first | exact HB.out | apply below_alloc | apply pw_below_drewN | apply below_drew1) | exact HB.out)⟩⟩
                                · rw [if_neg c25] at H
                                  have c25b0 : ((rd y221 t225) == 2) = false := beq_eq_false_iff_ne.mpr c25
                                  have c25b1 : ((rd y221 t225) != 2) = true := bne_iff_ne.mpr c25
                                  have H' := Aside0.mk H
                                  clear H
                                  go_wp2
                                  go_meet
                                  case rel => exact ⟨_, (((rd y221 t225) == 3)), (by first | rfl | (simp; done) | (simp [*]; done)), H', ⟨by have := HK1.out; have := HJ6.out; have := HJ14.out; have := HJ19.out; first | omega | exact Nat.le_refl _⟩, ⟨by (with_reducible repeat (first | apply Kd.R_alloc | apply Kd.R_drewN | apply Kd.R_drew)); exact HO_11.out⟩, ⟨by repeat (first | (with_reducible first | exact HB.out | apply below_alloc | apply pw_below_drewN | apply below_drew1) | exact HB.out)⟩⟩
                              · rw [if_neg c24] at H
                                have c24b0 : (x12_1 == 2) = false := beq_eq_false_iff_ne.mpr c24
                                have c24b1 : (x12_1 != 2) = true := bne_iff_ne.mpr c24
                                (first | rw [c24b0] | (simp only [i64_w, i32_w]; rw [c24b0]) | skip)
                                by_cases c26 : x12_1 = 3
                                · rw [if_pos c26] at H
                                  have c26b0 : (x12_1 == 3) = true := beq_iff_eq.mpr c26
                                  have c26b1 : (x12_1 != 3) = false := bne_eq_false_iff_eq.mpr c26
                                  clear c26
                                  by_cases c27 : (rd y221 t225) = 2
                                  · rw [if_pos c27] at H
                                    have c27b0 : ((rd y221 t225) == 2) = true := beq_iff_eq.mpr c27
                                    have c27b1 : ((rd y221 t225) != 2) = false := bne_eq_false_iff_eq.mpr c27
                                    clear c27
                                    have H' := Aside0.mk H
                                    clear H
                                    go_wp2
                                    go_meet
                                    case rel => exact ⟨_, (true), (by first | rfl | (simp; done) | (simp [*]; done)), H', ⟨by have := HK1.out; have := HJ6.out; have := HJ14.out; have := HJ19.out; first | omega | exact Nat.le_refl _⟩, ⟨by (with_reducible repeat (first | apply Kd.R_alloc | apply Kd.R_drewN | apply Kd.R_drew)); exact HO_11.out⟩, ⟨by repeat (first | (with_reducible first | exact HB.out | apply below_alloc | apply pw_below_drewN | apply below_drew1) | exact HB.out)⟩⟩
                                  · rw [if_neg c27] at H
                                    have c27b0 : ((rd y221 t225) == 2) = false := beq_eq_false_iff_ne.mpr c27
                                    have c27b1 : ((rd y221 t225) != 2) = true := bne_iff_ne.mpr c27
                                    have H' := Aside0.mk H
                                    clear H
                                    go_wp2
                                    go_meet
                                    case rel => exact ⟨_, (((rd y221 t225) == 3)), (by first | rfl | (simp; done) | (simp [*]; done)), H', ⟨by have := HK1.out; have := HJ6.out; have := HJ14.out; have := HJ19.out; first | omega | exact Nat.le_refl _⟩, ⟨by (with_reducible repeat (first | apply Kd.R_alloc | apply Kd.R_drewN | apply Kd.R_drew)); exact HO_11.out⟩, ⟨by repeat (first | (with_reducible first | exact HB.out | apply below_alloc | apply pw_below_drewN | apply below_drew1) | exact HB.out)⟩⟩
                                · rw [if_neg c26] at H
                                  have c26b0 : (x12_1 == 3) = false := beq_eq_false_iff_ne.mpr c26
                                  have c26b1 : (x12_1 != 3) = true := bne_iff_ne.mpr c26
                                  have H' := Aside0.mk H
                                  clear H
                                  go_wp2
                                  go_meet
                                  case rel => exact ⟨_, (false), (by first | rfl | (simp; done) | (simp [*]; done)), H', ⟨by have := HK1.out; have := HJ6.out; have := HJ14.out; have := HJ19.out; first | omega | exact Nat.le_refl _⟩, ⟨by (with_reducible repeat (first | apply Kd.R_alloc | apply Kd.R_drewN | apply Kd.R_drew)); exact HO_11.out⟩, ⟨by repeat (first | (with_reducible first | exact HB.out | apply below_alloc | apply pw_below_drewN | apply below_drew1) | exact HB.out)⟩⟩
                            case rest =>
                              clear HC23
                              try clear c1
                              try clear c2
                              try clear p2
                              try clear q2
                              try clear hx2
                              try clear c3
                              try clear c8
                              try clear c8b0
                              try clear c9
                              try clear c10
                              try clear c10b0
                              try clear c11
                              try clear c11b0
                              try clear c13
                              try clear c13b0
                              try clear c14
                              try clear c14b0
                              try clear c19
                              try clear c19b0
                              try clear c21
                              try clear c21b0
                              try clear c22
                              try clear c22b0
                              try clear p22
                              try clear q22
                              try clear hx22
                              try clear c24
                              try clear c24b0
                              try clear c24b1
                              try clear c25
                              try clear c25b0
                              try clear c25b1
                              try clear c26
                              try clear c26b0
                              try clear c26b1
                              try clear c27
                              try clear c27b0
                              try clear c27b1
                              try clear hx224_0
                              try clear hx226_0
                              try clear hx227_0
                              try clear hx228_0
                              try clear p2
                              try clear p22
                              try clear p224
                              try clear p226
                              try clear p227
                              try clear p228
                              try clear q2
                              try clear q22
                              try clear q224
                              try clear q226
                              try clear q227
                              try clear q228
                              obtain ⟨kq, x17_22, rfl, HA, HJ22, HO_11, HB⟩ := hcut
                              cases kq with
                              | zero => exact absurd HA.out (by simp [copydesklaw09_built.j4])
                              | succ kj22 =>
                                have H := HA.out
                                clear HA
                                simp only [copydesklaw09_built.j4] at H
                                replace H := Option.bind_eq_some_iff.mp H
                                obtain ⟨t229, A280, H⟩ := H
                                replace H : (if x10_1.size + t229.size ≤ 9223372036854775807 then ((copydesklaw09_word.f kj22 (rd y221 t225) x15_14).bind fun t230 => (if (rd y221 t225) = 4 then (if (x10_1.size + t229.size) + 1 ≤ 9223372036854775807 then (if (x10_1.size + t229.size + 1) + t230.size ≤ 9223372036854775807 then (if (x10_1.size + t229.size + 1 + t230.size) + 1 ≤ 9223372036854775807 then (if x11_1.length < 4398046511104 then (copydesklaw09_built.l0 kj22 a0 l1 l2 l3 ((((x10_1 ++ t229) ++ (⟨#[34]⟩ : ByteArray)) ++ t230) ++ (⟨#[34]⟩ : ByteArray)) (x11_1 ++ [(⟨(rd y221 t225), t230, wrap64 (a0 + ((x10_1.size : Int) + (t229.size : Int)))⟩ : S29)]) (rd y221 t225) (wrap64 (x13_1 + 1))) else (none)) else (none)) else (none)) else (none)) else (if (rd y221 t225) = 5 then (if (x10_1.size + t229.size) + 1 ≤ 9223372036854775807 then (if x11_1.length < 4398046511104 then (copydesklaw09_built.l0 kj22 a0 l1 l2 l3 ((x10_1 ++ t229) ++ (⟨#[124]⟩ : ByteArray)) (x11_1 ++ [(⟨(rd y221 t225), (⟨#[124]⟩ : ByteArray), wrap64 (a0 + ((x10_1.size : Int) + (t229.size : Int)))⟩ : S29)]) (rd y221 t225) (wrap64 (x13_1 + 1))) else (none)) else (none)) else (if (x10_1.size + t229.size) + t230.size ≤ 9223372036854775807 then (if x11_1.length < 4398046511104 then (copydesklaw09_built.l0 kj22 a0 l1 l2 l3 ((x10_1 ++ t229) ++ t230) (x11_1 ++ [(⟨(rd y221 t225), t230, wrap64 (a0 + ((x10_1.size : Int) + (t229.size : Int)))⟩ : S29)]) (rd y221 t225) (wrap64 (x13_1 + 1))) else (none)) else (none))))) else (none)) = some (r1, r2) := H
                                have A28 := Aside0.mk A280
                                clear A280
                                by_cases c29 : x10_1.size + t229.size ≤ 9223372036854775807
                                · rw [if_pos c29] at H
                                  have c29b0 := eq_true c29
                                  have c29b1 : decide (x10_1.size + t229.size ≤ 9223372036854775807) = true := decide_eq_true c29
                                  try have c29b2 : (9223372036854775807 < x10_1.size + t229.size) = False := eq_false (Nat.not_lt.2 c29)
                                  replace H := Option.bind_eq_some_iff.mp H
                                  obtain ⟨t230, A300, H⟩ := H
                                  replace H : (if (rd y221 t225) = 4 then (if (x10_1.size + t229.size) + 1 ≤ 9223372036854775807 then (if (x10_1.size + t229.size + 1) + t230.size ≤ 9223372036854775807 then (if (x10_1.size + t229.size + 1 + t230.size) + 1 ≤ 9223372036854775807 then (if x11_1.length < 4398046511104 then (copydesklaw09_built.l0 kj22 a0 l1 l2 l3 ((((x10_1 ++ t229) ++ (⟨#[34]⟩ : ByteArray)) ++ t230) ++ (⟨#[34]⟩ : ByteArray)) (x11_1 ++ [(⟨(rd y221 t225), t230, wrap64 (a0 + ((x10_1.size : Int) + (t229.size : Int)))⟩ : S29)]) (rd y221 t225) (wrap64 (x13_1 + 1))) else (none)) else (none)) else (none)) else (none)) else (if (rd y221 t225) = 5 then (if (x10_1.size + t229.size) + 1 ≤ 9223372036854775807 then (if x11_1.length < 4398046511104 then (copydesklaw09_built.l0 kj22 a0 l1 l2 l3 ((x10_1 ++ t229) ++ (⟨#[124]⟩ : ByteArray)) (x11_1 ++ [(⟨(rd y221 t225), (⟨#[124]⟩ : ByteArray), wrap64 (a0 + ((x10_1.size : Int) + (t229.size : Int)))⟩ : S29)]) (rd y221 t225) (wrap64 (x13_1 + 1))) else (none)) else (none)) else (if (x10_1.size + t229.size) + t230.size ≤ 9223372036854775807 then (if x11_1.length < 4398046511104 then (copydesklaw09_built.l0 kj22 a0 l1 l2 l3 ((x10_1 ++ t229) ++ t230) (x11_1 ++ [(⟨(rd y221 t225), t230, wrap64 (a0 + ((x10_1.size : Int) + (t229.size : Int)))⟩ : S29)]) (rd y221 t225) (wrap64 (x13_1 + 1))) else (none)) else (none)))) = some (r1, r2) := H
                                  have A30 := Aside0.mk A300
                                  clear A300
                                  by_cases c31 : (rd y221 t225) = 4
                                  · rw [if_pos c31] at H
                                    have c31b0 : ((rd y221 t225) == 4) = true := beq_iff_eq.mpr c31
                                    have c31b1 : ((rd y221 t225) != 4) = false := bne_eq_false_iff_eq.mpr c31
                                    clear c31
                                    by_cases c32 : (x10_1.size + t229.size) + 1 ≤ 9223372036854775807
                                    · rw [if_pos c32] at H
                                      have c32b0 := eq_true c32
                                      have c32b1 : decide ((x10_1.size + t229.size) + 1 ≤ 9223372036854775807) = true := decide_eq_true c32
                                      try have c32b2 : (9223372036854775807 < (x10_1.size + t229.size) + 1) = False := eq_false (Nat.not_lt.2 c32)
                                      by_cases c33 : (x10_1.size + t229.size + 1) + t230.size ≤ 9223372036854775807
                                      · rw [if_pos c33] at H
                                        have c33b0 := eq_true c33
                                        have c33b1 : decide ((x10_1.size + t229.size + 1) + t230.size ≤ 9223372036854775807) = true := decide_eq_true c33
                                        try have c33b2 : (9223372036854775807 < (x10_1.size + t229.size + 1) + t230.size) = False := eq_false (Nat.not_lt.2 c33)
                                        by_cases c34 : (x10_1.size + t229.size + 1 + t230.size) + 1 ≤ 9223372036854775807
                                        · rw [if_pos c34] at H
                                          have c34b0 := eq_true c34
                                          have c34b1 : decide ((x10_1.size + t229.size + 1 + t230.size) + 1 ≤ 9223372036854775807) = true := decide_eq_true c34
                                          try have c34b2 : (9223372036854775807 < (x10_1.size + t229.size + 1 + t230.size) + 1) = False := eq_false (Nat.not_lt.2 c34)
                                          by_cases c35 : x11_1.length < 4398046511104
                                          · rw [if_pos c35] at H
                                            have LMc35 := Aside0.mk c35
                                            clear c35
                                            obtain ⟨y232, hy232⟩ : ∃ y_ : List (S29), y_ = (x11_1 ++ [(⟨(rd y221 t225), t230, wrap64 (a0 + ((x10_1.size : Int) + (t229.size : Int)))⟩ : S29)]) := ⟨_, rfl⟩
                                            replace H : (copydesklaw09_built.l0 kj22 a0 l1 l2 l3 ((((x10_1 ++ t229) ++ (⟨#[34]⟩ : ByteArray)) ++ t230) ++ (⟨#[34]⟩ : ByteArray)) y232 (rd y221 t225) (wrap64 (x13_1 + 1))) = some (r1, r2) := by first | (rw [hy232]; with_reducible exact H) | (have H2_ := (Option.bind_some _ _).symm.trans H; rw [hy232]; with_reducible exact H2_) | (have H2_ := (Option.bind_some _ _).symm.trans H; with_reducible exact H2_) | with_reducible exact H | (rw [hy232]; exact H) | exact H
                                            have Ny232 := Aside0.mk hy232
                                            clear hy232
                                            have H' := Aside0.mk H
                                            clear H
                                            go_wp2_with (first | ((with_reducible refine gate_callee (f := 14) rfl ?_); refine goesL_ (some 73) rfl rfl Tryd.func14 (by kernel_rfl) rfl #[.int .i64 x16_19, .bool x17_22] rfl (by (try simp only [List.map_toArray, List.map_cons, List.map_nil]); first | done | rfl | (simp only [List.length_drop, List.length_take]; rfl)) ?_; (with_reducible refine (copydesklaw09_gap.calls x16_19 x17_22 t229 _ A28.out).mono ?_); rintro e w36 ⟨rfl, hb⟩; refine ⟨_, rfl, ?_⟩; have n0_ := Aside0.mk (Kd.R_below (by (with_reducible repeat (first | apply Kd.R_alloc | apply Kd.R_drewN | apply Kd.R_drew)); exact HO_11.out) hb); have n1_ := Aside0.mk (below_step (by repeat (first | (with_reducible first | exact HB.out | apply below_alloc | apply pw_below_drewN | apply below_drew1) | exact HB.out)) hb); clear HO_11; clear HB; have HO_11 := n0_; have HB := n1_; clear n0_ n1_; (try clear hb); (try clear hb2); (try clear hk); (try clear hi)) | ((with_reducible refine gate_callee (f := 15) rfl ?_); refine goesL_ (some 78) rfl rfl Tryd.func15 (by kernel_rfl) rfl #[.int .i64 (rd y221 t225), .string x15_14] rfl (by (try simp only [List.map_toArray, List.map_cons, List.map_nil]); first | done | rfl | (simp only [List.length_drop, List.length_take]; rfl)) ?_; (with_reducible refine (copydesklaw09_word.calls kj22 (rd y221 t225) x15_14 t230 _ A30.out).mono ?_); rintro e w37 ⟨rfl, hb⟩; refine ⟨_, rfl, ?_⟩; have n0_ := Aside0.mk (Kd.R_below (by (with_reducible repeat (first | apply Kd.R_alloc | apply Kd.R_drewN | apply Kd.R_drew)); exact HO_11.out) hb); have n1_ := Aside0.mk (below_step (by repeat (first | (with_reducible first | exact HB.out | apply below_alloc | apply pw_below_drewN | apply below_drew1) | exact HB.out)) hb); clear HO_11; clear HB; have HO_11 := n0_; have HB := n1_; clear n0_ n1_; (try clear hb); (try clear hb2); (try clear hk); (try clear hi)) | ((with_reducible refine gate_dst (N := 18) rfl ?_); refine box_event ?hg (N := 18) ?hd (cs := #[.int .i64 0, .string (⟨#[]⟩ : ByteArray), .int .i64 0]) (t := 29) ?hr ?_; (case hd => rfl); (case hg => rfl); (case hr => first | (go_simp; done) | (go_simp; rfl)); intro gb231 hg w38 hbox hb; have n0_ := Aside0.mk (Kd.R_below (Kd.R_elderB (by (with_reducible repeat (first | apply Kd.R_alloc | apply Kd.R_drewN | apply Kd.R_drew)); exact HO_11.out) gb231 (Nat.le_of_eq hg.symm)) hb); have n1_ := Aside0.mk (below_step (by repeat (first | (with_reducible first | exact HB.out | apply below_alloc | apply pw_below_drewN | apply below_drew1) | exact HB.out)) hb); have n2_ := Aside0.mk (hbox); have n3_ := Aside0.mk ((by rw [hg]; exact (below_size (by repeat (first | (with_reducible first | exact HB.out | apply below_alloc | apply pw_below_drewN | apply below_drew1) | exact HB.out))) : w.heap.size ≤ gb231)); have n4_ := Aside0.mk ((by rw [hg]; exact (below_size (by repeat (first | (with_reducible first | exact HB.out | apply below_alloc | apply pw_below_drewN | apply below_drew1) | exact HB.out))) : w.heap.size ≤ gb231)); clear HO_11; clear HB; have HO_11 := n0_; have HB := n1_; have BK231 := n2_; have GW231 := n3_; have GE231 := n4_; clear n0_ n1_ n2_ n3_ n4_; clear hb hbox hg; have hcz39_0 : w38.cell? ⟨gb231, 0, none⟩ = some (.int .i64 0) := (blk_cell BK231.out 0).trans rfl; have hcz39_1 : w38.cell? ⟨gb231, 1, none⟩ = some (.string (⟨#[]⟩ : ByteArray)) := (blk_cell BK231.out 1).trans rfl; have hcz39y : (((w38.setCell ⟨gb231, 0, none⟩ (.int .i64 (rd y221 t225))).setCell ⟨gb231, 1, none⟩ (.string t230)).setCell ⟨gb231, 2, none⟩ (.int .i64 (wrap64 (a0 + ((x10_1.size : Int) + (t229.size : Int)))))).cell? ⟨gb231, 1, none⟩ = some (.string t230) := (blk_cell (blk_put (blk_put (blk_put BK231.out 0 (.int .i64 (rd y221 t225)) rfl) 1 (.string t230) rfl) 2 (.int .i64 (wrap64 (a0 + ((x10_1.size : Int) + (t229.size : Int))))) rfl) 1).trans rfl; have hcz39_2 : w38.cell? ⟨gb231, 2, none⟩ = some (.int .i64 0) := (blk_cell BK231.out 2).trans rfl; have hfz39_0 := blk_frozen BK231.out 0; have hfz39_1 := blk_frozen BK231.out 1; have hfz39_2 := blk_frozen BK231.out 2) | ((with_reducible refine gate_builtin (b := .append) (xs := #[.tmp 102, .tmp 104]) rfl ?_); at_builtin; refine Kd.R_append k29 (w0 := w) w.heap.size rfl (.tmp 102) (.tmp 104) 27 29 (.agg #[(.int .i64 0), (.string ⟨#[]⟩), (.int .i64 0)]) 32 rfl Tryd.underlying27 info29 rfl (by decide) (by omega) u11 x11_1 (⟨(rd y221 t225), t230, wrap64 (a0 + ((x10_1.size : Int) + (t229.size : Int)))⟩ : S29) [.int .i64 (rd y221 t225), .string t230, .int .i64 (wrap64 (a0 + ((x10_1.size : Int) + (t229.size : Int))))] (fun k_ => k_ ≠ gb231) (fun _ => False) rfl (by first | (go_simp; done) | (go_simp; rfl)) ?aP (fun _ hk => hk.elim) ?aF ?aO ?aB ?aS ?aL ?_; (case aP => exact k29_mkM _ _ _ (⟨(rd y221 t225), t230, wrap64 (a0 + ((x10_1.size : Int) + (t229.size : Int)))⟩ : S29)); (case aB => exact (by repeat (first | (with_reducible first | exact HB.out | apply below_alloc | apply pw_below_drewN | apply below_drew1 | refine below_set ?_ GE231.out) | exact HB.out))); (case aF => exact (fun k_ hk => Kd.freshB (g := gb231) (o := .cells #[.int .i64 (rd y221 t225), .string t230, .int .i64 (wrap64 (a0 + ((x10_1.size : Int) + (t229.size : Int))))] 29 (0, 0)) (by (with_reducible repeat (first | refine blk_drewN ?_ _ | refine blk_drew ?_ | refine blk_alloc ?_ _)); refine blk_put (cs := #[.int .i64 (rd y221 t225), .string t230, .int .i64 0]) ?_ 2 _ rfl; (with_reducible repeat (first | refine blk_drewN ?_ _ | refine blk_drew ?_ | refine blk_alloc ?_ _)); refine blk_put (cs := #[.int .i64 (rd y221 t225), .string (⟨#[]⟩ : ByteArray), .int .i64 0]) ?_ 1 _ rfl; (with_reducible repeat (first | refine blk_drewN ?_ _ | refine blk_drew ?_ | refine blk_alloc ?_ _)); refine blk_put (cs := #[.int .i64 0, .string (⟨#[]⟩ : ByteArray), .int .i64 0]) ?_ 0 _ rfl; (with_reducible repeat (first | refine blk_drewN ?_ _ | refine blk_drew ?_ | refine blk_alloc ?_ _)); exact BK231.out) k_ hk)); (case aO => exact (by (with_reducible repeat (first | apply Kd.R_alloc | apply Kd.R_drewN | apply Kd.R_drew)); exact Kd.R_mono (Kd.R_far (p := ⟨gb231, 2, none⟩) (Kd.R_far (p := ⟨gb231, 1, none⟩) (Kd.R_far (p := ⟨gb231, 0, none⟩) (Kd.R_mono HO_11.out (fun k_ hk => (⟨hk, hk.2⟩ : _ ∧ k_ ≠ gb231))) (fun _ hk => hk.2) (.int .i64 (rd y221 t225))) (fun _ hk => hk.2) (.string t230)) (fun _ hk => hk.2) (.int .i64 (wrap64 (a0 + ((x10_1.size : Int) + (t229.size : Int)))))) (fun _ hk => hk.1.2))); (case aS => exact (below_size (by repeat (first | (with_reducible first | exact HB.out | apply below_alloc | apply pw_below_drewN | apply below_drew1 | refine below_set ?_ GE231.out) | exact HB.out)))); (case aL => have := LMc35.out; omega); intro v233 w40 ho hb hg hat; rw [← Ny232.out] at ho; have n0_ := Aside0.mk (blk_grown (g := gb231) (o := .cells #[.int .i64 (rd y221 t225), .string t230, .int .i64 (wrap64 (a0 + ((x10_1.size : Int) + (t229.size : Int))))] 29 (0, 0)) (by (with_reducible repeat (first | refine blk_drewN ?_ _ | refine blk_drew ?_ | refine blk_alloc ?_ _)); refine blk_put (cs := #[.int .i64 (rd y221 t225), .string t230, .int .i64 0]) ?_ 2 _ rfl; (with_reducible repeat (first | refine blk_drewN ?_ _ | refine blk_drew ?_ | refine blk_alloc ?_ _)); refine blk_put (cs := #[.int .i64 (rd y221 t225), .string (⟨#[]⟩ : ByteArray), .int .i64 0]) ?_ 1 _ rfl; (with_reducible repeat (first | refine blk_drewN ?_ _ | refine blk_drew ?_ | refine blk_alloc ?_ _)); refine blk_put (cs := #[.int .i64 0, .string (⟨#[]⟩ : ByteArray), .int .i64 0]) ?_ 0 _ rfl; (with_reducible repeat (first | refine blk_drewN ?_ _ | refine blk_drew ?_ | refine blk_alloc ?_ _)); exact BK231.out) hg (Kd.R_away HO_11.out (fun _ hk => hk.2))); have n1_ := Aside0.mk (hb); have n2_ := Aside0.mk (ho); clear BK231; clear HB; clear HO_11; have BK231 := n0_; have HB := n1_; have HO234 := n2_; clear n0_ n1_ n2_; clear ho hb hg hat))
                                            go_roundg kj22
                                            case measure => have := HK1.out; have := HJ6.out; have := HJ14.out; have := HJ19.out; have := HJ22.out; omega
                                            case rel => exact ⟨((((x10_1 ++ t229) ++ (⟨#[34]⟩ : ByteArray)) ++ t230) ++ (⟨#[34]⟩ : ByteArray)), (y232), ((rd y221 t225)), (wrap64 (x13_1 + 1)), (by first | rfl | (simp; done) | (simp [*]; done)), (by first | rfl | (simp; done) | (simp [*]; done)), (by first | rfl | (simp; done) | (simp [*]; done)), H', ⟨by have := HK1.out; have := HJ6.out; have := HJ14.out; have := HJ19.out; have := HJ22.out; omega⟩, ⟨by (with_reducible repeat (first | apply Kd.R_alloc | apply Kd.R_drewN | apply Kd.R_drew)); exact Kd.R_mono HO234.out (fun _ hk => trivial)⟩, ⟨by repeat (first | (with_reducible first | exact HB.out | apply below_alloc | apply pw_below_drewN | apply below_drew1 | refine below_set ?_ GE231.out) | exact HB.out)⟩⟩
                                          · rw [if_neg c35] at H
                                            exact absurd H (by simp)
                                        · rw [if_neg c34] at H
                                          exact absurd H (by simp)
                                      · rw [if_neg c33] at H
                                        exact absurd H (by simp)
                                    · rw [if_neg c32] at H
                                      exact absurd H (by simp)
                                  · rw [if_neg c31] at H
                                    have c31b0 : ((rd y221 t225) == 4) = false := beq_eq_false_iff_ne.mpr c31
                                    have c31b1 : ((rd y221 t225) != 4) = true := bne_iff_ne.mpr c31
                                    by_cases c41 : (rd y221 t225) = 5
                                    · rw [if_pos c41] at H
                                      have c41b0 : ((rd y221 t225) == 5) = true := beq_iff_eq.mpr c41
                                      have c41b1 : ((rd y221 t225) != 5) = false := bne_eq_false_iff_eq.mpr c41
                                      clear c41
                                      by_cases c42 : (x10_1.size + t229.size) + 1 ≤ 9223372036854775807
                                      · rw [if_pos c42] at H
                                        have c42b0 := eq_true c42
                                        have c42b1 : decide ((x10_1.size + t229.size) + 1 ≤ 9223372036854775807) = true := decide_eq_true c42
                                        try have c42b2 : (9223372036854775807 < (x10_1.size + t229.size) + 1) = False := eq_false (Nat.not_lt.2 c42)
                                        by_cases c43 : x11_1.length < 4398046511104
                                        · rw [if_pos c43] at H
                                          have LMc43 := Aside0.mk c43
                                          clear c43
                                          obtain ⟨y235, hy235⟩ : ∃ y_ : List (S29), y_ = (x11_1 ++ [(⟨(rd y221 t225), (⟨#[124]⟩ : ByteArray), wrap64 (a0 + ((x10_1.size : Int) + (t229.size : Int)))⟩ : S29)]) := ⟨_, rfl⟩
                                          replace H : (copydesklaw09_built.l0 kj22 a0 l1 l2 l3 ((x10_1 ++ t229) ++ (⟨#[124]⟩ : ByteArray)) y235 (rd y221 t225) (wrap64 (x13_1 + 1))) = some (r1, r2) := by first | (rw [hy235]; with_reducible exact H) | (have H2_ := (Option.bind_some _ _).symm.trans H; rw [hy235]; with_reducible exact H2_) | (have H2_ := (Option.bind_some _ _).symm.trans H; with_reducible exact H2_) | with_reducible exact H | (rw [hy235]; exact H) | exact H
                                          have Ny235 := Aside0.mk hy235
                                          clear hy235
                                          have H' := Aside0.mk H
                                          clear H
                                          go_wp2_with (first | ((with_reducible refine gate_callee (f := 14) rfl ?_); refine goesL_ (some 73) rfl rfl Tryd.func14 (by kernel_rfl) rfl #[.int .i64 x16_19, .bool x17_22] rfl (by (try simp only [List.map_toArray, List.map_cons, List.map_nil]); first | done | rfl | (simp only [List.length_drop, List.length_take]; rfl)) ?_; (with_reducible refine (copydesklaw09_gap.calls x16_19 x17_22 t229 _ A28.out).mono ?_); rintro e w44 ⟨rfl, hb⟩; refine ⟨_, rfl, ?_⟩; have n0_ := Aside0.mk (Kd.R_below (by (with_reducible repeat (first | apply Kd.R_alloc | apply Kd.R_drewN | apply Kd.R_drew)); exact HO_11.out) hb); have n1_ := Aside0.mk (below_step (by repeat (first | (with_reducible first | exact HB.out | apply below_alloc | apply pw_below_drewN | apply below_drew1) | exact HB.out)) hb); clear HO_11; clear HB; have HO_11 := n0_; have HB := n1_; clear n0_ n1_; (try clear hb); (try clear hb2); (try clear hk); (try clear hi)) | ((with_reducible refine gate_callee (f := 15) rfl ?_); refine goesL_ (some 78) rfl rfl Tryd.func15 (by kernel_rfl) rfl #[.int .i64 (rd y221 t225), .string x15_14] rfl (by (try simp only [List.map_toArray, List.map_cons, List.map_nil]); first | done | rfl | (simp only [List.length_drop, List.length_take]; rfl)) ?_; (with_reducible refine (copydesklaw09_word.calls kj22 (rd y221 t225) x15_14 t230 _ A30.out).mono ?_); rintro e w45 ⟨rfl, hb⟩; refine ⟨_, rfl, ?_⟩; have n0_ := Aside0.mk (Kd.R_below (by (with_reducible repeat (first | apply Kd.R_alloc | apply Kd.R_drewN | apply Kd.R_drew)); exact HO_11.out) hb); have n1_ := Aside0.mk (below_step (by repeat (first | (with_reducible first | exact HB.out | apply below_alloc | apply pw_below_drewN | apply below_drew1) | exact HB.out)) hb); clear HO_11; clear HB; have HO_11 := n0_; have HB := n1_; clear n0_ n1_; (try clear hb); (try clear hb2); (try clear hk); (try clear hi)) | ((with_reducible refine gate_dst (N := 18) rfl ?_); refine box_event ?hg (N := 18) ?hd (cs := #[.int .i64 0, .string (⟨#[]⟩ : ByteArray), .int .i64 0]) (t := 29) ?hr ?_; (case hd => rfl); (case hg => rfl); (case hr => first | (go_simp; done) | (go_simp; rfl)); intro gb231 hg w46 hbox hb; have n0_ := Aside0.mk (Kd.R_below (Kd.R_elderB (by (with_reducible repeat (first | apply Kd.R_alloc | apply Kd.R_drewN | apply Kd.R_drew)); exact HO_11.out) gb231 (Nat.le_of_eq hg.symm)) hb); have n1_ := Aside0.mk (below_step (by repeat (first | (with_reducible first | exact HB.out | apply below_alloc | apply pw_below_drewN | apply below_drew1) | exact HB.out)) hb); have n2_ := Aside0.mk (hbox); have n3_ := Aside0.mk ((by rw [hg]; exact (below_size (by repeat (first | (with_reducible first | exact HB.out | apply below_alloc | apply pw_below_drewN | apply below_drew1) | exact HB.out))) : w.heap.size ≤ gb231)); have n4_ := Aside0.mk ((by rw [hg]; exact (below_size (by repeat (first | (with_reducible first | exact HB.out | apply below_alloc | apply pw_below_drewN | apply below_drew1) | exact HB.out))) : w.heap.size ≤ gb231)); clear HO_11; clear HB; have HO_11 := n0_; have HB := n1_; have BK231 := n2_; have GW231 := n3_; have GE231 := n4_; clear n0_ n1_ n2_ n3_ n4_; clear hb hbox hg; have hcz47_0 : w46.cell? ⟨gb231, 0, none⟩ = some (.int .i64 0) := (blk_cell BK231.out 0).trans rfl; have hcz47_1 : w46.cell? ⟨gb231, 1, none⟩ = some (.string (⟨#[]⟩ : ByteArray)) := (blk_cell BK231.out 1).trans rfl; have hcz47y : (((w46.setCell ⟨gb231, 0, none⟩ (.int .i64 (rd y221 t225))).setCell ⟨gb231, 1, none⟩ (.string t230)).setCell ⟨gb231, 2, none⟩ (.int .i64 (wrap64 (a0 + ((x10_1.size : Int) + (t229.size : Int)))))).cell? ⟨gb231, 1, none⟩ = some (.string t230) := (blk_cell (blk_put (blk_put (blk_put BK231.out 0 (.int .i64 (rd y221 t225)) rfl) 1 (.string t230) rfl) 2 (.int .i64 (wrap64 (a0 + ((x10_1.size : Int) + (t229.size : Int))))) rfl) 1).trans rfl; have hcz47_2 : w46.cell? ⟨gb231, 2, none⟩ = some (.int .i64 0) := (blk_cell BK231.out 2).trans rfl; have hfz47_0 := blk_frozen BK231.out 0; have hfz47_1 := blk_frozen BK231.out 1; have hfz47_2 := blk_frozen BK231.out 2) | ((with_reducible refine gate_builtin (b := .append) (xs := #[.tmp 102, .tmp 104]) rfl ?_); at_builtin; refine Kd.R_append k29 (w0 := w) w.heap.size rfl (.tmp 102) (.tmp 104) 27 29 (.agg #[(.int .i64 0), (.string ⟨#[]⟩), (.int .i64 0)]) 32 rfl Tryd.underlying27 info29 rfl (by decide) (by omega) u11 x11_1 (⟨(rd y221 t225), (⟨#[124]⟩ : ByteArray), wrap64 (a0 + ((x10_1.size : Int) + (t229.size : Int)))⟩ : S29) [.int .i64 (rd y221 t225), .string (⟨#[124]⟩ : ByteArray), .int .i64 (wrap64 (a0 + ((x10_1.size : Int) + (t229.size : Int))))] (fun k_ => k_ ≠ gb231) (fun _ => False) rfl (by first | (go_simp; done) | (go_simp; rfl)) ?aP (fun _ hk => hk.elim) ?aF ?aO ?aB ?aS ?aL ?_; (case aP => exact k29_mkM _ _ _ (⟨(rd y221 t225), (⟨#[124]⟩ : ByteArray), wrap64 (a0 + ((x10_1.size : Int) + (t229.size : Int)))⟩ : S29)); (case aB => exact (by repeat (first | (with_reducible first | exact HB.out | apply below_alloc | apply pw_below_drewN | apply below_drew1 | refine below_set ?_ GE231.out) | exact HB.out))); (case aF => exact (fun k_ hk => Kd.freshB (g := gb231) (o := .cells #[.int .i64 (rd y221 t225), .string (⟨#[124]⟩ : ByteArray), .int .i64 (wrap64 (a0 + ((x10_1.size : Int) + (t229.size : Int))))] 29 (0, 0)) (by (with_reducible repeat (first | refine blk_drewN ?_ _ | refine blk_drew ?_ | refine blk_alloc ?_ _)); refine blk_put (cs := #[.int .i64 (rd y221 t225), .string t230, .int .i64 (wrap64 (a0 + ((x10_1.size : Int) + (t229.size : Int))))]) ?_ 1 _ rfl; (with_reducible repeat (first | refine blk_drewN ?_ _ | refine blk_drew ?_ | refine blk_alloc ?_ _)); refine blk_put (cs := #[.int .i64 (rd y221 t225), .string t230, .int .i64 0]) ?_ 2 _ rfl; (with_reducible repeat (first | refine blk_drewN ?_ _ | refine blk_drew ?_ | refine blk_alloc ?_ _)); refine blk_put (cs := #[.int .i64 (rd y221 t225), .string (⟨#[]⟩ : ByteArray), .int .i64 0]) ?_ 1 _ rfl; (with_reducible repeat (first | refine blk_drewN ?_ _ | refine blk_drew ?_ | refine blk_alloc ?_ _)); refine blk_put (cs := #[.int .i64 0, .string (⟨#[]⟩ : ByteArray), .int .i64 0]) ?_ 0 _ rfl; (with_reducible repeat (first | refine blk_drewN ?_ _ | refine blk_drew ?_ | refine blk_alloc ?_ _)); exact BK231.out) k_ hk)); (case aO => exact (by (with_reducible repeat (first | apply Kd.R_alloc | apply Kd.R_drewN | apply Kd.R_drew)); exact Kd.R_mono (Kd.R_far (p := ⟨gb231, 1, none⟩) (Kd.R_far (p := ⟨gb231, 2, none⟩) (Kd.R_far (p := ⟨gb231, 1, none⟩) (Kd.R_far (p := ⟨gb231, 0, none⟩) (Kd.R_mono HO_11.out (fun k_ hk => (⟨hk, hk.2⟩ : _ ∧ k_ ≠ gb231))) (fun _ hk => hk.2) (.int .i64 (rd y221 t225))) (fun _ hk => hk.2) (.string t230)) (fun _ hk => hk.2) (.int .i64 (wrap64 (a0 + ((x10_1.size : Int) + (t229.size : Int)))))) (fun _ hk => hk.2) (.string (⟨#[124]⟩ : ByteArray))) (fun _ hk => hk.1.2))); (case aS => exact (below_size (by repeat (first | (with_reducible first | exact HB.out | apply below_alloc | apply pw_below_drewN | apply below_drew1 | refine below_set ?_ GE231.out) | exact HB.out)))); (case aL => have := LMc43.out; omega); intro v236 w48 ho hb hg hat; rw [← Ny235.out] at ho; have n0_ := Aside0.mk (blk_grown (g := gb231) (o := .cells #[.int .i64 (rd y221 t225), .string (⟨#[124]⟩ : ByteArray), .int .i64 (wrap64 (a0 + ((x10_1.size : Int) + (t229.size : Int))))] 29 (0, 0)) (by (with_reducible repeat (first | refine blk_drewN ?_ _ | refine blk_drew ?_ | refine blk_alloc ?_ _)); refine blk_put (cs := #[.int .i64 (rd y221 t225), .string t230, .int .i64 (wrap64 (a0 + ((x10_1.size : Int) + (t229.size : Int))))]) ?_ 1 _ rfl; (with_reducible repeat (first | refine blk_drewN ?_ _ | refine blk_drew ?_ | refine blk_alloc ?_ _)); refine blk_put (cs := #[.int .i64 (rd y221 t225), .string t230, .int .i64 0]) ?_ 2 _ rfl; (with_reducible repeat (first | refine blk_drewN ?_ _ | refine blk_drew ?_ | refine blk_alloc ?_ _)); refine blk_put (cs := #[.int .i64 (rd y221 t225), .string (⟨#[]⟩ : ByteArray), .int .i64 0]) ?_ 1 _ rfl; (with_reducible repeat (first | refine blk_drewN ?_ _ | refine blk_drew ?_ | refine blk_alloc ?_ _)); refine blk_put (cs := #[.int .i64 0, .string (⟨#[]⟩ : ByteArray), .int .i64 0]) ?_ 0 _ rfl; (with_reducible repeat (first | refine blk_drewN ?_ _ | refine blk_drew ?_ | refine blk_alloc ?_ _)); exact BK231.out) hg (Kd.R_away HO_11.out (fun _ hk => hk.2))); have n1_ := Aside0.mk (hb); have n2_ := Aside0.mk (ho); clear BK231; clear HB; clear HO_11; have BK231 := n0_; have HB := n1_; have HO237 := n2_; clear n0_ n1_ n2_; clear ho hb hg hat))
                                          go_roundg kj22
                                          case measure => have := HK1.out; have := HJ6.out; have := HJ14.out; have := HJ19.out; have := HJ22.out; omega
                                          case rel => exact ⟨((x10_1 ++ t229) ++ (⟨#[124]⟩ : ByteArray)), (y235), ((rd y221 t225)), (wrap64 (x13_1 + 1)), (by first | rfl | (simp; done) | (simp [*]; done)), (by first | rfl | (simp; done) | (simp [*]; done)), (by first | rfl | (simp; done) | (simp [*]; done)), H', ⟨by have := HK1.out; have := HJ6.out; have := HJ14.out; have := HJ19.out; have := HJ22.out; omega⟩, ⟨by (with_reducible repeat (first | apply Kd.R_alloc | apply Kd.R_drewN | apply Kd.R_drew)); exact Kd.R_mono HO237.out (fun _ hk => trivial)⟩, ⟨by repeat (first | (with_reducible first | exact HB.out | apply below_alloc | apply pw_below_drewN | apply below_drew1 | refine below_set ?_ GE231.out) | exact HB.out)⟩⟩
                                        · rw [if_neg c43] at H
                                          exact absurd H (by simp)
                                      · rw [if_neg c42] at H
                                        exact absurd H (by simp)
                                    · rw [if_neg c41] at H
                                      have c41b0 : ((rd y221 t225) == 5) = false := beq_eq_false_iff_ne.mpr c41
                                      have c41b1 : ((rd y221 t225) != 5) = true := bne_iff_ne.mpr c41
                                      by_cases c49 : (x10_1.size + t229.size) + t230.size ≤ 9223372036854775807
                                      · rw [if_pos c49] at H
                                        have c49b0 := eq_true c49
                                        have c49b1 : decide ((x10_1.size + t229.size) + t230.size ≤ 9223372036854775807) = true := decide_eq_true c49
                                        try have c49b2 : (9223372036854775807 < (x10_1.size + t229.size) + t230.size) = False := eq_false (Nat.not_lt.2 c49)
                                        by_cases c50 : x11_1.length < 4398046511104
                                        · rw [if_pos c50] at H
                                          have LMc50 := Aside0.mk c50
                                          clear c50
                                          obtain ⟨y238, hy238⟩ : ∃ y_ : List (S29), y_ = (x11_1 ++ [(⟨(rd y221 t225), t230, wrap64 (a0 + ((x10_1.size : Int) + (t229.size : Int)))⟩ : S29)]) := ⟨_, rfl⟩
                                          replace H : (copydesklaw09_built.l0 kj22 a0 l1 l2 l3 ((x10_1 ++ t229) ++ t230) y238 (rd y221 t225) (wrap64 (x13_1 + 1))) = some (r1, r2) := by first | (rw [hy238]; with_reducible exact H) | (have H2_ := (Option.bind_some _ _).symm.trans H; rw [hy238]; with_reducible exact H2_) | (have H2_ := (Option.bind_some _ _).symm.trans H; with_reducible exact H2_) | with_reducible exact H | (rw [hy238]; exact H) | exact H
                                          have Ny238 := Aside0.mk hy238
                                          clear hy238
                                          have H' := Aside0.mk H
                                          clear H
                                          go_wp2_with (first | ((with_reducible refine gate_callee (f := 14) rfl ?_); refine goesL_ (some 73) rfl rfl Tryd.func14 (by kernel_rfl) rfl #[.int .i64 x16_19, .bool x17_22] rfl (by (try simp only [List.map_toArray, List.map_cons, List.map_nil]); first | done | rfl | (simp only [List.length_drop, List.length_take]; rfl)) ?_; (with_reducible refine (copydesklaw09_gap.calls x16_19 x17_22 t229 _ A28.out).mono ?_); rintro e w51 ⟨rfl, hb⟩; refine ⟨_, rfl, ?_⟩; have n0_ := Aside0.mk (Kd.R_below (by (with_reducible repeat (first | apply Kd.R_alloc | apply Kd.R_drewN | apply Kd.R_drew)); exact HO_11.out) hb); have n1_ := Aside0.mk (below_step (by repeat (first | (with_reducible first | exact HB.out | apply below_alloc | apply pw_below_drewN | apply below_drew1) | exact HB.out)) hb); clear HO_11; clear HB; have HO_11 := n0_; have HB := n1_; clear n0_ n1_; (try clear hb); (try clear hb2); (try clear hk); (try clear hi)) | ((with_reducible refine gate_callee (f := 15) rfl ?_); refine goesL_ (some 78) rfl rfl Tryd.func15 (by kernel_rfl) rfl #[.int .i64 (rd y221 t225), .string x15_14] rfl (by (try simp only [List.map_toArray, List.map_cons, List.map_nil]); first | done | rfl | (simp only [List.length_drop, List.length_take]; rfl)) ?_; (with_reducible refine (copydesklaw09_word.calls kj22 (rd y221 t225) x15_14 t230 _ A30.out).mono ?_); rintro e w52 ⟨rfl, hb⟩; refine ⟨_, rfl, ?_⟩; have n0_ := Aside0.mk (Kd.R_below (by (with_reducible repeat (first | apply Kd.R_alloc | apply Kd.R_drewN | apply Kd.R_drew)); exact HO_11.out) hb); have n1_ := Aside0.mk (below_step (by repeat (first | (with_reducible first | exact HB.out | apply below_alloc | apply pw_below_drewN | apply below_drew1) | exact HB.out)) hb); clear HO_11; clear HB; have HO_11 := n0_; have HB := n1_; clear n0_ n1_; (try clear hb); (try clear hb2); (try clear hk); (try clear hi)) | ((with_reducible refine gate_dst (N := 18) rfl ?_); refine box_event ?hg (N := 18) ?hd (cs := #[.int .i64 0, .string (⟨#[]⟩ : ByteArray), .int .i64 0]) (t := 29) ?hr ?_; (case hd => rfl); (case hg => rfl); (case hr => first | (go_simp; done) | (go_simp; rfl)); intro gb231 hg w53 hbox hb; have n0_ := Aside0.mk (Kd.R_below (Kd.R_elderB (by (with_reducible repeat (first | apply Kd.R_alloc | apply Kd.R_drewN | apply Kd.R_drew)); exact HO_11.out) gb231 (Nat.le_of_eq hg.symm)) hb); have n1_ := Aside0.mk (below_step (by repeat (first | (with_reducible first | exact HB.out | apply below_alloc | apply pw_below_drewN | apply below_drew1) | exact HB.out)) hb); have n2_ := Aside0.mk (hbox); have n3_ := Aside0.mk ((by rw [hg]; exact (below_size (by repeat (first | (with_reducible first | exact HB.out | apply below_alloc | apply pw_below_drewN | apply below_drew1) | exact HB.out))) : w.heap.size ≤ gb231)); have n4_ := Aside0.mk ((by rw [hg]; exact (below_size (by repeat (first | (with_reducible first | exact HB.out | apply below_alloc | apply pw_below_drewN | apply below_drew1) | exact HB.out))) : w.heap.size ≤ gb231)); clear HO_11; clear HB; have HO_11 := n0_; have HB := n1_; have BK231 := n2_; have GW231 := n3_; have GE231 := n4_; clear n0_ n1_ n2_ n3_ n4_; clear hb hbox hg; have hcz54_0 : w53.cell? ⟨gb231, 0, none⟩ = some (.int .i64 0) := (blk_cell BK231.out 0).trans rfl; have hcz54_1 : w53.cell? ⟨gb231, 1, none⟩ = some (.string (⟨#[]⟩ : ByteArray)) := (blk_cell BK231.out 1).trans rfl; have hcz54y : (((w53.setCell ⟨gb231, 0, none⟩ (.int .i64 (rd y221 t225))).setCell ⟨gb231, 1, none⟩ (.string t230)).setCell ⟨gb231, 2, none⟩ (.int .i64 (wrap64 (a0 + ((x10_1.size : Int) + (t229.size : Int)))))).cell? ⟨gb231, 1, none⟩ = some (.string t230) := (blk_cell (blk_put (blk_put (blk_put BK231.out 0 (.int .i64 (rd y221 t225)) rfl) 1 (.string t230) rfl) 2 (.int .i64 (wrap64 (a0 + ((x10_1.size : Int) + (t229.size : Int))))) rfl) 1).trans rfl; have hcz54_2 : w53.cell? ⟨gb231, 2, none⟩ = some (.int .i64 0) := (blk_cell BK231.out 2).trans rfl; have hfz54_0 := blk_frozen BK231.out 0; have hfz54_1 := blk_frozen BK231.out 1; have hfz54_2 := blk_frozen BK231.out 2) | ((with_reducible refine gate_builtin (b := .append) (xs := #[.tmp 102, .tmp 104]) rfl ?_); at_builtin; refine Kd.R_append k29 (w0 := w) w.heap.size rfl (.tmp 102) (.tmp 104) 27 29 (.agg #[(.int .i64 0), (.string ⟨#[]⟩), (.int .i64 0)]) 32 rfl Tryd.underlying27 info29 rfl (by decide) (by omega) u11 x11_1 (⟨(rd y221 t225), t230, wrap64 (a0 + ((x10_1.size : Int) + (t229.size : Int)))⟩ : S29) [.int .i64 (rd y221 t225), .string t230, .int .i64 (wrap64 (a0 + ((x10_1.size : Int) + (t229.size : Int))))] (fun k_ => k_ ≠ gb231) (fun _ => False) rfl (by first | (go_simp; done) | (go_simp; rfl)) ?aP (fun _ hk => hk.elim) ?aF ?aO ?aB ?aS ?aL ?_; (case aP => exact k29_mkM _ _ _ (⟨(rd y221 t225), t230, wrap64 (a0 + ((x10_1.size : Int) + (t229.size : Int)))⟩ : S29)); (case aB => exact (by repeat (first | (with_reducible first | exact HB.out | apply below_alloc | apply pw_below_drewN | apply below_drew1 | refine below_set ?_ GE231.out) | exact HB.out))); (case aF => exact (fun k_ hk => Kd.freshB (g := gb231) (o := .cells #[.int .i64 (rd y221 t225), .string t230, .int .i64 (wrap64 (a0 + ((x10_1.size : Int) + (t229.size : Int))))] 29 (0, 0)) (by (with_reducible repeat (first | refine blk_drewN ?_ _ | refine blk_drew ?_ | refine blk_alloc ?_ _)); refine blk_put (cs := #[.int .i64 (rd y221 t225), .string t230, .int .i64 0]) ?_ 2 _ rfl; (with_reducible repeat (first | refine blk_drewN ?_ _ | refine blk_drew ?_ | refine blk_alloc ?_ _)); refine blk_put (cs := #[.int .i64 (rd y221 t225), .string (⟨#[]⟩ : ByteArray), .int .i64 0]) ?_ 1 _ rfl; (with_reducible repeat (first | refine blk_drewN ?_ _ | refine blk_drew ?_ | refine blk_alloc ?_ _)); refine blk_put (cs := #[.int .i64 0, .string (⟨#[]⟩ : ByteArray), .int .i64 0]) ?_ 0 _ rfl; (with_reducible repeat (first | refine blk_drewN ?_ _ | refine blk_drew ?_ | refine blk_alloc ?_ _)); exact BK231.out) k_ hk)); (case aO => exact (by (with_reducible repeat (first | apply Kd.R_alloc | apply Kd.R_drewN | apply Kd.R_drew)); exact Kd.R_mono (Kd.R_far (p := ⟨gb231, 2, none⟩) (Kd.R_far (p := ⟨gb231, 1, none⟩) (Kd.R_far (p := ⟨gb231, 0, none⟩) (Kd.R_mono HO_11.out (fun k_ hk => (⟨hk, hk.2⟩ : _ ∧ k_ ≠ gb231))) (fun _ hk => hk.2) (.int .i64 (rd y221 t225))) (fun _ hk => hk.2) (.string t230)) (fun _ hk => hk.2) (.int .i64 (wrap64 (a0 + ((x10_1.size : Int) + (t229.size : Int)))))) (fun _ hk => hk.1.2))); (case aS => exact (below_size (by repeat (first | (with_reducible first | exact HB.out | apply below_alloc | apply pw_below_drewN | apply below_drew1 | refine below_set ?_ GE231.out) | exact HB.out)))); (case aL => have := LMc50.out; omega); intro v239 w55 ho hb hg hat; rw [← Ny238.out] at ho; have n0_ := Aside0.mk (blk_grown (g := gb231) (o := .cells #[.int .i64 (rd y221 t225), .string t230, .int .i64 (wrap64 (a0 + ((x10_1.size : Int) + (t229.size : Int))))] 29 (0, 0)) (by (with_reducible repeat (first | refine blk_drewN ?_ _ | refine blk_drew ?_ | refine blk_alloc ?_ _)); refine blk_put (cs := #[.int .i64 (rd y221 t225), .string t230, .int .i64 0]) ?_ 2 _ rfl; (with_reducible repeat (first | refine blk_drewN ?_ _ | refine blk_drew ?_ | refine blk_alloc ?_ _)); refine blk_put (cs := #[.int .i64 (rd y221 t225), .string (⟨#[]⟩ : ByteArray), .int .i64 0]) ?_ 1 _ rfl; (with_reducible repeat (first | refine blk_drewN ?_ _ | refine blk_drew ?_ | refine blk_alloc ?_ _)); refine blk_put (cs := #[.int .i64 0, .string (⟨#[]⟩ : ByteArray), .int .i64 0]) ?_ 0 _ rfl; (with_reducible repeat (first | refine blk_drewN ?_ _ | refine blk_drew ?_ | refine blk_alloc ?_ _)); exact BK231.out) hg (Kd.R_away HO_11.out (fun _ hk => hk.2))); have n1_ := Aside0.mk (hb); have n2_ := Aside0.mk (ho); clear BK231; clear HB; clear HO_11; have BK231 := n0_; have HB := n1_; have HO240 := n2_; clear n0_ n1_ n2_; clear ho hb hg hat))
                                          go_roundg kj22
                                          case measure => have := HK1.out; have := HJ6.out; have := HJ14.out; have := HJ19.out; have := HJ22.out; omega
                                          case rel => exact ⟨((x10_1 ++ t229) ++ t230), (y238), ((rd y221 t225)), (wrap64 (x13_1 + 1)), (by first | rfl | (simp; done) | (simp [*]; done)), (by first | rfl | (simp; done) | (simp [*]; done)), (by first | rfl | (simp; done) | (simp [*]; done)), H', ⟨by have := HK1.out; have := HJ6.out; have := HJ14.out; have := HJ19.out; have := HJ22.out; omega⟩, ⟨by (with_reducible repeat (first | apply Kd.R_alloc | apply Kd.R_drewN | apply Kd.R_drew)); exact Kd.R_mono HO240.out (fun _ hk => trivial)⟩, ⟨by repeat (first | (with_reducible first | exact HB.out | apply below_alloc | apply pw_below_drewN | apply below_drew1 | refine below_set ?_ GE231.out) | exact HB.out)⟩⟩
                                        · rw [if_neg c50] at H
                                          exact absurd H (by simp)
                                      · rw [if_neg c49] at H
                                        exact absurd H (by simp)
                                · rw [if_neg c29] at H
                                  exact absurd H (by simp)
                  · rw [if_neg c14] at H
                    exact absurd H (by simp)
                · rw [if_neg c13] at H
                  exact absurd H (by simp)
              · rw [if_neg c11] at H
                exact absurd H (by simp)
            · rw [if_neg c10] at H
              exact absurd H (by simp)
          · replace c9 := Bool.eq_false_iff.mpr c9
            subst c9
            have H1 : ((copydesklaw09_gap.f (l1.length : Int) false).bind fun t217 => (if x10_1.size + t217.size ≤ 9223372036854775807 then (if x11_1.length < 4398046511104 then (if (x10_1.size + t217.size) + 1 ≤ 9223372036854775807 then (some ((x10_1 ++ t217) ++ (⟨#[125]⟩ : ByteArray), (x11_1 ++ [(⟨7, (⟨#[125]⟩ : ByteArray), wrap64 (a0 + ((x10_1.size : Int) + (t217.size : Int)))⟩ : S29)]))) else (none)) else (none)) else (none))) = some (r1, r2) := by rw [if_neg (show ¬ (false = true) by decide)] at H; exact H
            clear H
            have H := H1
            clear H1
            replace H := Option.bind_eq_some_iff.mp H
            obtain ⟨t217, A560, H⟩ := H
            replace H : (if x10_1.size + t217.size ≤ 9223372036854775807 then (if x11_1.length < 4398046511104 then (if (x10_1.size + t217.size) + 1 ≤ 9223372036854775807 then (some ((x10_1 ++ t217) ++ (⟨#[125]⟩ : ByteArray), (x11_1 ++ [(⟨7, (⟨#[125]⟩ : ByteArray), wrap64 (a0 + ((x10_1.size : Int) + (t217.size : Int)))⟩ : S29)]))) else (none)) else (none)) else (none)) = some (r1, r2) := H
            have A56 := Aside0.mk A560
            clear A560
            by_cases c57 : x10_1.size + t217.size ≤ 9223372036854775807
            · rw [if_pos c57] at H
              have c57b0 := eq_true c57
              have c57b1 : decide (x10_1.size + t217.size ≤ 9223372036854775807) = true := decide_eq_true c57
              try have c57b2 : (9223372036854775807 < x10_1.size + t217.size) = False := eq_false (Nat.not_lt.2 c57)
              by_cases c58 : x11_1.length < 4398046511104
              · rw [if_pos c58] at H
                have LMc58 := Aside0.mk c58
                clear c58
                obtain ⟨y218, hy218⟩ : ∃ y_ : List (S29), y_ = (x11_1 ++ [(⟨7, (⟨#[125]⟩ : ByteArray), wrap64 (a0 + ((x10_1.size : Int) + (t217.size : Int)))⟩ : S29)]) := ⟨_, rfl⟩
                replace H : (if (x10_1.size + t217.size) + 1 ≤ 9223372036854775807 then (some ((x10_1 ++ t217) ++ (⟨#[125]⟩ : ByteArray), y218)) else (none)) = some (r1, r2) := by first | (rw [hy218]; with_reducible exact H) | (have H2_ := (Option.bind_some _ _).symm.trans H; rw [hy218]; with_reducible exact H2_) | (have H2_ := (Option.bind_some _ _).symm.trans H; with_reducible exact H2_) | with_reducible exact H | (rw [hy218]; exact H) | exact H
                have Ny218 := Aside0.mk hy218
                clear hy218
                by_cases c59 : (x10_1.size + t217.size) + 1 ≤ 9223372036854775807
                · rw [if_pos c59] at H
                  have c59b0 := eq_true c59
                  have c59b1 : decide ((x10_1.size + t217.size) + 1 ≤ 9223372036854775807) = true := decide_eq_true c59
                  try have c59b2 : (9223372036854775807 < (x10_1.size + t217.size) + 1) = False := eq_false (Nat.not_lt.2 c59)
                  simp only [Option.some.injEq, Prod.mk.injEq] at H
                  obtain ⟨rfl, rfl⟩ := H
                  go_wp2_with (first | ((with_reducible refine gate_callee (f := 14) rfl ?_); refine goesL_ (some 110) rfl rfl Tryd.func14 (by kernel_rfl) rfl #[.int .i64 (l1.length : Int), .bool false] rfl (by (try simp only [List.map_toArray, List.map_cons, List.map_nil]); first | done | rfl | (simp only [List.length_drop, List.length_take]; rfl)) ?_; (with_reducible refine (copydesklaw09_gap.calls (l1.length : Int) false t217 _ A56.out).mono ?_); rintro e w60 ⟨rfl, hb⟩; refine ⟨_, rfl, ?_⟩; have n0_ := Aside0.mk (Kd.R_below (by (with_reducible repeat (first | apply Kd.R_alloc | apply Kd.R_drewN | apply Kd.R_drew)); exact HO_11.out) hb); have n1_ := Aside0.mk (below_step (by repeat (first | (with_reducible first | exact HB.out | apply below_alloc | apply pw_below_drewN | apply below_drew1) | exact HB.out)) hb); clear HO_11; clear HB; have HO_11 := n0_; have HB := n1_; clear n0_ n1_; (try clear hb); (try clear hb2); (try clear hk); (try clear hi)) | ((with_reducible refine gate_builtin (b := .append) (xs := #[.tmp 112, .tmp 118]) rfl ?_); at_builtin; refine Kd.R_append k29 (w0 := w) w.heap.size rfl (.tmp 112) (.tmp 118) 27 29 (.agg #[(.int .i64 0), (.string ⟨#[]⟩), (.int .i64 0)]) 32 rfl Tryd.underlying27 info29 rfl (by decide) (by omega) u11 x11_1 (⟨7, (⟨#[125]⟩ : ByteArray), wrap64 (a0 + ((x10_1.size : Int) + (t217.size : Int)))⟩ : S29) [.int .i64 7, .string (⟨#[125]⟩ : ByteArray), .int .i64 (wrap64 (a0 + ((x10_1.size : Int) + (t217.size : Int))))] (fun _ => True) (fun _ => False) rfl rfl ?aP (fun _ hk => hk.elim) ?aF ?aO ?aB ?aS ?aL ?_; (case aP => exact k29_mkM _ _ _ (⟨7, (⟨#[125]⟩ : ByteArray), wrap64 (a0 + ((x10_1.size : Int) + (t217.size : Int)))⟩ : S29)); (case aB => exact (by repeat (first | (with_reducible first | exact HB.out | apply below_alloc | apply pw_below_drewN | apply below_drew1) | exact HB.out))); (case aF => exact (fun _ _ => trivial)); (case aO => exact (by (with_reducible repeat (first | apply Kd.R_alloc | apply Kd.R_drewN | apply Kd.R_drew)); exact HO_11.out)); (case aS => exact (below_size (by repeat (first | (with_reducible first | exact HB.out | apply below_alloc | apply pw_below_drewN | apply below_drew1) | exact HB.out)))); (case aL => have := LMc58.out; omega); intro v219 w61 ho hb hg hat; rw [← Ny218.out] at ho; have n0_ := Aside0.mk (hb); have n1_ := Aside0.mk (ho); clear HB; clear HO_11; have HB := n0_; have HO220 := n1_; clear n0_ n1_; clear ho hb hg hat))
                  go_ret2
                  exact ⟨_, by first | rfl | (simp [errW_none, errW_some] <;> rfl) | (simp [*, errW_none, errW_some] <;> rfl), by (with_reducible repeat (first | apply Kd.R_alloc | apply Kd.R_drewN | apply Kd.R_drew)); exact HO220.out, by repeat (first | (with_reducible first | exact HB.out | apply below_alloc | apply pw_below_drewN | apply below_drew1) | exact HB.out)⟩
                · rw [if_neg c59] at H
                  exact absurd H (by simp)
              · rw [if_neg c58] at H
                exact absurd H (by simp)
            · rw [if_neg c57] at H
              exact absurd H (by simp)

end Go.Proofs.YtbgnkoecfokmaaaDoor.PX
