-- Several texts of this session in one (wip/merge.py): PXx7, PXx8, PXx11, PXx12, PXx13, PXx14, PXx15, Br, AdLawRef, AdRound, AdLawParse.
import Derived.Test.YtdfjpbdfafpfgaaGreatDoorPXx0
import Derived.Test.YtdfjpbdfafpfgaaGreatDoorPXx6
import Derived.Test.YtdfjpbdfafpfgaaGreatDoorPXx1
import Derived.Test.YtdfjpbdfafpfgaaGreatDoorAdPParse
import Derived.Test.YtdfjpbdfafpfgaaGreatDoorAdPSane
import Derived.Test.YtdfjpbdfafpfgaaGreatDoorWWords
import Derived.Test.YtdfjpbdfafpfgaaGreatDoorWMore
import Derived.Laws.BytesArg
import Derived.Lib.Strings
import Derived.Test.YtdfjpbdfafpfgaaGreatDoorAdFormat
import Derived.Test.YtdfjpbdfafpfgaaGreatDoorAdParse

-- Written by wip/pr.py, a program of this session, that runs the kit's printer with contracts of our own put in. Lean checks it.
namespace Go.Proofs.YtdfjpbdfafpfgaaGreatDoor.PX
open Go.RowKit Go.Proofs.YtdfjpbdfafpfgaaGreatDoorW.PrintWords Go.Proofs.YtdfjpbdfafpfgaaGreatDoorW.PrintLast Go.Proofs.YtdfjpbdfafpfgaaGreatDoorW.PrintMore
attribute [local go_sem] max2_int min2_int max_two min_two max_three min_three max_four min_four   -- for this text's walks alone
set_option linter.unusedVariables false
set_option linter.unusedSimpArgs false

/-! ### copydeskref12_Digits: function 20 -/
def copydeskref12_Digits.f : Nat → Int → Option (ByteArray)
  | 0, _ => none
  | k + 1, a0 => if a0 < 10 then (some (strOfNums (([(wrap64 (48 + a0)) % 256] : List Int)))) else ((copydeskref12_Digits.f k (wrap64 (Int.tdiv a0 10))).bind fun t116 => ((copydeskref12_Digits.f k (Int.tmod a0 10)).bind fun t117 => (if t116.size + t117.size ≤ 9223372036854775807 then (some (t116 ++ t117)) else (none))))
theorem copydeskref12_Digits.mono_l : ∀ k, (∀ y0, LeO (copydeskref12_Digits.f k y0) (copydeskref12_Digits.f (k + 1) y0))
  | 0 => fun _ r h => by simp [copydeskref12_Digits.f] at h
  | k + 1 => by
    have ih0 := copydeskref12_Digits.mono_l k
    · intro y0
      unfold copydeskref12_Digits.f
      repeat' first
      | (with_reducible exact ih0 _)
      | (with_reducible exact LeO.refl _)
      | (with_reducible exact LeO.none _)
      | (with_reducible refine LeO.ite ?_ ?_)
      | (with_reducible refine LeO.bind ?_ (fun _ => ?_))
      | exact ih0 _
      | exact LeO.none _
      | refine LeO.ite ?_ ?_
      | refine LeO.bind ?_ (fun _ => ?_)
theorem copydeskref12_Digits.mono : ∀ a0 k, LeO (copydeskref12_Digits.f k a0) (copydeskref12_Digits.f (k + 1) a0) := by
  intro a0 k
  have ih0 := copydeskref12_Digits.mono_l k
  exact ih0 a0
set_option maxHeartbeats 8000000 in
set_option maxRecDepth 100000 in
theorem copydeskref12_Digits.calls (k : Nat) : ∀ (a0 : Int) (r : ByteArray) (w : World) (h : copydeskref12_Digits.f k a0 = some r),
    Calls Tryz.prog 20 #[.int .i64 a0] w fun e w' => e = .returned (.string r) ∧ Below w.heap.size w w' := by
  induction k using Nat.strongRecOn with
  | _ k ih =>
  intro a0 r w h
  cases k with
  | zero => exact absurd h (by simp [copydeskref12_Digits.f])
  | succ k =>
  simp only [copydeskref12_Digits.f] at h
  have HB := Aside0.mk (Below.refl w.heap.size w)
  have H : (if a0 < 10 then (some (strOfNums (([(wrap64 (48 + a0)) % 256] : List Int)))) else ((copydeskref12_Digits.f k (wrap64 (Int.tdiv a0 10))).bind fun t116 => ((copydeskref12_Digits.f k (Int.tmod a0 10)).bind fun t117 => (if t116.size + t117.size ≤ 9223372036854775807 then (some (t116 ++ t117)) else (none))))) = some r := h
  clear h
  by_cases c2 : a0 < 10
  · rw [if_pos c2] at H
    have c2b0 : decide (a0 < 10) = true := decide_eq_true c2
    clear c2
    obtain ⟨y113, hy113⟩ : ∃ y_ : List Int, y_ = (([(wrap64 (48 + a0)) % 256] : List Int)) := ⟨_, rfl⟩
    replace H : (some (strOfNums y113)) = some r := by first | (rw [hy113]; with_reducible exact H) | (have H2_ := (Option.bind_some _ _).symm.trans H; rw [hy113]; with_reducible exact H2_) | (have H2_ := (Option.bind_some _ _).symm.trans H; with_reducible exact H2_) | with_reducible exact H | (rw [hy113]; exact H) | exact H
    have Ny113 := Aside0.mk hy113
    clear hy113
    obtain rfl := Option.some.inj H
    go_enter Tryz.func20, Tryz.ntmps20
    go_wp2_with (first | ((with_reducible refine gate_dst (N := 8) rfl ?_); refine Kd.R_lit (Kd.int .u8) _ 5 ?hg (N := 8) ?hd (xs := ([(wrap64 (48 + a0)) % 256] : List Int)) (inner := [.int .u8 ((wrap64 (48 + a0)) % 256)]) (ok := fun _ => True) (okp := fun _ => True) ?hr ?hp (fun _ hk => hk) trivial (Below.refl _ _) (Nat.le_refl _) (by simp) ?_; (case hd => rfl); (case hg => rfl); (case hr => first | (go_simp; done) | (go_simp; rfl)); (case hp => exact (Reps.one (show Kd.M (Kd.int .u8) _ _ _ ((wrap64 (48 + a0)) % 256) [.int .u8 ((wrap64 (48 + a0)) % 256)] from rfl) (Reps.none _ _))); intro v114 w3 ho4 hb hg_ hnew_; clear hg_ hnew_; (first | rw [← Ny113.out] at ho4 | (simp only [Int.reduceToNat] at ho4; rw [← Ny113.out] at ho4)); have n0_ := Aside0.mk (Kd.R_lower ho4 (below_size (by repeat (first | (with_reducible first | exact HB.out | apply below_alloc | apply pw_below_drewN | apply below_drew1) | exact HB.out)))); have n1_ := Aside0.mk (below_step (by repeat (first | (with_reducible first | exact HB.out | apply below_alloc | apply pw_below_drewN | apply below_drew1) | exact HB.out)) hb); clear HB; have HO115 := n0_; have HB := n1_; clear n0_ n1_; clear hb ho4; have hcv5 := own_string (P := Tryz.prog) Tryz.underlying67 Tryz.underlying5 Tryz.underlying9 (Kd.own_of_R HO115.out); have hcv6 := fun nd_ : Nat => own_string (P := Tryz.prog) Tryz.underlying67 Tryz.underlying5 Tryz.underlying9 (Kd.own_of_R (Kd.R_drewN HO115.out nd_))))
    go_ret
    exact ⟨by first | rfl | (simp [errW_none, errW_some] <;> rfl) | (simp [*, errW_none, errW_some] <;> rfl), by repeat (first | (with_reducible first | exact HB.out | apply below_alloc | apply pw_below_drewN | apply below_drew1) | exact HB.out)⟩
  · rw [if_neg c2] at H
    have c2b0 : decide (a0 < 10) = false := decide_eq_false c2
    clear c2
    replace H := Option.bind_eq_some_iff.mp H
    obtain ⟨t116, A70, H⟩ := H
    replace H : ((copydeskref12_Digits.f k (Int.tmod a0 10)).bind fun t117 => (if t116.size + t117.size ≤ 9223372036854775807 then (some (t116 ++ t117)) else (none))) = some r := H
    have A7 := Aside0.mk A70
    clear A70
    replace H := Option.bind_eq_some_iff.mp H
    obtain ⟨t117, A80, H⟩ := H
    replace H : (if t116.size + t117.size ≤ 9223372036854775807 then (some (t116 ++ t117)) else (none)) = some r := H
    have A8 := Aside0.mk A80
    clear A80
    by_cases c9 : t116.size + t117.size ≤ 9223372036854775807
    · rw [if_pos c9] at H
      have c9b0 := eq_true c9
      have c9b1 : decide (t116.size + t117.size ≤ 9223372036854775807) = true := decide_eq_true c9
      try have c9b2 : (9223372036854775807 < t116.size + t117.size) = False := eq_false (Nat.not_lt.2 c9)
      obtain rfl := Option.some.inj H
      go_enter Tryz.func20, Tryz.ntmps20
      go_wp2_with (first | ((with_reducible refine gate_callee (f := 20) rfl ?_); refine goesL_ (some 12) rfl rfl Tryz.func20 (by kernel_rfl) rfl #[.int .i64 (wrap64 (Int.tdiv a0 10))] rfl (by (try simp only [List.map_toArray, List.map_cons, List.map_nil]); first | done | rfl | (simp only [List.length_drop, List.length_take]; rfl)) ?_; (with_reducible refine (ih k (by omega) (wrap64 (Int.tdiv a0 10)) t116 _ A7.out).mono ?_); rintro e w10 ⟨rfl, hb⟩; refine ⟨_, rfl, ?_⟩; have n0_ := Aside0.mk (below_step (by repeat (first | (with_reducible first | exact HB.out | apply below_alloc | apply pw_below_drewN | apply below_drew1) | exact HB.out)) hb); clear HB; have HB := n0_; clear n0_; (try clear hb); (try clear hb2); (try clear hk); (try clear hi)) | ((with_reducible refine gate_callee (f := 20) rfl ?_); refine goesL_ (some 15) rfl rfl Tryz.func20 (by kernel_rfl) rfl #[.int .i64 (Int.tmod a0 10)] rfl (by (try simp only [List.map_toArray, List.map_cons, List.map_nil]); first | done | rfl | (simp only [List.length_drop, List.length_take]; rfl)) ?_; (with_reducible refine (ih k (by omega) (Int.tmod a0 10) t117 _ A8.out).mono ?_); rintro e w11 ⟨rfl, hb⟩; refine ⟨_, rfl, ?_⟩; have n0_ := Aside0.mk (below_step (by repeat (first | (with_reducible first | exact HB.out | apply below_alloc | apply pw_below_drewN | apply below_drew1) | exact HB.out)) hb); clear HB; have HB := n0_; clear n0_; (try clear hb); (try clear hb2); (try clear hk); (try clear hi)))
      go_ret
      exact ⟨by first | rfl | (simp [errW_none, errW_some] <;> rfl) | (simp [*, errW_none, errW_some] <;> rfl), by repeat (first | (with_reducible first | exact HB.out | apply below_alloc | apply pw_below_drewN | apply below_drew1) | exact HB.out)⟩
    · rw [if_neg c9] at H
      exact absurd H (by simp)

end Go.Proofs.YtdfjpbdfafpfgaaGreatDoor.PX

-- Written by wip/pr.py, a program of this session, that runs the kit's printer with contracts of our own put in. Lean checks it.
namespace Go.Proofs.YtdfjpbdfafpfgaaGreatDoor.PX
open Go.RowKit Go.Proofs.YtdfjpbdfafpfgaaGreatDoorW.PrintWords Go.Proofs.YtdfjpbdfafpfgaaGreatDoorW.PrintLast Go.Proofs.YtdfjpbdfafpfgaaGreatDoorW.PrintMore
attribute [local go_sem] max2_int min2_int max_two min_two max_three min_three max_four min_four   -- for this text's walks alone
set_option linter.unusedVariables false
set_option linter.unusedSimpArgs false

/-! ### copydeskref12_Format: function 10 -/
def copydeskref12_Format.f (k : Nat) (a0_0 : Int) (a0_1 : ByteArray) (a0_2 : Int) (a0_3 : ByteArray) : Option (ByteArray × Int) := (copydeskref12_Valid.f k a0_0 a0_1 a0_2 a0_3).bind fun t119 => (if t119 = true then (if a0_0 = 1 then (some ((⟨#[47]⟩ : ByteArray), 0)) else (if a0_0 = 2 then ((copydeskref12_Digits.f k a0_2).bind fun t120 => (if 7 + t120.size ≤ 9223372036854775807 then (if (7 + t120.size) + 1 ≤ 9223372036854775807 then (if (7 + t120.size + 1) + a0_3.size ≤ 9223372036854775807 then (some ((((⟨#[47, 115, 116, 111, 114, 121, 47]⟩ : ByteArray) ++ t120) ++ (⟨#[47]⟩ : ByteArray)) ++ a0_3, 0)) else (none)) else (none)) else (none))) else (if a0_0 = 3 then (if 7 + a0_1.size ≤ 9223372036854775807 then (if (7 + a0_1.size) + 1 ≤ 9223372036854775807 then ((copydeskref12_Digits.f k a0_2).bind fun t121 => (if (7 + a0_1.size + 1) + t121.size ≤ 9223372036854775807 then (some ((((⟨#[47, 116, 111, 112, 105, 99, 47]⟩ : ByteArray) ++ a0_1) ++ (⟨#[47]⟩ : ByteArray)) ++ t121, 0)) else (none))) else (none)) else (none)) else (if a0_0 = 4 then (if 8 + a0_1.size ≤ 9223372036854775807 then (some ((⟨#[47, 97, 117, 116, 104, 111, 114, 47]⟩ : ByteArray) ++ a0_1, 0)) else (none)) else (if a0_0 = 5 then (if 6 + a0_1.size ≤ 9223372036854775807 then (some ((⟨#[47, 102, 101, 101, 100, 47]⟩ : ByteArray) ++ a0_1, 0)) else (none)) else (some ((⟨#[47, 109, 97, 112]⟩ : ByteArray), 0))))))) else (some ((⟨#[]⟩ : ByteArray), 120)))
theorem copydeskref12_Format.mono : ∀ a0 a1 a2 a3 k, LeO (copydeskref12_Format.f k a0 a1 a2 a3) (copydeskref12_Format.f (k + 1) a0 a1 a2 a3) := by
  intro a0 a1 a2 a3 k
  unfold copydeskref12_Format.f
  repeat' first
      | (with_reducible exact copydeskref12_Digits.mono _ _)
      | (with_reducible exact copydeskref12_Valid.mono _ _ _ _ _)
      | (with_reducible exact LeO.refl _)
      | (with_reducible exact LeO.none _)
      | (with_reducible refine LeO.ite ?_ ?_)
      | (with_reducible refine LeO.bind ?_ (fun _ => ?_))
      | exact copydeskref12_Digits.mono _ _
      | exact copydeskref12_Valid.mono _ _ _ _ _
      | exact LeO.none _
      | refine LeO.ite ?_ ?_
      | refine LeO.bind ?_ (fun _ => ?_)
def copydeskref12_Format.T8 : Bool × List (List Nat × List Nat) := (true, [([], []), ([0], [0]), ([1], [1]), ([2], [2]), ([3], [3]), ([], []), ([5], [5]), ([4, 6], [4, 6]), ([7, 2, 0, 1, 2, 3, 4, 5, 6, 7], [7]), ([8, 0, 1, 2, 3, 4, 5, 6, 7, 8], [])])
def copydeskref12_Format.B8 : List Nat := [0, 1, 3, 7, 15, 0, 32, 127, 255, 511]
theorem copydeskref12_Format.tab8 : rtab .any (opsOf Tryz.f10 8) = copydeskref12_Format.T8 := by kernel_rfl
theorem copydeskref12_Format.bits8 : waitsOk copydeskref12_Format.T8.2 copydeskref12_Format.B8 = true := by kernel_rfl
def copydeskref12_Format.T10 : Bool × List (List Nat × List Nat) := (true, [([], []), ([0], [0]), ([1], [1]), ([2], [2]), ([], []), ([4], [4]), ([5], [5]), ([3, 6], [3, 6]), ([7, 6, 0, 1, 2, 3, 4, 5, 6, 7], [7]), ([8, 0, 1, 2, 3, 4, 5, 6, 7, 8], [])])
def copydeskref12_Format.B10 : List Nat := [0, 1, 3, 7, 0, 16, 48, 127, 255, 511]
theorem copydeskref12_Format.tab10 : rtab .any (opsOf Tryz.f10 10) = copydeskref12_Format.T10 := by kernel_rfl
theorem copydeskref12_Format.bits10 : waitsOk copydeskref12_Format.T10.2 copydeskref12_Format.B10 = true := by kernel_rfl
set_option maxHeartbeats 8000000 in
set_option maxRecDepth 100000 in
theorem copydeskref12_Format.calls (k : Nat) (a0_0 : Int) (a0_1 : ByteArray) (a0_2 : Int) (a0_3 : ByteArray) (r1 : ByteArray) (r2 : Int) (w : World) (h : copydeskref12_Format.f k a0_0 a0_1 a0_2 a0_3 = some (r1, r2)) :
    Calls Tryz.prog 10 #[.agg #[.int .i64 a0_0, .string a0_1, .int .i64 a0_2, .string a0_3]] w fun e w' => e = .returned (.tuple #[.string r1, .int .i64 r2]) ∧ Below w.heap.size w w' := by
  have hu23 := Tryz.underlying23
  have HB := Aside0.mk (Below.refl w.heap.size w)
  have H : ((copydeskref12_Valid.f k a0_0 a0_1 a0_2 a0_3).bind fun t119 => (if t119 = true then (if a0_0 = 1 then (some ((⟨#[47]⟩ : ByteArray), 0)) else (if a0_0 = 2 then ((copydeskref12_Digits.f k a0_2).bind fun t120 => (if 7 + t120.size ≤ 9223372036854775807 then (if (7 + t120.size) + 1 ≤ 9223372036854775807 then (if (7 + t120.size + 1) + a0_3.size ≤ 9223372036854775807 then (some ((((⟨#[47, 115, 116, 111, 114, 121, 47]⟩ : ByteArray) ++ t120) ++ (⟨#[47]⟩ : ByteArray)) ++ a0_3, 0)) else (none)) else (none)) else (none))) else (if a0_0 = 3 then (if 7 + a0_1.size ≤ 9223372036854775807 then (if (7 + a0_1.size) + 1 ≤ 9223372036854775807 then ((copydeskref12_Digits.f k a0_2).bind fun t121 => (if (7 + a0_1.size + 1) + t121.size ≤ 9223372036854775807 then (some ((((⟨#[47, 116, 111, 112, 105, 99, 47]⟩ : ByteArray) ++ a0_1) ++ (⟨#[47]⟩ : ByteArray)) ++ t121, 0)) else (none))) else (none)) else (none)) else (if a0_0 = 4 then (if 8 + a0_1.size ≤ 9223372036854775807 then (some ((⟨#[47, 97, 117, 116, 104, 111, 114, 47]⟩ : ByteArray) ++ a0_1, 0)) else (none)) else (if a0_0 = 5 then (if 6 + a0_1.size ≤ 9223372036854775807 then (some ((⟨#[47, 102, 101, 101, 100, 47]⟩ : ByteArray) ++ a0_1, 0)) else (none)) else (some ((⟨#[47, 109, 97, 112]⟩ : ByteArray), 0))))))) else (some ((⟨#[]⟩ : ByteArray), 120)))) = some (r1, r2) := h
  clear h
  replace H := Option.bind_eq_some_iff.mp H
  obtain ⟨t119, A20, H⟩ := H
  replace H : (if t119 = true then (if a0_0 = 1 then (some ((⟨#[47]⟩ : ByteArray), 0)) else (if a0_0 = 2 then ((copydeskref12_Digits.f k a0_2).bind fun t120 => (if 7 + t120.size ≤ 9223372036854775807 then (if (7 + t120.size) + 1 ≤ 9223372036854775807 then (if (7 + t120.size + 1) + a0_3.size ≤ 9223372036854775807 then (some ((((⟨#[47, 115, 116, 111, 114, 121, 47]⟩ : ByteArray) ++ t120) ++ (⟨#[47]⟩ : ByteArray)) ++ a0_3, 0)) else (none)) else (none)) else (none))) else (if a0_0 = 3 then (if 7 + a0_1.size ≤ 9223372036854775807 then (if (7 + a0_1.size) + 1 ≤ 9223372036854775807 then ((copydeskref12_Digits.f k a0_2).bind fun t121 => (if (7 + a0_1.size + 1) + t121.size ≤ 9223372036854775807 then (some ((((⟨#[47, 116, 111, 112, 105, 99, 47]⟩ : ByteArray) ++ a0_1) ++ (⟨#[47]⟩ : ByteArray)) ++ t121, 0)) else (none))) else (none)) else (none)) else (if a0_0 = 4 then (if 8 + a0_1.size ≤ 9223372036854775807 then (some ((⟨#[47, 97, 117, 116, 104, 111, 114, 47]⟩ : ByteArray) ++ a0_1, 0)) else (none)) else (if a0_0 = 5 then (if 6 + a0_1.size ≤ 9223372036854775807 then (some ((⟨#[47, 102, 101, 101, 100, 47]⟩ : ByteArray) ++ a0_1, 0)) else (none)) else (some ((⟨#[47, 109, 97, 112]⟩ : ByteArray), 0))))))) else (some ((⟨#[]⟩ : ByteArray), 120))) = some (r1, r2) := H
  have A2 := Aside0.mk A20
  clear A20
  by_cases c3 : t119 = true
  · subst c3
    have H1 : (if a0_0 = 1 then (some ((⟨#[47]⟩ : ByteArray), 0)) else (if a0_0 = 2 then ((copydeskref12_Digits.f k a0_2).bind fun t120 => (if 7 + t120.size ≤ 9223372036854775807 then (if (7 + t120.size) + 1 ≤ 9223372036854775807 then (if (7 + t120.size + 1) + a0_3.size ≤ 9223372036854775807 then (some ((((⟨#[47, 115, 116, 111, 114, 121, 47]⟩ : ByteArray) ++ t120) ++ (⟨#[47]⟩ : ByteArray)) ++ a0_3, 0)) else (none)) else (none)) else (none))) else (if a0_0 = 3 then (if 7 + a0_1.size ≤ 9223372036854775807 then (if (7 + a0_1.size) + 1 ≤ 9223372036854775807 then ((copydeskref12_Digits.f k a0_2).bind fun t121 => (if (7 + a0_1.size + 1) + t121.size ≤ 9223372036854775807 then (some ((((⟨#[47, 116, 111, 112, 105, 99, 47]⟩ : ByteArray) ++ a0_1) ++ (⟨#[47]⟩ : ByteArray)) ++ t121, 0)) else (none))) else (none)) else (none)) else (if a0_0 = 4 then (if 8 + a0_1.size ≤ 9223372036854775807 then (some ((⟨#[47, 97, 117, 116, 104, 111, 114, 47]⟩ : ByteArray) ++ a0_1, 0)) else (none)) else (if a0_0 = 5 then (if 6 + a0_1.size ≤ 9223372036854775807 then (some ((⟨#[47, 102, 101, 101, 100, 47]⟩ : ByteArray) ++ a0_1, 0)) else (none)) else (some ((⟨#[47, 109, 97, 112]⟩ : ByteArray), 0))))))) = some (r1, r2) := by rw [if_pos rfl] at H; exact H
    clear H
    have H := H1
    clear H1
    by_cases c4 : a0_0 = 1
    · rw [if_pos c4] at H
      have c4b0 : (a0_0 == 1) = true := beq_iff_eq.mpr c4
      have c4b1 : (a0_0 != 1) = false := bne_eq_false_iff_eq.mpr c4
      clear c4
      simp only [Option.some.injEq, Prod.mk.injEq] at H
      obtain ⟨rfl, rfl⟩ := H
      go_enter Tryz.func10, Tryz.ntmps10
      go_wp2_with (first | ((with_reducible refine gate_dst (N := 1) rfl ?_); refine box_event ?hg (N := 1) ?hd (cs := #[.int .i64 a0_0, .string a0_1, .int .i64 a0_2, .string a0_3]) (t := 23) ?hr ?_; (case hd => rfl); (case hg => rfl); (case hr => first | (go_simp; done) | (go_simp; rfl)); intro gb118 hg w5 hbox hb; have n0_ := Aside0.mk (below_step (by repeat (first | (with_reducible first | exact HB.out | apply below_alloc | apply pw_below_drewN | apply below_drew1) | exact HB.out)) hb); have n1_ := Aside0.mk (hbox); have n2_ := Aside0.mk ((by rw [hg]; exact (below_size (by repeat (first | (with_reducible first | exact HB.out | apply below_alloc | apply pw_below_drewN | apply below_drew1) | exact HB.out))) : w.heap.size ≤ gb118)); have n3_ := Aside0.mk ((by rw [hg]; exact (below_size (by repeat (first | (with_reducible first | exact HB.out | apply below_alloc | apply pw_below_drewN | apply below_drew1) | exact HB.out))) : w.heap.size ≤ gb118)); clear HB; have HB := n0_; have BK118 := n1_; have GW118 := n2_; have GE118 := n3_; clear n0_ n1_ n2_ n3_; clear hb hbox hg; have hcz6_0 : w5.cell? ⟨gb118, 0, none⟩ = some (.int .i64 a0_0) := (blk_cell BK118.out 0).trans rfl; have hcz6_1 : w5.cell? ⟨gb118, 1, none⟩ = some (.string a0_1) := (blk_cell BK118.out 1).trans rfl; have hcz6_2 : w5.cell? ⟨gb118, 2, none⟩ = some (.int .i64 a0_2) := (blk_cell BK118.out 2).trans rfl; have hcz6_3 : w5.cell? ⟨gb118, 3, none⟩ = some (.string a0_3) := (blk_cell BK118.out 3).trans rfl; have hfz6_0 := blk_frozen BK118.out 0; have hfz6_1 := blk_frozen BK118.out 1; have hfz6_2 := blk_frozen BK118.out 2; have hfz6_3 := blk_frozen BK118.out 3) | ((with_reducible refine gate_callee (f := 12) rfl ?_); refine goesL_ (some 6) rfl rfl Tryz.func12 (by kernel_rfl) rfl #[.agg #[.int .i64 a0_0, .string a0_1, .int .i64 a0_2, .string a0_3]] rfl (by (try simp only [List.map_toArray, List.map_cons, List.map_nil]); first | done | rfl | (simp only [List.length_drop, List.length_take]; rfl)) ?_; (with_reducible refine (copydeskref12_Valid.calls k a0_0 a0_1 a0_2 a0_3 true _ A2.out).mono ?_); rintro e w7 ⟨rfl, hb⟩; refine ⟨_, rfl, ?_⟩; have n0_ := Aside0.mk (blk_below (g := gb118) (o := .cells #[.int .i64 a0_0, .string a0_1, .int .i64 a0_2, .string a0_3] 23 (0, 0)) (by (with_reducible repeat (first | refine blk_drewN ?_ _ | refine blk_drew ?_ | refine blk_alloc ?_ _)); exact BK118.out) hb); have n1_ := Aside0.mk (below_step (by repeat (first | (with_reducible first | exact HB.out | apply below_alloc | apply pw_below_drewN | apply below_drew1 | refine below_set ?_ GE118.out) | exact HB.out)) hb); clear BK118; clear HB; have BK118 := n0_; have HB := n1_; clear n0_ n1_; (try clear hb); (try clear hb2); (try clear hk); (try clear hi); have hcz8_0 : w7.cell? ⟨gb118, 0, none⟩ = some (.int .i64 a0_0) := (blk_cell BK118.out 0).trans rfl; have hcz8_1 : w7.cell? ⟨gb118, 1, none⟩ = some (.string a0_1) := (blk_cell BK118.out 1).trans rfl; have hcz8_2 : w7.cell? ⟨gb118, 2, none⟩ = some (.int .i64 a0_2) := (blk_cell BK118.out 2).trans rfl; have hcz8_3 : w7.cell? ⟨gb118, 3, none⟩ = some (.string a0_3) := (blk_cell BK118.out 3).trans rfl; have hfz8_0 := blk_frozen BK118.out 0; have hfz8_1 := blk_frozen BK118.out 1; have hfz8_2 := blk_frozen BK118.out 2; have hfz8_3 := blk_frozen BK118.out 3))
      go_ret2
      exact ⟨by first | rfl | (simp [errW_none, errW_some] <;> rfl) | (simp [*, errW_none, errW_some] <;> rfl), by repeat (first | (with_reducible first | exact HB.out | apply below_alloc | apply pw_below_drewN | apply below_drew1 | refine below_set ?_ GE118.out) | exact HB.out)⟩
    · rw [if_neg c4] at H
      have c4b0 : (a0_0 == 1) = false := beq_eq_false_iff_ne.mpr c4
      have c4b1 : (a0_0 != 1) = true := bne_iff_ne.mpr c4
      by_cases c9 : a0_0 = 2
      · rw [if_pos c9] at H
        have c9b0 : (a0_0 == 2) = true := beq_iff_eq.mpr c9
        have c9b1 : (a0_0 != 2) = false := bne_eq_false_iff_eq.mpr c9
        clear c9
        replace H := Option.bind_eq_some_iff.mp H
        obtain ⟨t120, A100, H⟩ := H
        replace H : (if 7 + t120.size ≤ 9223372036854775807 then (if (7 + t120.size) + 1 ≤ 9223372036854775807 then (if (7 + t120.size + 1) + a0_3.size ≤ 9223372036854775807 then (some ((((⟨#[47, 115, 116, 111, 114, 121, 47]⟩ : ByteArray) ++ t120) ++ (⟨#[47]⟩ : ByteArray)) ++ a0_3, 0)) else (none)) else (none)) else (none)) = some (r1, r2) := H
        have A10 := Aside0.mk A100
        clear A100
        by_cases c11 : 7 + t120.size ≤ 9223372036854775807
        · rw [if_pos c11] at H
          have c11b0 := eq_true c11
          have c11b1 : decide (7 + t120.size ≤ 9223372036854775807) = true := decide_eq_true c11
          try have c11b2 : (9223372036854775807 < 7 + t120.size) = False := eq_false (Nat.not_lt.2 c11)
          by_cases c12 : (7 + t120.size) + 1 ≤ 9223372036854775807
          · rw [if_pos c12] at H
            have c12b0 := eq_true c12
            have c12b1 : decide ((7 + t120.size) + 1 ≤ 9223372036854775807) = true := decide_eq_true c12
            try have c12b2 : (9223372036854775807 < (7 + t120.size) + 1) = False := eq_false (Nat.not_lt.2 c12)
            by_cases c13 : (7 + t120.size + 1) + a0_3.size ≤ 9223372036854775807
            · rw [if_pos c13] at H
              have c13b0 := eq_true c13
              have c13b1 : decide ((7 + t120.size + 1) + a0_3.size ≤ 9223372036854775807) = true := decide_eq_true c13
              try have c13b2 : (9223372036854775807 < (7 + t120.size + 1) + a0_3.size) = False := eq_false (Nat.not_lt.2 c13)
              simp only [Option.some.injEq, Prod.mk.injEq] at H
              obtain ⟨rfl, rfl⟩ := H
              go_enter Tryz.func10, Tryz.ntmps10
              try go_wp2_with (first | ((with_reducible refine gate_dst (N := 1) rfl ?_); refine box_event ?hg (N := 1) ?hd (cs := #[.int .i64 a0_0, .string a0_1, .int .i64 a0_2, .string a0_3]) (t := 23) ?hr ?_; (case hd => rfl); (case hg => rfl); (case hr => first | (go_simp; done) | (go_simp; rfl)); intro gb118 hg w14 hbox hb; have n0_ := Aside0.mk (below_step (by repeat (first | (with_reducible first | exact HB.out | apply below_alloc | apply pw_below_drewN | apply below_drew1) | exact HB.out)) hb); have n1_ := Aside0.mk (hbox); have n2_ := Aside0.mk ((by rw [hg]; exact (below_size (by repeat (first | (with_reducible first | exact HB.out | apply below_alloc | apply pw_below_drewN | apply below_drew1) | exact HB.out))) : w.heap.size ≤ gb118)); have n3_ := Aside0.mk ((by rw [hg]; exact (below_size (by repeat (first | (with_reducible first | exact HB.out | apply below_alloc | apply pw_below_drewN | apply below_drew1) | exact HB.out))) : w.heap.size ≤ gb118)); clear HB; have HB := n0_; have BK118 := n1_; have GW118 := n2_; have GE118 := n3_; clear n0_ n1_ n2_ n3_; clear hb hbox hg; have hcz15_0 : w14.cell? ⟨gb118, 0, none⟩ = some (.int .i64 a0_0) := (blk_cell BK118.out 0).trans rfl; have hcz15_1 : w14.cell? ⟨gb118, 1, none⟩ = some (.string a0_1) := (blk_cell BK118.out 1).trans rfl; have hcz15_2 : w14.cell? ⟨gb118, 2, none⟩ = some (.int .i64 a0_2) := (blk_cell BK118.out 2).trans rfl; have hcz15_3 : w14.cell? ⟨gb118, 3, none⟩ = some (.string a0_3) := (blk_cell BK118.out 3).trans rfl; have hfz15_0 := blk_frozen BK118.out 0; have hfz15_1 := blk_frozen BK118.out 1; have hfz15_2 := blk_frozen BK118.out 2; have hfz15_3 := blk_frozen BK118.out 3) | ((with_reducible refine gate_callee (f := 12) rfl ?_); refine goesL_ (some 6) rfl rfl Tryz.func12 (by kernel_rfl) rfl #[.agg #[.int .i64 a0_0, .string a0_1, .int .i64 a0_2, .string a0_3]] rfl (by (try simp only [List.map_toArray, List.map_cons, List.map_nil]); first | done | rfl | (simp only [List.length_drop, List.length_take]; rfl)) ?_; (with_reducible refine (copydeskref12_Valid.calls k a0_0 a0_1 a0_2 a0_3 true _ A2.out).mono ?_); rintro e w16 ⟨rfl, hb⟩; refine ⟨_, rfl, ?_⟩; have n0_ := Aside0.mk (blk_below (g := gb118) (o := .cells #[.int .i64 a0_0, .string a0_1, .int .i64 a0_2, .string a0_3] 23 (0, 0)) (by (with_reducible repeat (first | refine blk_drewN ?_ _ | refine blk_drew ?_ | refine blk_alloc ?_ _)); exact BK118.out) hb); have n1_ := Aside0.mk (below_step (by repeat (first | (with_reducible first | exact HB.out | apply below_alloc | apply pw_below_drewN | apply below_drew1 | refine below_set ?_ GE118.out) | exact HB.out)) hb); clear BK118; clear HB; have BK118 := n0_; have HB := n1_; clear n0_ n1_; (try clear hb); (try clear hb2); (try clear hk); (try clear hi); have hcz17_0 : w16.cell? ⟨gb118, 0, none⟩ = some (.int .i64 a0_0) := (blk_cell BK118.out 0).trans rfl; have hcz17_1 : w16.cell? ⟨gb118, 1, none⟩ = some (.string a0_1) := (blk_cell BK118.out 1).trans rfl; have hcz17_2 : w16.cell? ⟨gb118, 2, none⟩ = some (.int .i64 a0_2) := (blk_cell BK118.out 2).trans rfl; have hcz17_3 : w16.cell? ⟨gb118, 3, none⟩ = some (.string a0_3) := (blk_cell BK118.out 3).trans rfl; have hfz17_0 := blk_frozen BK118.out 0; have hfz17_1 := blk_frozen BK118.out 1; have hfz17_2 := blk_frozen BK118.out 2; have hfz17_3 := blk_frozen BK118.out 3))
              have n0_ := Aside0.mk (blk_drew BK118.out)
              have n1_ := Aside0.mk (below_drew1 HB.out)
              clear BK118
              clear HB
              have BK118 := n0_
              have HB := n1_
              clear n0_ n1_
              refine start_ (n := 10) (S := fun w' => w'.cell? ⟨gb118, 0, none⟩ = some (.int .i64 a0_0) ∧ w'.cell? ⟨gb118, 1, none⟩ = some (.string a0_1) ∧ w'.cell? ⟨gb118, 2, none⟩ = some (.int .i64 a0_2) ∧ w'.cell? ⟨gb118, 3, none⟩ = some (.string a0_3)) (ds := []) #[false, false, false, false, false, false, false, false, false, false] (by kernel_rfl) rfl rfl ⟨(blk_cell BK118.out 0).trans rfl, (blk_cell BK118.out 1).trans rfl, (blk_cell BK118.out 2).trans rfl, (blk_cell BK118.out 3).trans rfl⟩ (fun hHeld => ?_); refine with_tabW copydeskref12_Format.tab8 copydeskref12_Format.bits8 (fun HT_ HW_ => ?_)
              generalize w16.drew = w18 at BK118 HB hHeld ⊢
              refine pure_ (i := 0) (N := some 15) (v := ?_) (a' := ?_) #[true, false, false, false, false, false, false, false, false, false] rfl rfl (any_of HT_.out (by kernel_rfl)) (fun _ _ _ h => h) (Or.inl ⟨by rfl, ?_⟩) ?_ ?_
              rotate_left
              · intro w'
                go_simp
                with_reducible rfl
              rotate_left
              · simp only [Act.put, List.setIfInBounds_toArray, List.set_cons_zero, List.set_cons_succ, i64_w, i32_w]
                rfl
              refine pure_ (i := 5) (N := some 20) (v := ?_) (a' := ?_) #[true, false, false, false, false, true, false, false, false, false] rfl rfl (any_of HT_.out (by kernel_rfl)) (fun _ _ _ h => h) (Or.inl ⟨by rfl, ?_⟩) ?_ ?_
              rotate_left
              · intro w'
                go_simp
                with_reducible rfl
              rotate_left
              · simp only [Act.put, List.setIfInBounds_toArray, List.set_cons_zero, List.set_cons_succ, i64_w, i32_w]
                rfl
              refine take_ (i := 1) (N := some 16) (v := ?_) (a' := ?_) #[true, true, false, false, false, true, false, false, false, false] rfl rfl (take_ofW HT_.out HW_.out (by kernel_rfl)) (fun _ _ _ h => h) (Or.inl ⟨by rfl, ?_⟩) hHeld ?_ ?_
              rotate_left
              · rintro w' ⟨s0, s1, s2, s3⟩
                go_simp
                with_reducible rfl
              rotate_left
              · simp only [Act.put, List.setIfInBounds_toArray, List.set_cons_zero, List.set_cons_succ, i64_w, i32_w]
                rfl
              refine take_ (i := 6) (N := some 21) (v := ?_) (a' := ?_) #[true, true, false, false, false, true, true, false, false, false] rfl rfl (take_ofW HT_.out HW_.out (by kernel_rfl)) (fun _ _ _ h => h) (Or.inl ⟨by rfl, ?_⟩) hHeld ?_ ?_
              rotate_left
              · rintro w' ⟨s0, s1, s2, s3⟩
                go_simp
                with_reducible rfl
              rotate_left
              · simp only [Act.put, List.setIfInBounds_toArray, List.set_cons_zero, List.set_cons_succ, i64_w, i32_w]
                rfl
              refine one_ (i := 2) (N := some 17) #[true, true, true, false, false, true, true, false, false, false] rfl rfl (one_of HT_.out (by kernel_rfl)) (by decide) (fun K hK => ?_)
              refine goes_ Tryz.func20 (by kernel_rfl) rfl #[.int .i64 a0_2] (by rfl) rfl rfl (by (try simp only [List.map_toArray, List.map_cons, List.map_nil]); first | done | rfl | (simp only [List.length_drop, List.length_take]; rfl)) ?_
              with_reducible refine (copydeskref12_Digits.calls k a0_2 t120 _ A10.out).mono ?_
              rintro e w19 ⟨rfl, hb⟩
              refine ⟨_, rfl, ?_⟩
              have n0_ := Aside0.mk (blk_below (g := gb118) (o := .cells #[.int .i64 a0_0, .string a0_1, .int .i64 a0_2, .string a0_3] 23 (0, 0)) (by (with_reducible repeat (first | refine blk_drewN ?_ _ | refine blk_drew ?_ | refine blk_alloc ?_ _)); exact BK118.out) hb)
              have n1_ := Aside0.mk (below_step (by repeat (first | (with_reducible first | exact HB.out | apply below_alloc | apply pw_below_drewN | apply below_drew1 | refine below_set ?_ GE118.out) | exact HB.out)) hb)
              clear BK118
              clear HB
              have BK118 := n0_
              have HB := n1_
              clear n0_ n1_
              (try clear hb)
              (try clear hb2)
              (try clear hk)
              (try clear hi)
              refine hK.out _ _ ⟨(blk_cell BK118.out 0).trans rfl, (blk_cell BK118.out 1).trans rfl, (blk_cell BK118.out 2).trans rfl, (blk_cell BK118.out 3).trans rfl⟩ (fun hHeld => ?_)
              clear hK K
              refine norm_ (a' := ?_) ?_ ?_
              rotate_left
              · show Act.put _ (some 17) _ = _
                simp only [Act.put, List.setIfInBounds_toArray, List.set_cons_zero, List.set_cons_succ, i64_w, i32_w]
                rfl
              refine pure_ (i := 3) (N := some 18) (v := ?_) (a' := ?_) #[true, true, true, true, false, true, true, false, false, false] rfl rfl (any_of HT_.out (by kernel_rfl)) (fun _ _ _ h => h) (Or.inl ⟨by rfl, ?_⟩) ?_ ?_
              rotate_left
              · intro w'
                go_simp
                with_reducible rfl
              rotate_left
              · simp only [Act.put, List.setIfInBounds_toArray, List.set_cons_zero, List.set_cons_succ, i64_w, i32_w]
                rfl
              refine pure_ (i := 4) (N := some 19) (v := ?_) (a' := ?_) #[true, true, true, true, true, true, true, false, false, false] rfl rfl (any_of HT_.out (by kernel_rfl)) (fun _ _ _ h => h) (Or.inl ⟨by rfl, ?_⟩) ?_ ?_
              rotate_left
              · intro w'
                go_simp
                with_reducible rfl
              rotate_left
              · simp only [Act.put, List.setIfInBounds_toArray, List.set_cons_zero, List.set_cons_succ, i64_w, i32_w]
                rfl
              refine pure_ (i := 7) (N := some 22) (v := ?_) (a' := ?_) #[true, true, true, true, true, true, true, true, false, false] rfl rfl (any_of HT_.out (by kernel_rfl)) (fun _ _ _ h => h) (Or.inl ⟨by rfl, ?_⟩) ?_ ?_
              rotate_left
              · intro w'
                go_simp
                with_reducible rfl
              rotate_left
              · simp only [Act.put, List.setIfInBounds_toArray, List.set_cons_zero, List.set_cons_succ, i64_w, i32_w]
                rfl
              refine pure_ (i := 8) (N := some 2) (v := ?_) (a' := ?_) #[true, true, true, true, true, true, true, true, true, false] rfl rfl (any_of HT_.out (by kernel_rfl)) (fun _ _ _ h => h) (Or.inl ⟨by rfl, ?_⟩) ?_ ?_
              rotate_left
              · intro w'
                go_simp
                with_reducible rfl
              rotate_left
              · simp only [Act.put, List.setIfInBounds_toArray, List.set_cons_zero, List.set_cons_succ, i64_w, i32_w]
                rfl
              refine pure_ (i := 9) (N := some 3) (v := ?_) (a' := ?_) #[true, true, true, true, true, true, true, true, true, true] rfl rfl (any_of HT_.out (by kernel_rfl)) (fun _ _ _ h => h) (Or.inl ⟨by rfl, ?_⟩) ?_ ?_
              rotate_left
              · intro w'
                go_simp
                with_reducible rfl
              rotate_left
              · simp only [Act.put, List.setIfInBounds_toArray, List.set_cons_zero, List.set_cons_succ, i64_w, i32_w]
                rfl
              refine done_ (done_of HT_.out (by kernel_rfl)) ?_
              try go_wp2
              go_ret2
              exact ⟨by first | rfl | (simp [errW_none, errW_some] <;> rfl) | (simp [*, errW_none, errW_some] <;> rfl), by repeat (first | (with_reducible first | exact HB.out | apply below_alloc | apply pw_below_drewN | apply below_drew1 | refine below_set ?_ GE118.out) | exact HB.out)⟩
            · rw [if_neg c13] at H
              exact absurd H (by simp)
          · rw [if_neg c12] at H
            exact absurd H (by simp)
        · rw [if_neg c11] at H
          exact absurd H (by simp)
      · rw [if_neg c9] at H
        have c9b0 : (a0_0 == 2) = false := beq_eq_false_iff_ne.mpr c9
        have c9b1 : (a0_0 != 2) = true := bne_iff_ne.mpr c9
        by_cases c20 : a0_0 = 3
        · rw [if_pos c20] at H
          have c20b0 : (a0_0 == 3) = true := beq_iff_eq.mpr c20
          have c20b1 : (a0_0 != 3) = false := bne_eq_false_iff_eq.mpr c20
          clear c20
          by_cases c21 : 7 + a0_1.size ≤ 9223372036854775807
          · rw [if_pos c21] at H
            have c21b0 := eq_true c21
            have c21b1 : decide (7 + a0_1.size ≤ 9223372036854775807) = true := decide_eq_true c21
            try have c21b2 : (9223372036854775807 < 7 + a0_1.size) = False := eq_false (Nat.not_lt.2 c21)
            by_cases c22 : (7 + a0_1.size) + 1 ≤ 9223372036854775807
            · rw [if_pos c22] at H
              have c22b0 := eq_true c22
              have c22b1 : decide ((7 + a0_1.size) + 1 ≤ 9223372036854775807) = true := decide_eq_true c22
              try have c22b2 : (9223372036854775807 < (7 + a0_1.size) + 1) = False := eq_false (Nat.not_lt.2 c22)
              replace H := Option.bind_eq_some_iff.mp H
              obtain ⟨t121, A230, H⟩ := H
              replace H : (if (7 + a0_1.size + 1) + t121.size ≤ 9223372036854775807 then (some ((((⟨#[47, 116, 111, 112, 105, 99, 47]⟩ : ByteArray) ++ a0_1) ++ (⟨#[47]⟩ : ByteArray)) ++ t121, 0)) else (none)) = some (r1, r2) := H
              have A23 := Aside0.mk A230
              clear A230
              by_cases c24 : (7 + a0_1.size + 1) + t121.size ≤ 9223372036854775807
              · rw [if_pos c24] at H
                have c24b0 := eq_true c24
                have c24b1 : decide ((7 + a0_1.size + 1) + t121.size ≤ 9223372036854775807) = true := decide_eq_true c24
                try have c24b2 : (9223372036854775807 < (7 + a0_1.size + 1) + t121.size) = False := eq_false (Nat.not_lt.2 c24)
                simp only [Option.some.injEq, Prod.mk.injEq] at H
                obtain ⟨rfl, rfl⟩ := H
                go_enter Tryz.func10, Tryz.ntmps10
                try go_wp2_with (first | ((with_reducible refine gate_dst (N := 1) rfl ?_); refine box_event ?hg (N := 1) ?hd (cs := #[.int .i64 a0_0, .string a0_1, .int .i64 a0_2, .string a0_3]) (t := 23) ?hr ?_; (case hd => rfl); (case hg => rfl); (case hr => first | (go_simp; done) | (go_simp; rfl)); intro gb118 hg w25 hbox hb; have n0_ := Aside0.mk (below_step (by repeat (first | (with_reducible first | exact HB.out | apply below_alloc | apply pw_below_drewN | apply below_drew1) | exact HB.out)) hb); have n1_ := Aside0.mk (hbox); have n2_ := Aside0.mk ((by rw [hg]; exact (below_size (by repeat (first | (with_reducible first | exact HB.out | apply below_alloc | apply pw_below_drewN | apply below_drew1) | exact HB.out))) : w.heap.size ≤ gb118)); have n3_ := Aside0.mk ((by rw [hg]; exact (below_size (by repeat (first | (with_reducible first | exact HB.out | apply below_alloc | apply pw_below_drewN | apply below_drew1) | exact HB.out))) : w.heap.size ≤ gb118)); clear HB; have HB := n0_; have BK118 := n1_; have GW118 := n2_; have GE118 := n3_; clear n0_ n1_ n2_ n3_; clear hb hbox hg; have hcz26_0 : w25.cell? ⟨gb118, 0, none⟩ = some (.int .i64 a0_0) := (blk_cell BK118.out 0).trans rfl; have hcz26_1 : w25.cell? ⟨gb118, 1, none⟩ = some (.string a0_1) := (blk_cell BK118.out 1).trans rfl; have hcz26_2 : w25.cell? ⟨gb118, 2, none⟩ = some (.int .i64 a0_2) := (blk_cell BK118.out 2).trans rfl; have hcz26_3 : w25.cell? ⟨gb118, 3, none⟩ = some (.string a0_3) := (blk_cell BK118.out 3).trans rfl; have hfz26_0 := blk_frozen BK118.out 0; have hfz26_1 := blk_frozen BK118.out 1; have hfz26_2 := blk_frozen BK118.out 2; have hfz26_3 := blk_frozen BK118.out 3) | ((with_reducible refine gate_callee (f := 12) rfl ?_); refine goesL_ (some 6) rfl rfl Tryz.func12 (by kernel_rfl) rfl #[.agg #[.int .i64 a0_0, .string a0_1, .int .i64 a0_2, .string a0_3]] rfl (by (try simp only [List.map_toArray, List.map_cons, List.map_nil]); first | done | rfl | (simp only [List.length_drop, List.length_take]; rfl)) ?_; (with_reducible refine (copydeskref12_Valid.calls k a0_0 a0_1 a0_2 a0_3 true _ A2.out).mono ?_); rintro e w27 ⟨rfl, hb⟩; refine ⟨_, rfl, ?_⟩; have n0_ := Aside0.mk (blk_below (g := gb118) (o := .cells #[.int .i64 a0_0, .string a0_1, .int .i64 a0_2, .string a0_3] 23 (0, 0)) (by (with_reducible repeat (first | refine blk_drewN ?_ _ | refine blk_drew ?_ | refine blk_alloc ?_ _)); exact BK118.out) hb); have n1_ := Aside0.mk (below_step (by repeat (first | (with_reducible first | exact HB.out | apply below_alloc | apply pw_below_drewN | apply below_drew1 | refine below_set ?_ GE118.out) | exact HB.out)) hb); clear BK118; clear HB; have BK118 := n0_; have HB := n1_; clear n0_ n1_; (try clear hb); (try clear hb2); (try clear hk); (try clear hi); have hcz28_0 : w27.cell? ⟨gb118, 0, none⟩ = some (.int .i64 a0_0) := (blk_cell BK118.out 0).trans rfl; have hcz28_1 : w27.cell? ⟨gb118, 1, none⟩ = some (.string a0_1) := (blk_cell BK118.out 1).trans rfl; have hcz28_2 : w27.cell? ⟨gb118, 2, none⟩ = some (.int .i64 a0_2) := (blk_cell BK118.out 2).trans rfl; have hcz28_3 : w27.cell? ⟨gb118, 3, none⟩ = some (.string a0_3) := (blk_cell BK118.out 3).trans rfl; have hfz28_0 := blk_frozen BK118.out 0; have hfz28_1 := blk_frozen BK118.out 1; have hfz28_2 := blk_frozen BK118.out 2; have hfz28_3 := blk_frozen BK118.out 3))
                have n0_ := Aside0.mk (blk_drew BK118.out)
                have n1_ := Aside0.mk (below_drew1 HB.out)
                clear BK118
                clear HB
                have BK118 := n0_
                have HB := n1_
                clear n0_ n1_
                refine start_ (n := 10) (S := fun w' => w'.cell? ⟨gb118, 0, none⟩ = some (.int .i64 a0_0) ∧ w'.cell? ⟨gb118, 1, none⟩ = some (.string a0_1) ∧ w'.cell? ⟨gb118, 2, none⟩ = some (.int .i64 a0_2) ∧ w'.cell? ⟨gb118, 3, none⟩ = some (.string a0_3)) (ds := []) #[false, false, false, false, false, false, false, false, false, false] (by kernel_rfl) rfl rfl ⟨(blk_cell BK118.out 0).trans rfl, (blk_cell BK118.out 1).trans rfl, (blk_cell BK118.out 2).trans rfl, (blk_cell BK118.out 3).trans rfl⟩ (fun hHeld => ?_); refine with_tabW copydeskref12_Format.tab10 copydeskref12_Format.bits10 (fun HT_ HW_ => ?_)
                generalize w27.drew = w29 at BK118 HB hHeld ⊢
                refine pure_ (i := 0) (N := some 25) (v := ?_) (a' := ?_) #[true, false, false, false, false, false, false, false, false, false] rfl rfl (any_of HT_.out (by kernel_rfl)) (fun _ _ _ h => h) (Or.inl ⟨by rfl, ?_⟩) ?_ ?_
                rotate_left
                · intro w'
                  go_simp
                  with_reducible rfl
                rotate_left
                · simp only [Act.put, List.setIfInBounds_toArray, List.set_cons_zero, List.set_cons_succ, i64_w, i32_w]
                  rfl
                refine pure_ (i := 4) (N := some 29) (v := ?_) (a' := ?_) #[true, false, false, false, true, false, false, false, false, false] rfl rfl (any_of HT_.out (by kernel_rfl)) (fun _ _ _ h => h) (Or.inl ⟨by rfl, ?_⟩) ?_ ?_
                rotate_left
                · intro w'
                  go_simp
                  with_reducible rfl
                rotate_left
                · simp only [Act.put, List.setIfInBounds_toArray, List.set_cons_zero, List.set_cons_succ, i64_w, i32_w]
                  rfl
                refine take_ (i := 1) (N := some 26) (v := ?_) (a' := ?_) #[true, true, false, false, true, false, false, false, false, false] rfl rfl (take_ofW HT_.out HW_.out (by kernel_rfl)) (fun _ _ _ h => h) (Or.inl ⟨by rfl, ?_⟩) hHeld ?_ ?_
                rotate_left
                · rintro w' ⟨s0, s1, s2, s3⟩
                  go_simp
                  with_reducible rfl
                rotate_left
                · simp only [Act.put, List.setIfInBounds_toArray, List.set_cons_zero, List.set_cons_succ, i64_w, i32_w]
                  rfl
                refine pure_ (i := 2) (N := some 27) (v := ?_) (a' := ?_) #[true, true, true, false, true, false, false, false, false, false] rfl rfl (any_of HT_.out (by kernel_rfl)) (fun _ _ _ h => h) (Or.inl ⟨by rfl, ?_⟩) ?_ ?_
                rotate_left
                · intro w'
                  go_simp
                  with_reducible rfl
                rotate_left
                · simp only [Act.put, List.setIfInBounds_toArray, List.set_cons_zero, List.set_cons_succ, i64_w, i32_w]
                  rfl
                refine pure_ (i := 3) (N := some 28) (v := ?_) (a' := ?_) #[true, true, true, true, true, false, false, false, false, false] rfl rfl (any_of HT_.out (by kernel_rfl)) (fun _ _ _ h => h) (Or.inl ⟨by rfl, ?_⟩) ?_ ?_
                rotate_left
                · intro w'
                  go_simp
                  with_reducible rfl
                rotate_left
                · simp only [Act.put, List.setIfInBounds_toArray, List.set_cons_zero, List.set_cons_succ, i64_w, i32_w]
                  rfl
                refine take_ (i := 5) (N := some 30) (v := ?_) (a' := ?_) #[true, true, true, true, true, true, false, false, false, false] rfl rfl (take_ofW HT_.out HW_.out (by kernel_rfl)) (fun _ _ _ h => h) (Or.inl ⟨by rfl, ?_⟩) hHeld ?_ ?_
                rotate_left
                · rintro w' ⟨s0, s1, s2, s3⟩
                  go_simp
                  with_reducible rfl
                rotate_left
                · simp only [Act.put, List.setIfInBounds_toArray, List.set_cons_zero, List.set_cons_succ, i64_w, i32_w]
                  rfl
                refine one_ (i := 6) (N := some 31) #[true, true, true, true, true, true, true, false, false, false] rfl rfl (one_of HT_.out (by kernel_rfl)) (by decide) (fun K hK => ?_)
                refine goes_ Tryz.func20 (by kernel_rfl) rfl #[.int .i64 a0_2] (by rfl) rfl rfl (by (try simp only [List.map_toArray, List.map_cons, List.map_nil]); first | done | rfl | (simp only [List.length_drop, List.length_take]; rfl)) ?_
                with_reducible refine (copydeskref12_Digits.calls k a0_2 t121 _ A23.out).mono ?_
                rintro e w30 ⟨rfl, hb⟩
                refine ⟨_, rfl, ?_⟩
                have n0_ := Aside0.mk (blk_below (g := gb118) (o := .cells #[.int .i64 a0_0, .string a0_1, .int .i64 a0_2, .string a0_3] 23 (0, 0)) (by (with_reducible repeat (first | refine blk_drewN ?_ _ | refine blk_drew ?_ | refine blk_alloc ?_ _)); exact BK118.out) hb)
                have n1_ := Aside0.mk (below_step (by repeat (first | (with_reducible first | exact HB.out | apply below_alloc | apply pw_below_drewN | apply below_drew1 | refine below_set ?_ GE118.out) | exact HB.out)) hb)
                clear BK118
                clear HB
                have BK118 := n0_
                have HB := n1_
                clear n0_ n1_
                (try clear hb)
                (try clear hb2)
                (try clear hk)
                (try clear hi)
                refine hK.out _ _ ⟨(blk_cell BK118.out 0).trans rfl, (blk_cell BK118.out 1).trans rfl, (blk_cell BK118.out 2).trans rfl, (blk_cell BK118.out 3).trans rfl⟩ (fun hHeld => ?_)
                clear hK K
                refine norm_ (a' := ?_) ?_ ?_
                rotate_left
                · show Act.put _ (some 31) _ = _
                  simp only [Act.put, List.setIfInBounds_toArray, List.set_cons_zero, List.set_cons_succ, i64_w, i32_w]
                  rfl
                refine pure_ (i := 7) (N := some 32) (v := ?_) (a' := ?_) #[true, true, true, true, true, true, true, true, false, false] rfl rfl (any_of HT_.out (by kernel_rfl)) (fun _ _ _ h => h) (Or.inl ⟨by rfl, ?_⟩) ?_ ?_
                rotate_left
                · intro w'
                  go_simp
                  with_reducible rfl
                rotate_left
                · simp only [Act.put, List.setIfInBounds_toArray, List.set_cons_zero, List.set_cons_succ, i64_w, i32_w]
                  rfl
                refine pure_ (i := 8) (N := some 2) (v := ?_) (a' := ?_) #[true, true, true, true, true, true, true, true, true, false] rfl rfl (any_of HT_.out (by kernel_rfl)) (fun _ _ _ h => h) (Or.inl ⟨by rfl, ?_⟩) ?_ ?_
                rotate_left
                · intro w'
                  go_simp
                  with_reducible rfl
                rotate_left
                · simp only [Act.put, List.setIfInBounds_toArray, List.set_cons_zero, List.set_cons_succ, i64_w, i32_w]
                  rfl
                refine pure_ (i := 9) (N := some 3) (v := ?_) (a' := ?_) #[true, true, true, true, true, true, true, true, true, true] rfl rfl (any_of HT_.out (by kernel_rfl)) (fun _ _ _ h => h) (Or.inl ⟨by rfl, ?_⟩) ?_ ?_
                rotate_left
                · intro w'
                  go_simp
                  with_reducible rfl
                rotate_left
                · simp only [Act.put, List.setIfInBounds_toArray, List.set_cons_zero, List.set_cons_succ, i64_w, i32_w]
                  rfl
                refine done_ (done_of HT_.out (by kernel_rfl)) ?_
                try go_wp2
                go_ret2
                exact ⟨by first | rfl | (simp [errW_none, errW_some] <;> rfl) | (simp [*, errW_none, errW_some] <;> rfl), by repeat (first | (with_reducible first | exact HB.out | apply below_alloc | apply pw_below_drewN | apply below_drew1 | refine below_set ?_ GE118.out) | exact HB.out)⟩
              · rw [if_neg c24] at H
                exact absurd H (by simp)
            · rw [if_neg c22] at H
              exact absurd H (by simp)
          · rw [if_neg c21] at H
            exact absurd H (by simp)
        · rw [if_neg c20] at H
          have c20b0 : (a0_0 == 3) = false := beq_eq_false_iff_ne.mpr c20
          have c20b1 : (a0_0 != 3) = true := bne_iff_ne.mpr c20
          by_cases c31 : a0_0 = 4
          · rw [if_pos c31] at H
            have c31b0 : (a0_0 == 4) = true := beq_iff_eq.mpr c31
            have c31b1 : (a0_0 != 4) = false := bne_eq_false_iff_eq.mpr c31
            clear c31
            by_cases c32 : 8 + a0_1.size ≤ 9223372036854775807
            · rw [if_pos c32] at H
              have c32b0 := eq_true c32
              have c32b1 : decide (8 + a0_1.size ≤ 9223372036854775807) = true := decide_eq_true c32
              try have c32b2 : (9223372036854775807 < 8 + a0_1.size) = False := eq_false (Nat.not_lt.2 c32)
              simp only [Option.some.injEq, Prod.mk.injEq] at H
              obtain ⟨rfl, rfl⟩ := H
              go_enter Tryz.func10, Tryz.ntmps10
              go_wp2_with (first | ((with_reducible refine gate_dst (N := 1) rfl ?_); refine box_event ?hg (N := 1) ?hd (cs := #[.int .i64 a0_0, .string a0_1, .int .i64 a0_2, .string a0_3]) (t := 23) ?hr ?_; (case hd => rfl); (case hg => rfl); (case hr => first | (go_simp; done) | (go_simp; rfl)); intro gb118 hg w33 hbox hb; have n0_ := Aside0.mk (below_step (by repeat (first | (with_reducible first | exact HB.out | apply below_alloc | apply pw_below_drewN | apply below_drew1) | exact HB.out)) hb); have n1_ := Aside0.mk (hbox); have n2_ := Aside0.mk ((by rw [hg]; exact (below_size (by repeat (first | (with_reducible first | exact HB.out | apply below_alloc | apply pw_below_drewN | apply below_drew1) | exact HB.out))) : w.heap.size ≤ gb118)); have n3_ := Aside0.mk ((by rw [hg]; exact (below_size (by repeat (first | (with_reducible first | exact HB.out | apply below_alloc | apply pw_below_drewN | apply below_drew1) | exact HB.out))) : w.heap.size ≤ gb118)); clear HB; have HB := n0_; have BK118 := n1_; have GW118 := n2_; have GE118 := n3_; clear n0_ n1_ n2_ n3_; clear hb hbox hg; have hcz34_0 : w33.cell? ⟨gb118, 0, none⟩ = some (.int .i64 a0_0) := (blk_cell BK118.out 0).trans rfl; have hcz34_1 : w33.cell? ⟨gb118, 1, none⟩ = some (.string a0_1) := (blk_cell BK118.out 1).trans rfl; have hcz34_2 : w33.cell? ⟨gb118, 2, none⟩ = some (.int .i64 a0_2) := (blk_cell BK118.out 2).trans rfl; have hcz34_3 : w33.cell? ⟨gb118, 3, none⟩ = some (.string a0_3) := (blk_cell BK118.out 3).trans rfl; have hfz34_0 := blk_frozen BK118.out 0; have hfz34_1 := blk_frozen BK118.out 1; have hfz34_2 := blk_frozen BK118.out 2; have hfz34_3 := blk_frozen BK118.out 3) | ((with_reducible refine gate_callee (f := 12) rfl ?_); refine goesL_ (some 6) rfl rfl Tryz.func12 (by kernel_rfl) rfl #[.agg #[.int .i64 a0_0, .string a0_1, .int .i64 a0_2, .string a0_3]] rfl (by (try simp only [List.map_toArray, List.map_cons, List.map_nil]); first | done | rfl | (simp only [List.length_drop, List.length_take]; rfl)) ?_; (with_reducible refine (copydeskref12_Valid.calls k a0_0 a0_1 a0_2 a0_3 true _ A2.out).mono ?_); rintro e w35 ⟨rfl, hb⟩; refine ⟨_, rfl, ?_⟩; have n0_ := Aside0.mk (blk_below (g := gb118) (o := .cells #[.int .i64 a0_0, .string a0_1, .int .i64 a0_2, .string a0_3] 23 (0, 0)) (by (with_reducible repeat (first | refine blk_drewN ?_ _ | refine blk_drew ?_ | refine blk_alloc ?_ _)); exact BK118.out) hb); have n1_ := Aside0.mk (below_step (by repeat (first | (with_reducible first | exact HB.out | apply below_alloc | apply pw_below_drewN | apply below_drew1 | refine below_set ?_ GE118.out) | exact HB.out)) hb); clear BK118; clear HB; have BK118 := n0_; have HB := n1_; clear n0_ n1_; (try clear hb); (try clear hb2); (try clear hk); (try clear hi); have hcz36_0 : w35.cell? ⟨gb118, 0, none⟩ = some (.int .i64 a0_0) := (blk_cell BK118.out 0).trans rfl; have hcz36_1 : w35.cell? ⟨gb118, 1, none⟩ = some (.string a0_1) := (blk_cell BK118.out 1).trans rfl; have hcz36_2 : w35.cell? ⟨gb118, 2, none⟩ = some (.int .i64 a0_2) := (blk_cell BK118.out 2).trans rfl; have hcz36_3 : w35.cell? ⟨gb118, 3, none⟩ = some (.string a0_3) := (blk_cell BK118.out 3).trans rfl; have hfz36_0 := blk_frozen BK118.out 0; have hfz36_1 := blk_frozen BK118.out 1; have hfz36_2 := blk_frozen BK118.out 2; have hfz36_3 := blk_frozen BK118.out 3))
              go_ret2
              exact ⟨by first | rfl | (simp [errW_none, errW_some] <;> rfl) | (simp [*, errW_none, errW_some] <;> rfl), by repeat (first | (with_reducible first | exact HB.out | apply below_alloc | apply pw_below_drewN | apply below_drew1 | refine below_set ?_ GE118.out) | exact HB.out)⟩
            · rw [if_neg c32] at H
              exact absurd H (by simp)
          · rw [if_neg c31] at H
            have c31b0 : (a0_0 == 4) = false := beq_eq_false_iff_ne.mpr c31
            have c31b1 : (a0_0 != 4) = true := bne_iff_ne.mpr c31
            by_cases c37 : a0_0 = 5
            · rw [if_pos c37] at H
              have c37b0 : (a0_0 == 5) = true := beq_iff_eq.mpr c37
              have c37b1 : (a0_0 != 5) = false := bne_eq_false_iff_eq.mpr c37
              clear c37
              by_cases c38 : 6 + a0_1.size ≤ 9223372036854775807
              · rw [if_pos c38] at H
                have c38b0 := eq_true c38
                have c38b1 : decide (6 + a0_1.size ≤ 9223372036854775807) = true := decide_eq_true c38
                try have c38b2 : (9223372036854775807 < 6 + a0_1.size) = False := eq_false (Nat.not_lt.2 c38)
                simp only [Option.some.injEq, Prod.mk.injEq] at H
                obtain ⟨rfl, rfl⟩ := H
                go_enter Tryz.func10, Tryz.ntmps10
                go_wp2_with (first | ((with_reducible refine gate_dst (N := 1) rfl ?_); refine box_event ?hg (N := 1) ?hd (cs := #[.int .i64 a0_0, .string a0_1, .int .i64 a0_2, .string a0_3]) (t := 23) ?hr ?_; (case hd => rfl); (case hg => rfl); (case hr => first | (go_simp; done) | (go_simp; rfl)); intro gb118 hg w39 hbox hb; have n0_ := Aside0.mk (below_step (by repeat (first | (with_reducible first | exact HB.out | apply below_alloc | apply pw_below_drewN | apply below_drew1) | exact HB.out)) hb); have n1_ := Aside0.mk (hbox); have n2_ := Aside0.mk ((by rw [hg]; exact (below_size (by repeat (first | (with_reducible first | exact HB.out | apply below_alloc | apply pw_below_drewN | apply below_drew1) | exact HB.out))) : w.heap.size ≤ gb118)); have n3_ := Aside0.mk ((by rw [hg]; exact (below_size (by repeat (first | (with_reducible first | exact HB.out | apply below_alloc | apply pw_below_drewN | apply below_drew1) | exact HB.out))) : w.heap.size ≤ gb118)); clear HB; have HB := n0_; have BK118 := n1_; have GW118 := n2_; have GE118 := n3_; clear n0_ n1_ n2_ n3_; clear hb hbox hg; have hcz40_0 : w39.cell? ⟨gb118, 0, none⟩ = some (.int .i64 a0_0) := (blk_cell BK118.out 0).trans rfl; have hcz40_1 : w39.cell? ⟨gb118, 1, none⟩ = some (.string a0_1) := (blk_cell BK118.out 1).trans rfl; have hcz40_2 : w39.cell? ⟨gb118, 2, none⟩ = some (.int .i64 a0_2) := (blk_cell BK118.out 2).trans rfl; have hcz40_3 : w39.cell? ⟨gb118, 3, none⟩ = some (.string a0_3) := (blk_cell BK118.out 3).trans rfl; have hfz40_0 := blk_frozen BK118.out 0; have hfz40_1 := blk_frozen BK118.out 1; have hfz40_2 := blk_frozen BK118.out 2; have hfz40_3 := blk_frozen BK118.out 3) | ((with_reducible refine gate_callee (f := 12) rfl ?_); refine goesL_ (some 6) rfl rfl Tryz.func12 (by kernel_rfl) rfl #[.agg #[.int .i64 a0_0, .string a0_1, .int .i64 a0_2, .string a0_3]] rfl (by (try simp only [List.map_toArray, List.map_cons, List.map_nil]); first | done | rfl | (simp only [List.length_drop, List.length_take]; rfl)) ?_; (with_reducible refine (copydeskref12_Valid.calls k a0_0 a0_1 a0_2 a0_3 true _ A2.out).mono ?_); rintro e w41 ⟨rfl, hb⟩; refine ⟨_, rfl, ?_⟩; have n0_ := Aside0.mk (blk_below (g := gb118) (o := .cells #[.int .i64 a0_0, .string a0_1, .int .i64 a0_2, .string a0_3] 23 (0, 0)) (by (with_reducible repeat (first | refine blk_drewN ?_ _ | refine blk_drew ?_ | refine blk_alloc ?_ _)); exact BK118.out) hb); have n1_ := Aside0.mk (below_step (by repeat (first | (with_reducible first | exact HB.out | apply below_alloc | apply pw_below_drewN | apply below_drew1 | refine below_set ?_ GE118.out) | exact HB.out)) hb); clear BK118; clear HB; have BK118 := n0_; have HB := n1_; clear n0_ n1_; (try clear hb); (try clear hb2); (try clear hk); (try clear hi); have hcz42_0 : w41.cell? ⟨gb118, 0, none⟩ = some (.int .i64 a0_0) := (blk_cell BK118.out 0).trans rfl; have hcz42_1 : w41.cell? ⟨gb118, 1, none⟩ = some (.string a0_1) := (blk_cell BK118.out 1).trans rfl; have hcz42_2 : w41.cell? ⟨gb118, 2, none⟩ = some (.int .i64 a0_2) := (blk_cell BK118.out 2).trans rfl; have hcz42_3 : w41.cell? ⟨gb118, 3, none⟩ = some (.string a0_3) := (blk_cell BK118.out 3).trans rfl; have hfz42_0 := blk_frozen BK118.out 0; have hfz42_1 := blk_frozen BK118.out 1; have hfz42_2 := blk_frozen BK118.out 2; have hfz42_3 := blk_frozen BK118.out 3))
                go_ret2
                exact ⟨by first | rfl | (simp [errW_none, errW_some] <;> rfl) | (simp [*, errW_none, errW_some] <;> rfl), by repeat (first | (with_reducible first | exact HB.out | apply below_alloc | apply pw_below_drewN | apply below_drew1 | refine below_set ?_ GE118.out) | exact HB.out)⟩
              · rw [if_neg c38] at H
                exact absurd H (by simp)
            · rw [if_neg c37] at H
              have c37b0 : (a0_0 == 5) = false := beq_eq_false_iff_ne.mpr c37
              have c37b1 : (a0_0 != 5) = true := bne_iff_ne.mpr c37
              simp only [Option.some.injEq, Prod.mk.injEq] at H
              obtain ⟨rfl, rfl⟩ := H
              go_enter Tryz.func10, Tryz.ntmps10
              go_wp2_with (first | ((with_reducible refine gate_dst (N := 1) rfl ?_); refine box_event ?hg (N := 1) ?hd (cs := #[.int .i64 a0_0, .string a0_1, .int .i64 a0_2, .string a0_3]) (t := 23) ?hr ?_; (case hd => rfl); (case hg => rfl); (case hr => first | (go_simp; done) | (go_simp; rfl)); intro gb118 hg w43 hbox hb; have n0_ := Aside0.mk (below_step (by repeat (first | (with_reducible first | exact HB.out | apply below_alloc | apply pw_below_drewN | apply below_drew1) | exact HB.out)) hb); have n1_ := Aside0.mk (hbox); have n2_ := Aside0.mk ((by rw [hg]; exact (below_size (by repeat (first | (with_reducible first | exact HB.out | apply below_alloc | apply pw_below_drewN | apply below_drew1) | exact HB.out))) : w.heap.size ≤ gb118)); have n3_ := Aside0.mk ((by rw [hg]; exact (below_size (by repeat (first | (with_reducible first | exact HB.out | apply below_alloc | apply pw_below_drewN | apply below_drew1) | exact HB.out))) : w.heap.size ≤ gb118)); clear HB; have HB := n0_; have BK118 := n1_; have GW118 := n2_; have GE118 := n3_; clear n0_ n1_ n2_ n3_; clear hb hbox hg; have hcz44_0 : w43.cell? ⟨gb118, 0, none⟩ = some (.int .i64 a0_0) := (blk_cell BK118.out 0).trans rfl; have hcz44_1 : w43.cell? ⟨gb118, 1, none⟩ = some (.string a0_1) := (blk_cell BK118.out 1).trans rfl; have hcz44_2 : w43.cell? ⟨gb118, 2, none⟩ = some (.int .i64 a0_2) := (blk_cell BK118.out 2).trans rfl; have hcz44_3 : w43.cell? ⟨gb118, 3, none⟩ = some (.string a0_3) := (blk_cell BK118.out 3).trans rfl; have hfz44_0 := blk_frozen BK118.out 0; have hfz44_1 := blk_frozen BK118.out 1; have hfz44_2 := blk_frozen BK118.out 2; have hfz44_3 := blk_frozen BK118.out 3) | ((with_reducible refine gate_callee (f := 12) rfl ?_); refine goesL_ (some 6) rfl rfl Tryz.func12 (by kernel_rfl) rfl #[.agg #[.int .i64 a0_0, .string a0_1, .int .i64 a0_2, .string a0_3]] rfl (by (try simp only [List.map_toArray, List.map_cons, List.map_nil]); first | done | rfl | (simp only [List.length_drop, List.length_take]; rfl)) ?_; (with_reducible refine (copydeskref12_Valid.calls k a0_0 a0_1 a0_2 a0_3 true _ A2.out).mono ?_); rintro e w45 ⟨rfl, hb⟩; refine ⟨_, rfl, ?_⟩; have n0_ := Aside0.mk (blk_below (g := gb118) (o := .cells #[.int .i64 a0_0, .string a0_1, .int .i64 a0_2, .string a0_3] 23 (0, 0)) (by (with_reducible repeat (first | refine blk_drewN ?_ _ | refine blk_drew ?_ | refine blk_alloc ?_ _)); exact BK118.out) hb); have n1_ := Aside0.mk (below_step (by repeat (first | (with_reducible first | exact HB.out | apply below_alloc | apply pw_below_drewN | apply below_drew1 | refine below_set ?_ GE118.out) | exact HB.out)) hb); clear BK118; clear HB; have BK118 := n0_; have HB := n1_; clear n0_ n1_; (try clear hb); (try clear hb2); (try clear hk); (try clear hi); have hcz46_0 : w45.cell? ⟨gb118, 0, none⟩ = some (.int .i64 a0_0) := (blk_cell BK118.out 0).trans rfl; have hcz46_1 : w45.cell? ⟨gb118, 1, none⟩ = some (.string a0_1) := (blk_cell BK118.out 1).trans rfl; have hcz46_2 : w45.cell? ⟨gb118, 2, none⟩ = some (.int .i64 a0_2) := (blk_cell BK118.out 2).trans rfl; have hcz46_3 : w45.cell? ⟨gb118, 3, none⟩ = some (.string a0_3) := (blk_cell BK118.out 3).trans rfl; have hfz46_0 := blk_frozen BK118.out 0; have hfz46_1 := blk_frozen BK118.out 1; have hfz46_2 := blk_frozen BK118.out 2; have hfz46_3 := blk_frozen BK118.out 3))
              go_ret2
              exact ⟨by first | rfl | (simp [errW_none, errW_some] <;> rfl) | (simp [*, errW_none, errW_some] <;> rfl), by repeat (first | (with_reducible first | exact HB.out | apply below_alloc | apply pw_below_drewN | apply below_drew1 | refine below_set ?_ GE118.out) | exact HB.out)⟩
  · replace c3 := Bool.eq_false_iff.mpr c3
    subst c3
    have H1 : (some ((⟨#[]⟩ : ByteArray), 120)) = some (r1, r2) := by rw [if_neg (show ¬ (false = true) by decide)] at H; exact H
    clear H
    have H := H1
    clear H1
    simp only [Option.some.injEq, Prod.mk.injEq] at H
    obtain ⟨rfl, rfl⟩ := H
    go_enter Tryz.func10, Tryz.ntmps10
    go_wp2_with (first | ((with_reducible refine gate_dst (N := 1) rfl ?_); refine box_event ?hg (N := 1) ?hd (cs := #[.int .i64 a0_0, .string a0_1, .int .i64 a0_2, .string a0_3]) (t := 23) ?hr ?_; (case hd => rfl); (case hg => rfl); (case hr => first | (go_simp; done) | (go_simp; rfl)); intro gb118 hg w47 hbox hb; have n0_ := Aside0.mk (below_step (by repeat (first | (with_reducible first | exact HB.out | apply below_alloc | apply pw_below_drewN | apply below_drew1) | exact HB.out)) hb); have n1_ := Aside0.mk (hbox); have n2_ := Aside0.mk ((by rw [hg]; exact (below_size (by repeat (first | (with_reducible first | exact HB.out | apply below_alloc | apply pw_below_drewN | apply below_drew1) | exact HB.out))) : w.heap.size ≤ gb118)); have n3_ := Aside0.mk ((by rw [hg]; exact (below_size (by repeat (first | (with_reducible first | exact HB.out | apply below_alloc | apply pw_below_drewN | apply below_drew1) | exact HB.out))) : w.heap.size ≤ gb118)); clear HB; have HB := n0_; have BK118 := n1_; have GW118 := n2_; have GE118 := n3_; clear n0_ n1_ n2_ n3_; clear hb hbox hg; have hcz48_0 : w47.cell? ⟨gb118, 0, none⟩ = some (.int .i64 a0_0) := (blk_cell BK118.out 0).trans rfl; have hcz48_1 : w47.cell? ⟨gb118, 1, none⟩ = some (.string a0_1) := (blk_cell BK118.out 1).trans rfl; have hcz48_2 : w47.cell? ⟨gb118, 2, none⟩ = some (.int .i64 a0_2) := (blk_cell BK118.out 2).trans rfl; have hcz48_3 : w47.cell? ⟨gb118, 3, none⟩ = some (.string a0_3) := (blk_cell BK118.out 3).trans rfl; have hfz48_0 := blk_frozen BK118.out 0; have hfz48_1 := blk_frozen BK118.out 1; have hfz48_2 := blk_frozen BK118.out 2; have hfz48_3 := blk_frozen BK118.out 3) | ((with_reducible refine gate_callee (f := 12) rfl ?_); refine goesL_ (some 6) rfl rfl Tryz.func12 (by kernel_rfl) rfl #[.agg #[.int .i64 a0_0, .string a0_1, .int .i64 a0_2, .string a0_3]] rfl (by (try simp only [List.map_toArray, List.map_cons, List.map_nil]); first | done | rfl | (simp only [List.length_drop, List.length_take]; rfl)) ?_; (with_reducible refine (copydeskref12_Valid.calls k a0_0 a0_1 a0_2 a0_3 false _ A2.out).mono ?_); rintro e w49 ⟨rfl, hb⟩; refine ⟨_, rfl, ?_⟩; have n0_ := Aside0.mk (blk_below (g := gb118) (o := .cells #[.int .i64 a0_0, .string a0_1, .int .i64 a0_2, .string a0_3] 23 (0, 0)) (by (with_reducible repeat (first | refine blk_drewN ?_ _ | refine blk_drew ?_ | refine blk_alloc ?_ _)); exact BK118.out) hb); have n1_ := Aside0.mk (below_step (by repeat (first | (with_reducible first | exact HB.out | apply below_alloc | apply pw_below_drewN | apply below_drew1 | refine below_set ?_ GE118.out) | exact HB.out)) hb); clear BK118; clear HB; have BK118 := n0_; have HB := n1_; clear n0_ n1_; (try clear hb); (try clear hb2); (try clear hk); (try clear hi)))
    go_ret2
    exact ⟨by first | rfl | (simp [errW_none, errW_some] <;> rfl) | (simp [*, errW_none, errW_some] <;> rfl), by repeat (first | (with_reducible first | exact HB.out | apply below_alloc | apply pw_below_drewN | apply below_drew1 | refine below_set ?_ GE118.out) | exact HB.out)⟩

end Go.Proofs.YtdfjpbdfafpfgaaGreatDoor.PX

-- Written by wip/pr.py, a program of this session, that runs the kit's printer with contracts of our own put in. Lean checks it.
namespace Go.Proofs.YtdfjpbdfafpfgaaGreatDoor.PX
open Go.RowKit Go.Proofs.YtdfjpbdfafpfgaaGreatDoorW.PrintWords Go.Proofs.YtdfjpbdfafpfgaaGreatDoorW.PrintLast Go.Proofs.YtdfjpbdfafpfgaaGreatDoorW.PrintMore
attribute [local go_sem] max2_int min2_int max_two min_two max_three min_three max_four min_four   -- for this text's walks alone
set_option linter.unusedVariables false
set_option linter.unusedSimpArgs false

/-! ### copydeskref12_after: function 28 -/
def copydeskref12_after.f (a0 : ByteArray) (a1 : ByteArray) : Option (ByteArray × Bool) := if (a0.size : Int) < (a1.size : Int) then (some ((⟨#[]⟩ : ByteArray), false)) else (if 0 ≤ (a1.size : Int) then (if (a1.size : Int) ≤ (a0.size : Int) then (if (a0.extract 0 a1.size).toList = a1.toList then (some (a0.extract a1.size a0.size, true)) else (some ((⟨#[]⟩ : ByteArray), false))) else (none)) else (none))
set_option maxHeartbeats 8000000 in
set_option maxRecDepth 100000 in
theorem copydeskref12_after.calls (a0 : ByteArray) (a1 : ByteArray) (r1 : ByteArray) (r2 : Bool) (w : World) (h : copydeskref12_after.f a0 a1 = some (r1, r2)) :
    Calls Tryz.prog 28 #[.string a0, .string a1] w fun e w' => e = .returned (.tuple #[.string r1, .bool r2]) ∧ Drawn0 w w' := by
  have H : (if (a0.size : Int) < (a1.size : Int) then (some ((⟨#[]⟩ : ByteArray), false)) else (if 0 ≤ (a1.size : Int) then (if (a1.size : Int) ≤ (a0.size : Int) then (if (a0.extract 0 a1.size).toList = a1.toList then (some (a0.extract a1.size a0.size, true)) else (some ((⟨#[]⟩ : ByteArray), false))) else (none)) else (none))) = some (r1, r2) := h
  clear h
  by_cases c3 : (a0.size : Int) < (a1.size : Int)
  · rw [if_pos c3] at H
    have c3b0 : decide ((a0.size : Int) < (a1.size : Int)) = true := decide_eq_true c3
    have c3b1 : decide (a0.size < a1.size) = true := decide_eq_true (Int.ofNat_lt.mp c3)
    clear c3
    simp only [Option.some.injEq, Prod.mk.injEq] at H
    obtain ⟨rfl, rfl⟩ := H
    go_enter Tryz.func28, Tryz.ntmps28
    go_wp2
    go_ret2
    exact ⟨by first | rfl | (simp; done) | (simp [*]; done), by repeat (first | exact Drawn0.refl _ | apply Drawn0.step)⟩
  · rw [if_neg c3] at H
    have c3b0 : decide ((a0.size : Int) < (a1.size : Int)) = false := decide_eq_false c3
    have c3b1 : decide (a0.size < a1.size) = false := decide_eq_false (fun h => c3 (Int.ofNat_lt.mpr h))
    clear c3
    by_cases c4 : 0 ≤ (a1.size : Int)
    · rw [if_pos c4] at H
      have c4b0 := eq_true c4
      have c4b1 : decide (0 ≤ (a1.size : Int)) = true := decide_eq_true c4
      clear c4
      by_cases c5 : (a1.size : Int) ≤ (a0.size : Int)
      · rw [if_pos c5] at H
        have c5b0 := eq_true c5
        have c5b1 : decide ((a1.size : Int) ≤ (a0.size : Int)) = true := decide_eq_true c5
        clear c5
        by_cases c6 : (a0.extract 0 a1.size).toList = a1.toList
        · rw [if_pos c6] at H
          have c6b0 : ((a0.extract 0 a1.size).toList == a1.toList) = true := beq_iff_eq.mpr c6
          have c6b1 : ((a0.extract 0 a1.size).toList != a1.toList) = false := bne_eq_false_iff_eq.mpr c6
          clear c6
          have c7b0 := eq_true (of_decide_eq_true (by first | (with_reducible assumption) | assumption) : 0 ≤ (a1.size : Int))
          have c8b0 := eq_true (of_decide_eq_true (by first | (with_reducible assumption) | assumption) : (a1.size : Int) ≤ (a0.size : Int))
          simp only [Option.some.injEq, Prod.mk.injEq] at H
          obtain ⟨rfl, rfl⟩ := H
          go_enter Tryz.func28, Tryz.ntmps28
          go_wp2
          go_ret2
          exact ⟨by first | rfl | (simp; done) | (simp [*]; done), by repeat (first | exact Drawn0.refl _ | apply Drawn0.step)⟩
        · rw [if_neg c6] at H
          have c6b0 : ((a0.extract 0 a1.size).toList == a1.toList) = false := beq_eq_false_iff_ne.mpr c6
          have c6b1 : ((a0.extract 0 a1.size).toList != a1.toList) = true := bne_iff_ne.mpr c6
          simp only [Option.some.injEq, Prod.mk.injEq] at H
          obtain ⟨rfl, rfl⟩ := H
          go_enter Tryz.func28, Tryz.ntmps28
          go_wp2
          go_ret2
          exact ⟨by first | rfl | (simp; done) | (simp [*]; done), by repeat (first | exact Drawn0.refl _ | apply Drawn0.step)⟩
      · rw [if_neg c5] at H
        exact absurd H (by simp)
    · rw [if_neg c4] at H
      exact absurd H (by simp)

end Go.Proofs.YtdfjpbdfafpfgaaGreatDoor.PX

-- Written by wip/pr.py, a program of this session, that runs the kit's printer with contracts of our own put in. Lean checks it.
namespace Go.Proofs.YtdfjpbdfafpfgaaGreatDoor.PX
open Go.RowKit Go.Proofs.YtdfjpbdfafpfgaaGreatDoorW.PrintWords Go.Proofs.YtdfjpbdfafpfgaaGreatDoorW.PrintLast Go.Proofs.YtdfjpbdfafpfgaaGreatDoorW.PrintMore
attribute [local go_sem] max2_int min2_int max_two min_two max_three min_three max_four min_four   -- for this text's walks alone
set_option linter.unusedVariables false
set_option linter.unusedSimpArgs false

/-! ### copydeskref12_cut: function 29 -/
def copydeskref12_cut.l0 : Nat → ByteArray → Int → Option (ByteArray × ByteArray)
  | 0, _, _ => none
  | k + 1, x0, x4 => if x4 < (x0.size : Int) then (if 0 ≤ x4 then (if (bt x0 x4) = 47 then (if x4 ≤ (x0.size : Int) then (if 0 ≤ (wrap64 (x4 + 1)) then (if (wrap64 (x4 + 1)) ≤ (x0.size : Int) then (some (x0.extract 0 (x4 : Int).toNat, x0.extract ((wrap64 (x4 + 1)) : Int).toNat x0.size)) else (none)) else (none)) else (none)) else (copydeskref12_cut.l0 k x0 (wrap64 (x4 + 1)))) else (none)) else (some (x0, (⟨#[]⟩ : ByteArray)))
def copydeskref12_cut.f (k : Nat) (a0 : ByteArray) : Option (ByteArray × ByteArray) := copydeskref12_cut.l0 k a0 0
theorem copydeskref12_cut.mono_l : ∀ k, (∀ y0 y1, LeO (copydeskref12_cut.l0 k y0 y1) (copydeskref12_cut.l0 (k + 1) y0 y1))
  | 0 => fun _ _ r h => by simp [copydeskref12_cut.l0] at h
  | k + 1 => by
    have ih0 := copydeskref12_cut.mono_l k
    · intro y0 y1
      unfold copydeskref12_cut.l0
      repeat' first
      | (with_reducible exact ih0 _ _)
      | (with_reducible exact LeO.refl _)
      | (with_reducible exact LeO.none _)
      | (with_reducible refine LeO.ite ?_ ?_)
      | (with_reducible refine LeO.bind ?_ (fun _ => ?_))
      | exact ih0 _ _
      | exact LeO.none _
      | refine LeO.ite ?_ ?_
      | refine LeO.bind ?_ (fun _ => ?_)
theorem copydeskref12_cut.mono : ∀ a0 k, LeO (copydeskref12_cut.f k a0) (copydeskref12_cut.f (k + 1) a0) := by
  intro a0 k
  have ih0 := copydeskref12_cut.mono_l k
  unfold copydeskref12_cut.f
  repeat' first
      | (with_reducible exact ih0 _ _)
      | (with_reducible exact LeO.refl _)
      | (with_reducible exact LeO.none _)
      | (with_reducible refine LeO.ite ?_ ?_)
      | (with_reducible refine LeO.bind ?_ (fun _ => ?_))
      | exact ih0 _ _
      | exact LeO.none _
      | refine LeO.ite ?_ ?_
      | refine LeO.bind ?_ (fun _ => ?_)
set_option maxHeartbeats 8000000 in
set_option maxRecDepth 100000 in
theorem copydeskref12_cut.calls (k : Nat) (a0 : ByteArray) (r1 : ByteArray) (r2 : ByteArray) (w : World) (h : copydeskref12_cut.f k a0 = some (r1, r2)) :
    Calls Tryz.prog 29 #[.string a0] w fun e w' => e = .returned (.tuple #[.string r1, .string r2]) ∧ Drawn0 w w' := by
  have H : (copydeskref12_cut.l0 k a0 0) = some (r1, r2) := h
  clear h
  have H' := Aside0.mk H
  clear H
  go_enter Tryz.func29, Tryz.ntmps29
  go_wp2
  repeat (go_quiet (fail); try go_wp2)
  go_loopg [4] k (fun kq v4 w' => ∃ (x4_1 : Int), v4 = .int .i64 x4_1 ∧ Aside0 (copydeskref12_cut.l0 kq a0 x4_1 = some (r1, r2)) ∧ Aside0 (kq ≤ k) ∧ Drawn0 w w')
  case atStart => exact ⟨(0), (by first | rfl | (simp; done) | (simp [*]; done)), H', ⟨Nat.le_refl _⟩, by repeat (first | exact Drawn0.refl _ | apply Drawn0.step)⟩
  case round =>
    clear H'
    obtain ⟨x4_1, rfl, HA, HK1, ⟨m1, rfl⟩⟩ := hrel
    cases gk with
    | zero => exact absurd HA.out (by simp [copydeskref12_cut.l0])
    | succ k1 =>
      have H := HA.out
      clear HA
      simp only [copydeskref12_cut.l0] at H
      by_cases c2 : x4_1 < (a0.size : Int)
      · rw [if_pos c2] at H
        have c2b0 : decide (x4_1 < (a0.size : Int)) = true := decide_eq_true c2
        clear c2
        by_cases c3 : 0 ≤ x4_1
        · rw [if_pos c3] at H
          have c3b0 : decide (0 ≤ x4_1) = true := decide_eq_true c3
          clear c3
          by_cases c5 : (bt a0 x4_1) = 47
          · rw [if_pos c5] at H
            have c5b0 : ((bt a0 x4_1) == 47) = true := beq_iff_eq.mpr c5
            have c5b1 : ((bt a0 x4_1) != 47) = false := bne_eq_false_iff_eq.mpr c5
            clear c5
            have c6b0 := eq_true (of_decide_eq_true (by first | (with_reducible assumption) | assumption) : 0 ≤ x4_1)
            by_cases c7 : x4_1 ≤ (a0.size : Int)
            · rw [if_pos c7] at H
              have c7b0 := eq_true c7
              have c7b1 : decide (x4_1 ≤ (a0.size : Int)) = true := decide_eq_true c7
              clear c7
              obtain ⟨ji8, hji8⟩ : ∃ j_ : Int, (wrap64 (x4_1 + 1)) = j_ := ⟨_, rfl⟩
              replace H : (if 0 ≤ (ji8) then (if (ji8) ≤ (a0.size : Int) then (some (a0.extract 0 (x4_1 : Int).toNat, a0.extract ((ji8) : Int).toNat a0.size)) else (none)) else (none)) = some (r1, r2) := by first | (rw [hji8] at H; exact H) | (simp only [hji8] at H ⊢; exact H)
              have hji8w : (IntKind.i64.wrap (x4_1 + 1)) = ji8 := (i64_w _).trans hji8
              by_cases c9 : 0 ≤ (ji8)
              · rw [if_pos c9] at H
                have c9b0 := eq_true c9
                have c9b1 : decide (0 ≤ (ji8)) = true := decide_eq_true c9
                clear c9
                by_cases c10 : (ji8) ≤ (a0.size : Int)
                · rw [if_pos c10] at H
                  have c10b0 := eq_true c10
                  have c10b1 : decide ((ji8) ≤ (a0.size : Int)) = true := decide_eq_true c10
                  clear c10
                  simp only [Option.some.injEq, Prod.mk.injEq] at H
                  obtain ⟨rfl, rfl⟩ := H
                  have p4 : 0 ≤ (x4_1 : Int) := of_decide_eq_true (by first | (with_reducible assumption) | assumption)
                  have q4 : x4_1 < (a0.size : Int) := of_decide_eq_true (by first | (with_reducible assumption) | assumption)
                  have hx4 := bt_at a0 x4_1
                  replace p4 := eq_true p4
                  replace q4 := eq_true q4
                  go_wp2
                  repeat (go_quiet (fail); try go_wp2)
                  go_ret2
                  exact ⟨by first | rfl | (simp; done) | (simp only [← hji8] <;> (first | rfl | simp)) | (simp [*]; done), by repeat (first | exact Drawn0.refl _ | apply Drawn0.step)⟩
                · rw [if_neg c10] at H
                  exact absurd H (by simp)
              · rw [if_neg c9] at H
                exact absurd H (by simp)
            · rw [if_neg c7] at H
              exact absurd H (by simp)
          · rw [if_neg c5] at H
            have c5b0 : ((bt a0 x4_1) == 47) = false := beq_eq_false_iff_ne.mpr c5
            have c5b1 : ((bt a0 x4_1) != 47) = true := bne_iff_ne.mpr c5
            have H' := Aside0.mk H
            clear H
            have p4 : 0 ≤ (x4_1 : Int) := of_decide_eq_true (by first | (with_reducible assumption) | assumption)
            have q4 : x4_1 < (a0.size : Int) := of_decide_eq_true (by first | (with_reducible assumption) | assumption)
            have hx4 := bt_at a0 x4_1
            replace p4 := eq_true p4
            replace q4 := eq_true q4
            go_wp2
            repeat (go_quiet (fail); try go_wp2)
            go_roundg k1
            case measure => have := HK1.out; omega
            case rel => exact ⟨(wrap64 (x4_1 + 1)), (by first | rfl | (simp; done) | (simp [*]; done)), H', ⟨by have := HK1.out; omega⟩, by repeat (first | exact Drawn0.refl _ | apply Drawn0.step)⟩
        · rw [if_neg c3] at H
          exact absurd H (by simp)
      · rw [if_neg c2] at H
        have c2b0 : decide (x4_1 < (a0.size : Int)) = false := decide_eq_false c2
        clear c2
        simp only [Option.some.injEq, Prod.mk.injEq] at H
        obtain ⟨rfl, rfl⟩ := H
        go_wp2
        repeat (go_quiet (fail); try go_wp2)
        go_ret2
        exact ⟨by first | rfl | (simp; done) | (simp [*]; done), by repeat (first | exact Drawn0.refl _ | apply Drawn0.step)⟩

end Go.Proofs.YtdfjpbdfafpfgaaGreatDoor.PX

-- Written by wip/pr.py, a program of this session, that runs the kit's printer with contracts of our own put in. Lean checks it.
namespace Go.Proofs.YtdfjpbdfafpfgaaGreatDoor.PX
open Go.RowKit Go.Proofs.YtdfjpbdfafpfgaaGreatDoorW.PrintWords Go.Proofs.YtdfjpbdfafpfgaaGreatDoorW.PrintLast Go.Proofs.YtdfjpbdfafpfgaaGreatDoorW.PrintMore
attribute [local go_sem] max2_int min2_int max_two min_two max_three min_three max_four min_four   -- for this text's walks alone
set_option linter.unusedVariables false
set_option linter.unusedSimpArgs false

/-! ### copydeskref12_number: function 30 -/
def copydeskref12_number.l0 : Nat → ByteArray → Int → Option (Int)
  | 0, _, _ => none
  | k + 1, x0, x3 => if x3 ≤ 64 then ((copydeskref12_Digits.f k x3).bind fun t142 => (if t142.toList = x0.toList then (some x3) else (copydeskref12_number.l0 k x0 (wrap64 (x3 + 1))))) else (some 0)
def copydeskref12_number.f (k : Nat) (a0 : ByteArray) : Option (Int) := copydeskref12_number.l0 k a0 1
theorem copydeskref12_number.mono_l : ∀ k, (∀ y0 y1, LeO (copydeskref12_number.l0 k y0 y1) (copydeskref12_number.l0 (k + 1) y0 y1))
  | 0 => fun _ _ r h => by simp [copydeskref12_number.l0] at h
  | k + 1 => by
    have ih0 := copydeskref12_number.mono_l k
    · intro y0 y1
      unfold copydeskref12_number.l0
      repeat' first
      | (with_reducible exact ih0 _ _)
      | (with_reducible exact copydeskref12_Digits.mono _ _)
      | (with_reducible exact LeO.refl _)
      | (with_reducible exact LeO.none _)
      | (with_reducible refine LeO.ite ?_ ?_)
      | (with_reducible refine LeO.bind ?_ (fun _ => ?_))
      | exact ih0 _ _
      | exact copydeskref12_Digits.mono _ _
      | exact LeO.none _
      | refine LeO.ite ?_ ?_
      | refine LeO.bind ?_ (fun _ => ?_)
theorem copydeskref12_number.mono : ∀ a0 k, LeO (copydeskref12_number.f k a0) (copydeskref12_number.f (k + 1) a0) := by
  intro a0 k
  have ih0 := copydeskref12_number.mono_l k
  unfold copydeskref12_number.f
  repeat' first
      | (with_reducible exact ih0 _ _)
      | (with_reducible exact copydeskref12_Digits.mono _ _)
      | (with_reducible exact LeO.refl _)
      | (with_reducible exact LeO.none _)
      | (with_reducible refine LeO.ite ?_ ?_)
      | (with_reducible refine LeO.bind ?_ (fun _ => ?_))
      | exact ih0 _ _
      | exact copydeskref12_Digits.mono _ _
      | exact LeO.none _
      | refine LeO.ite ?_ ?_
      | refine LeO.bind ?_ (fun _ => ?_)
set_option maxHeartbeats 8000000 in
set_option maxRecDepth 100000 in
theorem copydeskref12_number.calls (k : Nat) (a0 : ByteArray) (r : Int) (w : World) (h : copydeskref12_number.f k a0 = some r) :
    Calls Tryz.prog 30 #[.string a0] w fun e w' => e = .returned (.int .i64 r) ∧ Below w.heap.size w w' := by
  have HB := Aside0.mk (Below.refl w.heap.size w)
  have H : (copydeskref12_number.l0 k a0 1) = some r := h
  clear h
  have H' := Aside0.mk H
  clear H
  go_enter Tryz.func30, Tryz.ntmps30
  go_wp2
  go_loopg [3] k (fun kq v3 w' => ∃ (x3_1 : Int), v3 = .int .i64 x3_1 ∧ Aside0 (copydeskref12_number.l0 kq a0 x3_1 = some r) ∧ Aside0 (kq ≤ k) ∧ Aside0 (Below w.heap.size w w'))
  case atStart => exact ⟨(1), (by first | rfl | (simp; done) | (simp [*]; done)), H', ⟨Nat.le_refl _⟩, ⟨by repeat (first | (with_reducible first | exact HB.out | apply below_alloc | apply pw_below_drewN | apply below_drew1) | exact HB.out)⟩⟩
  case round =>
    clear H'
    obtain ⟨x3_1, rfl, HA, HK1, HB⟩ := hrel
    cases gk with
    | zero => exact absurd HA.out (by simp [copydeskref12_number.l0])
    | succ k1 =>
      have H := HA.out
      clear HA
      simp only [copydeskref12_number.l0] at H
      by_cases c2 : x3_1 ≤ 64
      · rw [if_pos c2] at H
        have c2b0 : decide (x3_1 ≤ 64) = true := decide_eq_true c2
        clear c2
        replace H := Option.bind_eq_some_iff.mp H
        obtain ⟨t142, A30, H⟩ := H
        replace H : (if t142.toList = a0.toList then (some x3_1) else (copydeskref12_number.l0 k1 a0 (wrap64 (x3_1 + 1)))) = some r := H
        have A3 := Aside0.mk A30
        clear A30
        by_cases c4 : t142.toList = a0.toList
        · rw [if_pos c4] at H
          have c4b0 : (t142.toList == a0.toList) = true := beq_iff_eq.mpr c4
          have c4b1 : (t142.toList != a0.toList) = false := bne_eq_false_iff_eq.mpr c4
          clear c4
          obtain rfl := Option.some.inj H
          go_wp2_with (first | ((with_reducible refine gate_callee (f := 20) rfl ?_); refine goesL_ (some 9) rfl rfl Tryz.func20 (by kernel_rfl) rfl #[.int .i64 x3_1] rfl (by (try simp only [List.map_toArray, List.map_cons, List.map_nil]); first | done | rfl | (simp only [List.length_drop, List.length_take]; rfl)) ?_; (with_reducible refine (copydeskref12_Digits.calls k1 x3_1 t142 _ A3.out).mono ?_); rintro e w5 ⟨rfl, hb⟩; refine ⟨_, rfl, ?_⟩; have n0_ := Aside0.mk (below_step (by repeat (first | (with_reducible first | exact HB.out | apply below_alloc | apply pw_below_drewN | apply below_drew1) | exact HB.out)) hb); clear HB; have HB := n0_; clear n0_; (try clear hb); (try clear hb2); (try clear hk); (try clear hi)))
          go_ret
          exact ⟨by first | rfl | (simp [errW_none, errW_some] <;> rfl) | (simp [*, errW_none, errW_some] <;> rfl), by repeat (first | (with_reducible first | exact HB.out | apply below_alloc | apply pw_below_drewN | apply below_drew1) | exact HB.out)⟩
        · rw [if_neg c4] at H
          have c4b0 : (t142.toList == a0.toList) = false := beq_eq_false_iff_ne.mpr c4
          have c4b1 : (t142.toList != a0.toList) = true := bne_iff_ne.mpr c4
          have H' := Aside0.mk H
          clear H
          go_wp2_with (first | ((with_reducible refine gate_callee (f := 20) rfl ?_); refine goesL_ (some 9) rfl rfl Tryz.func20 (by kernel_rfl) rfl #[.int .i64 x3_1] rfl (by (try simp only [List.map_toArray, List.map_cons, List.map_nil]); first | done | rfl | (simp only [List.length_drop, List.length_take]; rfl)) ?_; (with_reducible refine (copydeskref12_Digits.calls k1 x3_1 t142 _ A3.out).mono ?_); rintro e w6 ⟨rfl, hb⟩; refine ⟨_, rfl, ?_⟩; have n0_ := Aside0.mk (below_step (by repeat (first | (with_reducible first | exact HB.out | apply below_alloc | apply pw_below_drewN | apply below_drew1) | exact HB.out)) hb); clear HB; have HB := n0_; clear n0_; (try clear hb); (try clear hb2); (try clear hk); (try clear hi)))
          go_roundg k1
          case measure => have := HK1.out; omega
          case rel => exact ⟨(wrap64 (x3_1 + 1)), (by first | rfl | (simp; done) | (simp [*]; done)), H', ⟨by have := HK1.out; omega⟩, ⟨by repeat (first | (with_reducible first | exact HB.out | apply below_alloc | apply pw_below_drewN | apply below_drew1) | exact HB.out)⟩⟩
      · rw [if_neg c2] at H
        have c2b0 : decide (x3_1 ≤ 64) = false := decide_eq_false c2
        clear c2
        obtain rfl := Option.some.inj H
        go_wp2
        go_ret
        exact ⟨by first | rfl | (simp [errW_none, errW_some] <;> rfl) | (simp [*, errW_none, errW_some] <;> rfl), by repeat (first | (with_reducible first | exact HB.out | apply below_alloc | apply pw_below_drewN | apply below_drew1) | exact HB.out)⟩

end Go.Proofs.YtdfjpbdfafpfgaaGreatDoor.PX

-- Written by wip/pr.py, a program of this session, that runs the kit's printer with contracts of our own put in. Lean checks it.
namespace Go.Proofs.YtdfjpbdfafpfgaaGreatDoor.PX
open Go.RowKit Go.Proofs.YtdfjpbdfafpfgaaGreatDoorW.PrintWords Go.Proofs.YtdfjpbdfafpfgaaGreatDoorW.PrintLast Go.Proofs.YtdfjpbdfafpfgaaGreatDoorW.PrintMore
attribute [local go_sem] max2_int min2_int max_two min_two max_three min_three max_four min_four   -- for this text's walks alone
set_option linter.unusedVariables false
set_option linter.unusedSimpArgs false

/-! ### copydeskref12_Parse: function 16 -/
mutual
def copydeskref12_Parse.j0 : Nat → ByteArray → Int → ByteArray → Int → ByteArray → Option (Int × ByteArray × Int × ByteArray × Int)
  | 0, _, _, _, _, _ => none
  | k + 1, x0, x145000, x145001, x145002, x145003 => (copydeskref12_after.f x0 (⟨#[47, 115, 116, 111, 114, 121, 47]⟩ : ByteArray)).bind fun bt145 => (if bt145.2 = true then ((copydeskref12_cut.f k bt145.1).bind fun bt147 => ((copydeskref12_number.f k bt147.1).bind fun t149 => (copydeskref12_Parse.j1 k x0 2 (⟨#[]⟩ : ByteArray) t149 bt147.2))) else (copydeskref12_Parse.j1 k x0 x145000 x145001 x145002 x145003))
def copydeskref12_Parse.j1 : Nat → ByteArray → Int → ByteArray → Int → ByteArray → Option (Int × ByteArray × Int × ByteArray × Int)
  | 0, _, _, _, _, _ => none
  | k + 1, x0, x145000, x145001, x145002, x145003 => (copydeskref12_after.f x0 (⟨#[47, 116, 111, 112, 105, 99, 47]⟩ : ByteArray)).bind fun bt150 => (if bt150.2 = true then ((copydeskref12_cut.f k bt150.1).bind fun bt152 => ((copydeskref12_number.f k bt152.2).bind fun t154 => (copydeskref12_Parse.j2 k x0 3 bt152.1 t154 (⟨#[]⟩ : ByteArray)))) else (copydeskref12_Parse.j2 k x0 x145000 x145001 x145002 x145003))
def copydeskref12_Parse.j2 : Nat → ByteArray → Int → ByteArray → Int → ByteArray → Option (Int × ByteArray × Int × ByteArray × Int)
  | 0, _, _, _, _, _ => none
  | k + 1, x0, x145000, x145001, x145002, x145003 => (copydeskref12_after.f x0 (⟨#[47, 97, 117, 116, 104, 111, 114, 47]⟩ : ByteArray)).bind fun bt155 => (if bt155.2 = true then (copydeskref12_Parse.j3 k x0 4 bt155.1 0 (⟨#[]⟩ : ByteArray)) else (copydeskref12_Parse.j3 k x0 x145000 x145001 x145002 x145003))
def copydeskref12_Parse.j3 : Nat → ByteArray → Int → ByteArray → Int → ByteArray → Option (Int × ByteArray × Int × ByteArray × Int)
  | 0, _, _, _, _, _ => none
  | k + 1, x0, x145000, x145001, x145002, x145003 => (copydeskref12_after.f x0 (⟨#[47, 102, 101, 101, 100, 47]⟩ : ByteArray)).bind fun bt157 => (if bt157.2 = true then ((copydeskref12_Format.f k 5 bt157.1 0 (⟨#[]⟩ : ByteArray)).bind fun bt159 => (if bt159.2 = 0 then (if bt159.1.toList = x0.toList then (some (5, bt157.1, 0, (⟨#[]⟩ : ByteArray), 0)) else (some (0, (⟨#[]⟩ : ByteArray), 0, (⟨#[]⟩ : ByteArray), 120))) else (some (0, (⟨#[]⟩ : ByteArray), 0, (⟨#[]⟩ : ByteArray), 120)))) else ((copydeskref12_Format.f k x145000 x145001 x145002 x145003).bind fun bt161 => (if bt161.2 = 0 then (if bt161.1.toList = x0.toList then (some (x145000, x145001, x145002, x145003, 0)) else (some (0, (⟨#[]⟩ : ByteArray), 0, (⟨#[]⟩ : ByteArray), 120))) else (some (0, (⟨#[]⟩ : ByteArray), 0, (⟨#[]⟩ : ByteArray), 120)))))
end
def copydeskref12_Parse.f (k : Nat) (a0 : ByteArray) : Option (Int × ByteArray × Int × ByteArray × Int) := if a0.toList = ([47, 109, 97, 112] : List UInt8) then (copydeskref12_Parse.j0 k a0 6 (⟨#[]⟩ : ByteArray) 0 (⟨#[]⟩ : ByteArray)) else (copydeskref12_Parse.j0 k a0 1 (⟨#[]⟩ : ByteArray) 0 (⟨#[]⟩ : ByteArray))
theorem copydeskref12_Parse.mono_l : ∀ k, (∀ y0 y1 y2 y3 y4, LeO (copydeskref12_Parse.j0 k y0 y1 y2 y3 y4) (copydeskref12_Parse.j0 (k + 1) y0 y1 y2 y3 y4)) ∧ (∀ y0 y1 y2 y3 y4, LeO (copydeskref12_Parse.j1 k y0 y1 y2 y3 y4) (copydeskref12_Parse.j1 (k + 1) y0 y1 y2 y3 y4)) ∧ (∀ y0 y1 y2 y3 y4, LeO (copydeskref12_Parse.j2 k y0 y1 y2 y3 y4) (copydeskref12_Parse.j2 (k + 1) y0 y1 y2 y3 y4)) ∧ (∀ y0 y1 y2 y3 y4, LeO (copydeskref12_Parse.j3 k y0 y1 y2 y3 y4) (copydeskref12_Parse.j3 (k + 1) y0 y1 y2 y3 y4))
  | 0 => ⟨fun _ _ _ _ _ r h => by simp [copydeskref12_Parse.j0] at h, fun _ _ _ _ _ r h => by simp [copydeskref12_Parse.j1] at h, fun _ _ _ _ _ r h => by simp [copydeskref12_Parse.j2] at h, fun _ _ _ _ _ r h => by simp [copydeskref12_Parse.j3] at h⟩
  | k + 1 => by
    obtain ⟨ih0, ih1, ih2, ih3⟩ := copydeskref12_Parse.mono_l k
    refine ⟨?_, ?_, ?_, ?_⟩
    · intro y0 y1 y2 y3 y4
      unfold copydeskref12_Parse.j0
      repeat' first
      | (with_reducible exact ih0 _ _ _ _ _)
      | (with_reducible exact ih1 _ _ _ _ _)
      | (with_reducible exact ih2 _ _ _ _ _)
      | (with_reducible exact ih3 _ _ _ _ _)
      | (with_reducible exact copydeskref12_Format.mono _ _ _ _ _)
      | (with_reducible exact copydeskref12_cut.mono _ _)
      | (with_reducible exact copydeskref12_number.mono _ _)
      | (with_reducible exact LeO.refl _)
      | (with_reducible exact LeO.none _)
      | (with_reducible refine LeO.ite ?_ ?_)
      | (with_reducible refine LeO.bind ?_ (fun _ => ?_))
      | exact ih0 _ _ _ _ _
      | exact ih1 _ _ _ _ _
      | exact ih2 _ _ _ _ _
      | exact ih3 _ _ _ _ _
      | exact copydeskref12_Format.mono _ _ _ _ _
      | exact copydeskref12_cut.mono _ _
      | exact copydeskref12_number.mono _ _
      | exact LeO.none _
      | refine LeO.ite ?_ ?_
      | refine LeO.bind ?_ (fun _ => ?_)
    · intro y0 y1 y2 y3 y4
      unfold copydeskref12_Parse.j1
      repeat' first
      | (with_reducible exact ih0 _ _ _ _ _)
      | (with_reducible exact ih1 _ _ _ _ _)
      | (with_reducible exact ih2 _ _ _ _ _)
      | (with_reducible exact ih3 _ _ _ _ _)
      | (with_reducible exact copydeskref12_Format.mono _ _ _ _ _)
      | (with_reducible exact copydeskref12_cut.mono _ _)
      | (with_reducible exact copydeskref12_number.mono _ _)
      | (with_reducible exact LeO.refl _)
      | (with_reducible exact LeO.none _)
      | (with_reducible refine LeO.ite ?_ ?_)
      | (with_reducible refine LeO.bind ?_ (fun _ => ?_))
      | exact ih0 _ _ _ _ _
      | exact ih1 _ _ _ _ _
      | exact ih2 _ _ _ _ _
      | exact ih3 _ _ _ _ _
      | exact copydeskref12_Format.mono _ _ _ _ _
      | exact copydeskref12_cut.mono _ _
      | exact copydeskref12_number.mono _ _
      | exact LeO.none _
      | refine LeO.ite ?_ ?_
      | refine LeO.bind ?_ (fun _ => ?_)
    · intro y0 y1 y2 y3 y4
      unfold copydeskref12_Parse.j2
      repeat' first
      | (with_reducible exact ih0 _ _ _ _ _)
      | (with_reducible exact ih1 _ _ _ _ _)
      | (with_reducible exact ih2 _ _ _ _ _)
      | (with_reducible exact ih3 _ _ _ _ _)
      | (with_reducible exact copydeskref12_Format.mono _ _ _ _ _)
      | (with_reducible exact copydeskref12_cut.mono _ _)
      | (with_reducible exact copydeskref12_number.mono _ _)
      | (with_reducible exact LeO.refl _)
      | (with_reducible exact LeO.none _)
      | (with_reducible refine LeO.ite ?_ ?_)
      | (with_reducible refine LeO.bind ?_ (fun _ => ?_))
      | exact ih0 _ _ _ _ _
      | exact ih1 _ _ _ _ _
      | exact ih2 _ _ _ _ _
      | exact ih3 _ _ _ _ _
      | exact copydeskref12_Format.mono _ _ _ _ _
      | exact copydeskref12_cut.mono _ _
      | exact copydeskref12_number.mono _ _
      | exact LeO.none _
      | refine LeO.ite ?_ ?_
      | refine LeO.bind ?_ (fun _ => ?_)
    · intro y0 y1 y2 y3 y4
      unfold copydeskref12_Parse.j3
      repeat' first
      | (with_reducible exact ih0 _ _ _ _ _)
      | (with_reducible exact ih1 _ _ _ _ _)
      | (with_reducible exact ih2 _ _ _ _ _)
      | (with_reducible exact ih3 _ _ _ _ _)
      | (with_reducible exact copydeskref12_Format.mono _ _ _ _ _)
      | (with_reducible exact copydeskref12_cut.mono _ _)
      | (with_reducible exact copydeskref12_number.mono _ _)
      | (with_reducible exact LeO.refl _)
      | (with_reducible exact LeO.none _)
      | (with_reducible refine LeO.ite ?_ ?_)
      | (with_reducible refine LeO.bind ?_ (fun _ => ?_))
      | exact ih0 _ _ _ _ _
      | exact ih1 _ _ _ _ _
      | exact ih2 _ _ _ _ _
      | exact ih3 _ _ _ _ _
      | exact copydeskref12_Format.mono _ _ _ _ _
      | exact copydeskref12_cut.mono _ _
      | exact copydeskref12_number.mono _ _
      | exact LeO.none _
      | refine LeO.ite ?_ ?_
      | refine LeO.bind ?_ (fun _ => ?_)
theorem copydeskref12_Parse.mono : ∀ a0 k, LeO (copydeskref12_Parse.f k a0) (copydeskref12_Parse.f (k + 1) a0) := by
  intro a0 k
  obtain ⟨ih0, ih1, ih2, ih3⟩ := copydeskref12_Parse.mono_l k
  unfold copydeskref12_Parse.f
  repeat' first
      | (with_reducible exact ih0 _ _ _ _ _)
      | (with_reducible exact ih1 _ _ _ _ _)
      | (with_reducible exact ih2 _ _ _ _ _)
      | (with_reducible exact ih3 _ _ _ _ _)
      | (with_reducible exact copydeskref12_Format.mono _ _ _ _ _)
      | (with_reducible exact copydeskref12_cut.mono _ _)
      | (with_reducible exact copydeskref12_number.mono _ _)
      | (with_reducible exact LeO.refl _)
      | (with_reducible exact LeO.none _)
      | (with_reducible refine LeO.ite ?_ ?_)
      | (with_reducible refine LeO.bind ?_ (fun _ => ?_))
      | exact ih0 _ _ _ _ _
      | exact ih1 _ _ _ _ _
      | exact ih2 _ _ _ _ _
      | exact ih3 _ _ _ _ _
      | exact copydeskref12_Format.mono _ _ _ _ _
      | exact copydeskref12_cut.mono _ _
      | exact copydeskref12_number.mono _ _
      | exact LeO.none _
      | refine LeO.ite ?_ ?_
      | refine LeO.bind ?_ (fun _ => ?_)
set_option maxHeartbeats 8000000 in
set_option maxRecDepth 100000 in
theorem copydeskref12_Parse.calls (k : Nat) (a0 : ByteArray) (r1 : Int) (r2 : ByteArray) (r3 : Int) (r4 : ByteArray) (r5 : Int) (w : World) (h : copydeskref12_Parse.f k a0 = some (r1, r2, r3, r4, r5)) :
    Calls Tryz.prog 16 #[.string a0] w fun e w' => e = .returned (.tuple #[.agg #[.int .i64 r1, .string r2, .int .i64 r3, .string r4], .int .i64 r5]) ∧ Below w.heap.size w w' := by
  have hu23 := Tryz.underlying23
  have HB := Aside0.mk (Below.refl w.heap.size w)
  have H : (if a0.toList = ([47, 109, 97, 112] : List UInt8) then (copydeskref12_Parse.j0 k a0 6 (⟨#[]⟩ : ByteArray) 0 (⟨#[]⟩ : ByteArray)) else (copydeskref12_Parse.j0 k a0 1 (⟨#[]⟩ : ByteArray) 0 (⟨#[]⟩ : ByteArray))) = some (r1, r2, r3, r4, r5) := h
  clear h
  have HC2 := Aside0.mk H
  clear H
  go_enter Tryz.func16, Tryz.ntmps16
  go_upto_if 15 with (first | ((with_reducible refine gate_dst (N := 2) rfl ?_); refine box_event ?hg (N := 2) ?hd (cs := #[.int .i64 0, .string (⟨#[]⟩ : ByteArray), .int .i64 0, .string (⟨#[]⟩ : ByteArray)]) (t := 23) ?hr ?_; (case hd => rfl); (case hg => rfl); (case hr => first | (go_simp; done) | (go_simp; rfl)); intro gb143 hg w3 hbox hb; have n0_ := Aside0.mk (below_step (by repeat (first | (with_reducible first | exact HB.out | apply below_alloc | apply pw_below_drewN | apply below_drew1) | exact HB.out)) hb); have n1_ := Aside0.mk (hbox); have n2_ := Aside0.mk ((by rw [hg]; exact (below_size (by repeat (first | (with_reducible first | exact HB.out | apply below_alloc | apply pw_below_drewN | apply below_drew1) | exact HB.out))) : w.heap.size ≤ gb143)); have n3_ := Aside0.mk ((by rw [hg]; exact (below_size (by repeat (first | (with_reducible first | exact HB.out | apply below_alloc | apply pw_below_drewN | apply below_drew1) | exact HB.out))) : w.heap.size ≤ gb143)); clear HB; have HB := n0_; have BK143 := n1_; have GW143 := n2_; have GE143 := n3_; clear n0_ n1_ n2_ n3_; clear hb hbox hg) | ((with_reducible refine gate_dst (N := 4) rfl ?_); refine box_event ?hg (N := 4) ?hd (cs := #[.int .i64 0, .string (⟨#[]⟩ : ByteArray), .int .i64 0, .string (⟨#[]⟩ : ByteArray)]) (t := 23) ?hr ?_; (case hd => rfl); (case hg => rfl); (case hr => first | (go_simp; done) | (go_simp; rfl)); intro gb144 hg w4 hbox hb; have n0_ := Aside0.mk (blk_below (g := gb143) (o := .cells #[.int .i64 0, .string (⟨#[]⟩ : ByteArray), .int .i64 0, .string (⟨#[]⟩ : ByteArray)] 23 (0, 0)) (by (with_reducible repeat (first | refine blk_drewN ?_ _ | refine blk_drew ?_ | refine blk_alloc ?_ _)); exact BK143.out) hb); have n1_ := Aside0.mk (below_step (by repeat (first | (with_reducible first | exact HB.out | apply below_alloc | apply pw_below_drewN | apply below_drew1 | refine below_set ?_ GE143.out) | exact HB.out)) hb); have n2_ := Aside0.mk (hbox); have n3_ := Aside0.mk ((by rw [hg]; exact (below_size (by repeat (first | (with_reducible first | exact HB.out | apply below_alloc | apply pw_below_drewN | apply below_drew1 | refine below_set ?_ GE143.out) | exact HB.out))) : w.heap.size ≤ gb144)); have n4_ := Aside0.mk ((by rw [hg]; exact (below_size (by repeat (first | (with_reducible first | exact HB.out | apply below_alloc | apply pw_below_drewN | apply below_drew1 | refine below_set ?_ GE143.out) | exact HB.out))) : w.heap.size ≤ gb144)); have n5_ := Aside0.mk ((by rw [hg]; exact Nat.ne_of_lt (blk_lt (g := gb143) (o := .cells #[.int .i64 0, .string (⟨#[]⟩ : ByteArray), .int .i64 0, .string (⟨#[]⟩ : ByteArray)] 23 (0, 0)) (by (with_reducible repeat (first | refine blk_drewN ?_ _ | refine blk_drew ?_ | refine blk_alloc ?_ _)); exact BK143.out)) : gb143 ≠ gb144)); have n6_ := Aside0.mk ((by rw [hg]; exact Nat.ne_of_gt (blk_lt (g := gb143) (o := .cells #[.int .i64 0, .string (⟨#[]⟩ : ByteArray), .int .i64 0, .string (⟨#[]⟩ : ByteArray)] 23 (0, 0)) (by (with_reducible repeat (first | refine blk_drewN ?_ _ | refine blk_drew ?_ | refine blk_alloc ?_ _)); exact BK143.out)) : gb144 ≠ gb143)); clear BK143; clear HB; have BK143 := n0_; have HB := n1_; have BK144 := n2_; have GW144 := n3_; have GE144 := n4_; have NB143_144 := n5_; have NB144_143 := n6_; clear n0_ n1_ n2_ n3_ n4_ n5_ n6_; clear hb hbox hg; have hnb5 := NB144_143.out; have hnc5 := NB143_144.out; have hcz6_0 : w4.cell? ⟨gb144, 0, none⟩ = some (.int .i64 0) := (blk_cell BK144.out 0).trans rfl; have hcz6_1 : w4.cell? ⟨gb144, 1, none⟩ = some (.string (⟨#[]⟩ : ByteArray)) := (blk_cell BK144.out 1).trans rfl; have hcz6_2 : w4.cell? ⟨gb144, 2, none⟩ = some (.int .i64 0) := (blk_cell BK144.out 2).trans rfl; have hcz6_3 : w4.cell? ⟨gb144, 3, none⟩ = some (.string (⟨#[]⟩ : ByteArray)) := (blk_cell BK144.out 3).trans rfl; have hfz6_0 := blk_frozen BK144.out 0; have hfz6_1 := blk_frozen BK144.out 1; have hfz6_2 := blk_frozen BK144.out 2; have hfz6_3 := blk_frozen BK144.out 3))
  (try simp only [Act.put, List.setIfInBounds_toArray, List.set_cons_zero, List.set_cons_succ])
  go_cut [] (fun wc => ∃ (kq : Nat) (x145000_1 : Int), Aside0 (copydeskref12_Parse.j0 kq a0 x145000_1 (⟨#[]⟩ : ByteArray) 0 (⟨#[]⟩ : ByteArray) = some (r1, r2, r3, r4, r5)) ∧ Aside0 (kq ≤ k) ∧ Aside0 (wc.heap[gb143]? = some (.cells #[.int .i64 0, .string (⟨#[]⟩ : ByteArray), .int .i64 0, .string (⟨#[]⟩ : ByteArray)] 23 (0, 0))) ∧ Aside0 (wc.heap[gb144]? = some (.cells #[.int .i64 x145000_1, .string (⟨#[]⟩ : ByteArray), .int .i64 0, .string (⟨#[]⟩ : ByteArray)] 23 (0, 0))) ∧ Aside0 (Below w.heap.size w wc))
  case first =>
    have H := HC2.out
    clear HC2
    by_cases c7 : a0.toList = ([47, 109, 97, 112] : List UInt8)
    · rw [if_pos c7] at H
      have c7b0 : (a0.toList == ([47, 109, 97, 112] : List UInt8)) = true := beq_iff_eq.mpr c7
      have c7b1 : (a0.toList != ([47, 109, 97, 112] : List UInt8)) = false := bne_eq_false_iff_eq.mpr c7
      clear c7
      (first | rw [c7b0] | (simp only [i64_w, i32_w]; rw [c7b0]) | skip)
      have H' := Aside0.mk H
      clear H
      have hnb8 := NB144_143.out
      have hnc8 := NB143_144.out
      have hcz9_0 : w4.cell? ⟨gb144, 0, none⟩ = some (.int .i64 0) := (blk_cell BK144.out 0).trans rfl
      have hcz9_1 : w4.cell? ⟨gb144, 1, none⟩ = some (.string (⟨#[]⟩ : ByteArray)) := (blk_cell BK144.out 1).trans rfl
      have hcz9_2 : w4.cell? ⟨gb144, 2, none⟩ = some (.int .i64 0) := (blk_cell BK144.out 2).trans rfl
      have hcz9_3 : w4.cell? ⟨gb144, 3, none⟩ = some (.string (⟨#[]⟩ : ByteArray)) := (blk_cell BK144.out 3).trans rfl
      have hfz9_0 := blk_frozen BK144.out 0
      have hfz9_1 := blk_frozen BK144.out 1
      have hfz9_2 := blk_frozen BK144.out 2
      have hfz9_3 := blk_frozen BK144.out 3
      go_wp2
      go_meet
      case rel => exact ⟨_, (6), H', ⟨by first | omega | exact Nat.le_refl _⟩, ⟨by (with_reducible repeat (first | refine blk_drewN ?_ _ | refine blk_drew ?_ | refine blk_alloc ?_ _)); refine blk_far ?_ NB143_144.out _; (with_reducible repeat (first | refine blk_drewN ?_ _ | refine blk_drew ?_ | refine blk_alloc ?_ _)); refine blk_far ?_ NB143_144.out _; (with_reducible repeat (first | refine blk_drewN ?_ _ | refine blk_drew ?_ | refine blk_alloc ?_ _)); refine blk_far ?_ NB143_144.out _; (with_reducible repeat (first | refine blk_drewN ?_ _ | refine blk_drew ?_ | refine blk_alloc ?_ _)); refine blk_far ?_ NB143_144.out _; (with_reducible repeat (first | refine blk_drewN ?_ _ | refine blk_drew ?_ | refine blk_alloc ?_ _)); refine blk_far ?_ NB143_144.out _; (with_reducible repeat (first | refine blk_drewN ?_ _ | refine blk_drew ?_ | refine blk_alloc ?_ _)); exact BK143.out⟩, ⟨by (with_reducible repeat (first | refine blk_drewN ?_ _ | refine blk_drew ?_ | refine blk_alloc ?_ _)); refine blk_put (cs := #[.int .i64 1, .string (⟨#[]⟩ : ByteArray), .int .i64 0, .string (⟨#[]⟩ : ByteArray)]) ?_ 0 _ rfl; (with_reducible repeat (first | refine blk_drewN ?_ _ | refine blk_drew ?_ | refine blk_alloc ?_ _)); refine blk_put (cs := #[.int .i64 1, .string (⟨#[]⟩ : ByteArray), .int .i64 0, .string (⟨#[]⟩ : ByteArray)]) ?_ 3 _ rfl; (with_reducible repeat (first | refine blk_drewN ?_ _ | refine blk_drew ?_ | refine blk_alloc ?_ _)); refine blk_put (cs := #[.int .i64 1, .string (⟨#[]⟩ : ByteArray), .int .i64 0, .string (⟨#[]⟩ : ByteArray)]) ?_ 2 _ rfl; (with_reducible repeat (first | refine blk_drewN ?_ _ | refine blk_drew ?_ | refine blk_alloc ?_ _)); refine blk_put (cs := #[.int .i64 1, .string (⟨#[]⟩ : ByteArray), .int .i64 0, .string (⟨#[]⟩ : ByteArray)]) ?_ 1 _ rfl; (with_reducible repeat (first | refine blk_drewN ?_ _ | refine blk_drew ?_ | refine blk_alloc ?_ _)); refine blk_put (cs := #[.int .i64 0, .string (⟨#[]⟩ : ByteArray), .int .i64 0, .string (⟨#[]⟩ : ByteArray)]) ?_ 0 _ rfl; (with_reducible repeat (first | refine blk_drewN ?_ _ | refine blk_drew ?_ | refine blk_alloc ?_ _)); exact BK144.out⟩, ⟨by repeat (first | (with_reducible first | exact HB.out | apply below_alloc | apply pw_below_drewN | apply below_drew1 | refine below_set ?_ GE143.out | refine below_set ?_ GE144.out) | exact HB.out)⟩⟩
    · rw [if_neg c7] at H
      have c7b0 : (a0.toList == ([47, 109, 97, 112] : List UInt8)) = false := beq_eq_false_iff_ne.mpr c7
      have c7b1 : (a0.toList != ([47, 109, 97, 112] : List UInt8)) = true := bne_iff_ne.mpr c7
      (first | rw [c7b0] | (simp only [i64_w, i32_w]; rw [c7b0]) | skip)
      have H' := Aside0.mk H
      clear H
      go_wp2
      go_meet
      case rel => exact ⟨_, (1), H', ⟨by first | omega | exact Nat.le_refl _⟩, ⟨by (with_reducible repeat (first | refine blk_drewN ?_ _ | refine blk_drew ?_ | refine blk_alloc ?_ _)); refine blk_far ?_ NB143_144.out _; (with_reducible repeat (first | refine blk_drewN ?_ _ | refine blk_drew ?_ | refine blk_alloc ?_ _)); refine blk_far ?_ NB143_144.out _; (with_reducible repeat (first | refine blk_drewN ?_ _ | refine blk_drew ?_ | refine blk_alloc ?_ _)); refine blk_far ?_ NB143_144.out _; (with_reducible repeat (first | refine blk_drewN ?_ _ | refine blk_drew ?_ | refine blk_alloc ?_ _)); refine blk_far ?_ NB143_144.out _; (with_reducible repeat (first | refine blk_drewN ?_ _ | refine blk_drew ?_ | refine blk_alloc ?_ _)); exact BK143.out⟩, ⟨by (with_reducible repeat (first | refine blk_drewN ?_ _ | refine blk_drew ?_ | refine blk_alloc ?_ _)); refine blk_put (cs := #[.int .i64 1, .string (⟨#[]⟩ : ByteArray), .int .i64 0, .string (⟨#[]⟩ : ByteArray)]) ?_ 3 _ rfl; (with_reducible repeat (first | refine blk_drewN ?_ _ | refine blk_drew ?_ | refine blk_alloc ?_ _)); refine blk_put (cs := #[.int .i64 1, .string (⟨#[]⟩ : ByteArray), .int .i64 0, .string (⟨#[]⟩ : ByteArray)]) ?_ 2 _ rfl; (with_reducible repeat (first | refine blk_drewN ?_ _ | refine blk_drew ?_ | refine blk_alloc ?_ _)); refine blk_put (cs := #[.int .i64 1, .string (⟨#[]⟩ : ByteArray), .int .i64 0, .string (⟨#[]⟩ : ByteArray)]) ?_ 1 _ rfl; (with_reducible repeat (first | refine blk_drewN ?_ _ | refine blk_drew ?_ | refine blk_alloc ?_ _)); refine blk_put (cs := #[.int .i64 0, .string (⟨#[]⟩ : ByteArray), .int .i64 0, .string (⟨#[]⟩ : ByteArray)]) ?_ 0 _ rfl; (with_reducible repeat (first | refine blk_drewN ?_ _ | refine blk_drew ?_ | refine blk_alloc ?_ _)); exact BK144.out⟩, ⟨by repeat (first | (with_reducible first | exact HB.out | apply below_alloc | apply pw_below_drewN | apply below_drew1 | refine below_set ?_ GE143.out | refine below_set ?_ GE144.out) | exact HB.out)⟩⟩
  case rest =>
    clear HC2
    try clear c1
    try clear p2
    try clear c5
    try clear c7
    try clear c7b0
    try clear c7b1
    try clear c8
    try clear hcz6_0
    try clear hcz6_1
    try clear hcz6_2
    try clear hcz6_3
    try clear hcz9_0
    try clear hcz9_1
    try clear hcz9_2
    try clear hcz9_3
    try clear hfz6_0
    try clear hfz6_1
    try clear hfz6_2
    try clear hfz6_3
    try clear hfz9_0
    try clear hfz9_1
    try clear hfz9_2
    try clear hfz9_3
    obtain ⟨kq, x145000_1, HA, HJ1, BK143, BK144, HB⟩ := hcut
    cases kq with
    | zero => exact absurd HA.out (by simp [copydeskref12_Parse.j0])
    | succ kj1 =>
      have H := HA.out
      clear HA
      simp only [copydeskref12_Parse.j0] at H
      replace H := Option.bind_eq_some_iff.mp H
      obtain ⟨⟨t145, t146⟩, A100, H⟩ := H
      replace H : (if t146 = true then ((copydeskref12_cut.f kj1 t145).bind fun bt147 => ((copydeskref12_number.f kj1 bt147.1).bind fun t149 => (copydeskref12_Parse.j1 kj1 a0 2 (⟨#[]⟩ : ByteArray) t149 bt147.2))) else (copydeskref12_Parse.j1 kj1 a0 x145000_1 (⟨#[]⟩ : ByteArray) 0 (⟨#[]⟩ : ByteArray))) = some (r1, r2, r3, r4, r5) := H
      have A10 := Aside0.mk A100
      clear A100
      have HC11 := Aside0.mk H
      clear H
      go_upto_if 22 with (first | ((with_reducible refine gate_callee (f := 28) rfl ?_); refine goesL_ (some 19) rfl rfl Tryz.func28 (by kernel_rfl) rfl #[.string a0, .string (⟨#[47, 115, 116, 111, 114, 121, 47]⟩ : ByteArray)] rfl (by (try simp only [List.map_toArray, List.map_cons, List.map_nil]); first | done | rfl | (simp only [List.length_drop, List.length_take]; rfl)) ?_; (with_reducible refine (copydeskref12_after.calls a0 (⟨#[47, 115, 116, 111, 114, 121, 47]⟩ : ByteArray) t145 t146 _ A10.out).mono ?_); rintro e w' ⟨rfl, ⟨nd, rfl⟩⟩; refine ⟨_, rfl, ?_⟩))
      (try simp only [Act.put, List.setIfInBounds_toArray, List.set_cons_zero, List.set_cons_succ])
      go_cut [] (fun wc => ∃ (kq : Nat) (x145000_10 : Int) (x145001_10 : ByteArray) (x145002_10 : Int) (x145003_10 : ByteArray), Aside0 (copydeskref12_Parse.j1 kq a0 x145000_10 x145001_10 x145002_10 x145003_10 = some (r1, r2, r3, r4, r5)) ∧ Aside0 (kq ≤ kj1) ∧ Aside0 (wc.heap[gb143]? = some (.cells #[.int .i64 0, .string (⟨#[]⟩ : ByteArray), .int .i64 0, .string (⟨#[]⟩ : ByteArray)] 23 (0, 0))) ∧ Aside0 (wc.heap[gb144]? = some (.cells #[.int .i64 x145000_10, .string x145001_10, .int .i64 x145002_10, .string x145003_10] 23 (0, 0))) ∧ Aside0 (Below w.heap.size w wc))
      case first =>
        have H := HC11.out
        clear HC11
        by_cases c12 : t146 = true
        · subst c12
          have H1 : ((copydeskref12_cut.f kj1 t145).bind fun bt147 => ((copydeskref12_number.f kj1 bt147.1).bind fun t149 => (copydeskref12_Parse.j1 kj1 a0 2 (⟨#[]⟩ : ByteArray) t149 bt147.2))) = some (r1, r2, r3, r4, r5) := by rw [if_pos rfl] at H; exact H
          clear H
          have H := H1
          clear H1
          replace H := Option.bind_eq_some_iff.mp H
          obtain ⟨⟨t147, t148⟩, A130, H⟩ := H
          replace H : ((copydeskref12_number.f kj1 t147).bind fun t149 => (copydeskref12_Parse.j1 kj1 a0 2 (⟨#[]⟩ : ByteArray) t149 t148)) = some (r1, r2, r3, r4, r5) := H
          have A13 := Aside0.mk A130
          clear A130
          replace H := Option.bind_eq_some_iff.mp H
          obtain ⟨t149, A140, H⟩ := H
          replace H : (copydeskref12_Parse.j1 kj1 a0 2 (⟨#[]⟩ : ByteArray) t149 t148) = some (r1, r2, r3, r4, r5) := H
          have A14 := Aside0.mk A140
          clear A140
          have H' := Aside0.mk H
          clear H
          go_wp2_with (first | ((with_reducible refine gate_callee (f := 29) rfl ?_); refine goesL_ (some 25) rfl rfl Tryz.func29 (by kernel_rfl) rfl #[.string t145] rfl (by (try simp only [List.map_toArray, List.map_cons, List.map_nil]); first | done | rfl | (simp only [List.length_drop, List.length_take]; rfl)) ?_; (with_reducible refine (copydeskref12_cut.calls kj1 t145 t147 t148 _ A13.out).mono ?_); rintro e w' ⟨rfl, ⟨nd, rfl⟩⟩; refine ⟨_, rfl, ?_⟩; (try (rw [drewN_self wc]; generalize hq_ : World.drewN wc _ = wc; have n0_ : Aside0 (wc.heap[gb143]? = some (.cells #[.int .i64 0, .string (⟨#[]⟩ : ByteArray), .int .i64 0, .string (⟨#[]⟩ : ByteArray)] 23 (0, 0))) := ⟨by rw [← hq_]; exact (by (with_reducible repeat (first | refine blk_drewN ?_ _ | refine blk_drew ?_ | refine blk_alloc ?_ _)); exact BK143.out)⟩; have n1_ : Aside0 (wc.heap[gb144]? = some (.cells #[.int .i64 x145000_1, .string (⟨#[]⟩ : ByteArray), .int .i64 0, .string (⟨#[]⟩ : ByteArray)] 23 (0, 0))) := ⟨by rw [← hq_]; exact (by (with_reducible repeat (first | refine blk_drewN ?_ _ | refine blk_drew ?_ | refine blk_alloc ?_ _)); exact BK144.out)⟩; have n2_ : Aside0 (Below w.heap.size w wc) := ⟨by rw [← hq_]; exact (by repeat (first | (with_reducible first | exact HB.out | apply below_alloc | apply pw_below_drewN | apply below_drew1 | refine below_set ?_ GE143.out | refine below_set ?_ GE144.out) | exact HB.out))⟩; clear BK143 BK144 HB hq_; have BK143 := n0_; have BK144 := n1_; have HB := n2_; clear n0_ n1_ n2_))) | ((with_reducible refine gate_callee (f := 30) rfl ?_); refine goesL_ (some 29) rfl rfl Tryz.func30 (by kernel_rfl) rfl #[.string t147] rfl (by (try simp only [List.map_toArray, List.map_cons, List.map_nil]); first | done | rfl | (simp only [List.length_drop, List.length_take]; rfl)) ?_; (with_reducible refine (copydeskref12_number.calls kj1 t147 t149 _ A14.out).mono ?_); rintro e w15 ⟨rfl, hb⟩; refine ⟨_, rfl, ?_⟩; have n0_ := Aside0.mk (blk_below (g := gb143) (o := .cells #[.int .i64 0, .string (⟨#[]⟩ : ByteArray), .int .i64 0, .string (⟨#[]⟩ : ByteArray)] 23 (0, 0)) (by (with_reducible repeat (first | refine blk_drewN ?_ _ | refine blk_drew ?_ | refine blk_alloc ?_ _)); exact BK143.out) hb); have n1_ := Aside0.mk (blk_below (g := gb144) (o := .cells #[.int .i64 x145000_1, .string (⟨#[]⟩ : ByteArray), .int .i64 0, .string (⟨#[]⟩ : ByteArray)] 23 (0, 0)) (by (with_reducible repeat (first | refine blk_drewN ?_ _ | refine blk_drew ?_ | refine blk_alloc ?_ _)); exact BK144.out) hb); have n2_ := Aside0.mk (below_step (by repeat (first | (with_reducible first | exact HB.out | apply below_alloc | apply pw_below_drewN | apply below_drew1 | refine below_set ?_ GE143.out | refine below_set ?_ GE144.out) | exact HB.out)) hb); clear BK143; clear BK144; clear HB; have BK143 := n0_; have BK144 := n1_; have HB := n2_; clear n0_ n1_ n2_; (try clear hb); (try clear hb2); (try clear hk); (try clear hi); have hnb16 := NB144_143.out; have hnc16 := NB143_144.out; have hcz17_0 : w15.cell? ⟨gb144, 0, none⟩ = some (.int .i64 x145000_1) := (blk_cell BK144.out 0).trans rfl; have hcz17_1 : w15.cell? ⟨gb144, 1, none⟩ = some (.string (⟨#[]⟩ : ByteArray)) := (blk_cell BK144.out 1).trans rfl; have hcz17_2 : w15.cell? ⟨gb144, 2, none⟩ = some (.int .i64 0) := (blk_cell BK144.out 2).trans rfl; have hcz17_3 : w15.cell? ⟨gb144, 3, none⟩ = some (.string (⟨#[]⟩ : ByteArray)) := (blk_cell BK144.out 3).trans rfl; have hfz17_0 := blk_frozen BK144.out 0; have hfz17_1 := blk_frozen BK144.out 1; have hfz17_2 := blk_frozen BK144.out 2; have hfz17_3 := blk_frozen BK144.out 3))
          go_meet
          case rel => exact ⟨_, (2), ((⟨#[]⟩ : ByteArray)), (t149), (t148), H', ⟨by have := HJ1.out; first | omega | exact Nat.le_refl _⟩, ⟨by (with_reducible repeat (first | refine blk_drewN ?_ _ | refine blk_drew ?_ | refine blk_alloc ?_ _)); refine blk_far ?_ NB143_144.out _; (with_reducible repeat (first | refine blk_drewN ?_ _ | refine blk_drew ?_ | refine blk_alloc ?_ _)); refine blk_far ?_ NB143_144.out _; (with_reducible repeat (first | refine blk_drewN ?_ _ | refine blk_drew ?_ | refine blk_alloc ?_ _)); refine blk_far ?_ NB143_144.out _; (with_reducible repeat (first | refine blk_drewN ?_ _ | refine blk_drew ?_ | refine blk_alloc ?_ _)); refine blk_far ?_ NB143_144.out _; (with_reducible repeat (first | refine blk_drewN ?_ _ | refine blk_drew ?_ | refine blk_alloc ?_ _)); exact BK143.out⟩, ⟨by (with_reducible repeat (first | refine blk_drewN ?_ _ | refine blk_drew ?_ | refine blk_alloc ?_ _)); refine blk_put (cs := #[.int .i64 2, .string (⟨#[]⟩ : ByteArray), .int .i64 t149, .string (⟨#[]⟩ : ByteArray)]) ?_ 3 _ rfl; (with_reducible repeat (first | refine blk_drewN ?_ _ | refine blk_drew ?_ | refine blk_alloc ?_ _)); refine blk_put (cs := #[.int .i64 2, .string (⟨#[]⟩ : ByteArray), .int .i64 0, .string (⟨#[]⟩ : ByteArray)]) ?_ 2 _ rfl; (with_reducible repeat (first | refine blk_drewN ?_ _ | refine blk_drew ?_ | refine blk_alloc ?_ _)); refine blk_put (cs := #[.int .i64 2, .string (⟨#[]⟩ : ByteArray), .int .i64 0, .string (⟨#[]⟩ : ByteArray)]) ?_ 1 _ rfl; (with_reducible repeat (first | refine blk_drewN ?_ _ | refine blk_drew ?_ | refine blk_alloc ?_ _)); refine blk_put (cs := #[.int .i64 x145000_1, .string (⟨#[]⟩ : ByteArray), .int .i64 0, .string (⟨#[]⟩ : ByteArray)]) ?_ 0 _ rfl; (with_reducible repeat (first | refine blk_drewN ?_ _ | refine blk_drew ?_ | refine blk_alloc ?_ _)); exact BK144.out⟩, ⟨by repeat (first | (with_reducible first | exact HB.out | apply below_alloc | apply pw_below_drewN | apply below_drew1 | refine below_set ?_ GE143.out | refine below_set ?_ GE144.out) | exact HB.out)⟩⟩
        · replace c12 := Bool.eq_false_iff.mpr c12
          subst c12
          have H1 : (copydeskref12_Parse.j1 kj1 a0 x145000_1 (⟨#[]⟩ : ByteArray) 0 (⟨#[]⟩ : ByteArray)) = some (r1, r2, r3, r4, r5) := by rw [if_neg (show ¬ (false = true) by decide)] at H; exact H
          clear H
          have H := H1
          clear H1
          have H' := Aside0.mk H
          clear H
          go_wp2
          go_meet
          case rel => exact ⟨_, (x145000_1), ((⟨#[]⟩ : ByteArray)), (0), ((⟨#[]⟩ : ByteArray)), H', ⟨by have := HJ1.out; first | omega | exact Nat.le_refl _⟩, ⟨by (with_reducible repeat (first | refine blk_drewN ?_ _ | refine blk_drew ?_ | refine blk_alloc ?_ _)); exact BK143.out⟩, ⟨by (with_reducible repeat (first | refine blk_drewN ?_ _ | refine blk_drew ?_ | refine blk_alloc ?_ _)); exact BK144.out⟩, ⟨by repeat (first | (with_reducible first | exact HB.out | apply below_alloc | apply pw_below_drewN | apply below_drew1 | refine below_set ?_ GE143.out | refine below_set ?_ GE144.out) | exact HB.out)⟩⟩
      case rest =>
        clear HC11
        try clear c1
        try clear c2
        try clear p2
        try clear c3
        try clear c5
        try clear c7
        try clear c7b0
        try clear c7b1
        try clear c8
        try clear c12
        try clear c16
        try clear hcz17_0
        try clear hcz17_1
        try clear hcz17_2
        try clear hcz17_3
        try clear hcz6_0
        try clear hcz6_1
        try clear hcz6_2
        try clear hcz6_3
        try clear hcz9_0
        try clear hcz9_1
        try clear hcz9_2
        try clear hcz9_3
        try clear hfz17_0
        try clear hfz17_1
        try clear hfz17_2
        try clear hfz17_3
        try clear hfz6_0
        try clear hfz6_1
        try clear hfz6_2
        try clear hfz6_3
        try clear hfz9_0
        try clear hfz9_1
        try clear hfz9_2
        try clear hfz9_3
        try clear p2
        obtain ⟨kq, x145000_10, x145001_10, x145002_10, x145003_10, HA, HJ10, BK143, BK144, HB⟩ := hcut
        cases kq with
        | zero => exact absurd HA.out (by simp [copydeskref12_Parse.j1])
        | succ kj10 =>
          have H := HA.out
          clear HA
          simp only [copydeskref12_Parse.j1] at H
          replace H := Option.bind_eq_some_iff.mp H
          obtain ⟨⟨t150, t151⟩, A180, H⟩ := H
          replace H : (if t151 = true then ((copydeskref12_cut.f kj10 t150).bind fun bt152 => ((copydeskref12_number.f kj10 bt152.2).bind fun t154 => (copydeskref12_Parse.j2 kj10 a0 3 bt152.1 t154 (⟨#[]⟩ : ByteArray)))) else (copydeskref12_Parse.j2 kj10 a0 x145000_10 x145001_10 x145002_10 x145003_10)) = some (r1, r2, r3, r4, r5) := H
          have A18 := Aside0.mk A180
          clear A180
          have HC19 := Aside0.mk H
          clear H
          go_upto_if 37 with (first | ((with_reducible refine gate_callee (f := 28) rfl ?_); refine goesL_ (some 34) rfl rfl Tryz.func28 (by kernel_rfl) rfl #[.string a0, .string (⟨#[47, 116, 111, 112, 105, 99, 47]⟩ : ByteArray)] rfl (by (try simp only [List.map_toArray, List.map_cons, List.map_nil]); first | done | rfl | (simp only [List.length_drop, List.length_take]; rfl)) ?_; (with_reducible refine (copydeskref12_after.calls a0 (⟨#[47, 116, 111, 112, 105, 99, 47]⟩ : ByteArray) t150 t151 _ A18.out).mono ?_); rintro e w' ⟨rfl, ⟨nd, rfl⟩⟩; refine ⟨_, rfl, ?_⟩))
          (try simp only [Act.put, List.setIfInBounds_toArray, List.set_cons_zero, List.set_cons_succ])
          go_cut [] (fun wc => ∃ (kq : Nat) (x145000_18 : Int) (x145001_18 : ByteArray) (x145002_18 : Int) (x145003_18 : ByteArray), Aside0 (copydeskref12_Parse.j2 kq a0 x145000_18 x145001_18 x145002_18 x145003_18 = some (r1, r2, r3, r4, r5)) ∧ Aside0 (kq ≤ kj10) ∧ Aside0 (wc.heap[gb143]? = some (.cells #[.int .i64 0, .string (⟨#[]⟩ : ByteArray), .int .i64 0, .string (⟨#[]⟩ : ByteArray)] 23 (0, 0))) ∧ Aside0 (wc.heap[gb144]? = some (.cells #[.int .i64 x145000_18, .string x145001_18, .int .i64 x145002_18, .string x145003_18] 23 (0, 0))) ∧ Aside0 (Below w.heap.size w wc))
          case first =>
            have H := HC19.out
            clear HC19
            by_cases c20 : t151 = true
            · subst c20
              have H1 : ((copydeskref12_cut.f kj10 t150).bind fun bt152 => ((copydeskref12_number.f kj10 bt152.2).bind fun t154 => (copydeskref12_Parse.j2 kj10 a0 3 bt152.1 t154 (⟨#[]⟩ : ByteArray)))) = some (r1, r2, r3, r4, r5) := by rw [if_pos rfl] at H; exact H
              clear H
              have H := H1
              clear H1
              replace H := Option.bind_eq_some_iff.mp H
              obtain ⟨⟨t152, t153⟩, A210, H⟩ := H
              replace H : ((copydeskref12_number.f kj10 t153).bind fun t154 => (copydeskref12_Parse.j2 kj10 a0 3 t152 t154 (⟨#[]⟩ : ByteArray))) = some (r1, r2, r3, r4, r5) := H
              have A21 := Aside0.mk A210
              clear A210
              replace H := Option.bind_eq_some_iff.mp H
              obtain ⟨t154, A220, H⟩ := H
              replace H : (copydeskref12_Parse.j2 kj10 a0 3 t152 t154 (⟨#[]⟩ : ByteArray)) = some (r1, r2, r3, r4, r5) := H
              have A22 := Aside0.mk A220
              clear A220
              have H' := Aside0.mk H
              clear H
              go_wp2_with (first | ((with_reducible refine gate_callee (f := 29) rfl ?_); refine goesL_ (some 40) rfl rfl Tryz.func29 (by kernel_rfl) rfl #[.string t150] rfl (by (try simp only [List.map_toArray, List.map_cons, List.map_nil]); first | done | rfl | (simp only [List.length_drop, List.length_take]; rfl)) ?_; (with_reducible refine (copydeskref12_cut.calls kj10 t150 t152 t153 _ A21.out).mono ?_); rintro e w' ⟨rfl, ⟨nd, rfl⟩⟩; refine ⟨_, rfl, ?_⟩; (try (rw [drewN_self wc]; generalize hq_ : World.drewN wc _ = wc; have n0_ : Aside0 (wc.heap[gb143]? = some (.cells #[.int .i64 0, .string (⟨#[]⟩ : ByteArray), .int .i64 0, .string (⟨#[]⟩ : ByteArray)] 23 (0, 0))) := ⟨by rw [← hq_]; exact (by (with_reducible repeat (first | refine blk_drewN ?_ _ | refine blk_drew ?_ | refine blk_alloc ?_ _)); exact BK143.out)⟩; have n1_ : Aside0 (wc.heap[gb144]? = some (.cells #[.int .i64 x145000_10, .string x145001_10, .int .i64 x145002_10, .string x145003_10] 23 (0, 0))) := ⟨by rw [← hq_]; exact (by (with_reducible repeat (first | refine blk_drewN ?_ _ | refine blk_drew ?_ | refine blk_alloc ?_ _)); exact BK144.out)⟩; have n2_ : Aside0 (Below w.heap.size w wc) := ⟨by rw [← hq_]; exact (by repeat (first | (with_reducible first | exact HB.out | apply below_alloc | apply pw_below_drewN | apply below_drew1 | refine below_set ?_ GE143.out | refine below_set ?_ GE144.out) | exact HB.out))⟩; clear BK143 BK144 HB hq_; have BK143 := n0_; have BK144 := n1_; have HB := n2_; clear n0_ n1_ n2_))) | ((with_reducible refine gate_callee (f := 30) rfl ?_); refine goesL_ (some 45) rfl rfl Tryz.func30 (by kernel_rfl) rfl #[.string t153] rfl (by (try simp only [List.map_toArray, List.map_cons, List.map_nil]); first | done | rfl | (simp only [List.length_drop, List.length_take]; rfl)) ?_; (with_reducible refine (copydeskref12_number.calls kj10 t153 t154 _ A22.out).mono ?_); rintro e w23 ⟨rfl, hb⟩; refine ⟨_, rfl, ?_⟩; have n0_ := Aside0.mk (blk_below (g := gb143) (o := .cells #[.int .i64 0, .string (⟨#[]⟩ : ByteArray), .int .i64 0, .string (⟨#[]⟩ : ByteArray)] 23 (0, 0)) (by (with_reducible repeat (first | refine blk_drewN ?_ _ | refine blk_drew ?_ | refine blk_alloc ?_ _)); exact BK143.out) hb); have n1_ := Aside0.mk (blk_below (g := gb144) (o := .cells #[.int .i64 x145000_10, .string x145001_10, .int .i64 x145002_10, .string x145003_10] 23 (0, 0)) (by (with_reducible repeat (first | refine blk_drewN ?_ _ | refine blk_drew ?_ | refine blk_alloc ?_ _)); exact BK144.out) hb); have n2_ := Aside0.mk (below_step (by repeat (first | (with_reducible first | exact HB.out | apply below_alloc | apply pw_below_drewN | apply below_drew1 | refine below_set ?_ GE143.out | refine below_set ?_ GE144.out) | exact HB.out)) hb); clear BK143; clear BK144; clear HB; have BK143 := n0_; have BK144 := n1_; have HB := n2_; clear n0_ n1_ n2_; (try clear hb); (try clear hb2); (try clear hk); (try clear hi); have hnb24 := NB144_143.out; have hnc24 := NB143_144.out; have hcz25_0 : w23.cell? ⟨gb144, 0, none⟩ = some (.int .i64 x145000_10) := (blk_cell BK144.out 0).trans rfl; have hcz25_1 : w23.cell? ⟨gb144, 1, none⟩ = some (.string x145001_10) := (blk_cell BK144.out 1).trans rfl; have hcz25_2 : w23.cell? ⟨gb144, 2, none⟩ = some (.int .i64 x145002_10) := (blk_cell BK144.out 2).trans rfl; have hcz25_3 : w23.cell? ⟨gb144, 3, none⟩ = some (.string x145003_10) := (blk_cell BK144.out 3).trans rfl; have hfz25_0 := blk_frozen BK144.out 0; have hfz25_1 := blk_frozen BK144.out 1; have hfz25_2 := blk_frozen BK144.out 2; have hfz25_3 := blk_frozen BK144.out 3))
              go_meet
              case rel => exact ⟨_, (3), (t152), (t154), ((⟨#[]⟩ : ByteArray)), H', ⟨by have := HJ1.out; have := HJ10.out; first | omega | exact Nat.le_refl _⟩, ⟨by (with_reducible repeat (first | refine blk_drewN ?_ _ | refine blk_drew ?_ | refine blk_alloc ?_ _)); refine blk_far ?_ NB143_144.out _; (with_reducible repeat (first | refine blk_drewN ?_ _ | refine blk_drew ?_ | refine blk_alloc ?_ _)); refine blk_far ?_ NB143_144.out _; (with_reducible repeat (first | refine blk_drewN ?_ _ | refine blk_drew ?_ | refine blk_alloc ?_ _)); refine blk_far ?_ NB143_144.out _; (with_reducible repeat (first | refine blk_drewN ?_ _ | refine blk_drew ?_ | refine blk_alloc ?_ _)); refine blk_far ?_ NB143_144.out _; (with_reducible repeat (first | refine blk_drewN ?_ _ | refine blk_drew ?_ | refine blk_alloc ?_ _)); exact BK143.out⟩, ⟨by (with_reducible repeat (first | refine blk_drewN ?_ _ | refine blk_drew ?_ | refine blk_alloc ?_ _)); refine blk_put (cs := #[.int .i64 3, .string t152, .int .i64 t154, .string x145003_10]) ?_ 3 _ rfl; (with_reducible repeat (first | refine blk_drewN ?_ _ | refine blk_drew ?_ | refine blk_alloc ?_ _)); refine blk_put (cs := #[.int .i64 3, .string t152, .int .i64 x145002_10, .string x145003_10]) ?_ 2 _ rfl; (with_reducible repeat (first | refine blk_drewN ?_ _ | refine blk_drew ?_ | refine blk_alloc ?_ _)); refine blk_put (cs := #[.int .i64 3, .string x145001_10, .int .i64 x145002_10, .string x145003_10]) ?_ 1 _ rfl; (with_reducible repeat (first | refine blk_drewN ?_ _ | refine blk_drew ?_ | refine blk_alloc ?_ _)); refine blk_put (cs := #[.int .i64 x145000_10, .string x145001_10, .int .i64 x145002_10, .string x145003_10]) ?_ 0 _ rfl; (with_reducible repeat (first | refine blk_drewN ?_ _ | refine blk_drew ?_ | refine blk_alloc ?_ _)); exact BK144.out⟩, ⟨by repeat (first | (with_reducible first | exact HB.out | apply below_alloc | apply pw_below_drewN | apply below_drew1 | refine below_set ?_ GE143.out | refine below_set ?_ GE144.out) | exact HB.out)⟩⟩
            · replace c20 := Bool.eq_false_iff.mpr c20
              subst c20
              have H1 : (copydeskref12_Parse.j2 kj10 a0 x145000_10 x145001_10 x145002_10 x145003_10) = some (r1, r2, r3, r4, r5) := by rw [if_neg (show ¬ (false = true) by decide)] at H; exact H
              clear H
              have H := H1
              clear H1
              have H' := Aside0.mk H
              clear H
              go_wp2
              go_meet
              case rel => exact ⟨_, (x145000_10), (x145001_10), (x145002_10), (x145003_10), H', ⟨by have := HJ1.out; have := HJ10.out; first | omega | exact Nat.le_refl _⟩, ⟨by (with_reducible repeat (first | refine blk_drewN ?_ _ | refine blk_drew ?_ | refine blk_alloc ?_ _)); exact BK143.out⟩, ⟨by (with_reducible repeat (first | refine blk_drewN ?_ _ | refine blk_drew ?_ | refine blk_alloc ?_ _)); exact BK144.out⟩, ⟨by repeat (first | (with_reducible first | exact HB.out | apply below_alloc | apply pw_below_drewN | apply below_drew1 | refine below_set ?_ GE143.out | refine below_set ?_ GE144.out) | exact HB.out)⟩⟩
          case rest =>
            clear HC19
            try clear c1
            try clear c2
            try clear p2
            try clear c3
            try clear c5
            try clear c7
            try clear c7b0
            try clear c7b1
            try clear c8
            try clear c12
            try clear c16
            try clear c20
            try clear c24
            try clear hcz17_0
            try clear hcz17_1
            try clear hcz17_2
            try clear hcz17_3
            try clear hcz25_0
            try clear hcz25_1
            try clear hcz25_2
            try clear hcz25_3
            try clear hcz6_0
            try clear hcz6_1
            try clear hcz6_2
            try clear hcz6_3
            try clear hcz9_0
            try clear hcz9_1
            try clear hcz9_2
            try clear hcz9_3
            try clear hfz17_0
            try clear hfz17_1
            try clear hfz17_2
            try clear hfz17_3
            try clear hfz25_0
            try clear hfz25_1
            try clear hfz25_2
            try clear hfz25_3
            try clear hfz6_0
            try clear hfz6_1
            try clear hfz6_2
            try clear hfz6_3
            try clear hfz9_0
            try clear hfz9_1
            try clear hfz9_2
            try clear hfz9_3
            try clear p2
            obtain ⟨kq, x145000_18, x145001_18, x145002_18, x145003_18, HA, HJ18, BK143, BK144, HB⟩ := hcut
            cases kq with
            | zero => exact absurd HA.out (by simp [copydeskref12_Parse.j2])
            | succ kj18 =>
              have H := HA.out
              clear HA
              simp only [copydeskref12_Parse.j2] at H
              replace H := Option.bind_eq_some_iff.mp H
              obtain ⟨⟨t155, t156⟩, A260, H⟩ := H
              replace H : (if t156 = true then (copydeskref12_Parse.j3 kj18 a0 4 t155 0 (⟨#[]⟩ : ByteArray)) else (copydeskref12_Parse.j3 kj18 a0 x145000_18 x145001_18 x145002_18 x145003_18)) = some (r1, r2, r3, r4, r5) := H
              have A26 := Aside0.mk A260
              clear A260
              have HC27 := Aside0.mk H
              clear H
              go_upto_if 52 with (first | ((with_reducible refine gate_callee (f := 28) rfl ?_); refine goesL_ (some 49) rfl rfl Tryz.func28 (by kernel_rfl) rfl #[.string a0, .string (⟨#[47, 97, 117, 116, 104, 111, 114, 47]⟩ : ByteArray)] rfl (by (try simp only [List.map_toArray, List.map_cons, List.map_nil]); first | done | rfl | (simp only [List.length_drop, List.length_take]; rfl)) ?_; (with_reducible refine (copydeskref12_after.calls a0 (⟨#[47, 97, 117, 116, 104, 111, 114, 47]⟩ : ByteArray) t155 t156 _ A26.out).mono ?_); rintro e w' ⟨rfl, ⟨nd, rfl⟩⟩; refine ⟨_, rfl, ?_⟩))
              (try simp only [Act.put, List.setIfInBounds_toArray, List.set_cons_zero, List.set_cons_succ])
              go_cut [] (fun wc => ∃ (kq : Nat) (x145000_26 : Int) (x145001_26 : ByteArray) (x145002_26 : Int) (x145003_26 : ByteArray), Aside0 (copydeskref12_Parse.j3 kq a0 x145000_26 x145001_26 x145002_26 x145003_26 = some (r1, r2, r3, r4, r5)) ∧ Aside0 (kq ≤ kj18) ∧ Aside0 (wc.heap[gb143]? = some (.cells #[.int .i64 0, .string (⟨#[]⟩ : ByteArray), .int .i64 0, .string (⟨#[]⟩ : ByteArray)] 23 (0, 0))) ∧ Aside0 (wc.heap[gb144]? = some (.cells #[.int .i64 x145000_26, .string x145001_26, .int .i64 x145002_26, .string x145003_26] 23 (0, 0))) ∧ Aside0 (Below w.heap.size w wc))
              case first =>
                have H := HC27.out
                clear HC27
                by_cases c28 : t156 = true
                · subst c28
                  have H1 : (copydeskref12_Parse.j3 kj18 a0 4 t155 0 (⟨#[]⟩ : ByteArray)) = some (r1, r2, r3, r4, r5) := by rw [if_pos rfl] at H; exact H
                  clear H
                  have H := H1
                  clear H1
                  have H' := Aside0.mk H
                  clear H
                  have hnb29 := NB144_143.out
                  have hnc29 := NB143_144.out
                  have hcz30_0 : wc.cell? ⟨gb144, 0, none⟩ = some (.int .i64 x145000_18) := (blk_cell BK144.out 0).trans rfl
                  have hcz30_1 : wc.cell? ⟨gb144, 1, none⟩ = some (.string x145001_18) := (blk_cell BK144.out 1).trans rfl
                  have hcz30_2 : wc.cell? ⟨gb144, 2, none⟩ = some (.int .i64 x145002_18) := (blk_cell BK144.out 2).trans rfl
                  have hcz30_3 : wc.cell? ⟨gb144, 3, none⟩ = some (.string x145003_18) := (blk_cell BK144.out 3).trans rfl
                  have hfz30_0 := blk_frozen BK144.out 0
                  have hfz30_1 := blk_frozen BK144.out 1
                  have hfz30_2 := blk_frozen BK144.out 2
                  have hfz30_3 := blk_frozen BK144.out 3
                  go_wp2
                  go_meet
                  case rel => exact ⟨_, (4), (t155), (0), ((⟨#[]⟩ : ByteArray)), H', ⟨by have := HJ1.out; have := HJ10.out; have := HJ18.out; first | omega | exact Nat.le_refl _⟩, ⟨by (with_reducible repeat (first | refine blk_drewN ?_ _ | refine blk_drew ?_ | refine blk_alloc ?_ _)); refine blk_far ?_ NB143_144.out _; (with_reducible repeat (first | refine blk_drewN ?_ _ | refine blk_drew ?_ | refine blk_alloc ?_ _)); refine blk_far ?_ NB143_144.out _; (with_reducible repeat (first | refine blk_drewN ?_ _ | refine blk_drew ?_ | refine blk_alloc ?_ _)); refine blk_far ?_ NB143_144.out _; (with_reducible repeat (first | refine blk_drewN ?_ _ | refine blk_drew ?_ | refine blk_alloc ?_ _)); refine blk_far ?_ NB143_144.out _; (with_reducible repeat (first | refine blk_drewN ?_ _ | refine blk_drew ?_ | refine blk_alloc ?_ _)); exact BK143.out⟩, ⟨by (with_reducible repeat (first | refine blk_drewN ?_ _ | refine blk_drew ?_ | refine blk_alloc ?_ _)); refine blk_put (cs := #[.int .i64 4, .string t155, .int .i64 0, .string x145003_18]) ?_ 3 _ rfl; (with_reducible repeat (first | refine blk_drewN ?_ _ | refine blk_drew ?_ | refine blk_alloc ?_ _)); refine blk_put (cs := #[.int .i64 4, .string t155, .int .i64 x145002_18, .string x145003_18]) ?_ 2 _ rfl; (with_reducible repeat (first | refine blk_drewN ?_ _ | refine blk_drew ?_ | refine blk_alloc ?_ _)); refine blk_put (cs := #[.int .i64 4, .string x145001_18, .int .i64 x145002_18, .string x145003_18]) ?_ 1 _ rfl; (with_reducible repeat (first | refine blk_drewN ?_ _ | refine blk_drew ?_ | refine blk_alloc ?_ _)); refine blk_put (cs := #[.int .i64 x145000_18, .string x145001_18, .int .i64 x145002_18, .string x145003_18]) ?_ 0 _ rfl; (with_reducible repeat (first | refine blk_drewN ?_ _ | refine blk_drew ?_ | refine blk_alloc ?_ _)); exact BK144.out⟩, ⟨by repeat (first | (with_reducible first | exact HB.out | apply below_alloc | apply pw_below_drewN | apply below_drew1 | refine below_set ?_ GE143.out | refine below_set ?_ GE144.out) | exact HB.out)⟩⟩
                · replace c28 := Bool.eq_false_iff.mpr c28
                  subst c28
                  have H1 : (copydeskref12_Parse.j3 kj18 a0 x145000_18 x145001_18 x145002_18 x145003_18) = some (r1, r2, r3, r4, r5) := by rw [if_neg (show ¬ (false = true) by decide)] at H; exact H
                  clear H
                  have H := H1
                  clear H1
                  have H' := Aside0.mk H
                  clear H
                  go_wp2
                  go_meet
                  case rel => exact ⟨_, (x145000_18), (x145001_18), (x145002_18), (x145003_18), H', ⟨by have := HJ1.out; have := HJ10.out; have := HJ18.out; first | omega | exact Nat.le_refl _⟩, ⟨by (with_reducible repeat (first | refine blk_drewN ?_ _ | refine blk_drew ?_ | refine blk_alloc ?_ _)); exact BK143.out⟩, ⟨by (with_reducible repeat (first | refine blk_drewN ?_ _ | refine blk_drew ?_ | refine blk_alloc ?_ _)); exact BK144.out⟩, ⟨by repeat (first | (with_reducible first | exact HB.out | apply below_alloc | apply pw_below_drewN | apply below_drew1 | refine below_set ?_ GE143.out | refine below_set ?_ GE144.out) | exact HB.out)⟩⟩
              case rest =>
                clear HC27
                try clear c1
                try clear c2
                try clear p2
                try clear c3
                try clear c5
                try clear c7
                try clear c7b0
                try clear c7b1
                try clear c8
                try clear c12
                try clear c16
                try clear c20
                try clear c24
                try clear c28
                try clear c29
                try clear c30
                try clear hcz17_0
                try clear hcz17_1
                try clear hcz17_2
                try clear hcz17_3
                try clear hcz25_0
                try clear hcz25_1
                try clear hcz25_2
                try clear hcz25_3
                try clear hcz30_0
                try clear hcz30_1
                try clear hcz30_2
                try clear hcz30_3
                try clear hcz6_0
                try clear hcz6_1
                try clear hcz6_2
                try clear hcz6_3
                try clear hcz9_0
                try clear hcz9_1
                try clear hcz9_2
                try clear hcz9_3
                try clear hfz17_0
                try clear hfz17_1
                try clear hfz17_2
                try clear hfz17_3
                try clear hfz25_0
                try clear hfz25_1
                try clear hfz25_2
                try clear hfz25_3
                try clear hfz30_0
                try clear hfz30_1
                try clear hfz30_2
                try clear hfz30_3
                try clear hfz6_0
                try clear hfz6_1
                try clear hfz6_2
                try clear hfz6_3
                try clear hfz9_0
                try clear hfz9_1
                try clear hfz9_2
                try clear hfz9_3
                try clear p2
                obtain ⟨kq, x145000_26, x145001_26, x145002_26, x145003_26, HA, HJ26, BK143, BK144, HB⟩ := hcut
                cases kq with
                | zero => exact absurd HA.out (by simp [copydeskref12_Parse.j3])
                | succ kj26 =>
                  have H := HA.out
                  clear HA
                  simp only [copydeskref12_Parse.j3] at H
                  replace H := Option.bind_eq_some_iff.mp H
                  obtain ⟨⟨t157, t158⟩, A310, H⟩ := H
                  replace H : (if t158 = true then ((copydeskref12_Format.f kj26 5 t157 0 (⟨#[]⟩ : ByteArray)).bind fun bt159 => (if bt159.2 = 0 then (if bt159.1.toList = a0.toList then (some (5, t157, 0, (⟨#[]⟩ : ByteArray), 0)) else (some (0, (⟨#[]⟩ : ByteArray), 0, (⟨#[]⟩ : ByteArray), 120))) else (some (0, (⟨#[]⟩ : ByteArray), 0, (⟨#[]⟩ : ByteArray), 120)))) else ((copydeskref12_Format.f kj26 x145000_26 x145001_26 x145002_26 x145003_26).bind fun bt161 => (if bt161.2 = 0 then (if bt161.1.toList = a0.toList then (some (x145000_26, x145001_26, x145002_26, x145003_26, 0)) else (some (0, (⟨#[]⟩ : ByteArray), 0, (⟨#[]⟩ : ByteArray), 120))) else (some (0, (⟨#[]⟩ : ByteArray), 0, (⟨#[]⟩ : ByteArray), 120))))) = some (r1, r2, r3, r4, r5) := H
                  have A31 := Aside0.mk A310
                  clear A310
                  by_cases c32 : t158 = true
                  · subst c32
                    have H1 : ((copydeskref12_Format.f kj26 5 t157 0 (⟨#[]⟩ : ByteArray)).bind fun bt159 => (if bt159.2 = 0 then (if bt159.1.toList = a0.toList then (some (5, t157, 0, (⟨#[]⟩ : ByteArray), 0)) else (some (0, (⟨#[]⟩ : ByteArray), 0, (⟨#[]⟩ : ByteArray), 120))) else (some (0, (⟨#[]⟩ : ByteArray), 0, (⟨#[]⟩ : ByteArray), 120)))) = some (r1, r2, r3, r4, r5) := by rw [if_pos rfl] at H; exact H
                    clear H
                    have H := H1
                    clear H1
                    replace H := Option.bind_eq_some_iff.mp H
                    obtain ⟨⟨t159, t160⟩, A330, H⟩ := H
                    replace H : (if t160 = 0 then (if t159.toList = a0.toList then (some (5, t157, 0, (⟨#[]⟩ : ByteArray), 0)) else (some (0, (⟨#[]⟩ : ByteArray), 0, (⟨#[]⟩ : ByteArray), 120))) else (some (0, (⟨#[]⟩ : ByteArray), 0, (⟨#[]⟩ : ByteArray), 120))) = some (r1, r2, r3, r4, r5) := H
                    have A33 := Aside0.mk A330
                    clear A330
                    by_cases c34 : t160 = 0
                    · rw [if_pos c34] at H
                      have c34b0 : (t160 == 0) = true := beq_iff_eq.mpr c34
                      have c34b1 : (t160 != 0) = false := bne_eq_false_iff_eq.mpr c34
                      clear c34
                      by_cases c35 : t159.toList = a0.toList
                      · rw [if_pos c35] at H
                        have c35b0 : (t159.toList == a0.toList) = true := beq_iff_eq.mpr c35
                        have c35b1 : (t159.toList != a0.toList) = false := bne_eq_false_iff_eq.mpr c35
                        clear c35
                        simp only [Option.some.injEq, Prod.mk.injEq] at H
                        obtain ⟨rfl, rfl, rfl, rfl, rfl⟩ := H
                        go_wp2_with (first | ((with_reducible refine gate_callee (f := 28) rfl ?_); refine goesL_ (some 57) rfl rfl Tryz.func28 (by kernel_rfl) rfl #[.string a0, .string (⟨#[47, 102, 101, 101, 100, 47]⟩ : ByteArray)] rfl (by (try simp only [List.map_toArray, List.map_cons, List.map_nil]); first | done | rfl | (simp only [List.length_drop, List.length_take]; rfl)) ?_; (with_reducible refine (copydeskref12_after.calls a0 (⟨#[47, 102, 101, 101, 100, 47]⟩ : ByteArray) t157 true _ A31.out).mono ?_); rintro e w' ⟨rfl, ⟨nd, rfl⟩⟩; refine ⟨_, rfl, ?_⟩; (try (rw [drewN_self wc]; generalize hq_ : World.drewN wc _ = wc; have n0_ : Aside0 (wc.heap[gb143]? = some (.cells #[.int .i64 0, .string (⟨#[]⟩ : ByteArray), .int .i64 0, .string (⟨#[]⟩ : ByteArray)] 23 (0, 0))) := ⟨by rw [← hq_]; exact (by (with_reducible repeat (first | refine blk_drewN ?_ _ | refine blk_drew ?_ | refine blk_alloc ?_ _)); exact BK143.out)⟩; have n1_ : Aside0 (wc.heap[gb144]? = some (.cells #[.int .i64 x145000_26, .string x145001_26, .int .i64 x145002_26, .string x145003_26] 23 (0, 0))) := ⟨by rw [← hq_]; exact (by (with_reducible repeat (first | refine blk_drewN ?_ _ | refine blk_drew ?_ | refine blk_alloc ?_ _)); exact BK144.out)⟩; have n2_ : Aside0 (Below w.heap.size w wc) := ⟨by rw [← hq_]; exact (by repeat (first | (with_reducible first | exact HB.out | apply below_alloc | apply pw_below_drewN | apply below_drew1 | refine below_set ?_ GE143.out | refine below_set ?_ GE144.out) | exact HB.out))⟩; clear BK143 BK144 HB hq_; have BK143 := n0_; have BK144 := n1_; have HB := n2_; clear n0_ n1_ n2_)); have hnb36 := NB144_143.out; have hnc36 := NB143_144.out; have hcz37_0 : wc.cell? ⟨gb144, 0, none⟩ = some (.int .i64 x145000_26) := (blk_cell BK144.out 0).trans rfl; have hcz37_1 : wc.cell? ⟨gb144, 1, none⟩ = some (.string x145001_26) := (blk_cell BK144.out 1).trans rfl; have hcz37_2 : wc.cell? ⟨gb144, 2, none⟩ = some (.int .i64 x145002_26) := (blk_cell BK144.out 2).trans rfl; have hcz37_3 : wc.cell? ⟨gb144, 3, none⟩ = some (.string x145003_26) := (blk_cell BK144.out 3).trans rfl; have hfz37_0 := blk_frozen BK144.out 0; have hfz37_1 := blk_frozen BK144.out 1; have hfz37_2 := blk_frozen BK144.out 2; have hfz37_3 := blk_frozen BK144.out 3) | ((with_reducible refine gate_callee (f := 10) rfl ?_); refine goesL_ (some 65) rfl rfl Tryz.func10 (by kernel_rfl) rfl #[.agg #[.int .i64 5, .string t157, .int .i64 0, .string (⟨#[]⟩ : ByteArray)]] rfl (by (try simp only [List.map_toArray, List.map_cons, List.map_nil]); first | done | rfl | (simp only [List.length_drop, List.length_take]; rfl)) ?_; (with_reducible refine (copydeskref12_Format.calls kj26 5 t157 0 (⟨#[]⟩ : ByteArray) t159 t160 _ A33.out).mono ?_); rintro e w38 ⟨rfl, hb⟩; refine ⟨_, rfl, ?_⟩; have n0_ := Aside0.mk (blk_below (g := gb143) (o := .cells #[.int .i64 0, .string (⟨#[]⟩ : ByteArray), .int .i64 0, .string (⟨#[]⟩ : ByteArray)] 23 (0, 0)) (by (with_reducible repeat (first | refine blk_drewN ?_ _ | refine blk_drew ?_ | refine blk_alloc ?_ _)); refine blk_far ?_ NB143_144.out _; (with_reducible repeat (first | refine blk_drewN ?_ _ | refine blk_drew ?_ | refine blk_alloc ?_ _)); refine blk_far ?_ NB143_144.out _; (with_reducible repeat (first | refine blk_drewN ?_ _ | refine blk_drew ?_ | refine blk_alloc ?_ _)); refine blk_far ?_ NB143_144.out _; (with_reducible repeat (first | refine blk_drewN ?_ _ | refine blk_drew ?_ | refine blk_alloc ?_ _)); refine blk_far ?_ NB143_144.out _; (with_reducible repeat (first | refine blk_drewN ?_ _ | refine blk_drew ?_ | refine blk_alloc ?_ _)); exact BK143.out) hb); have n1_ := Aside0.mk (blk_below (g := gb144) (o := .cells #[.int .i64 5, .string t157, .int .i64 0, .string (⟨#[]⟩ : ByteArray)] 23 (0, 0)) (by (with_reducible repeat (first | refine blk_drewN ?_ _ | refine blk_drew ?_ | refine blk_alloc ?_ _)); refine blk_put (cs := #[.int .i64 5, .string t157, .int .i64 0, .string x145003_26]) ?_ 3 _ rfl; (with_reducible repeat (first | refine blk_drewN ?_ _ | refine blk_drew ?_ | refine blk_alloc ?_ _)); refine blk_put (cs := #[.int .i64 5, .string t157, .int .i64 x145002_26, .string x145003_26]) ?_ 2 _ rfl; (with_reducible repeat (first | refine blk_drewN ?_ _ | refine blk_drew ?_ | refine blk_alloc ?_ _)); refine blk_put (cs := #[.int .i64 5, .string x145001_26, .int .i64 x145002_26, .string x145003_26]) ?_ 1 _ rfl; (with_reducible repeat (first | refine blk_drewN ?_ _ | refine blk_drew ?_ | refine blk_alloc ?_ _)); refine blk_put (cs := #[.int .i64 x145000_26, .string x145001_26, .int .i64 x145002_26, .string x145003_26]) ?_ 0 _ rfl; (with_reducible repeat (first | refine blk_drewN ?_ _ | refine blk_drew ?_ | refine blk_alloc ?_ _)); exact BK144.out) hb); have n2_ := Aside0.mk (below_step (by repeat (first | (with_reducible first | exact HB.out | apply below_alloc | apply pw_below_drewN | apply below_drew1 | refine below_set ?_ GE143.out | refine below_set ?_ GE144.out) | exact HB.out)) hb); clear BK143; clear BK144; clear HB; have BK143 := n0_; have BK144 := n1_; have HB := n2_; clear n0_ n1_ n2_; (try clear hb); (try clear hb2); (try clear hk); (try clear hi); have hcz39_0 : w38.cell? ⟨gb144, 0, none⟩ = some (.int .i64 5) := (blk_cell BK144.out 0).trans rfl; have hcz39_1 : w38.cell? ⟨gb144, 1, none⟩ = some (.string t157) := (blk_cell BK144.out 1).trans rfl; have hcz39_2 : w38.cell? ⟨gb144, 2, none⟩ = some (.int .i64 0) := (blk_cell BK144.out 2).trans rfl; have hcz39_3 : w38.cell? ⟨gb144, 3, none⟩ = some (.string (⟨#[]⟩ : ByteArray)) := (blk_cell BK144.out 3).trans rfl; have hfz39_0 := blk_frozen BK144.out 0; have hfz39_1 := blk_frozen BK144.out 1; have hfz39_2 := blk_frozen BK144.out 2; have hfz39_3 := blk_frozen BK144.out 3; have hcz40_0 : w38.cell? ⟨gb143, 0, none⟩ = some (.int .i64 0) := (blk_cell BK143.out 0).trans rfl; have hcz40_1 : w38.cell? ⟨gb143, 1, none⟩ = some (.string (⟨#[]⟩ : ByteArray)) := (blk_cell BK143.out 1).trans rfl; have hcz40_2 : w38.cell? ⟨gb143, 2, none⟩ = some (.int .i64 0) := (blk_cell BK143.out 2).trans rfl; have hcz40_3 : w38.cell? ⟨gb143, 3, none⟩ = some (.string (⟨#[]⟩ : ByteArray)) := (blk_cell BK143.out 3).trans rfl; have hfz40_0 := blk_frozen BK143.out 0; have hfz40_1 := blk_frozen BK143.out 1; have hfz40_2 := blk_frozen BK143.out 2; have hfz40_3 := blk_frozen BK143.out 3))
                        refine bodyPost_ret (results_ct rfl _ _ gb143 23 #[.int .i64 5, .string t157, .int .i64 0, .string (⟨#[]⟩ : ByteArray)] (0, 0) _ rfl (by (with_reducible repeat (first | refine blk_drewN ?_ _ | refine blk_drew ?_ | refine blk_alloc ?_ _)); refine blk_put (cs := #[.int .i64 5, .string t157, .int .i64 0, .string (⟨#[]⟩ : ByteArray)]) ?_ 3 _ rfl; (with_reducible repeat (first | refine blk_drewN ?_ _ | refine blk_drew ?_ | refine blk_alloc ?_ _)); refine blk_put (cs := #[.int .i64 5, .string t157, .int .i64 0, .string (⟨#[]⟩ : ByteArray)]) ?_ 2 _ rfl; (with_reducible repeat (first | refine blk_drewN ?_ _ | refine blk_drew ?_ | refine blk_alloc ?_ _)); refine blk_put (cs := #[.int .i64 5, .string (⟨#[]⟩ : ByteArray), .int .i64 0, .string (⟨#[]⟩ : ByteArray)]) ?_ 1 _ rfl; (with_reducible repeat (first | refine blk_drewN ?_ _ | refine blk_drew ?_ | refine blk_alloc ?_ _)); refine blk_put (cs := #[.int .i64 0, .string (⟨#[]⟩ : ByteArray), .int .i64 0, .string (⟨#[]⟩ : ByteArray)]) ?_ 0 _ rfl; (with_reducible repeat (first | refine blk_drewN ?_ _ | refine blk_drew ?_ | refine blk_alloc ?_ _)); exact BK143.out) Tryz.underlying23 rfl (by kernel_rfl)) rfl ?_
                        exact ⟨by first | rfl | (simp [errW_none, errW_some] <;> rfl) | (simp [*, errW_none, errW_some] <;> rfl), by repeat (first | (with_reducible first | exact HB.out | apply below_alloc | apply pw_below_drewN | apply below_drew1 | refine below_set ?_ GE143.out | refine below_set ?_ GE144.out) | exact HB.out)⟩
                      · rw [if_neg c35] at H
                        have c35b0 : (t159.toList == a0.toList) = false := beq_eq_false_iff_ne.mpr c35
                        have c35b1 : (t159.toList != a0.toList) = true := bne_iff_ne.mpr c35
                        simp only [Option.some.injEq, Prod.mk.injEq] at H
                        obtain ⟨rfl, rfl, rfl, rfl, rfl⟩ := H
                        go_wp2_with (first | ((with_reducible refine gate_callee (f := 28) rfl ?_); refine goesL_ (some 57) rfl rfl Tryz.func28 (by kernel_rfl) rfl #[.string a0, .string (⟨#[47, 102, 101, 101, 100, 47]⟩ : ByteArray)] rfl (by (try simp only [List.map_toArray, List.map_cons, List.map_nil]); first | done | rfl | (simp only [List.length_drop, List.length_take]; rfl)) ?_; (with_reducible refine (copydeskref12_after.calls a0 (⟨#[47, 102, 101, 101, 100, 47]⟩ : ByteArray) t157 true _ A31.out).mono ?_); rintro e w' ⟨rfl, ⟨nd, rfl⟩⟩; refine ⟨_, rfl, ?_⟩; (try (rw [drewN_self wc]; generalize hq_ : World.drewN wc _ = wc; have n0_ : Aside0 (wc.heap[gb143]? = some (.cells #[.int .i64 0, .string (⟨#[]⟩ : ByteArray), .int .i64 0, .string (⟨#[]⟩ : ByteArray)] 23 (0, 0))) := ⟨by rw [← hq_]; exact (by (with_reducible repeat (first | refine blk_drewN ?_ _ | refine blk_drew ?_ | refine blk_alloc ?_ _)); exact BK143.out)⟩; have n1_ : Aside0 (wc.heap[gb144]? = some (.cells #[.int .i64 x145000_26, .string x145001_26, .int .i64 x145002_26, .string x145003_26] 23 (0, 0))) := ⟨by rw [← hq_]; exact (by (with_reducible repeat (first | refine blk_drewN ?_ _ | refine blk_drew ?_ | refine blk_alloc ?_ _)); exact BK144.out)⟩; have n2_ : Aside0 (Below w.heap.size w wc) := ⟨by rw [← hq_]; exact (by repeat (first | (with_reducible first | exact HB.out | apply below_alloc | apply pw_below_drewN | apply below_drew1 | refine below_set ?_ GE143.out | refine below_set ?_ GE144.out) | exact HB.out))⟩; clear BK143 BK144 HB hq_; have BK143 := n0_; have BK144 := n1_; have HB := n2_; clear n0_ n1_ n2_)); have hnb41 := NB144_143.out; have hnc41 := NB143_144.out; have hcz42_0 : wc.cell? ⟨gb144, 0, none⟩ = some (.int .i64 x145000_26) := (blk_cell BK144.out 0).trans rfl; have hcz42_1 : wc.cell? ⟨gb144, 1, none⟩ = some (.string x145001_26) := (blk_cell BK144.out 1).trans rfl; have hcz42_2 : wc.cell? ⟨gb144, 2, none⟩ = some (.int .i64 x145002_26) := (blk_cell BK144.out 2).trans rfl; have hcz42_3 : wc.cell? ⟨gb144, 3, none⟩ = some (.string x145003_26) := (blk_cell BK144.out 3).trans rfl; have hfz42_0 := blk_frozen BK144.out 0; have hfz42_1 := blk_frozen BK144.out 1; have hfz42_2 := blk_frozen BK144.out 2; have hfz42_3 := blk_frozen BK144.out 3) | ((with_reducible refine gate_callee (f := 10) rfl ?_); refine goesL_ (some 65) rfl rfl Tryz.func10 (by kernel_rfl) rfl #[.agg #[.int .i64 5, .string t157, .int .i64 0, .string (⟨#[]⟩ : ByteArray)]] rfl (by (try simp only [List.map_toArray, List.map_cons, List.map_nil]); first | done | rfl | (simp only [List.length_drop, List.length_take]; rfl)) ?_; (with_reducible refine (copydeskref12_Format.calls kj26 5 t157 0 (⟨#[]⟩ : ByteArray) t159 t160 _ A33.out).mono ?_); rintro e w43 ⟨rfl, hb⟩; refine ⟨_, rfl, ?_⟩; have n0_ := Aside0.mk (blk_below (g := gb143) (o := .cells #[.int .i64 0, .string (⟨#[]⟩ : ByteArray), .int .i64 0, .string (⟨#[]⟩ : ByteArray)] 23 (0, 0)) (by (with_reducible repeat (first | refine blk_drewN ?_ _ | refine blk_drew ?_ | refine blk_alloc ?_ _)); refine blk_far ?_ NB143_144.out _; (with_reducible repeat (first | refine blk_drewN ?_ _ | refine blk_drew ?_ | refine blk_alloc ?_ _)); refine blk_far ?_ NB143_144.out _; (with_reducible repeat (first | refine blk_drewN ?_ _ | refine blk_drew ?_ | refine blk_alloc ?_ _)); refine blk_far ?_ NB143_144.out _; (with_reducible repeat (first | refine blk_drewN ?_ _ | refine blk_drew ?_ | refine blk_alloc ?_ _)); refine blk_far ?_ NB143_144.out _; (with_reducible repeat (first | refine blk_drewN ?_ _ | refine blk_drew ?_ | refine blk_alloc ?_ _)); exact BK143.out) hb); have n1_ := Aside0.mk (blk_below (g := gb144) (o := .cells #[.int .i64 5, .string t157, .int .i64 0, .string (⟨#[]⟩ : ByteArray)] 23 (0, 0)) (by (with_reducible repeat (first | refine blk_drewN ?_ _ | refine blk_drew ?_ | refine blk_alloc ?_ _)); refine blk_put (cs := #[.int .i64 5, .string t157, .int .i64 0, .string x145003_26]) ?_ 3 _ rfl; (with_reducible repeat (first | refine blk_drewN ?_ _ | refine blk_drew ?_ | refine blk_alloc ?_ _)); refine blk_put (cs := #[.int .i64 5, .string t157, .int .i64 x145002_26, .string x145003_26]) ?_ 2 _ rfl; (with_reducible repeat (first | refine blk_drewN ?_ _ | refine blk_drew ?_ | refine blk_alloc ?_ _)); refine blk_put (cs := #[.int .i64 5, .string x145001_26, .int .i64 x145002_26, .string x145003_26]) ?_ 1 _ rfl; (with_reducible repeat (first | refine blk_drewN ?_ _ | refine blk_drew ?_ | refine blk_alloc ?_ _)); refine blk_put (cs := #[.int .i64 x145000_26, .string x145001_26, .int .i64 x145002_26, .string x145003_26]) ?_ 0 _ rfl; (with_reducible repeat (first | refine blk_drewN ?_ _ | refine blk_drew ?_ | refine blk_alloc ?_ _)); exact BK144.out) hb); have n2_ := Aside0.mk (below_step (by repeat (first | (with_reducible first | exact HB.out | apply below_alloc | apply pw_below_drewN | apply below_drew1 | refine below_set ?_ GE143.out | refine below_set ?_ GE144.out) | exact HB.out)) hb); clear BK143; clear BK144; clear HB; have BK143 := n0_; have BK144 := n1_; have HB := n2_; clear n0_ n1_ n2_; (try clear hb); (try clear hb2); (try clear hk); (try clear hi); have hcz44_0 : w43.cell? ⟨gb143, 0, none⟩ = some (.int .i64 0) := (blk_cell BK143.out 0).trans rfl; have hcz44_1 : w43.cell? ⟨gb143, 1, none⟩ = some (.string (⟨#[]⟩ : ByteArray)) := (blk_cell BK143.out 1).trans rfl; have hcz44_2 : w43.cell? ⟨gb143, 2, none⟩ = some (.int .i64 0) := (blk_cell BK143.out 2).trans rfl; have hcz44_3 : w43.cell? ⟨gb143, 3, none⟩ = some (.string (⟨#[]⟩ : ByteArray)) := (blk_cell BK143.out 3).trans rfl; have hfz44_0 := blk_frozen BK143.out 0; have hfz44_1 := blk_frozen BK143.out 1; have hfz44_2 := blk_frozen BK143.out 2; have hfz44_3 := blk_frozen BK143.out 3))
                        refine bodyPost_ret (results_ct rfl _ _ gb143 23 #[.int .i64 0, .string (⟨#[]⟩ : ByteArray), .int .i64 0, .string (⟨#[]⟩ : ByteArray)] (0, 0) _ rfl (by (with_reducible repeat (first | refine blk_drewN ?_ _ | refine blk_drew ?_ | refine blk_alloc ?_ _)); refine blk_put (cs := #[.int .i64 0, .string (⟨#[]⟩ : ByteArray), .int .i64 0, .string (⟨#[]⟩ : ByteArray)]) ?_ 3 _ rfl; (with_reducible repeat (first | refine blk_drewN ?_ _ | refine blk_drew ?_ | refine blk_alloc ?_ _)); refine blk_put (cs := #[.int .i64 0, .string (⟨#[]⟩ : ByteArray), .int .i64 0, .string (⟨#[]⟩ : ByteArray)]) ?_ 2 _ rfl; (with_reducible repeat (first | refine blk_drewN ?_ _ | refine blk_drew ?_ | refine blk_alloc ?_ _)); refine blk_put (cs := #[.int .i64 0, .string (⟨#[]⟩ : ByteArray), .int .i64 0, .string (⟨#[]⟩ : ByteArray)]) ?_ 1 _ rfl; (with_reducible repeat (first | refine blk_drewN ?_ _ | refine blk_drew ?_ | refine blk_alloc ?_ _)); refine blk_put (cs := #[.int .i64 0, .string (⟨#[]⟩ : ByteArray), .int .i64 0, .string (⟨#[]⟩ : ByteArray)]) ?_ 0 _ rfl; (with_reducible repeat (first | refine blk_drewN ?_ _ | refine blk_drew ?_ | refine blk_alloc ?_ _)); exact BK143.out) Tryz.underlying23 rfl (by kernel_rfl)) rfl ?_
                        exact ⟨by first | rfl | (simp [errW_none, errW_some] <;> rfl) | (simp [*, errW_none, errW_some] <;> rfl), by repeat (first | (with_reducible first | exact HB.out | apply below_alloc | apply pw_below_drewN | apply below_drew1 | refine below_set ?_ GE143.out | refine below_set ?_ GE144.out) | exact HB.out)⟩
                    · rw [if_neg c34] at H
                      have c34b0 : (t160 == 0) = false := beq_eq_false_iff_ne.mpr c34
                      have c34b1 : (t160 != 0) = true := bne_iff_ne.mpr c34
                      simp only [Option.some.injEq, Prod.mk.injEq] at H
                      obtain ⟨rfl, rfl, rfl, rfl, rfl⟩ := H
                      go_wp2_with (first | ((with_reducible refine gate_callee (f := 28) rfl ?_); refine goesL_ (some 57) rfl rfl Tryz.func28 (by kernel_rfl) rfl #[.string a0, .string (⟨#[47, 102, 101, 101, 100, 47]⟩ : ByteArray)] rfl (by (try simp only [List.map_toArray, List.map_cons, List.map_nil]); first | done | rfl | (simp only [List.length_drop, List.length_take]; rfl)) ?_; (with_reducible refine (copydeskref12_after.calls a0 (⟨#[47, 102, 101, 101, 100, 47]⟩ : ByteArray) t157 true _ A31.out).mono ?_); rintro e w' ⟨rfl, ⟨nd, rfl⟩⟩; refine ⟨_, rfl, ?_⟩; (try (rw [drewN_self wc]; generalize hq_ : World.drewN wc _ = wc; have n0_ : Aside0 (wc.heap[gb143]? = some (.cells #[.int .i64 0, .string (⟨#[]⟩ : ByteArray), .int .i64 0, .string (⟨#[]⟩ : ByteArray)] 23 (0, 0))) := ⟨by rw [← hq_]; exact (by (with_reducible repeat (first | refine blk_drewN ?_ _ | refine blk_drew ?_ | refine blk_alloc ?_ _)); exact BK143.out)⟩; have n1_ : Aside0 (wc.heap[gb144]? = some (.cells #[.int .i64 x145000_26, .string x145001_26, .int .i64 x145002_26, .string x145003_26] 23 (0, 0))) := ⟨by rw [← hq_]; exact (by (with_reducible repeat (first | refine blk_drewN ?_ _ | refine blk_drew ?_ | refine blk_alloc ?_ _)); exact BK144.out)⟩; have n2_ : Aside0 (Below w.heap.size w wc) := ⟨by rw [← hq_]; exact (by repeat (first | (with_reducible first | exact HB.out | apply below_alloc | apply pw_below_drewN | apply below_drew1 | refine below_set ?_ GE143.out | refine below_set ?_ GE144.out) | exact HB.out))⟩; clear BK143 BK144 HB hq_; have BK143 := n0_; have BK144 := n1_; have HB := n2_; clear n0_ n1_ n2_)); have hnb45 := NB144_143.out; have hnc45 := NB143_144.out; have hcz46_0 : wc.cell? ⟨gb144, 0, none⟩ = some (.int .i64 x145000_26) := (blk_cell BK144.out 0).trans rfl; have hcz46_1 : wc.cell? ⟨gb144, 1, none⟩ = some (.string x145001_26) := (blk_cell BK144.out 1).trans rfl; have hcz46_2 : wc.cell? ⟨gb144, 2, none⟩ = some (.int .i64 x145002_26) := (blk_cell BK144.out 2).trans rfl; have hcz46_3 : wc.cell? ⟨gb144, 3, none⟩ = some (.string x145003_26) := (blk_cell BK144.out 3).trans rfl; have hfz46_0 := blk_frozen BK144.out 0; have hfz46_1 := blk_frozen BK144.out 1; have hfz46_2 := blk_frozen BK144.out 2; have hfz46_3 := blk_frozen BK144.out 3) | ((with_reducible refine gate_callee (f := 10) rfl ?_); refine goesL_ (some 65) rfl rfl Tryz.func10 (by kernel_rfl) rfl #[.agg #[.int .i64 5, .string t157, .int .i64 0, .string (⟨#[]⟩ : ByteArray)]] rfl (by (try simp only [List.map_toArray, List.map_cons, List.map_nil]); first | done | rfl | (simp only [List.length_drop, List.length_take]; rfl)) ?_; (with_reducible refine (copydeskref12_Format.calls kj26 5 t157 0 (⟨#[]⟩ : ByteArray) t159 t160 _ A33.out).mono ?_); rintro e w47 ⟨rfl, hb⟩; refine ⟨_, rfl, ?_⟩; have n0_ := Aside0.mk (blk_below (g := gb143) (o := .cells #[.int .i64 0, .string (⟨#[]⟩ : ByteArray), .int .i64 0, .string (⟨#[]⟩ : ByteArray)] 23 (0, 0)) (by (with_reducible repeat (first | refine blk_drewN ?_ _ | refine blk_drew ?_ | refine blk_alloc ?_ _)); refine blk_far ?_ NB143_144.out _; (with_reducible repeat (first | refine blk_drewN ?_ _ | refine blk_drew ?_ | refine blk_alloc ?_ _)); refine blk_far ?_ NB143_144.out _; (with_reducible repeat (first | refine blk_drewN ?_ _ | refine blk_drew ?_ | refine blk_alloc ?_ _)); refine blk_far ?_ NB143_144.out _; (with_reducible repeat (first | refine blk_drewN ?_ _ | refine blk_drew ?_ | refine blk_alloc ?_ _)); refine blk_far ?_ NB143_144.out _; (with_reducible repeat (first | refine blk_drewN ?_ _ | refine blk_drew ?_ | refine blk_alloc ?_ _)); exact BK143.out) hb); have n1_ := Aside0.mk (blk_below (g := gb144) (o := .cells #[.int .i64 5, .string t157, .int .i64 0, .string (⟨#[]⟩ : ByteArray)] 23 (0, 0)) (by (with_reducible repeat (first | refine blk_drewN ?_ _ | refine blk_drew ?_ | refine blk_alloc ?_ _)); refine blk_put (cs := #[.int .i64 5, .string t157, .int .i64 0, .string x145003_26]) ?_ 3 _ rfl; (with_reducible repeat (first | refine blk_drewN ?_ _ | refine blk_drew ?_ | refine blk_alloc ?_ _)); refine blk_put (cs := #[.int .i64 5, .string t157, .int .i64 x145002_26, .string x145003_26]) ?_ 2 _ rfl; (with_reducible repeat (first | refine blk_drewN ?_ _ | refine blk_drew ?_ | refine blk_alloc ?_ _)); refine blk_put (cs := #[.int .i64 5, .string x145001_26, .int .i64 x145002_26, .string x145003_26]) ?_ 1 _ rfl; (with_reducible repeat (first | refine blk_drewN ?_ _ | refine blk_drew ?_ | refine blk_alloc ?_ _)); refine blk_put (cs := #[.int .i64 x145000_26, .string x145001_26, .int .i64 x145002_26, .string x145003_26]) ?_ 0 _ rfl; (with_reducible repeat (first | refine blk_drewN ?_ _ | refine blk_drew ?_ | refine blk_alloc ?_ _)); exact BK144.out) hb); have n2_ := Aside0.mk (below_step (by repeat (first | (with_reducible first | exact HB.out | apply below_alloc | apply pw_below_drewN | apply below_drew1 | refine below_set ?_ GE143.out | refine below_set ?_ GE144.out) | exact HB.out)) hb); clear BK143; clear BK144; clear HB; have BK143 := n0_; have BK144 := n1_; have HB := n2_; clear n0_ n1_ n2_; (try clear hb); (try clear hb2); (try clear hk); (try clear hi); have hcz48_0 : w47.cell? ⟨gb143, 0, none⟩ = some (.int .i64 0) := (blk_cell BK143.out 0).trans rfl; have hcz48_1 : w47.cell? ⟨gb143, 1, none⟩ = some (.string (⟨#[]⟩ : ByteArray)) := (blk_cell BK143.out 1).trans rfl; have hcz48_2 : w47.cell? ⟨gb143, 2, none⟩ = some (.int .i64 0) := (blk_cell BK143.out 2).trans rfl; have hcz48_3 : w47.cell? ⟨gb143, 3, none⟩ = some (.string (⟨#[]⟩ : ByteArray)) := (blk_cell BK143.out 3).trans rfl; have hfz48_0 := blk_frozen BK143.out 0; have hfz48_1 := blk_frozen BK143.out 1; have hfz48_2 := blk_frozen BK143.out 2; have hfz48_3 := blk_frozen BK143.out 3))
                      refine bodyPost_ret (results_ct rfl _ _ gb143 23 #[.int .i64 0, .string (⟨#[]⟩ : ByteArray), .int .i64 0, .string (⟨#[]⟩ : ByteArray)] (0, 0) _ rfl (by (with_reducible repeat (first | refine blk_drewN ?_ _ | refine blk_drew ?_ | refine blk_alloc ?_ _)); refine blk_put (cs := #[.int .i64 0, .string (⟨#[]⟩ : ByteArray), .int .i64 0, .string (⟨#[]⟩ : ByteArray)]) ?_ 3 _ rfl; (with_reducible repeat (first | refine blk_drewN ?_ _ | refine blk_drew ?_ | refine blk_alloc ?_ _)); refine blk_put (cs := #[.int .i64 0, .string (⟨#[]⟩ : ByteArray), .int .i64 0, .string (⟨#[]⟩ : ByteArray)]) ?_ 2 _ rfl; (with_reducible repeat (first | refine blk_drewN ?_ _ | refine blk_drew ?_ | refine blk_alloc ?_ _)); refine blk_put (cs := #[.int .i64 0, .string (⟨#[]⟩ : ByteArray), .int .i64 0, .string (⟨#[]⟩ : ByteArray)]) ?_ 1 _ rfl; (with_reducible repeat (first | refine blk_drewN ?_ _ | refine blk_drew ?_ | refine blk_alloc ?_ _)); refine blk_put (cs := #[.int .i64 0, .string (⟨#[]⟩ : ByteArray), .int .i64 0, .string (⟨#[]⟩ : ByteArray)]) ?_ 0 _ rfl; (with_reducible repeat (first | refine blk_drewN ?_ _ | refine blk_drew ?_ | refine blk_alloc ?_ _)); exact BK143.out) Tryz.underlying23 rfl (by kernel_rfl)) rfl ?_
                      exact ⟨by first | rfl | (simp [errW_none, errW_some] <;> rfl) | (simp [*, errW_none, errW_some] <;> rfl), by repeat (first | (with_reducible first | exact HB.out | apply below_alloc | apply pw_below_drewN | apply below_drew1 | refine below_set ?_ GE143.out | refine below_set ?_ GE144.out) | exact HB.out)⟩
                  · replace c32 := Bool.eq_false_iff.mpr c32
                    subst c32
                    have H1 : ((copydeskref12_Format.f kj26 x145000_26 x145001_26 x145002_26 x145003_26).bind fun bt161 => (if bt161.2 = 0 then (if bt161.1.toList = a0.toList then (some (x145000_26, x145001_26, x145002_26, x145003_26, 0)) else (some (0, (⟨#[]⟩ : ByteArray), 0, (⟨#[]⟩ : ByteArray), 120))) else (some (0, (⟨#[]⟩ : ByteArray), 0, (⟨#[]⟩ : ByteArray), 120)))) = some (r1, r2, r3, r4, r5) := by rw [if_neg (show ¬ (false = true) by decide)] at H; exact H
                    clear H
                    have H := H1
                    clear H1
                    replace H := Option.bind_eq_some_iff.mp H
                    obtain ⟨⟨t161, t162⟩, A490, H⟩ := H
                    replace H : (if t162 = 0 then (if t161.toList = a0.toList then (some (x145000_26, x145001_26, x145002_26, x145003_26, 0)) else (some (0, (⟨#[]⟩ : ByteArray), 0, (⟨#[]⟩ : ByteArray), 120))) else (some (0, (⟨#[]⟩ : ByteArray), 0, (⟨#[]⟩ : ByteArray), 120))) = some (r1, r2, r3, r4, r5) := H
                    have A49 := Aside0.mk A490
                    clear A490
                    by_cases c50 : t162 = 0
                    · rw [if_pos c50] at H
                      have c50b0 : (t162 == 0) = true := beq_iff_eq.mpr c50
                      have c50b1 : (t162 != 0) = false := bne_eq_false_iff_eq.mpr c50
                      clear c50
                      by_cases c51 : t161.toList = a0.toList
                      · rw [if_pos c51] at H
                        have c51b0 : (t161.toList == a0.toList) = true := beq_iff_eq.mpr c51
                        have c51b1 : (t161.toList != a0.toList) = false := bne_eq_false_iff_eq.mpr c51
                        clear c51
                        simp only [Option.some.injEq, Prod.mk.injEq] at H
                        obtain ⟨rfl, rfl, rfl, rfl, rfl⟩ := H
                        go_wp2_with (first | ((with_reducible refine gate_callee (f := 28) rfl ?_); refine goesL_ (some 57) rfl rfl Tryz.func28 (by kernel_rfl) rfl #[.string a0, .string (⟨#[47, 102, 101, 101, 100, 47]⟩ : ByteArray)] rfl (by (try simp only [List.map_toArray, List.map_cons, List.map_nil]); first | done | rfl | (simp only [List.length_drop, List.length_take]; rfl)) ?_; (with_reducible refine (copydeskref12_after.calls a0 (⟨#[47, 102, 101, 101, 100, 47]⟩ : ByteArray) t157 false _ A31.out).mono ?_); rintro e w' ⟨rfl, ⟨nd, rfl⟩⟩; refine ⟨_, rfl, ?_⟩; (try (rw [drewN_self wc]; generalize hq_ : World.drewN wc _ = wc; have n0_ : Aside0 (wc.heap[gb143]? = some (.cells #[.int .i64 0, .string (⟨#[]⟩ : ByteArray), .int .i64 0, .string (⟨#[]⟩ : ByteArray)] 23 (0, 0))) := ⟨by rw [← hq_]; exact (by (with_reducible repeat (first | refine blk_drewN ?_ _ | refine blk_drew ?_ | refine blk_alloc ?_ _)); exact BK143.out)⟩; have n1_ : Aside0 (wc.heap[gb144]? = some (.cells #[.int .i64 x145000_26, .string x145001_26, .int .i64 x145002_26, .string x145003_26] 23 (0, 0))) := ⟨by rw [← hq_]; exact (by (with_reducible repeat (first | refine blk_drewN ?_ _ | refine blk_drew ?_ | refine blk_alloc ?_ _)); exact BK144.out)⟩; have n2_ : Aside0 (Below w.heap.size w wc) := ⟨by rw [← hq_]; exact (by repeat (first | (with_reducible first | exact HB.out | apply below_alloc | apply pw_below_drewN | apply below_drew1 | refine below_set ?_ GE143.out | refine below_set ?_ GE144.out) | exact HB.out))⟩; clear BK143 BK144 HB hq_; have BK143 := n0_; have BK144 := n1_; have HB := n2_; clear n0_ n1_ n2_)); have hnb52 := NB144_143.out; have hnc52 := NB143_144.out; have hcz53_0 : wc.cell? ⟨gb144, 0, none⟩ = some (.int .i64 x145000_26) := (blk_cell BK144.out 0).trans rfl; have hcz53_1 : wc.cell? ⟨gb144, 1, none⟩ = some (.string x145001_26) := (blk_cell BK144.out 1).trans rfl; have hcz53_2 : wc.cell? ⟨gb144, 2, none⟩ = some (.int .i64 x145002_26) := (blk_cell BK144.out 2).trans rfl; have hcz53_3 : wc.cell? ⟨gb144, 3, none⟩ = some (.string x145003_26) := (blk_cell BK144.out 3).trans rfl; have hfz53_0 := blk_frozen BK144.out 0; have hfz53_1 := blk_frozen BK144.out 1; have hfz53_2 := blk_frozen BK144.out 2; have hfz53_3 := blk_frozen BK144.out 3) | ((with_reducible refine gate_callee (f := 10) rfl ?_); refine goesL_ (some 65) rfl rfl Tryz.func10 (by kernel_rfl) rfl #[.agg #[.int .i64 x145000_26, .string x145001_26, .int .i64 x145002_26, .string x145003_26]] rfl (by (try simp only [List.map_toArray, List.map_cons, List.map_nil]); first | done | rfl | (simp only [List.length_drop, List.length_take]; rfl)) ?_; (with_reducible refine (copydeskref12_Format.calls kj26 x145000_26 x145001_26 x145002_26 x145003_26 t161 t162 _ A49.out).mono ?_); rintro e w54 ⟨rfl, hb⟩; refine ⟨_, rfl, ?_⟩; have n0_ := Aside0.mk (blk_below (g := gb143) (o := .cells #[.int .i64 0, .string (⟨#[]⟩ : ByteArray), .int .i64 0, .string (⟨#[]⟩ : ByteArray)] 23 (0, 0)) (by (with_reducible repeat (first | refine blk_drewN ?_ _ | refine blk_drew ?_ | refine blk_alloc ?_ _)); exact BK143.out) hb); have n1_ := Aside0.mk (blk_below (g := gb144) (o := .cells #[.int .i64 x145000_26, .string x145001_26, .int .i64 x145002_26, .string x145003_26] 23 (0, 0)) (by (with_reducible repeat (first | refine blk_drewN ?_ _ | refine blk_drew ?_ | refine blk_alloc ?_ _)); exact BK144.out) hb); have n2_ := Aside0.mk (below_step (by repeat (first | (with_reducible first | exact HB.out | apply below_alloc | apply pw_below_drewN | apply below_drew1 | refine below_set ?_ GE143.out | refine below_set ?_ GE144.out) | exact HB.out)) hb); clear BK143; clear BK144; clear HB; have BK143 := n0_; have BK144 := n1_; have HB := n2_; clear n0_ n1_ n2_; (try clear hb); (try clear hb2); (try clear hk); (try clear hi); have hcz55_0 : w54.cell? ⟨gb144, 0, none⟩ = some (.int .i64 x145000_26) := (blk_cell BK144.out 0).trans rfl; have hcz55_1 : w54.cell? ⟨gb144, 1, none⟩ = some (.string x145001_26) := (blk_cell BK144.out 1).trans rfl; have hcz55_2 : w54.cell? ⟨gb144, 2, none⟩ = some (.int .i64 x145002_26) := (blk_cell BK144.out 2).trans rfl; have hcz55_3 : w54.cell? ⟨gb144, 3, none⟩ = some (.string x145003_26) := (blk_cell BK144.out 3).trans rfl; have hfz55_0 := blk_frozen BK144.out 0; have hfz55_1 := blk_frozen BK144.out 1; have hfz55_2 := blk_frozen BK144.out 2; have hfz55_3 := blk_frozen BK144.out 3; have hcz56_0 : w54.cell? ⟨gb143, 0, none⟩ = some (.int .i64 0) := (blk_cell BK143.out 0).trans rfl; have hcz56_1 : w54.cell? ⟨gb143, 1, none⟩ = some (.string (⟨#[]⟩ : ByteArray)) := (blk_cell BK143.out 1).trans rfl; have hcz56_2 : w54.cell? ⟨gb143, 2, none⟩ = some (.int .i64 0) := (blk_cell BK143.out 2).trans rfl; have hcz56_3 : w54.cell? ⟨gb143, 3, none⟩ = some (.string (⟨#[]⟩ : ByteArray)) := (blk_cell BK143.out 3).trans rfl; have hfz56_0 := blk_frozen BK143.out 0; have hfz56_1 := blk_frozen BK143.out 1; have hfz56_2 := blk_frozen BK143.out 2; have hfz56_3 := blk_frozen BK143.out 3))
                        refine bodyPost_ret (results_ct rfl _ _ gb143 23 #[.int .i64 x145000_26, .string x145001_26, .int .i64 x145002_26, .string x145003_26] (0, 0) _ rfl (by (with_reducible repeat (first | refine blk_drewN ?_ _ | refine blk_drew ?_ | refine blk_alloc ?_ _)); refine blk_put (cs := #[.int .i64 x145000_26, .string x145001_26, .int .i64 x145002_26, .string (⟨#[]⟩ : ByteArray)]) ?_ 3 _ rfl; (with_reducible repeat (first | refine blk_drewN ?_ _ | refine blk_drew ?_ | refine blk_alloc ?_ _)); refine blk_put (cs := #[.int .i64 x145000_26, .string x145001_26, .int .i64 0, .string (⟨#[]⟩ : ByteArray)]) ?_ 2 _ rfl; (with_reducible repeat (first | refine blk_drewN ?_ _ | refine blk_drew ?_ | refine blk_alloc ?_ _)); refine blk_put (cs := #[.int .i64 x145000_26, .string (⟨#[]⟩ : ByteArray), .int .i64 0, .string (⟨#[]⟩ : ByteArray)]) ?_ 1 _ rfl; (with_reducible repeat (first | refine blk_drewN ?_ _ | refine blk_drew ?_ | refine blk_alloc ?_ _)); refine blk_put (cs := #[.int .i64 0, .string (⟨#[]⟩ : ByteArray), .int .i64 0, .string (⟨#[]⟩ : ByteArray)]) ?_ 0 _ rfl; (with_reducible repeat (first | refine blk_drewN ?_ _ | refine blk_drew ?_ | refine blk_alloc ?_ _)); exact BK143.out) Tryz.underlying23 rfl (by kernel_rfl)) rfl ?_
                        exact ⟨by first | rfl | (simp [errW_none, errW_some] <;> rfl) | (simp [*, errW_none, errW_some] <;> rfl), by repeat (first | (with_reducible first | exact HB.out | apply below_alloc | apply pw_below_drewN | apply below_drew1 | refine below_set ?_ GE143.out | refine below_set ?_ GE144.out) | exact HB.out)⟩
                      · rw [if_neg c51] at H
                        have c51b0 : (t161.toList == a0.toList) = false := beq_eq_false_iff_ne.mpr c51
                        have c51b1 : (t161.toList != a0.toList) = true := bne_iff_ne.mpr c51
                        simp only [Option.some.injEq, Prod.mk.injEq] at H
                        obtain ⟨rfl, rfl, rfl, rfl, rfl⟩ := H
                        go_wp2_with (first | ((with_reducible refine gate_callee (f := 28) rfl ?_); refine goesL_ (some 57) rfl rfl Tryz.func28 (by kernel_rfl) rfl #[.string a0, .string (⟨#[47, 102, 101, 101, 100, 47]⟩ : ByteArray)] rfl (by (try simp only [List.map_toArray, List.map_cons, List.map_nil]); first | done | rfl | (simp only [List.length_drop, List.length_take]; rfl)) ?_; (with_reducible refine (copydeskref12_after.calls a0 (⟨#[47, 102, 101, 101, 100, 47]⟩ : ByteArray) t157 false _ A31.out).mono ?_); rintro e w' ⟨rfl, ⟨nd, rfl⟩⟩; refine ⟨_, rfl, ?_⟩; (try (rw [drewN_self wc]; generalize hq_ : World.drewN wc _ = wc; have n0_ : Aside0 (wc.heap[gb143]? = some (.cells #[.int .i64 0, .string (⟨#[]⟩ : ByteArray), .int .i64 0, .string (⟨#[]⟩ : ByteArray)] 23 (0, 0))) := ⟨by rw [← hq_]; exact (by (with_reducible repeat (first | refine blk_drewN ?_ _ | refine blk_drew ?_ | refine blk_alloc ?_ _)); exact BK143.out)⟩; have n1_ : Aside0 (wc.heap[gb144]? = some (.cells #[.int .i64 x145000_26, .string x145001_26, .int .i64 x145002_26, .string x145003_26] 23 (0, 0))) := ⟨by rw [← hq_]; exact (by (with_reducible repeat (first | refine blk_drewN ?_ _ | refine blk_drew ?_ | refine blk_alloc ?_ _)); exact BK144.out)⟩; have n2_ : Aside0 (Below w.heap.size w wc) := ⟨by rw [← hq_]; exact (by repeat (first | (with_reducible first | exact HB.out | apply below_alloc | apply pw_below_drewN | apply below_drew1 | refine below_set ?_ GE143.out | refine below_set ?_ GE144.out) | exact HB.out))⟩; clear BK143 BK144 HB hq_; have BK143 := n0_; have BK144 := n1_; have HB := n2_; clear n0_ n1_ n2_)); have hnb57 := NB144_143.out; have hnc57 := NB143_144.out; have hcz58_0 : wc.cell? ⟨gb144, 0, none⟩ = some (.int .i64 x145000_26) := (blk_cell BK144.out 0).trans rfl; have hcz58_1 : wc.cell? ⟨gb144, 1, none⟩ = some (.string x145001_26) := (blk_cell BK144.out 1).trans rfl; have hcz58_2 : wc.cell? ⟨gb144, 2, none⟩ = some (.int .i64 x145002_26) := (blk_cell BK144.out 2).trans rfl; have hcz58_3 : wc.cell? ⟨gb144, 3, none⟩ = some (.string x145003_26) := (blk_cell BK144.out 3).trans rfl; have hfz58_0 := blk_frozen BK144.out 0; have hfz58_1 := blk_frozen BK144.out 1; have hfz58_2 := blk_frozen BK144.out 2; have hfz58_3 := blk_frozen BK144.out 3) | ((with_reducible refine gate_callee (f := 10) rfl ?_); refine goesL_ (some 65) rfl rfl Tryz.func10 (by kernel_rfl) rfl #[.agg #[.int .i64 x145000_26, .string x145001_26, .int .i64 x145002_26, .string x145003_26]] rfl (by (try simp only [List.map_toArray, List.map_cons, List.map_nil]); first | done | rfl | (simp only [List.length_drop, List.length_take]; rfl)) ?_; (with_reducible refine (copydeskref12_Format.calls kj26 x145000_26 x145001_26 x145002_26 x145003_26 t161 t162 _ A49.out).mono ?_); rintro e w59 ⟨rfl, hb⟩; refine ⟨_, rfl, ?_⟩; have n0_ := Aside0.mk (blk_below (g := gb143) (o := .cells #[.int .i64 0, .string (⟨#[]⟩ : ByteArray), .int .i64 0, .string (⟨#[]⟩ : ByteArray)] 23 (0, 0)) (by (with_reducible repeat (first | refine blk_drewN ?_ _ | refine blk_drew ?_ | refine blk_alloc ?_ _)); exact BK143.out) hb); have n1_ := Aside0.mk (blk_below (g := gb144) (o := .cells #[.int .i64 x145000_26, .string x145001_26, .int .i64 x145002_26, .string x145003_26] 23 (0, 0)) (by (with_reducible repeat (first | refine blk_drewN ?_ _ | refine blk_drew ?_ | refine blk_alloc ?_ _)); exact BK144.out) hb); have n2_ := Aside0.mk (below_step (by repeat (first | (with_reducible first | exact HB.out | apply below_alloc | apply pw_below_drewN | apply below_drew1 | refine below_set ?_ GE143.out | refine below_set ?_ GE144.out) | exact HB.out)) hb); clear BK143; clear BK144; clear HB; have BK143 := n0_; have BK144 := n1_; have HB := n2_; clear n0_ n1_ n2_; (try clear hb); (try clear hb2); (try clear hk); (try clear hi); have hcz60_0 : w59.cell? ⟨gb143, 0, none⟩ = some (.int .i64 0) := (blk_cell BK143.out 0).trans rfl; have hcz60_1 : w59.cell? ⟨gb143, 1, none⟩ = some (.string (⟨#[]⟩ : ByteArray)) := (blk_cell BK143.out 1).trans rfl; have hcz60_2 : w59.cell? ⟨gb143, 2, none⟩ = some (.int .i64 0) := (blk_cell BK143.out 2).trans rfl; have hcz60_3 : w59.cell? ⟨gb143, 3, none⟩ = some (.string (⟨#[]⟩ : ByteArray)) := (blk_cell BK143.out 3).trans rfl; have hfz60_0 := blk_frozen BK143.out 0; have hfz60_1 := blk_frozen BK143.out 1; have hfz60_2 := blk_frozen BK143.out 2; have hfz60_3 := blk_frozen BK143.out 3))
                        refine bodyPost_ret (results_ct rfl _ _ gb143 23 #[.int .i64 0, .string (⟨#[]⟩ : ByteArray), .int .i64 0, .string (⟨#[]⟩ : ByteArray)] (0, 0) _ rfl (by (with_reducible repeat (first | refine blk_drewN ?_ _ | refine blk_drew ?_ | refine blk_alloc ?_ _)); refine blk_put (cs := #[.int .i64 0, .string (⟨#[]⟩ : ByteArray), .int .i64 0, .string (⟨#[]⟩ : ByteArray)]) ?_ 3 _ rfl; (with_reducible repeat (first | refine blk_drewN ?_ _ | refine blk_drew ?_ | refine blk_alloc ?_ _)); refine blk_put (cs := #[.int .i64 0, .string (⟨#[]⟩ : ByteArray), .int .i64 0, .string (⟨#[]⟩ : ByteArray)]) ?_ 2 _ rfl; (with_reducible repeat (first | refine blk_drewN ?_ _ | refine blk_drew ?_ | refine blk_alloc ?_ _)); refine blk_put (cs := #[.int .i64 0, .string (⟨#[]⟩ : ByteArray), .int .i64 0, .string (⟨#[]⟩ : ByteArray)]) ?_ 1 _ rfl; (with_reducible repeat (first | refine blk_drewN ?_ _ | refine blk_drew ?_ | refine blk_alloc ?_ _)); refine blk_put (cs := #[.int .i64 0, .string (⟨#[]⟩ : ByteArray), .int .i64 0, .string (⟨#[]⟩ : ByteArray)]) ?_ 0 _ rfl; (with_reducible repeat (first | refine blk_drewN ?_ _ | refine blk_drew ?_ | refine blk_alloc ?_ _)); exact BK143.out) Tryz.underlying23 rfl (by kernel_rfl)) rfl ?_
                        exact ⟨by first | rfl | (simp [errW_none, errW_some] <;> rfl) | (simp [*, errW_none, errW_some] <;> rfl), by repeat (first | (with_reducible first | exact HB.out | apply below_alloc | apply pw_below_drewN | apply below_drew1 | refine below_set ?_ GE143.out | refine below_set ?_ GE144.out) | exact HB.out)⟩
                    · rw [if_neg c50] at H
                      have c50b0 : (t162 == 0) = false := beq_eq_false_iff_ne.mpr c50
                      have c50b1 : (t162 != 0) = true := bne_iff_ne.mpr c50
                      simp only [Option.some.injEq, Prod.mk.injEq] at H
                      obtain ⟨rfl, rfl, rfl, rfl, rfl⟩ := H
                      go_wp2_with (first | ((with_reducible refine gate_callee (f := 28) rfl ?_); refine goesL_ (some 57) rfl rfl Tryz.func28 (by kernel_rfl) rfl #[.string a0, .string (⟨#[47, 102, 101, 101, 100, 47]⟩ : ByteArray)] rfl (by (try simp only [List.map_toArray, List.map_cons, List.map_nil]); first | done | rfl | (simp only [List.length_drop, List.length_take]; rfl)) ?_; (with_reducible refine (copydeskref12_after.calls a0 (⟨#[47, 102, 101, 101, 100, 47]⟩ : ByteArray) t157 false _ A31.out).mono ?_); rintro e w' ⟨rfl, ⟨nd, rfl⟩⟩; refine ⟨_, rfl, ?_⟩; (try (rw [drewN_self wc]; generalize hq_ : World.drewN wc _ = wc; have n0_ : Aside0 (wc.heap[gb143]? = some (.cells #[.int .i64 0, .string (⟨#[]⟩ : ByteArray), .int .i64 0, .string (⟨#[]⟩ : ByteArray)] 23 (0, 0))) := ⟨by rw [← hq_]; exact (by (with_reducible repeat (first | refine blk_drewN ?_ _ | refine blk_drew ?_ | refine blk_alloc ?_ _)); exact BK143.out)⟩; have n1_ : Aside0 (wc.heap[gb144]? = some (.cells #[.int .i64 x145000_26, .string x145001_26, .int .i64 x145002_26, .string x145003_26] 23 (0, 0))) := ⟨by rw [← hq_]; exact (by (with_reducible repeat (first | refine blk_drewN ?_ _ | refine blk_drew ?_ | refine blk_alloc ?_ _)); exact BK144.out)⟩; have n2_ : Aside0 (Below w.heap.size w wc) := ⟨by rw [← hq_]; exact (by repeat (first | (with_reducible first | exact HB.out | apply below_alloc | apply pw_below_drewN | apply below_drew1 | refine below_set ?_ GE143.out | refine below_set ?_ GE144.out) | exact HB.out))⟩; clear BK143 BK144 HB hq_; have BK143 := n0_; have BK144 := n1_; have HB := n2_; clear n0_ n1_ n2_)); have hnb61 := NB144_143.out; have hnc61 := NB143_144.out; have hcz62_0 : wc.cell? ⟨gb144, 0, none⟩ = some (.int .i64 x145000_26) := (blk_cell BK144.out 0).trans rfl; have hcz62_1 : wc.cell? ⟨gb144, 1, none⟩ = some (.string x145001_26) := (blk_cell BK144.out 1).trans rfl; have hcz62_2 : wc.cell? ⟨gb144, 2, none⟩ = some (.int .i64 x145002_26) := (blk_cell BK144.out 2).trans rfl; have hcz62_3 : wc.cell? ⟨gb144, 3, none⟩ = some (.string x145003_26) := (blk_cell BK144.out 3).trans rfl; have hfz62_0 := blk_frozen BK144.out 0; have hfz62_1 := blk_frozen BK144.out 1; have hfz62_2 := blk_frozen BK144.out 2; have hfz62_3 := blk_frozen BK144.out 3) | ((with_reducible refine gate_callee (f := 10) rfl ?_); refine goesL_ (some 65) rfl rfl Tryz.func10 (by kernel_rfl) rfl #[.agg #[.int .i64 x145000_26, .string x145001_26, .int .i64 x145002_26, .string x145003_26]] rfl (by (try simp only [List.map_toArray, List.map_cons, List.map_nil]); first | done | rfl | (simp only [List.length_drop, List.length_take]; rfl)) ?_; (with_reducible refine (copydeskref12_Format.calls kj26 x145000_26 x145001_26 x145002_26 x145003_26 t161 t162 _ A49.out).mono ?_); rintro e w63 ⟨rfl, hb⟩; refine ⟨_, rfl, ?_⟩; have n0_ := Aside0.mk (blk_below (g := gb143) (o := .cells #[.int .i64 0, .string (⟨#[]⟩ : ByteArray), .int .i64 0, .string (⟨#[]⟩ : ByteArray)] 23 (0, 0)) (by (with_reducible repeat (first | refine blk_drewN ?_ _ | refine blk_drew ?_ | refine blk_alloc ?_ _)); exact BK143.out) hb); have n1_ := Aside0.mk (blk_below (g := gb144) (o := .cells #[.int .i64 x145000_26, .string x145001_26, .int .i64 x145002_26, .string x145003_26] 23 (0, 0)) (by (with_reducible repeat (first | refine blk_drewN ?_ _ | refine blk_drew ?_ | refine blk_alloc ?_ _)); exact BK144.out) hb); have n2_ := Aside0.mk (below_step (by repeat (first | (with_reducible first | exact HB.out | apply below_alloc | apply pw_below_drewN | apply below_drew1 | refine below_set ?_ GE143.out | refine below_set ?_ GE144.out) | exact HB.out)) hb); clear BK143; clear BK144; clear HB; have BK143 := n0_; have BK144 := n1_; have HB := n2_; clear n0_ n1_ n2_; (try clear hb); (try clear hb2); (try clear hk); (try clear hi); have hcz64_0 : w63.cell? ⟨gb143, 0, none⟩ = some (.int .i64 0) := (blk_cell BK143.out 0).trans rfl; have hcz64_1 : w63.cell? ⟨gb143, 1, none⟩ = some (.string (⟨#[]⟩ : ByteArray)) := (blk_cell BK143.out 1).trans rfl; have hcz64_2 : w63.cell? ⟨gb143, 2, none⟩ = some (.int .i64 0) := (blk_cell BK143.out 2).trans rfl; have hcz64_3 : w63.cell? ⟨gb143, 3, none⟩ = some (.string (⟨#[]⟩ : ByteArray)) := (blk_cell BK143.out 3).trans rfl; have hfz64_0 := blk_frozen BK143.out 0; have hfz64_1 := blk_frozen BK143.out 1; have hfz64_2 := blk_frozen BK143.out 2; have hfz64_3 := blk_frozen BK143.out 3))
                      refine bodyPost_ret (results_ct rfl _ _ gb143 23 #[.int .i64 0, .string (⟨#[]⟩ : ByteArray), .int .i64 0, .string (⟨#[]⟩ : ByteArray)] (0, 0) _ rfl (by (with_reducible repeat (first | refine blk_drewN ?_ _ | refine blk_drew ?_ | refine blk_alloc ?_ _)); refine blk_put (cs := #[.int .i64 0, .string (⟨#[]⟩ : ByteArray), .int .i64 0, .string (⟨#[]⟩ : ByteArray)]) ?_ 3 _ rfl; (with_reducible repeat (first | refine blk_drewN ?_ _ | refine blk_drew ?_ | refine blk_alloc ?_ _)); refine blk_put (cs := #[.int .i64 0, .string (⟨#[]⟩ : ByteArray), .int .i64 0, .string (⟨#[]⟩ : ByteArray)]) ?_ 2 _ rfl; (with_reducible repeat (first | refine blk_drewN ?_ _ | refine blk_drew ?_ | refine blk_alloc ?_ _)); refine blk_put (cs := #[.int .i64 0, .string (⟨#[]⟩ : ByteArray), .int .i64 0, .string (⟨#[]⟩ : ByteArray)]) ?_ 1 _ rfl; (with_reducible repeat (first | refine blk_drewN ?_ _ | refine blk_drew ?_ | refine blk_alloc ?_ _)); refine blk_put (cs := #[.int .i64 0, .string (⟨#[]⟩ : ByteArray), .int .i64 0, .string (⟨#[]⟩ : ByteArray)]) ?_ 0 _ rfl; (with_reducible repeat (first | refine blk_drewN ?_ _ | refine blk_drew ?_ | refine blk_alloc ?_ _)); exact BK143.out) Tryz.underlying23 rfl (by kernel_rfl)) rfl ?_
                      exact ⟨by first | rfl | (simp [errW_none, errW_some] <;> rfl) | (simp [*, errW_none, errW_some] <;> rfl), by repeat (first | (with_reducible first | exact HB.out | apply below_alloc | apply pw_below_drewN | apply below_drew1 | refine below_set ?_ GE143.out | refine below_set ?_ GE144.out) | exact HB.out)⟩

end Go.Proofs.YtdfjpbdfafpfgaaGreatDoor.PX

-- Written by wip/pr.py, a program of this session, that runs the kit's printer with contracts of our own put in. Lean checks it.
namespace Go.Proofs.YtdfjpbdfafpfgaaGreatDoor.PX
open Go.RowKit Go.Proofs.YtdfjpbdfafpfgaaGreatDoorW.PrintWords Go.Proofs.YtdfjpbdfafpfgaaGreatDoorW.PrintLast Go.Proofs.YtdfjpbdfafpfgaaGreatDoorW.PrintMore
attribute [local go_sem] max2_int min2_int max_two min_two max_three min_three max_four min_four   -- for this text's walks alone
set_option linter.unusedVariables false
set_option linter.unusedSimpArgs false

attribute [local go_sem high] eqA23
/-! ### copydesklaw12_AddressParseMatchesReference: function 4 -/
def copydesklaw12_AddressParseMatchesReference.f (k : Nat) (a0 : ByteArray) : Option (Bool) := (copydesklaw12_sane.f).bind fun t163 => (if 0 ≤ (mn (a0.size : Int) 100) then (if (mn (a0.size : Int) 100) ≤ (a0.size : Int) then ((address_Parse.f (a0.extract 0 ((mn (a0.size : Int) 100) : Int).toNat)).bind fun bt164 => ((copydeskref12_Parse.f k (a0.extract 0 ((mn (a0.size : Int) 100) : Int).toNat)).bind fun bt170 => (if t163 = true then (if (bt164.1 == bt170.1 && (bt164.2.1.toList == bt170.2.1.toList && (bt164.2.2.1 == bt170.2.2.1 && (bt164.2.2.2.1.toList == bt170.2.2.2.1.toList)))) = true then (some (bt164.2.2.2.2 == bt170.2.2.2.2)) else (some false)) else (some false)))) else (none)) else (none))
theorem copydesklaw12_AddressParseMatchesReference.mono : ∀ a0 k, LeO (copydesklaw12_AddressParseMatchesReference.f k a0) (copydesklaw12_AddressParseMatchesReference.f (k + 1) a0) := by
  intro a0 k
  unfold copydesklaw12_AddressParseMatchesReference.f
  repeat' first
      | (with_reducible exact copydeskref12_Parse.mono _ _)
      | (with_reducible exact LeO.refl _)
      | (with_reducible exact LeO.none _)
      | (with_reducible refine LeO.ite ?_ ?_)
      | (with_reducible refine LeO.bind ?_ (fun _ => ?_))
      | exact copydeskref12_Parse.mono _ _
      | exact LeO.none _
      | refine LeO.ite ?_ ?_
      | refine LeO.bind ?_ (fun _ => ?_)
set_option maxHeartbeats 8000000 in
set_option maxRecDepth 100000 in
theorem copydesklaw12_AddressParseMatchesReference.calls (k : Nat) (a0 : ByteArray) (r : Bool) (w : World) (hG : Go.Proofs.YtdfjpbdfafpfgaaGreatDoor.Lex.Gl w) (h : copydesklaw12_AddressParseMatchesReference.f k a0 = some r) :
    Calls Tryz.prog 4 #[.string a0] w fun e w' => e = .returned (.bool r) ∧ Below w.heap.size w w' := by
  have hu23 := Tryz.underlying23
  have HG := Aside0.mk hG
  clear hG
  have HB := Aside0.mk (Below.refl w.heap.size w)
  have H : ((copydesklaw12_sane.f).bind fun t163 => (if 0 ≤ (mn (a0.size : Int) 100) then (if (mn (a0.size : Int) 100) ≤ (a0.size : Int) then ((address_Parse.f (a0.extract 0 ((mn (a0.size : Int) 100) : Int).toNat)).bind fun bt164 => ((copydeskref12_Parse.f k (a0.extract 0 ((mn (a0.size : Int) 100) : Int).toNat)).bind fun bt170 => (if t163 = true then (if (bt164.1 == bt170.1 && (bt164.2.1.toList == bt170.2.1.toList && (bt164.2.2.1 == bt170.2.2.1 && (bt164.2.2.2.1.toList == bt170.2.2.2.1.toList)))) = true then (some (bt164.2.2.2.2 == bt170.2.2.2.2)) else (some false)) else (some false)))) else (none)) else (none))) = some r := h
  clear h
  replace H := Option.bind_eq_some_iff.mp H
  obtain ⟨t163, A20, H⟩ := H
  replace H : (if 0 ≤ (mn (a0.size : Int) 100) then (if (mn (a0.size : Int) 100) ≤ (a0.size : Int) then ((address_Parse.f (a0.extract 0 ((mn (a0.size : Int) 100) : Int).toNat)).bind fun bt164 => ((copydeskref12_Parse.f k (a0.extract 0 ((mn (a0.size : Int) 100) : Int).toNat)).bind fun bt170 => (if t163 = true then (if (bt164.1 == bt170.1 && (bt164.2.1.toList == bt170.2.1.toList && (bt164.2.2.1 == bt170.2.2.1 && (bt164.2.2.2.1.toList == bt170.2.2.2.1.toList)))) = true then (some (bt164.2.2.2.2 == bt170.2.2.2.2)) else (some false)) else (some false)))) else (none)) else (none)) = some r := H
  have A2 := Aside0.mk A20
  clear A20
  obtain ⟨ji3, hji3⟩ : ∃ j_ : Int, (mn (a0.size : Int) 100) = j_ := ⟨_, rfl⟩
  replace H : (if 0 ≤ (ji3) then (if (ji3) ≤ (a0.size : Int) then ((address_Parse.f (a0.extract 0 ((ji3) : Int).toNat)).bind fun bt164 => ((copydeskref12_Parse.f k (a0.extract 0 ((ji3) : Int).toNat)).bind fun bt170 => (if t163 = true then (if (bt164.1 == bt170.1 && (bt164.2.1.toList == bt170.2.1.toList && (bt164.2.2.1 == bt170.2.2.1 && (bt164.2.2.2.1.toList == bt170.2.2.2.1.toList)))) = true then (some (bt164.2.2.2.2 == bt170.2.2.2.2)) else (some false)) else (some false)))) else (none)) else (none)) = some r := by first | (rw [hji3] at H; exact H) | (simp only [hji3] at H ⊢; exact H)
  (try rw [hji3] at A2)
  (try (have hji3h : ji3 ≤ 100 := by (rw [← hji3]; unfold mn; (repeat' split) <;> omega)))
  (try (have hji3g : ji3 ≤ 64 := by omega))
  (try (have hji3l : 0 ≤ ji3 := by (rw [← hji3]; unfold mn; (repeat' split) <;> omega)))
  (try (have hji3m : 0 ≤ ji3 := by omega))
  have hji3_ : (if 100 < (a0.size : Int) then 100 else (a0.size : Int)) = ji3 := hji3
  by_cases c4 : 0 ≤ (ji3)
  · rw [if_pos c4] at H
    have c4b0 := eq_true c4
    have c4b1 : decide (0 ≤ (ji3)) = true := decide_eq_true c4
    clear c4
    by_cases c5 : (ji3) ≤ (a0.size : Int)
    · rw [if_pos c5] at H
      have c5b0 := eq_true c5
      have c5b1 : decide ((ji3) ≤ (a0.size : Int)) = true := decide_eq_true c5
      clear c5
      replace H := Option.bind_eq_some_iff.mp H
      obtain ⟨⟨t164, t165, t166, t167, t168⟩, A60, H⟩ := H
      replace H : ((copydeskref12_Parse.f k (a0.extract 0 ((ji3) : Int).toNat)).bind fun bt170 => (if t163 = true then (if (t164 == bt170.1 && (t165.toList == bt170.2.1.toList && (t166 == bt170.2.2.1 && (t167.toList == bt170.2.2.2.1.toList)))) = true then (some (t168 == bt170.2.2.2.2)) else (some false)) else (some false))) = some r := H
      have A6 := Aside0.mk A60
      clear A60
      replace H := Option.bind_eq_some_iff.mp H
      obtain ⟨⟨t170, t171, t172, t173, t174⟩, A70, H⟩ := H
      replace H : (if t163 = true then (if (t164 == t170 && (t165.toList == t171.toList && (t166 == t172 && (t167.toList == t173.toList)))) = true then (some (t168 == t174)) else (some false)) else (some false)) = some r := H
      have A7 := Aside0.mk A70
      clear A70
      by_cases c8 : t163 = true
      · subst c8
        have H1 : (if (t164 == t170 && (t165.toList == t171.toList && (t166 == t172 && (t167.toList == t173.toList)))) = true then (some (t168 == t174)) else (some false)) = some r := by rw [if_pos rfl] at H; exact H
        clear H
        have H := H1
        clear H1
        by_cases c9 : (t164 == t170 && (t165.toList == t171.toList && (t166 == t172 && (t167.toList == t173.toList)))) = true
        · rw [if_pos c9] at H
          have c9b0 : (t164 == t170 && (t165.toList == t171.toList && (t166 == t172 && (t167.toList == t173.toList)))) = true := c9
          (try (have c9b1 : decide (t164 = t170 && (t165.toList == t171.toList && (t166 == t172 && (t167.toList == t173.toList)))) = true := by simpa using c9))
          (try (have c9b2 : (t164 == t170 && (t165.toList == t171.toList && (t166 == t172 && (t167.toList == t173.toList)))) = true := by simpa using c9))
          clear c9
          obtain rfl := Option.some.inj H
          go_enter Tryz.func4, Tryz.ntmps4
          go_wp2_with (first | ((with_reducible refine gate_callee (f := 7) rfl ?_); refine goesL_ (some 8) rfl rfl Tryz.func7 (by kernel_rfl) rfl #[] rfl (by (try simp only [List.map_toArray, List.map_cons, List.map_nil]); first | done | rfl | (simp only [List.length_drop, List.length_take]; rfl)) ?_; (with_reducible refine (copydesklaw12_sane.calls  true _ ?side99 A2.out).mono ?_); (case side99 => first | exact HG.out | exact Go.Proofs.YtdfjpbdfafpfgaaGreatDoor.Lex.Gl.below HG.out (by repeat (first | (with_reducible first | exact HB.out | apply below_alloc | apply pw_below_drewN | apply below_drew1) | exact HB.out))); rintro e w10 ⟨rfl, hb⟩; refine ⟨_, rfl, ?_⟩; have n0_ := Aside0.mk (below_step (by repeat (first | (with_reducible first | exact HB.out | apply below_alloc | apply pw_below_drewN | apply below_drew1) | exact HB.out)) hb); clear HB; have HB := n0_; clear n0_; (try clear hb); (try clear hb2); (try clear hk); (try clear hi)) | ((with_reducible refine gate_callee (f := 15) rfl ?_); refine goesL_ (some 16) rfl rfl Tryz.func15 (by kernel_rfl) rfl #[.string (a0.extract 0 ((ji3) : Int).toNat)] rfl (by (try simp only [List.map_toArray, List.map_cons, List.map_nil]); first | done | (simp only [hji3]; rfl) | rfl | (simp only [List.length_drop, List.length_take]; rfl)) ?_; (with_reducible refine (address_Parse.calls (a0.extract 0 ((ji3) : Int).toNat) t164 t165 t166 t167 t168 _ ?side99 A6.out).mono ?_); (case side99 => first | exact HG.out | exact Go.Proofs.YtdfjpbdfafpfgaaGreatDoor.Lex.Gl.below HG.out (by repeat (first | (with_reducible first | exact HB.out | apply below_alloc | apply pw_below_drewN | apply below_drew1) | exact HB.out))); rintro e w11 ⟨rfl, hb⟩; refine ⟨_, rfl, ?_⟩; have n0_ := Aside0.mk (below_step (by repeat (first | (with_reducible first | exact HB.out | apply below_alloc | apply pw_below_drewN | apply below_drew1) | exact HB.out)) hb); clear HB; have HB := n0_; clear n0_; (try clear hb); (try clear hb2); (try clear hk); (try clear hi)) | ((with_reducible refine gate_dst (N := 4) rfl ?_); refine box_event ?hg (N := 4) ?hd (cs := #[.int .i64 0, .string (⟨#[]⟩ : ByteArray), .int .i64 0, .string (⟨#[]⟩ : ByteArray)]) (t := 23) ?hr ?_; (case hd => rfl); (case hg => rfl); (case hr => first | (go_simp; done) | (go_simp; rfl)); intro gb169 hg w12 hbox hb; have n0_ := Aside0.mk (below_step (by repeat (first | (with_reducible first | exact HB.out | apply below_alloc | apply pw_below_drewN | apply below_drew1) | exact HB.out)) hb); have n1_ := Aside0.mk (hbox); have n2_ := Aside0.mk ((by rw [hg]; exact (below_size (by repeat (first | (with_reducible first | exact HB.out | apply below_alloc | apply pw_below_drewN | apply below_drew1) | exact HB.out))) : w.heap.size ≤ gb169)); have n3_ := Aside0.mk ((by rw [hg]; exact (below_size (by repeat (first | (with_reducible first | exact HB.out | apply below_alloc | apply pw_below_drewN | apply below_drew1) | exact HB.out))) : w.heap.size ≤ gb169)); clear HB; have HB := n0_; have BK169 := n1_; have GW169 := n2_; have GE169 := n3_; clear n0_ n1_ n2_ n3_; clear hb hbox hg; have hcz13_0 : w12.cell? ⟨gb169, 0, none⟩ = some (.int .i64 0) := (blk_cell BK169.out 0).trans rfl; have hcz13_1 : w12.cell? ⟨gb169, 1, none⟩ = some (.string (⟨#[]⟩ : ByteArray)) := (blk_cell BK169.out 1).trans rfl; have hcz13_2 : w12.cell? ⟨gb169, 2, none⟩ = some (.int .i64 0) := (blk_cell BK169.out 2).trans rfl; have hcz13_3 : w12.cell? ⟨gb169, 3, none⟩ = some (.string (⟨#[]⟩ : ByteArray)) := (blk_cell BK169.out 3).trans rfl; have hfz13_0 := blk_frozen BK169.out 0; have hfz13_1 := blk_frozen BK169.out 1; have hfz13_2 := blk_frozen BK169.out 2; have hfz13_3 := blk_frozen BK169.out 3) | ((with_reducible refine gate_callee (f := 16) rfl ?_); refine goesL_ (some 21) rfl rfl Tryz.func16 (by kernel_rfl) rfl #[.string (a0.extract 0 ((ji3) : Int).toNat)] rfl (by (try simp only [List.map_toArray, List.map_cons, List.map_nil]); first | done | (simp only [hji3]; rfl) | rfl | (simp only [List.length_drop, List.length_take]; rfl)) ?_; (with_reducible refine (copydeskref12_Parse.calls k (a0.extract 0 ((ji3) : Int).toNat) t170 t171 t172 t173 t174 _ A7.out).mono ?_); rintro e w14 ⟨rfl, hb⟩; refine ⟨_, rfl, ?_⟩; have n0_ := Aside0.mk (blk_below (g := gb169) (o := .cells #[.int .i64 t164, .string t165, .int .i64 t166, .string t167] 23 (0, 0)) (by (with_reducible repeat (first | refine blk_drewN ?_ _ | refine blk_drew ?_ | refine blk_alloc ?_ _)); refine blk_put (cs := #[.int .i64 t164, .string t165, .int .i64 t166, .string (⟨#[]⟩ : ByteArray)]) ?_ 3 _ rfl; (with_reducible repeat (first | refine blk_drewN ?_ _ | refine blk_drew ?_ | refine blk_alloc ?_ _)); refine blk_put (cs := #[.int .i64 t164, .string t165, .int .i64 0, .string (⟨#[]⟩ : ByteArray)]) ?_ 2 _ rfl; (with_reducible repeat (first | refine blk_drewN ?_ _ | refine blk_drew ?_ | refine blk_alloc ?_ _)); refine blk_put (cs := #[.int .i64 t164, .string (⟨#[]⟩ : ByteArray), .int .i64 0, .string (⟨#[]⟩ : ByteArray)]) ?_ 1 _ rfl; (with_reducible repeat (first | refine blk_drewN ?_ _ | refine blk_drew ?_ | refine blk_alloc ?_ _)); refine blk_put (cs := #[.int .i64 0, .string (⟨#[]⟩ : ByteArray), .int .i64 0, .string (⟨#[]⟩ : ByteArray)]) ?_ 0 _ rfl; (with_reducible repeat (first | refine blk_drewN ?_ _ | refine blk_drew ?_ | refine blk_alloc ?_ _)); exact BK169.out) hb); have n1_ := Aside0.mk (below_step (by repeat (first | (with_reducible first | exact HB.out | apply below_alloc | apply pw_below_drewN | apply below_drew1 | refine below_set ?_ GE169.out) | exact HB.out)) hb); clear BK169; clear HB; have BK169 := n0_; have HB := n1_; clear n0_ n1_; (try clear hb); (try clear hb2); (try clear hk); (try clear hi)) | ((with_reducible refine gate_dst (N := 6) rfl ?_); refine box_event ?hg (N := 6) ?hd (cs := #[.int .i64 0, .string (⟨#[]⟩ : ByteArray), .int .i64 0, .string (⟨#[]⟩ : ByteArray)]) (t := 23) ?hr ?_; (case hd => rfl); (case hg => rfl); (case hr => first | (go_simp; done) | (go_simp; rfl)); intro gb175 hg w15 hbox hb; have n0_ := Aside0.mk (blk_below (g := gb169) (o := .cells #[.int .i64 t164, .string t165, .int .i64 t166, .string t167] 23 (0, 0)) (by (with_reducible repeat (first | refine blk_drewN ?_ _ | refine blk_drew ?_ | refine blk_alloc ?_ _)); exact BK169.out) hb); have n1_ := Aside0.mk (below_step (by repeat (first | (with_reducible first | exact HB.out | apply below_alloc | apply pw_below_drewN | apply below_drew1 | refine below_set ?_ GE169.out) | exact HB.out)) hb); have n2_ := Aside0.mk (hbox); have n3_ := Aside0.mk ((by rw [hg]; exact (below_size (by repeat (first | (with_reducible first | exact HB.out | apply below_alloc | apply pw_below_drewN | apply below_drew1 | refine below_set ?_ GE169.out) | exact HB.out))) : w.heap.size ≤ gb175)); have n4_ := Aside0.mk ((by rw [hg]; exact (below_size (by repeat (first | (with_reducible first | exact HB.out | apply below_alloc | apply pw_below_drewN | apply below_drew1 | refine below_set ?_ GE169.out) | exact HB.out))) : w.heap.size ≤ gb175)); have n5_ := Aside0.mk ((by rw [hg]; exact Nat.ne_of_lt (blk_lt (g := gb169) (o := .cells #[.int .i64 t164, .string t165, .int .i64 t166, .string t167] 23 (0, 0)) (by (with_reducible repeat (first | refine blk_drewN ?_ _ | refine blk_drew ?_ | refine blk_alloc ?_ _)); exact BK169.out)) : gb169 ≠ gb175)); have n6_ := Aside0.mk ((by rw [hg]; exact Nat.ne_of_gt (blk_lt (g := gb169) (o := .cells #[.int .i64 t164, .string t165, .int .i64 t166, .string t167] 23 (0, 0)) (by (with_reducible repeat (first | refine blk_drewN ?_ _ | refine blk_drew ?_ | refine blk_alloc ?_ _)); exact BK169.out)) : gb175 ≠ gb169)); clear BK169; clear HB; have BK169 := n0_; have HB := n1_; have BK175 := n2_; have GW175 := n3_; have GE175 := n4_; have NB169_175 := n5_; have NB175_169 := n6_; clear n0_ n1_ n2_ n3_ n4_ n5_ n6_; clear hb hbox hg; have hnb16 := NB175_169.out; have hnc16 := NB169_175.out; have hcz17_0 : w15.cell? ⟨gb175, 0, none⟩ = some (.int .i64 0) := (blk_cell BK175.out 0).trans rfl; have hcz17_1 : w15.cell? ⟨gb175, 1, none⟩ = some (.string (⟨#[]⟩ : ByteArray)) := (blk_cell BK175.out 1).trans rfl; have hcz17_2 : w15.cell? ⟨gb175, 2, none⟩ = some (.int .i64 0) := (blk_cell BK175.out 2).trans rfl; have hcz17_3 : w15.cell? ⟨gb175, 3, none⟩ = some (.string (⟨#[]⟩ : ByteArray)) := (blk_cell BK175.out 3).trans rfl; have hfz17_0 := blk_frozen BK175.out 0; have hfz17_1 := blk_frozen BK175.out 1; have hfz17_2 := blk_frozen BK175.out 2; have hfz17_3 := blk_frozen BK175.out 3; have hcz18_0 : w15.cell? ⟨gb169, 0, none⟩ = some (.int .i64 t164) := (blk_cell BK169.out 0).trans rfl; have hcz18_1 : w15.cell? ⟨gb169, 1, none⟩ = some (.string t165) := (blk_cell BK169.out 1).trans rfl; have hcz18_2 : w15.cell? ⟨gb169, 2, none⟩ = some (.int .i64 t166) := (blk_cell BK169.out 2).trans rfl; have hcz18_3 : w15.cell? ⟨gb169, 3, none⟩ = some (.string t167) := (blk_cell BK169.out 3).trans rfl; have hfz18_0 := blk_frozen BK169.out 0; have hfz18_1 := blk_frozen BK169.out 1; have hfz18_2 := blk_frozen BK169.out 2; have hfz18_3 := blk_frozen BK169.out 3))
          go_ret
          exact ⟨by first | rfl | (simp [errW_none, errW_some] <;> rfl) | (simp only [← hji3]; first | rfl | (simp [errW_none, errW_some] <;> rfl)) | (simp [*, errW_none, errW_some] <;> rfl), by repeat (first | (with_reducible first | exact HB.out | apply below_alloc | apply pw_below_drewN | apply below_drew1 | refine below_set ?_ GE169.out | refine below_set ?_ GE175.out) | exact HB.out)⟩
        · rw [if_neg c9] at H
          have c9b0 : (t164 == t170 && (t165.toList == t171.toList && (t166 == t172 && (t167.toList == t173.toList)))) = false := by simpa using c9
          (try (have c9b1 : decide (t164 = t170 && (t165.toList == t171.toList && (t166 == t172 && (t167.toList == t173.toList)))) = false := by simpa using c9))
          (try (have c9b2 : (t164 == t170 && (t165.toList == t171.toList && (t166 == t172 && (t167.toList == t173.toList)))) = false := by simpa using c9))
          (try (have c9b3 : ¬ (t164 = t170 && (t165.toList == t171.toList && (t166 == t172 && (t167.toList == t173.toList)))) := by simpa using c9))
          clear c9
          obtain rfl := Option.some.inj H
          go_enter Tryz.func4, Tryz.ntmps4
          go_wp2_with (first | ((with_reducible refine gate_callee (f := 7) rfl ?_); refine goesL_ (some 8) rfl rfl Tryz.func7 (by kernel_rfl) rfl #[] rfl (by (try simp only [List.map_toArray, List.map_cons, List.map_nil]); first | done | rfl | (simp only [List.length_drop, List.length_take]; rfl)) ?_; (with_reducible refine (copydesklaw12_sane.calls  true _ ?side99 A2.out).mono ?_); (case side99 => first | exact HG.out | exact Go.Proofs.YtdfjpbdfafpfgaaGreatDoor.Lex.Gl.below HG.out (by repeat (first | (with_reducible first | exact HB.out | apply below_alloc | apply pw_below_drewN | apply below_drew1) | exact HB.out))); rintro e w19 ⟨rfl, hb⟩; refine ⟨_, rfl, ?_⟩; have n0_ := Aside0.mk (below_step (by repeat (first | (with_reducible first | exact HB.out | apply below_alloc | apply pw_below_drewN | apply below_drew1) | exact HB.out)) hb); clear HB; have HB := n0_; clear n0_; (try clear hb); (try clear hb2); (try clear hk); (try clear hi)) | ((with_reducible refine gate_callee (f := 15) rfl ?_); refine goesL_ (some 16) rfl rfl Tryz.func15 (by kernel_rfl) rfl #[.string (a0.extract 0 ((ji3) : Int).toNat)] rfl (by (try simp only [List.map_toArray, List.map_cons, List.map_nil]); first | done | (simp only [hji3]; rfl) | rfl | (simp only [List.length_drop, List.length_take]; rfl)) ?_; (with_reducible refine (address_Parse.calls (a0.extract 0 ((ji3) : Int).toNat) t164 t165 t166 t167 t168 _ ?side99 A6.out).mono ?_); (case side99 => first | exact HG.out | exact Go.Proofs.YtdfjpbdfafpfgaaGreatDoor.Lex.Gl.below HG.out (by repeat (first | (with_reducible first | exact HB.out | apply below_alloc | apply pw_below_drewN | apply below_drew1) | exact HB.out))); rintro e w20 ⟨rfl, hb⟩; refine ⟨_, rfl, ?_⟩; have n0_ := Aside0.mk (below_step (by repeat (first | (with_reducible first | exact HB.out | apply below_alloc | apply pw_below_drewN | apply below_drew1) | exact HB.out)) hb); clear HB; have HB := n0_; clear n0_; (try clear hb); (try clear hb2); (try clear hk); (try clear hi)) | ((with_reducible refine gate_dst (N := 4) rfl ?_); refine box_event ?hg (N := 4) ?hd (cs := #[.int .i64 0, .string (⟨#[]⟩ : ByteArray), .int .i64 0, .string (⟨#[]⟩ : ByteArray)]) (t := 23) ?hr ?_; (case hd => rfl); (case hg => rfl); (case hr => first | (go_simp; done) | (go_simp; rfl)); intro gb169 hg w21 hbox hb; have n0_ := Aside0.mk (below_step (by repeat (first | (with_reducible first | exact HB.out | apply below_alloc | apply pw_below_drewN | apply below_drew1) | exact HB.out)) hb); have n1_ := Aside0.mk (hbox); have n2_ := Aside0.mk ((by rw [hg]; exact (below_size (by repeat (first | (with_reducible first | exact HB.out | apply below_alloc | apply pw_below_drewN | apply below_drew1) | exact HB.out))) : w.heap.size ≤ gb169)); have n3_ := Aside0.mk ((by rw [hg]; exact (below_size (by repeat (first | (with_reducible first | exact HB.out | apply below_alloc | apply pw_below_drewN | apply below_drew1) | exact HB.out))) : w.heap.size ≤ gb169)); clear HB; have HB := n0_; have BK169 := n1_; have GW169 := n2_; have GE169 := n3_; clear n0_ n1_ n2_ n3_; clear hb hbox hg; have hcz22_0 : w21.cell? ⟨gb169, 0, none⟩ = some (.int .i64 0) := (blk_cell BK169.out 0).trans rfl; have hcz22_1 : w21.cell? ⟨gb169, 1, none⟩ = some (.string (⟨#[]⟩ : ByteArray)) := (blk_cell BK169.out 1).trans rfl; have hcz22_2 : w21.cell? ⟨gb169, 2, none⟩ = some (.int .i64 0) := (blk_cell BK169.out 2).trans rfl; have hcz22_3 : w21.cell? ⟨gb169, 3, none⟩ = some (.string (⟨#[]⟩ : ByteArray)) := (blk_cell BK169.out 3).trans rfl; have hfz22_0 := blk_frozen BK169.out 0; have hfz22_1 := blk_frozen BK169.out 1; have hfz22_2 := blk_frozen BK169.out 2; have hfz22_3 := blk_frozen BK169.out 3) | ((with_reducible refine gate_callee (f := 16) rfl ?_); refine goesL_ (some 21) rfl rfl Tryz.func16 (by kernel_rfl) rfl #[.string (a0.extract 0 ((ji3) : Int).toNat)] rfl (by (try simp only [List.map_toArray, List.map_cons, List.map_nil]); first | done | (simp only [hji3]; rfl) | rfl | (simp only [List.length_drop, List.length_take]; rfl)) ?_; (with_reducible refine (copydeskref12_Parse.calls k (a0.extract 0 ((ji3) : Int).toNat) t170 t171 t172 t173 t174 _ A7.out).mono ?_); rintro e w23 ⟨rfl, hb⟩; refine ⟨_, rfl, ?_⟩; have n0_ := Aside0.mk (blk_below (g := gb169) (o := .cells #[.int .i64 t164, .string t165, .int .i64 t166, .string t167] 23 (0, 0)) (by (with_reducible repeat (first | refine blk_drewN ?_ _ | refine blk_drew ?_ | refine blk_alloc ?_ _)); refine blk_put (cs := #[.int .i64 t164, .string t165, .int .i64 t166, .string (⟨#[]⟩ : ByteArray)]) ?_ 3 _ rfl; (with_reducible repeat (first | refine blk_drewN ?_ _ | refine blk_drew ?_ | refine blk_alloc ?_ _)); refine blk_put (cs := #[.int .i64 t164, .string t165, .int .i64 0, .string (⟨#[]⟩ : ByteArray)]) ?_ 2 _ rfl; (with_reducible repeat (first | refine blk_drewN ?_ _ | refine blk_drew ?_ | refine blk_alloc ?_ _)); refine blk_put (cs := #[.int .i64 t164, .string (⟨#[]⟩ : ByteArray), .int .i64 0, .string (⟨#[]⟩ : ByteArray)]) ?_ 1 _ rfl; (with_reducible repeat (first | refine blk_drewN ?_ _ | refine blk_drew ?_ | refine blk_alloc ?_ _)); refine blk_put (cs := #[.int .i64 0, .string (⟨#[]⟩ : ByteArray), .int .i64 0, .string (⟨#[]⟩ : ByteArray)]) ?_ 0 _ rfl; (with_reducible repeat (first | refine blk_drewN ?_ _ | refine blk_drew ?_ | refine blk_alloc ?_ _)); exact BK169.out) hb); have n1_ := Aside0.mk (below_step (by repeat (first | (with_reducible first | exact HB.out | apply below_alloc | apply pw_below_drewN | apply below_drew1 | refine below_set ?_ GE169.out) | exact HB.out)) hb); clear BK169; clear HB; have BK169 := n0_; have HB := n1_; clear n0_ n1_; (try clear hb); (try clear hb2); (try clear hk); (try clear hi)) | ((with_reducible refine gate_dst (N := 6) rfl ?_); refine box_event ?hg (N := 6) ?hd (cs := #[.int .i64 0, .string (⟨#[]⟩ : ByteArray), .int .i64 0, .string (⟨#[]⟩ : ByteArray)]) (t := 23) ?hr ?_; (case hd => rfl); (case hg => rfl); (case hr => first | (go_simp; done) | (go_simp; rfl)); intro gb175 hg w24 hbox hb; have n0_ := Aside0.mk (blk_below (g := gb169) (o := .cells #[.int .i64 t164, .string t165, .int .i64 t166, .string t167] 23 (0, 0)) (by (with_reducible repeat (first | refine blk_drewN ?_ _ | refine blk_drew ?_ | refine blk_alloc ?_ _)); exact BK169.out) hb); have n1_ := Aside0.mk (below_step (by repeat (first | (with_reducible first | exact HB.out | apply below_alloc | apply pw_below_drewN | apply below_drew1 | refine below_set ?_ GE169.out) | exact HB.out)) hb); have n2_ := Aside0.mk (hbox); have n3_ := Aside0.mk ((by rw [hg]; exact (below_size (by repeat (first | (with_reducible first | exact HB.out | apply below_alloc | apply pw_below_drewN | apply below_drew1 | refine below_set ?_ GE169.out) | exact HB.out))) : w.heap.size ≤ gb175)); have n4_ := Aside0.mk ((by rw [hg]; exact (below_size (by repeat (first | (with_reducible first | exact HB.out | apply below_alloc | apply pw_below_drewN | apply below_drew1 | refine below_set ?_ GE169.out) | exact HB.out))) : w.heap.size ≤ gb175)); have n5_ := Aside0.mk ((by rw [hg]; exact Nat.ne_of_lt (blk_lt (g := gb169) (o := .cells #[.int .i64 t164, .string t165, .int .i64 t166, .string t167] 23 (0, 0)) (by (with_reducible repeat (first | refine blk_drewN ?_ _ | refine blk_drew ?_ | refine blk_alloc ?_ _)); exact BK169.out)) : gb169 ≠ gb175)); have n6_ := Aside0.mk ((by rw [hg]; exact Nat.ne_of_gt (blk_lt (g := gb169) (o := .cells #[.int .i64 t164, .string t165, .int .i64 t166, .string t167] 23 (0, 0)) (by (with_reducible repeat (first | refine blk_drewN ?_ _ | refine blk_drew ?_ | refine blk_alloc ?_ _)); exact BK169.out)) : gb175 ≠ gb169)); clear BK169; clear HB; have BK169 := n0_; have HB := n1_; have BK175 := n2_; have GW175 := n3_; have GE175 := n4_; have NB169_175 := n5_; have NB175_169 := n6_; clear n0_ n1_ n2_ n3_ n4_ n5_ n6_; clear hb hbox hg; have hnb25 := NB175_169.out; have hnc25 := NB169_175.out; have hcz26_0 : w24.cell? ⟨gb175, 0, none⟩ = some (.int .i64 0) := (blk_cell BK175.out 0).trans rfl; have hcz26_1 : w24.cell? ⟨gb175, 1, none⟩ = some (.string (⟨#[]⟩ : ByteArray)) := (blk_cell BK175.out 1).trans rfl; have hcz26_2 : w24.cell? ⟨gb175, 2, none⟩ = some (.int .i64 0) := (blk_cell BK175.out 2).trans rfl; have hcz26_3 : w24.cell? ⟨gb175, 3, none⟩ = some (.string (⟨#[]⟩ : ByteArray)) := (blk_cell BK175.out 3).trans rfl; have hfz26_0 := blk_frozen BK175.out 0; have hfz26_1 := blk_frozen BK175.out 1; have hfz26_2 := blk_frozen BK175.out 2; have hfz26_3 := blk_frozen BK175.out 3; have hcz27_0 : w24.cell? ⟨gb169, 0, none⟩ = some (.int .i64 t164) := (blk_cell BK169.out 0).trans rfl; have hcz27_1 : w24.cell? ⟨gb169, 1, none⟩ = some (.string t165) := (blk_cell BK169.out 1).trans rfl; have hcz27_2 : w24.cell? ⟨gb169, 2, none⟩ = some (.int .i64 t166) := (blk_cell BK169.out 2).trans rfl; have hcz27_3 : w24.cell? ⟨gb169, 3, none⟩ = some (.string t167) := (blk_cell BK169.out 3).trans rfl; have hfz27_0 := blk_frozen BK169.out 0; have hfz27_1 := blk_frozen BK169.out 1; have hfz27_2 := blk_frozen BK169.out 2; have hfz27_3 := blk_frozen BK169.out 3))
          go_ret
          exact ⟨by first | rfl | (simp [errW_none, errW_some] <;> rfl) | (simp only [← hji3]; first | rfl | (simp [errW_none, errW_some] <;> rfl)) | (simp [*, errW_none, errW_some] <;> rfl), by repeat (first | (with_reducible first | exact HB.out | apply below_alloc | apply pw_below_drewN | apply below_drew1 | refine below_set ?_ GE169.out | refine below_set ?_ GE175.out) | exact HB.out)⟩
      · replace c8 := Bool.eq_false_iff.mpr c8
        subst c8
        have H1 : (some false) = some r := by rw [if_neg (show ¬ (false = true) by decide)] at H; exact H
        clear H
        have H := H1
        clear H1
        obtain rfl := Option.some.inj H
        go_enter Tryz.func4, Tryz.ntmps4
        go_wp2_with (first | ((with_reducible refine gate_callee (f := 7) rfl ?_); refine goesL_ (some 8) rfl rfl Tryz.func7 (by kernel_rfl) rfl #[] rfl (by (try simp only [List.map_toArray, List.map_cons, List.map_nil]); first | done | rfl | (simp only [List.length_drop, List.length_take]; rfl)) ?_; (with_reducible refine (copydesklaw12_sane.calls  false _ ?side99 A2.out).mono ?_); (case side99 => first | exact HG.out | exact Go.Proofs.YtdfjpbdfafpfgaaGreatDoor.Lex.Gl.below HG.out (by repeat (first | (with_reducible first | exact HB.out | apply below_alloc | apply pw_below_drewN | apply below_drew1) | exact HB.out))); rintro e w28 ⟨rfl, hb⟩; refine ⟨_, rfl, ?_⟩; have n0_ := Aside0.mk (below_step (by repeat (first | (with_reducible first | exact HB.out | apply below_alloc | apply pw_below_drewN | apply below_drew1) | exact HB.out)) hb); clear HB; have HB := n0_; clear n0_; (try clear hb); (try clear hb2); (try clear hk); (try clear hi)) | ((with_reducible refine gate_callee (f := 15) rfl ?_); refine goesL_ (some 16) rfl rfl Tryz.func15 (by kernel_rfl) rfl #[.string (a0.extract 0 ((ji3) : Int).toNat)] rfl (by (try simp only [List.map_toArray, List.map_cons, List.map_nil]); first | done | (simp only [hji3]; rfl) | rfl | (simp only [List.length_drop, List.length_take]; rfl)) ?_; (with_reducible refine (address_Parse.calls (a0.extract 0 ((ji3) : Int).toNat) t164 t165 t166 t167 t168 _ ?side99 A6.out).mono ?_); (case side99 => first | exact HG.out | exact Go.Proofs.YtdfjpbdfafpfgaaGreatDoor.Lex.Gl.below HG.out (by repeat (first | (with_reducible first | exact HB.out | apply below_alloc | apply pw_below_drewN | apply below_drew1) | exact HB.out))); rintro e w29 ⟨rfl, hb⟩; refine ⟨_, rfl, ?_⟩; have n0_ := Aside0.mk (below_step (by repeat (first | (with_reducible first | exact HB.out | apply below_alloc | apply pw_below_drewN | apply below_drew1) | exact HB.out)) hb); clear HB; have HB := n0_; clear n0_; (try clear hb); (try clear hb2); (try clear hk); (try clear hi)) | ((with_reducible refine gate_dst (N := 4) rfl ?_); refine box_event ?hg (N := 4) ?hd (cs := #[.int .i64 0, .string (⟨#[]⟩ : ByteArray), .int .i64 0, .string (⟨#[]⟩ : ByteArray)]) (t := 23) ?hr ?_; (case hd => rfl); (case hg => rfl); (case hr => first | (go_simp; done) | (go_simp; rfl)); intro gb169 hg w30 hbox hb; have n0_ := Aside0.mk (below_step (by repeat (first | (with_reducible first | exact HB.out | apply below_alloc | apply pw_below_drewN | apply below_drew1) | exact HB.out)) hb); have n1_ := Aside0.mk (hbox); have n2_ := Aside0.mk ((by rw [hg]; exact (below_size (by repeat (first | (with_reducible first | exact HB.out | apply below_alloc | apply pw_below_drewN | apply below_drew1) | exact HB.out))) : w.heap.size ≤ gb169)); have n3_ := Aside0.mk ((by rw [hg]; exact (below_size (by repeat (first | (with_reducible first | exact HB.out | apply below_alloc | apply pw_below_drewN | apply below_drew1) | exact HB.out))) : w.heap.size ≤ gb169)); clear HB; have HB := n0_; have BK169 := n1_; have GW169 := n2_; have GE169 := n3_; clear n0_ n1_ n2_ n3_; clear hb hbox hg; have hcz31_0 : w30.cell? ⟨gb169, 0, none⟩ = some (.int .i64 0) := (blk_cell BK169.out 0).trans rfl; have hcz31_1 : w30.cell? ⟨gb169, 1, none⟩ = some (.string (⟨#[]⟩ : ByteArray)) := (blk_cell BK169.out 1).trans rfl; have hcz31_2 : w30.cell? ⟨gb169, 2, none⟩ = some (.int .i64 0) := (blk_cell BK169.out 2).trans rfl; have hcz31_3 : w30.cell? ⟨gb169, 3, none⟩ = some (.string (⟨#[]⟩ : ByteArray)) := (blk_cell BK169.out 3).trans rfl; have hfz31_0 := blk_frozen BK169.out 0; have hfz31_1 := blk_frozen BK169.out 1; have hfz31_2 := blk_frozen BK169.out 2; have hfz31_3 := blk_frozen BK169.out 3) | ((with_reducible refine gate_callee (f := 16) rfl ?_); refine goesL_ (some 21) rfl rfl Tryz.func16 (by kernel_rfl) rfl #[.string (a0.extract 0 ((ji3) : Int).toNat)] rfl (by (try simp only [List.map_toArray, List.map_cons, List.map_nil]); first | done | (simp only [hji3]; rfl) | rfl | (simp only [List.length_drop, List.length_take]; rfl)) ?_; (with_reducible refine (copydeskref12_Parse.calls k (a0.extract 0 ((ji3) : Int).toNat) t170 t171 t172 t173 t174 _ A7.out).mono ?_); rintro e w32 ⟨rfl, hb⟩; refine ⟨_, rfl, ?_⟩; have n0_ := Aside0.mk (blk_below (g := gb169) (o := .cells #[.int .i64 t164, .string t165, .int .i64 t166, .string t167] 23 (0, 0)) (by (with_reducible repeat (first | refine blk_drewN ?_ _ | refine blk_drew ?_ | refine blk_alloc ?_ _)); refine blk_put (cs := #[.int .i64 t164, .string t165, .int .i64 t166, .string (⟨#[]⟩ : ByteArray)]) ?_ 3 _ rfl; (with_reducible repeat (first | refine blk_drewN ?_ _ | refine blk_drew ?_ | refine blk_alloc ?_ _)); refine blk_put (cs := #[.int .i64 t164, .string t165, .int .i64 0, .string (⟨#[]⟩ : ByteArray)]) ?_ 2 _ rfl; (with_reducible repeat (first | refine blk_drewN ?_ _ | refine blk_drew ?_ | refine blk_alloc ?_ _)); refine blk_put (cs := #[.int .i64 t164, .string (⟨#[]⟩ : ByteArray), .int .i64 0, .string (⟨#[]⟩ : ByteArray)]) ?_ 1 _ rfl; (with_reducible repeat (first | refine blk_drewN ?_ _ | refine blk_drew ?_ | refine blk_alloc ?_ _)); refine blk_put (cs := #[.int .i64 0, .string (⟨#[]⟩ : ByteArray), .int .i64 0, .string (⟨#[]⟩ : ByteArray)]) ?_ 0 _ rfl; (with_reducible repeat (first | refine blk_drewN ?_ _ | refine blk_drew ?_ | refine blk_alloc ?_ _)); exact BK169.out) hb); have n1_ := Aside0.mk (below_step (by repeat (first | (with_reducible first | exact HB.out | apply below_alloc | apply pw_below_drewN | apply below_drew1 | refine below_set ?_ GE169.out) | exact HB.out)) hb); clear BK169; clear HB; have BK169 := n0_; have HB := n1_; clear n0_ n1_; (try clear hb); (try clear hb2); (try clear hk); (try clear hi)) | ((with_reducible refine gate_dst (N := 6) rfl ?_); refine box_event ?hg (N := 6) ?hd (cs := #[.int .i64 0, .string (⟨#[]⟩ : ByteArray), .int .i64 0, .string (⟨#[]⟩ : ByteArray)]) (t := 23) ?hr ?_; (case hd => rfl); (case hg => rfl); (case hr => first | (go_simp; done) | (go_simp; rfl)); intro gb175 hg w33 hbox hb; have n0_ := Aside0.mk (blk_below (g := gb169) (o := .cells #[.int .i64 t164, .string t165, .int .i64 t166, .string t167] 23 (0, 0)) (by (with_reducible repeat (first | refine blk_drewN ?_ _ | refine blk_drew ?_ | refine blk_alloc ?_ _)); exact BK169.out) hb); have n1_ := Aside0.mk (below_step (by repeat (first | (with_reducible first | exact HB.out | apply below_alloc | apply pw_below_drewN | apply below_drew1 | refine below_set ?_ GE169.out) | exact HB.out)) hb); have n2_ := Aside0.mk (hbox); have n3_ := Aside0.mk ((by rw [hg]; exact (below_size (by repeat (first | (with_reducible first | exact HB.out | apply below_alloc | apply pw_below_drewN | apply below_drew1 | refine below_set ?_ GE169.out) | exact HB.out))) : w.heap.size ≤ gb175)); have n4_ := Aside0.mk ((by rw [hg]; exact (below_size (by repeat (first | (with_reducible first | exact HB.out | apply below_alloc | apply pw_below_drewN | apply below_drew1 | refine below_set ?_ GE169.out) | exact HB.out))) : w.heap.size ≤ gb175)); have n5_ := Aside0.mk ((by rw [hg]; exact Nat.ne_of_lt (blk_lt (g := gb169) (o := .cells #[.int .i64 t164, .string t165, .int .i64 t166, .string t167] 23 (0, 0)) (by (with_reducible repeat (first | refine blk_drewN ?_ _ | refine blk_drew ?_ | refine blk_alloc ?_ _)); exact BK169.out)) : gb169 ≠ gb175)); have n6_ := Aside0.mk ((by rw [hg]; exact Nat.ne_of_gt (blk_lt (g := gb169) (o := .cells #[.int .i64 t164, .string t165, .int .i64 t166, .string t167] 23 (0, 0)) (by (with_reducible repeat (first | refine blk_drewN ?_ _ | refine blk_drew ?_ | refine blk_alloc ?_ _)); exact BK169.out)) : gb175 ≠ gb169)); clear BK169; clear HB; have BK169 := n0_; have HB := n1_; have BK175 := n2_; have GW175 := n3_; have GE175 := n4_; have NB169_175 := n5_; have NB175_169 := n6_; clear n0_ n1_ n2_ n3_ n4_ n5_ n6_; clear hb hbox hg; have hnb34 := NB175_169.out; have hnc34 := NB169_175.out; have hcz35_0 : w33.cell? ⟨gb175, 0, none⟩ = some (.int .i64 0) := (blk_cell BK175.out 0).trans rfl; have hcz35_1 : w33.cell? ⟨gb175, 1, none⟩ = some (.string (⟨#[]⟩ : ByteArray)) := (blk_cell BK175.out 1).trans rfl; have hcz35_2 : w33.cell? ⟨gb175, 2, none⟩ = some (.int .i64 0) := (blk_cell BK175.out 2).trans rfl; have hcz35_3 : w33.cell? ⟨gb175, 3, none⟩ = some (.string (⟨#[]⟩ : ByteArray)) := (blk_cell BK175.out 3).trans rfl; have hfz35_0 := blk_frozen BK175.out 0; have hfz35_1 := blk_frozen BK175.out 1; have hfz35_2 := blk_frozen BK175.out 2; have hfz35_3 := blk_frozen BK175.out 3))
        go_ret
        exact ⟨by first | rfl | (simp [errW_none, errW_some] <;> rfl) | (simp only [← hji3]; first | rfl | (simp [errW_none, errW_some] <;> rfl)) | (simp [*, errW_none, errW_some] <;> rfl), by repeat (first | (with_reducible first | exact HB.out | apply below_alloc | apply pw_below_drewN | apply below_drew1 | refine below_set ?_ GE169.out | refine below_set ?_ GE175.out) | exact HB.out)⟩
    · rw [if_neg c5] at H
      exact absurd H (by simp)
  · rw [if_neg c4] at H
    exact absurd H (by simp)

/-- THE ONE PURE STATEMENT of copydesklaw12_AddressParseMatchesReference: yours. -/
def copydesklaw12_AddressParseMatchesReference.Pure : Prop := ∀ (a0 : ByteArray), a0.size ≤ 140737488351232 → ∃ k, copydesklaw12_AddressParseMatchesReference.f k a0 = some true
theorem copydesklaw12_AddressParseMatchesReference.walk (P : copydesklaw12_AddressParseMatchesReference.Pure) (a0 : ByteArray) (w : World) (w0 : a0.size ≤ 140737488351232) (hG : Go.Proofs.YtdfjpbdfafpfgaaGreatDoor.Lex.Gl w) :
    Calls Tryz.prog 4 #[.string a0] w fun e w' => e = .returned (.bool true) ∧ Below w.heap.size w w' := by
  obtain ⟨k, h⟩ := P a0 w0
  refine (copydesklaw12_AddressParseMatchesReference.calls k a0 true w hG h).mono ?_
  rintro e w' ⟨rfl, hd⟩
  exact ⟨rfl, hd⟩

end Go.Proofs.YtdfjpbdfafpfgaaGreatDoor.PX

/- Bytes and numbers of the printed functions as lists of bytes. -/
namespace Go.Proofs.YtdfjpbdfafpfgaaGreatDoor.Br
open Go.RowKit Go.Proofs.YtdfjpbdfafpfgaaGreatDoorW.PrintWords Go.Proofs.YtdfjpbdfafpfgaaGreatDoorW.PrintMore

/-- Bytes as whole numbers. -/
def ints (l : List UInt8) : List Int := l.map fun b => (b.toNat : Int)
theorem ints_length (l : List UInt8) : (ints l).length = l.length := by simp [ints]
theorem ints_append (a b : List UInt8) : ints (a ++ b) = ints a ++ ints b := by simp [ints]
theorem ints_snoc (a : List UInt8) (c : UInt8) : ints a ++ [(c.toNat : Int)] = ints (a ++ [c]) := by simp [ints]
theorem strOfNums_ints (l : List UInt8) : strOfNums (ints l) = ⟨l.toArray⟩ := by
  unfold strOfNums ints
  rw [List.map_map]
  congr 2
  rw [show ((fun n : Int => UInt8.ofNat n.toNat) ∘ fun b : UInt8 => (b.toNat : Int)) = id from funext fun b => by simp]
  simp
theorem bt_nat (s : ByteArray) (k : Nat) (h : k < s.size) : bt s (k : Int) = ((s.data.toList[k]'(by simpa using h)).toNat : Int) := by
  unfold bt
  rw [dif_pos (by simpa using h)]
  rfl
theorem wrap_succ (k : Nat) (h : k < 9223372036854775807) : wrap64 ((k : Int) + 1) = ((k + 1 : Nat) : Int) := by
  unfold wrap64
  omega
theorem wrap_id (i : Int) (h0 : -9223372036854775808 ≤ i) (h1 : i ≤ 9223372036854775807) : wrap64 i = i := by
  unfold wrap64
  omega
theorem size_toList (s : ByteArray) : s.data.toList.length = s.size := by simp
theorem mk_toList (l : List UInt8) : (⟨l.toArray⟩ : ByteArray).data.toList = l := by simp
theorem mk_size (l : List UInt8) : (⟨l.toArray⟩ : ByteArray).size = l.length := by simp [ByteArray.size]
theorem ba_toList (s : ByteArray) : s.toList = s.data.toList := by
  exact Lib.toList_data s
theorem mk_toList' (l : List UInt8) : (⟨l.toArray⟩ : ByteArray).toList = l := by rw [ba_toList]
theorem mk_append (a b : List UInt8) : (⟨a.toArray⟩ : ByteArray) ++ ⟨b.toArray⟩ = ⟨(a ++ b).toArray⟩ := by
  apply ByteArray.ext
  simp
theorem ba_eta (s : ByteArray) : s = ⟨s.data.toList.toArray⟩ := by simp
theorem ba_ext {a b : ByteArray} (h : a.data.toList = b.data.toList) : a = b := by
  rw [ba_eta a, ba_eta b, h]
theorem extract_list (s : ByteArray) (a b : Nat) : s.extract a b = ⟨((s.data.toList.drop a).take (b - a)).toArray⟩ := by
  exact Lib.extract_eq s a b
theorem mn_nat (a b : Nat) : mn (a : Int) (b : Int) = ((min a b : Nat) : Int) := by
  unfold mn
  split <;> omega
theorem mx_nat (a b : Nat) : mx (a : Int) (b : Int) = ((max a b : Nat) : Int) := by
  unfold mx
  split <;> omega

end Go.Proofs.YtdfjpbdfafpfgaaGreatDoor.Br

/- The reference's functions that make a path give what ours give. -/
namespace Go.Proofs.YtdfjpbdfafpfgaaGreatDoor.PX
open Go.RowKit Go.Proofs.YtdfjpbdfafpfgaaGreatDoorW.PrintWords Go.Proofs.YtdfjpbdfafpfgaaGreatDoorW.PrintLast Go.Proofs.YtdfjpbdfafpfgaaGreatDoorW.PrintMore
open Ad Br

theorem refName_l (s : ByteArray) (hs : s.size ≤ 1000) : ∀ (k i : Nat), i ≤ s.size → s.size < i + k → (∀ (j : Nat) b, j < i → s.data.toList[j]? = some b → okB b = true) → copydeskref03_IsName.l0 k s (i : Int) = some (nameB s)
  | 0, i, h1, h2, _ => by omega
  | k + 1, i, h1, h2, hA => by
    unfold copydeskref03_IsName.l0
    by_cases hlt : i < s.size
    · have hb := bt_nat s i hlt
      have hw := wrap_succ i (by omega)
      have hget : s.data.toList[i]? = some (s.data.toList[i]'(by simpa using hlt)) := List.getElem?_eq_getElem _
      rw [if_pos (by omega), if_pos (by omega), hb, hw]
      generalize hc : s.data.toList[i]'(by simpa using hlt) = c at *
      have hnext : okB c = true → copydeskref03_IsName.l0 k s ((i + 1 : Nat) : Int) = some (nameB s) := fun ho =>
        refName_l s hs k (i + 1) (by omega) (by omega) fun j b hj hjb => by
          by_cases e : j = i
          · subst e
            rw [hget] at hjb
            injection hjb with hjb
            rw [← hjb]; exact ho
          · exact hA j b (by omega) hjb
      have hbad : okB c = false → nameB s = false := fun ho => nameB_bad s i hlt (by
        have : s[i] = c := by rw [← hc]; rfl
        rw [this]; exact ho)
      rcases (by omega : c.toNat < 45 ∨ c.toNat = 45 ∨ (45 < c.toNat ∧ c.toNat < 48) ∨ (48 ≤ c.toNat ∧ c.toNat ≤ 57) ∨ (57 < c.toNat ∧ c.toNat < 97) ∨ (97 ≤ c.toNat ∧ c.toNat ≤ 122) ∨ 122 < c.toNat) with h | h | h | h | h | h | h
      · rw [if_neg (by omega), if_neg (by omega), if_neg (by omega), hbad (okB_not (by omega))]
      · rw [if_neg (by omega), if_neg (by omega), if_pos (by omega), hnext (okB_range (by omega))]
      · rw [if_neg (by omega), if_neg (by omega), if_neg (by omega), hbad (okB_not (by omega))]
      · rw [if_neg (by omega), if_pos (by omega), if_pos (by omega), hnext (okB_range (by omega))]
      · rw [if_neg (by omega), if_pos (by omega), if_neg (by omega), if_neg (by omega), hbad (okB_not (by omega))]
      · rw [if_pos (by omega), if_pos (by omega), hnext (okB_range (by omega))]
      · rw [if_pos (by omega), if_neg (by omega), if_pos (by omega), if_neg (by omega), if_neg (by omega), hbad (okB_not (by omega))]
    · rw [if_neg (by omega)]
      have hall := all_get hA (by omega)
      unfold nameB
      rw [hall]
      by_cases h1 : 1 ≤ s.size
      · rw [if_pos (by omega), decide_eq_true h1]
        congr 1
        rw [Bool.true_and, Bool.true_and]
        exact decide_eq_decide.2 (by omega)
      · rw [if_neg (by omega), decide_eq_false h1]
        rfl

theorem refName (k : Nat) (s : ByteArray) (hs : s.size ≤ 1000) (hk : s.size < k) : copydeskref03_IsName.f k s = some (nameB s) :=
  refName_l s hs k 0 (Nat.zero_le _) (by omega) fun j b hj => absurd hj (Nat.not_lt_zero _)

theorem digits_one (n : Nat) (h : n < 10) : strOfNums ([(wrap64 (48 + (n : Int))) % 256] : List Int) = itoaB n := by
  have : (List.range 10).all (fun n => decide (strOfNums ([(wrap64 (48 + (n : Int))) % 256] : List Int) = itoaB n)) = true := by decide +kernel
  rw [List.all_eq_true] at this
  simpa using this n (by simpa using h)
theorem digits_two (n : Nat) (h : n < 100) (h10 : 10 ≤ n) : itoaB (n / 10) ++ itoaB (n % 10) = itoaB n := by
  have : (List.range 100).all (fun n => decide (n < 10) || decide (itoaB (n / 10) ++ itoaB (n % 10) = itoaB n)) = true := by decide +kernel
  rw [List.all_eq_true] at this
  have := this n (by simpa using h)
  simp only [Bool.or_eq_true, decide_eq_true_eq] at this
  rcases this with h | h
  · omega
  · exact h
theorem digits_small (k n : Nat) (h : n < 10) : copydeskref12_Digits.f (k + 1) (n : Int) = some (itoaB n) := by
  unfold copydeskref12_Digits.f
  rw [if_pos (by omega), digits_one n h]
theorem digits_f (k n : Nat) (h : n < 100) : copydeskref12_Digits.f (k + 2) (n : Int) = some (itoaB n) := by
  by_cases h10 : n < 10
  · exact digits_small (k + 1) n h10
  · unfold copydeskref12_Digits.f
    have e1 : wrap64 (Int.tdiv (n : Int) 10) = ((n / 10 : Nat) : Int) := by
      rw [show Int.tdiv (n : Int) 10 = ((n / 10 : Nat) : Int) from by rw [Int.tdiv_eq_ediv_of_nonneg (by omega)]; omega]
      exact wrap_id _ (by omega) (by omega)
    have e2 : Int.tmod (n : Int) 10 = ((n % 10 : Nat) : Int) := by rw [Int.tmod_eq_emod_of_nonneg (by omega)]; omega
    rw [if_neg (by omega), e1, e2, digits_small k (n / 10) (by omega), digits_small k (n % 10) (by omega)]
    have s1 := itoa_small (n / 10) (by omega)
    have s2 := itoa_small (n % 10) (by omega)
    show (if (itoaB (n / 10)).size + (itoaB (n % 10)).size ≤ 9223372036854775807 then some (itoaB (n / 10) ++ itoaB (n % 10)) else none) = _
    rw [if_pos (by omega), digits_two n h (by omega)]

theorem beq_nil (s : ByteArray) : (s.toList == ([] : List UInt8)) = decide (s.toList = []) := by
  by_cases h : s.toList = []
  · rw [h]; rfl
  · rw [decide_eq_false h, beq_eq_false_iff_ne]; exact h

theorem refValid (k : Nat) (kind : Int) (name : ByteArray) (n : Int) (lang : ByteArray) (h1 : name.size ≤ 1000) (h2 : lang.size ≤ 1000) (hk1 : name.size < k + 2) (hk2 : lang.size < k + 2) :
    copydeskref12_Valid.f (k + 2) kind name n lang = some (validB kind name n lang) := by
  have key : ∀ b : Bool, b = numB n → copydeskref12_Valid.j0 (k + 2) (nameB name) (nameB lang) b kind name n lang = some (validB kind name n lang) := by
    rintro b rfl
    simp only [copydeskref12_Valid.j0, copydeskref12_Valid.j1]
    unfold validB
    by_cases k1 : kind = 1
    · subst k1
      by_cases ha : name.toList = [] <;> by_cases hn : n = 0 <;> simp [ha, hn]
    rw [if_neg k1]
    by_cases k6 : kind = 6
    · subst k6
      by_cases ha : name.toList = [] <;> by_cases hn : n = 0 <;> simp [ha, hn]
    have e6 : (kind == 6) = false := by simpa using k6
    rw [e6]
    by_cases k2 : kind = 2
    · subst k2
      by_cases ha : name.toList = [] <;> cases numB n <;> cases nameB lang <;> simp [ha]
    by_cases k3 : kind = 3
    · subst k3
      cases nameB name <;> cases numB n <;> simp
    by_cases k4 : kind = 4
    · subst k4
      cases nameB name <;> by_cases hn : n = 0 <;> simp [hn]
    by_cases k5 : kind = 5
    · subst k5
      cases nameB name <;> by_cases hn : n = 0 <;> simp [hn]
    simp [k1, k2, k3, k4, k5, k6]
  unfold copydeskref12_Valid.f
  rw [refName _ name h1 hk1, refName _ lang h2 hk2]
  simp only [Option.bind_some]
  by_cases hn : n ≥ 1
  · rw [if_pos hn]
    exact key _ (by unfold numB; rw [decide_eq_true (show 1 ≤ n from hn), Bool.true_and])
  · rw [if_neg hn]
    exact key _ (by unfold numB; rw [decide_eq_false (show ¬ 1 ≤ n from hn), Bool.false_and])

theorem refFormat (k : Nat) (kind : Int) (name : ByteArray) (n : Int) (lang : ByteArray) (h1 : name.size ≤ 1000) (h2 : lang.size ≤ 1000) (hk1 : name.size < k + 2) (hk2 : lang.size < k + 2) :
    copydeskref12_Format.f (k + 2) kind name n lang = some (fmtB kind name n lang) := by
  unfold copydeskref12_Format.f
  rw [refValid k kind name n lang h1 h2 hk1 hk2]
  simp only [Option.bind_some]
  unfold fmtB
  cases hv : validB kind name n lang with
  | false => rw [if_neg (by decide), if_neg (by decide)]
  | true =>
    rw [if_pos rfl, if_pos rfl]
    obtain ⟨m, rfl, hm⟩ := valid_num hv
    have hi := itoa_small m hm
    rw [Int.toNat_natCast, digits_f k m hm]
    simp only [Option.bind_some]
    rcases valid_kind hv with rfl | rfl | rfl | rfl | rfl | rfl
    · rw [if_pos rfl]
      congr 2
    · rw [if_neg (by decide), if_pos rfl, if_pos (by omega), if_pos (by omega), if_pos (by omega)]
      congr 2
      apply ba_ext
      show _ = (⟨#[47]⟩ ++ joinB [⟨#[115, 116, 111, 114, 121]⟩, itoaB m, lang] : ByteArray).data.toList
      simp [joinB, Lib.join, List.intercalate, List.intersperse]
    · rw [if_neg (by decide), if_neg (by decide), if_pos rfl, if_pos (by omega), if_pos (by omega), if_pos (by omega)]
      congr 2
      apply ba_ext
      show _ = (⟨#[47]⟩ ++ joinB [⟨#[116, 111, 112, 105, 99]⟩, name, itoaB m] : ByteArray).data.toList
      simp [joinB, Lib.join, List.intercalate, List.intersperse]
    · rw [if_neg (by decide), if_neg (by decide), if_neg (by decide), if_pos rfl, if_pos (by omega)]
      congr 2
      apply ba_ext
      show _ = (⟨#[47]⟩ ++ joinB [⟨#[97, 117, 116, 104, 111, 114]⟩, name] : ByteArray).data.toList
      simp [joinB, Lib.join, List.intercalate, List.intersperse]
    · rw [if_neg (by decide), if_neg (by decide), if_neg (by decide), if_neg (by decide), if_pos rfl, if_pos (by omega)]
      congr 2
      apply ba_ext
      show _ = (⟨#[47]⟩ ++ joinB [⟨#[102, 101, 101, 100]⟩, name] : ByteArray).data.toList
      simp [joinB, Lib.join, List.intercalate, List.intersperse]
    · rw [if_neg (by decide), if_neg (by decide), if_neg (by decide), if_neg (by decide), if_neg (by decide)]
      congr 2

end Go.Proofs.YtdfjpbdfafpfgaaGreatDoor.PX

/- Parse gives back the address that was formatted. -/
namespace Go.Proofs.YtdfjpbdfafpfgaaGreatDoor.Ad
open Go.RowKit Br

theorem idx_none : ∀ l : List UInt8, (47 : UInt8) ∉ l → Lib.index l [47] = -1
  | [], _ => rfl
  | b :: l, h => by
    have hb : b ≠ 47 := fun e => h (by rw [e]; exact List.mem_cons_self)
    have ih := idx_none l (fun hm => h (List.mem_cons_of_mem _ hm))
    unfold Lib.index
    have hp : List.isPrefixOf [47] (b :: l) = false := by
      simp only [List.isPrefixOf, Bool.and_true]
      exact beq_eq_false_iff_ne.2 (fun e => hb e.symm)
    rw [hp, ih]
    rfl
theorem idx_at : ∀ (a b : List UInt8), (47 : UInt8) ∉ a → Lib.index (a ++ 47 :: b) [47] = a.length
  | [], b, _ => by
    show Lib.index (47 :: b) [47] = _
    unfold Lib.index
    rw [if_pos (by simp [List.isPrefixOf])]
    rfl
  | c :: a, b, h => by
    have hc : c ≠ 47 := fun e => h (by rw [e]; exact List.mem_cons_self)
    have ih := idx_at a b (fun hm => h (List.mem_cons_of_mem _ hm))
    show Lib.index (c :: (a ++ 47 :: b)) [47] = _
    unfold Lib.index
    have hp : List.isPrefixOf [47] (c :: (a ++ 47 :: b)) = false := by
      simp only [List.isPrefixOf, Bool.and_true]
      exact beq_eq_false_iff_ne.2 (fun e => hc e.symm)
    have hn : ((a.length : Int) == -1) = false := by rw [beq_eq_false_iff_ne]; omega
    rw [hp, ih, hn]
    simp

theorem join_cons (x y : List UInt8) (l : List (List UInt8)) : Lib.join (x :: y :: l) [47] = x ++ 47 :: Lib.join (y :: l) [47] := by
  simp [Lib.join, List.intercalate, List.intersperse]
theorem join_one (x : List UInt8) : Lib.join [x] [47] = x := by simp [Lib.join, List.intercalate, List.intersperse]

theorem split_join : ∀ (x : List UInt8) (l : List (List UInt8)), (∀ y ∈ x :: l, (47 : UInt8) ∉ y) →
    Lib.count (Lib.join (x :: l) [47]) [47] = l.length ∧ Lib.splitK [47] 0 l.length (Lib.join (x :: l) [47]) = x :: l
  | x, [], h => by
    rw [join_one]
    exact ⟨Lib.count_miss (idx_none x (h x (by simp))), rfl⟩
  | x, y :: l, h => by
    rw [join_cons]
    have hi := idx_at x (Lib.join (y :: l) [47]) (h x (by simp))
    obtain ⟨h1, h2⟩ := split_join y l (fun z hz => h z (List.mem_cons_of_mem _ hz))
    have hd : (x ++ 47 :: Lib.join (y :: l) [47]).drop (x.length + 1) = Lib.join (y :: l) [47] := by
      rw [List.drop_append]; simp
    constructor
    · rw [Lib.count_hit (by decide) hi]
      rw [show x.length + [(47 : UInt8)].length = x.length + 1 from rfl, hd, h1]
      simp; omega
    · show Lib.splitK [47] 0 (l.length + 1) _ = _
      unfold Lib.splitK
      have hn : ((x.length : Int) == -1) = false := by rw [beq_eq_false_iff_ne]; omega
      rw [hi, hn]
      simp only [Bool.false_eq_true, if_false, Int.toNat_natCast, Nat.add_zero]
      rw [show x.length + [(47 : UInt8)].length = x.length + 1 from rfl, hd, h2]
      simp

/-- The parts of a path that was joined. -/
theorem splitS_join (x : ByteArray) (l : List ByteArray) (h : ∀ y ∈ x :: l, (47 : UInt8) ∉ y.data.toList) (s : ByteArray) (hs : s.data.toList = 47 :: Lib.join ((x :: l).map (·.data.toList)) [47]) : splitS s = x :: l := by
  have hp : (pathB s).data.toList = Lib.join ((x :: l).map (·.data.toList)) [47] := by
    unfold pathB
    rw [mk_toList, hs]
    show Lib.trimPrefix (47 :: _) [47] = _
    unfold Lib.trimPrefix Lib.hasPrefix
    rw [if_pos (by simp [List.isPrefixOf])]
    rfl
  have hsp := split_join x.data.toList (l.map (·.data.toList)) (by
    intro y hy
    rcases List.mem_cons.1 hy with rfl | hy
    · exact h x (by simp)
    · obtain ⟨z, hz, rfl⟩ := List.mem_map.1 hy
      exact h z (List.mem_cons_of_mem _ hz))
  have hm : (splitS s).map (·.data.toList) = (x :: l).map (·.data.toList) := by
    unfold splitS
    rw [Lib.splitB_data]
    have hc : Lib.countB (pathB s) slashB = Lib.count (pathB s).data.toList [47] := rfl
    rw [hc, hp]
    show Lib.splitK [47] 0 (Lib.count (Lib.join (x.data.toList :: l.map (·.data.toList)) [47]) [47]) _ = _
    rw [hsp.1]
    exact hsp.2
  have inj : ∀ l1 l2 : List ByteArray, l1.map (·.data.toList) = l2.map (·.data.toList) → l1 = l2 := by
    intro l1
    induction l1 with
    | nil => intro l2 h; cases l2 with
      | nil => rfl
      | cons _ _ => cases h
    | cons a l1 ih => intro l2 h; cases l2 with
      | nil => cases h
      | cons b l2 =>
        simp only [List.map_cons, List.cons.injEq] at h
        rw [ba_ext h.1, ih l2 h.2]
  exact inj _ _ hm

theorem ok_slash {s : ByteArray} (h : nameB s = true) : (47 : UInt8) ∉ s.data.toList := by
  unfold nameB at h
  simp only [Bool.and_eq_true, List.all_eq_true] at h
  intro hm
  have := h.1.1 _ hm
  revert this
  decide
theorem nil_slash {s : ByteArray} (h : s.toList = []) : (47 : UInt8) ∉ s.data.toList := by
  rw [ByteArray.toList_eq] at h
  rw [h]; simp
theorem itoa_slash (n : Nat) (h : n < 100) : (47 : UInt8) ∉ (itoaB n).data.toList := by
  have : (List.range 100).all (fun n => !(itoaB n).data.toList.contains 47) = true := by decide +kernel
  rw [List.all_eq_true] at this
  have := this n (by simpa using h)
  simpa using this
theorem numI_itoa (n : Nat) (h : n < 100) : numI (itoaB n) = n := by
  have : (List.range 100).all (fun n => decide (numI (itoaB n) = n)) = true := by decide +kernel
  rw [List.all_eq_true] at this
  simpa using this n (by simpa using h)
theorem numW_data (x : ByteArray) : numW x = pick fun j => (wordOf j).data.toList == x.data.toList := by
  unfold numW
  congr 1
  funext j
  rw [ByteArray.toList_eq, ByteArray.toList_eq]
theorem numW_word (j : Nat) (h : j < 6) : numW (wordOf j) = j := by
  rw [numW_data]
  rcases (by omega : j = 0 ∨ j = 1 ∨ j = 2 ∨ j = 3 ∨ j = 4 ∨ j = 5) with rfl | rfl | rfl | rfl | rfl | rfl <;> decide +kernel
theorem word_slash (j : Nat) : (47 : UInt8) ∉ (wordOf j).data.toList := by
  unfold wordOf; split <;> decide

theorem nil_ba {s : ByteArray} (h : s.toList = []) : s = ⟨#[]⟩ := by
  rw [ByteArray.toList_eq] at h
  exact ba_ext h

/-- What Parse makes of the string of a valid address. -/
theorem parse_format {kind : Int} {name : ByteArray} {n : Int} {lang : ByteArray} (hv : validB kind name n lang = true) : parseB (fmtB kind name n lang).1 = (kind, name, n, lang, 0) := by
  obtain ⟨m, rfl, hm⟩ := valid_num hv
  have hf : fmtB kind name m lang = ((⟨#[47]⟩ : ByteArray) ++ joinB (piecesOf (slotOf (numOf kind)) name m lang), 0) := by
    unfold fmtB; rw [if_pos hv, Int.toNat_natCast]
  have hsl : ∀ y ∈ piecesOf (slotOf (numOf kind)) name m lang, (47 : UInt8) ∉ y.data.toList := by
    intro y hy
    unfold piecesOf at hy
    rcases List.mem_cons.1 hy with rfl | hy
    · exact word_slash _
    have h2 := hv
    unfold validB at h2
    rcases valid_kind hv with rfl | rfl | rfl | rfl | rfl | rfl
    · cases hy
    · simp at h2
      have : y ∈ [itoaB m, lang] := hy
      rcases List.mem_cons.1 this with rfl | h3
      · exact itoa_slash m hm
      · rw [List.mem_singleton.1 h3]; exact ok_slash h2.2.1
    · simp at h2
      have : y ∈ [name, itoaB m] := hy
      rcases List.mem_cons.1 this with rfl | h3
      · exact ok_slash h2.2.1
      · rw [List.mem_singleton.1 h3]; exact itoa_slash m hm
    · simp at h2
      have : y ∈ [name] := hy
      rw [List.mem_singleton.1 this]; exact ok_slash h2.1
    · simp at h2
      have : y ∈ [name] := hy
      rw [List.mem_singleton.1 this]; exact ok_slash h2.1
    · cases hy
  have hsp := splitS_join (wordOf (slotOf (numOf kind))) (partsOf (slotOf (numOf kind)) name m lang) hsl (fmtB kind name m lang).1 (by rw [hf]; simp [joinB, piecesOf])
  have hc : candB (fmtB kind name m lang).1 = some (kind, name, (m : Int), lang) := by
    unfold candB
    rw [hsp]
    simp only
    have hj := numOf_known kind (valid_kind hv)
    rw [numW_word _ hj]
    have hs : slotOf ((slotOf (numOf kind) : Nat) : Int) = slotOf (numOf kind) := by unfold slotOf; rw [if_neg (by omega)]; simp
    rw [hs, if_pos ⟨by omega, partN_eq _ _ _ _⟩]
    have h2 := hv
    unfold validB at h2
    have hni := numI_itoa m hm
    rcases valid_kind hv with rfl | rfl | rfl | rfl | rfl | rfl
    · simp at h2
      rw [nil_ba h2.1, nil_ba h2.2.2, h2.2.1]
      rfl
    · simp at h2
      rw [nil_ba h2.2.2]
      show some ((2 : Int), (⟨#[]⟩ : ByteArray), numI (itoaB m), lang) = _
      rw [hni]
    · simp at h2
      rw [nil_ba h2.2.2]
      show some ((3 : Int), name, numI (itoaB m), (⟨#[]⟩ : ByteArray)) = _
      rw [hni]
    · simp at h2
      rw [nil_ba h2.2.2, h2.2.1]
      rfl
    · simp at h2
      rw [nil_ba h2.2.2, h2.2.1]
      rfl
    · simp at h2
      rw [nil_ba h2.1, nil_ba h2.2.2, h2.2.1]
      rfl
  unfold parseB
  rw [hc]
  simp only
  rw [if_pos ⟨by rw [hf], trivial⟩]

end Go.Proofs.YtdfjpbdfafpfgaaGreatDoor.Ad

/- The plain law AddressParseMatchesReference. -/
namespace Go.Proofs.YtdfjpbdfafpfgaaGreatDoor.PX
open Go.RowKit Go.Proofs.YtdfjpbdfafpfgaaGreatDoorW.PrintWords Go.Proofs.YtdfjpbdfafpfgaaGreatDoorW.PrintLast Go.Proofs.YtdfjpbdfafpfgaaGreatDoorW.PrintMore
open Ad Br

/-- What the reference takes off a front: what follows, and whether it is there. -/
theorem after_f (s p : ByteArray) : copydeskref12_after.f s p = some (if p.data.toList.isPrefixOf s.data.toList = true then (⟨(s.data.toList.drop p.size).toArray⟩, true) else (⟨#[]⟩, false)) := by
  unfold copydeskref12_after.f
  have el : ∀ s : ByteArray, s.data.toList.length = s.size := fun s => by simp
  by_cases h1 : (s.size : Int) < (p.size : Int)
  · rw [if_pos h1, if_neg]
    intro h
    have := (List.isPrefixOf_iff_prefix.1 h).length_le
    rw [el, el] at this
    omega
  · rw [if_neg h1, if_pos (by omega), if_pos (by omega)]
    have e1 : (s.extract 0 p.size).toList = s.data.toList.take p.size := by
      rw [ByteArray.toList_eq, extract_list]; simp
    have e2 : s.extract p.size s.size = ⟨(s.data.toList.drop p.size).toArray⟩ := by
      rw [extract_list]
      congr 2
      rw [List.take_of_length_le]
      rw [List.length_drop, el]
      omega
    rw [e1, ByteArray.toList_eq, e2]
    have hiff : s.data.toList.take p.size = p.data.toList ↔ p.data.toList.isPrefixOf s.data.toList = true := by
      rw [List.isPrefixOf_iff_prefix, List.prefix_iff_eq_take, el]
      exact eq_comm
    by_cases h2 : s.data.toList.take p.size = p.data.toList
    · rw [if_pos h2, if_pos (hiff.1 h2)]
    · rw [if_neg h2, if_neg (fun h => h2 (hiff.2 h))]

/-- The list before the first slash, and the list after it. -/
def cutL : List UInt8 → List UInt8 × List UInt8
  | [] => ([], [])
  | c :: l => if c = 47 then ([], l) else (c :: (cutL l).1, (cutL l).2)

theorem cut_l (s : ByteArray) (hs : s.size ≤ 1000) : ∀ (k i : Nat), i ≤ s.size → s.size < i + k →
    copydeskref12_cut.l0 k s (i : Int) = some (⟨(s.data.toList.take i ++ (cutL (s.data.toList.drop i)).1).toArray⟩, ⟨(cutL (s.data.toList.drop i)).2.toArray⟩)
  | 0, i, h1, h2 => by omega
  | k + 1, i, h1, h2 => by
    unfold copydeskref12_cut.l0
    have el : s.data.toList.length = s.size := by simp
    by_cases hlt : i < s.size
    · have hb := bt_nat s i hlt
      have hw := wrap_succ i (by omega)
      have hd : s.data.toList.drop i = (s.data.toList[i]'(by omega)) :: s.data.toList.drop (i + 1) := List.drop_eq_getElem_cons (by omega)
      rw [if_pos (by omega), if_pos (by omega), hb, hw]
      have ht : s.data.toList.take (i + 1) = s.data.toList.take i ++ [s.data.toList[i]'(by omega)] := by rw [List.take_succ_eq_append_getElem (by omega)]
      generalize s.data.toList[i]'(by omega) = c at *
      by_cases hc : c = 47
      · subst hc
        rw [if_pos (by decide), if_pos (by omega), if_pos (by omega), if_pos (by omega), hd]
        unfold cutL
        rw [if_pos rfl]
        congr 2
        · rw [extract_list]; simp
        · rw [extract_list, Int.toNat_natCast, List.take_of_length_le (by rw [List.length_drop]; omega)]
      · have hc' : ¬ ((c.toNat : Int) = 47) := fun h => hc (by
          have : c.toNat = 47 := by omega
          exact UInt8.toNat_inj.1 this)
        rw [if_neg hc', cut_l s hs k (i + 1) (by omega) (by omega), hd]
        conv => rhs; unfold cutL
        rw [if_neg hc, ht]
        simp
    · rw [if_neg (by omega), List.drop_eq_nil_of_le (by omega), List.take_of_length_le (by omega)]
      unfold cutL
      simp

theorem cut_f (k : Nat) (s : ByteArray) (hs : s.size ≤ 1000) (hk : s.size < k) : copydeskref12_cut.f k s = some (⟨(cutL s.data.toList).1.toArray⟩, ⟨(cutL s.data.toList).2.toArray⟩) := by
  unfold copydeskref12_cut.f
  have := cut_l s hs k 0 (Nat.zero_le _) (by omega)
  simpa using this

/-- The number from 1 to 64 that is written so, from i on. -/
def numL : Nat → Nat → ByteArray → Int
  | 0, _, _ => 0
  | k + 1, i, s => if (itoaB i).toList = s.toList then i else numL k (i + 1) s

theorem number_l (s : ByteArray) : ∀ (d k i : Nat), i + d = 65 → 1 ≤ i → d + 3 ≤ k → copydeskref12_number.l0 k s (i : Int) = some (numL d i s)
  | 0, k + 3, i, h1, _, _ => by
    unfold copydeskref12_number.l0
    rw [if_neg (by omega)]
    rfl
  | d + 1, k + 1, i, h1, h2, h3 => by
    unfold copydeskref12_number.l0
    obtain ⟨k', rfl⟩ : ∃ k', k = k' + 2 := ⟨k - 2, by omega⟩
    rw [if_pos (by omega), digits_f k' i (by omega)]
    simp only [Option.bind_some]
    unfold numL
    by_cases h : (itoaB i).toList = s.toList
    · rw [if_pos h, if_pos h]
    · rw [if_neg h, if_neg h, wrap_succ i (by omega)]
      exact number_l s d (k' + 2) (i + 1) (by omega) (by omega) (by omega)

theorem number_f (k : Nat) (s : ByteArray) (hk : 67 ≤ k) : copydeskref12_number.f k s = some (numL 64 1 s) :=
  number_l s 64 k 1 rfl (Nat.le_refl _) (by omega)

theorem numL_itoa (n : Nat) (h1 : 1 ≤ n) (h : n ≤ 64) : numL 64 1 (itoaB n) = n := by
  have : (List.range 65).all (fun n => decide (n < 1) || decide (numL 64 1 (itoaB n) = n)) = true := by decide +kernel
  rw [List.all_eq_true] at this
  have := this n (by simp; omega)
  simp only [Bool.or_eq_true, decide_eq_true_eq] at this
  omega

theorem cutL_at : ∀ (a b : List UInt8), (47 : UInt8) ∉ a → cutL (a ++ 47 :: b) = (a, b)
  | [], b, _ => by
    show cutL (47 :: b) = _
    unfold cutL
    rw [if_pos rfl]
  | c :: a, b, h => by
    have hc : c ≠ 47 := fun e => h (by rw [e]; exact List.mem_cons_self)
    show cutL (c :: (a ++ 47 :: b)) = _
    unfold cutL
    rw [if_neg hc, cutL_at a b (fun hm => h (List.mem_cons_of_mem _ hm))]

theorem cutL_len : ∀ l : List UInt8, (cutL l).1.length ≤ l.length ∧ (cutL l).2.length ≤ l.length
  | [] => ⟨Nat.le_refl _, Nat.le_refl _⟩
  | c :: l => by
    have := cutL_len l
    unfold cutL
    split
    · exact ⟨Nat.zero_le _, by simp⟩
    · simp only [List.length_cons]; omega

/-- What follows a front, and whether it is there. -/
def afterB (p s : ByteArray) : ByteArray × Bool := if p.data.toList.isPrefixOf s.data.toList = true then (⟨(s.data.toList.drop p.size).toArray⟩, true) else (⟨#[]⟩, false)
theorem afterB_size (p s : ByteArray) : (afterB p s).1.size ≤ s.size := by
  unfold afterB
  split
  · show (⟨(s.data.toList.drop p.size).toArray⟩ : ByteArray).size ≤ _
    have : (⟨(s.data.toList.drop p.size).toArray⟩ : ByteArray).size = (s.data.toList.drop p.size).length := rfl
    rw [this, List.length_drop]
    simp
  · exact Nat.zero_le _
theorem afterB_yes {p s : ByteArray} {r : List UInt8} (h : s.data.toList = p.data.toList ++ r) : afterB p s = (⟨r.toArray⟩, true) := by
  unfold afterB
  have hl : p.size = p.data.toList.length := by simp
  rw [if_pos (by rw [h, List.isPrefixOf_iff_prefix]; exact List.prefix_append _ _), h, hl, List.drop_left]
theorem afterB_no {p s : ByteArray} (h : p.data.toList.isPrefixOf s.data.toList = false) : afterB p s = (⟨#[]⟩, false) := by
  unfold afterB
  rw [if_neg (by rw [h]; decide)]

abbrev Addr := Int × ByteArray × Int × ByteArray × Int
/-- The last look: the address stands if its own path is the given one. -/
def chk (s : ByteArray) (kind : Int) (name : ByteArray) (n : Int) (lang : ByteArray) : Addr :=
  if (fmtB kind name n lang).2 = 0 then (if (fmtB kind name n lang).1.toList = s.toList then (kind, name, n, lang, 0) else (0, ⟨#[]⟩, 0, ⟨#[]⟩, 120)) else (0, ⟨#[]⟩, 0, ⟨#[]⟩, 120)
def storyB : ByteArray := ⟨#[47, 115, 116, 111, 114, 121, 47]⟩
def topicB : ByteArray := ⟨#[47, 116, 111, 112, 105, 99, 47]⟩
def authorB : ByteArray := ⟨#[47, 97, 117, 116, 104, 111, 114, 47]⟩
def feedB : ByteArray := ⟨#[47, 102, 101, 101, 100, 47]⟩
def R3 (s : ByteArray) (kind : Int) (name : ByteArray) (n : Int) (lang : ByteArray) : Addr :=
  if (afterB feedB s).2 = true then chk s 5 (afterB feedB s).1 0 ⟨#[]⟩ else chk s kind name n lang
def R2 (s : ByteArray) (kind : Int) (name : ByteArray) (n : Int) (lang : ByteArray) : Addr :=
  if (afterB authorB s).2 = true then R3 s 4 (afterB authorB s).1 0 ⟨#[]⟩ else R3 s kind name n lang
def cut1 (s : ByteArray) : ByteArray := ⟨(cutL s.data.toList).1.toArray⟩
def cut2 (s : ByteArray) : ByteArray := ⟨(cutL s.data.toList).2.toArray⟩
def R1 (s : ByteArray) (kind : Int) (name : ByteArray) (n : Int) (lang : ByteArray) : Addr :=
  if (afterB topicB s).2 = true then R2 s 3 (cut1 (afterB topicB s).1) (numL 64 1 (cut2 (afterB topicB s).1)) ⟨#[]⟩ else R2 s kind name n lang
def R0 (s : ByteArray) (kind : Int) (name : ByteArray) (n : Int) (lang : ByteArray) : Addr :=
  if (afterB storyB s).2 = true then R1 s 2 ⟨#[]⟩ (numL 64 1 (cut1 (afterB storyB s).1)) (cut2 (afterB storyB s).1) else R1 s kind name n lang
def refB (s : ByteArray) : Addr := if s.toList = [47, 109, 97, 112] then R0 s 6 ⟨#[]⟩ 0 ⟨#[]⟩ else R0 s 1 ⟨#[]⟩ 0 ⟨#[]⟩

theorem cut_size (s : ByteArray) : (cut1 s).size ≤ s.size ∧ (cut2 s).size ≤ s.size := by
  have := cutL_len s.data.toList
  have e1 : (cut1 s).size = (cutL s.data.toList).1.length := by rfl
  have e2 : (cut2 s).size = (cutL s.data.toList).2.length := by rfl
  have e3 : s.data.toList.length = s.size := by simp
  omega

theorem ref_format (k : Nat) (hk : 120 ≤ k) (kind : Int) (name : ByteArray) (n : Int) (lang : ByteArray) (h1 : name.size ≤ 100) (h2 : lang.size ≤ 100) :
    copydeskref12_Format.f k kind name n lang = some (fmtB kind name n lang) := by
  obtain ⟨k', rfl⟩ : ∃ k', k = k' + 2 := ⟨k - 2, by omega⟩
  exact refFormat k' kind name n lang (by omega) (by omega) (by omega) (by omega)
theorem after_B (s p : ByteArray) : copydeskref12_after.f s p = some (afterB p s) := after_f s p

theorem j3_f (k : Nat) (hk : 120 ≤ k) (s : ByteArray) (hs : s.size ≤ 100) (kind : Int) (name : ByteArray) (n : Int) (lang : ByteArray) (h1 : name.size ≤ 100) (h2 : lang.size ≤ 100) :
    copydeskref12_Parse.j3 (k + 1) s kind name n lang = some (R3 s kind name n lang) := by
  have ha := afterB_size feedB s
  rw [copydeskref12_Parse.j3]
  unfold R3
  rw [show (⟨#[47, 102, 101, 101, 100, 47]⟩ : ByteArray) = feedB from rfl, after_B, ref_format k hk kind name n lang h1 h2]
  simp only [Option.bind_some]
  rw [ref_format k hk 5 (afterB feedB s).1 0 ⟨#[]⟩ (by omega) (Nat.zero_le _)]
  simp only [Option.bind_some]
  unfold chk
  repeat' split
  all_goals first | rfl | contradiction
theorem j2_f (k : Nat) (hk : 121 ≤ k) (s : ByteArray) (hs : s.size ≤ 100) (kind : Int) (name : ByteArray) (n : Int) (lang : ByteArray) (h1 : name.size ≤ 100) (h2 : lang.size ≤ 100) :
    copydeskref12_Parse.j2 (k + 1) s kind name n lang = some (R2 s kind name n lang) := by
  have ha := afterB_size authorB s
  obtain ⟨k', rfl⟩ : ∃ k', k = k' + 1 := ⟨k - 1, by omega⟩
  rw [copydeskref12_Parse.j2]
  unfold R2
  rw [show (⟨#[47, 97, 117, 116, 104, 111, 114, 47]⟩ : ByteArray) = authorB from rfl, after_B]
  simp only [Option.bind_some]
  rw [j3_f k' (by omega) s hs kind name n lang h1 h2, j3_f k' (by omega) s hs 4 (afterB authorB s).1 0 ⟨#[]⟩ (by omega) (Nat.zero_le _)]
  split <;> rfl
theorem j1_f (k : Nat) (hk : 122 ≤ k) (s : ByteArray) (hs : s.size ≤ 100) (kind : Int) (name : ByteArray) (n : Int) (lang : ByteArray) (h1 : name.size ≤ 100) (h2 : lang.size ≤ 100) :
    copydeskref12_Parse.j1 (k + 1) s kind name n lang = some (R1 s kind name n lang) := by
  have ha := afterB_size topicB s
  obtain ⟨k', rfl⟩ : ∃ k', k = k' + 1 := ⟨k - 1, by omega⟩
  rw [copydeskref12_Parse.j1]
  unfold R1
  rw [show (⟨#[47, 116, 111, 112, 105, 99, 47]⟩ : ByteArray) = topicB from rfl, after_B]
  simp only [Option.bind_some]
  rw [j2_f k' (by omega) s hs kind name n lang h1 h2]
  generalize (afterB topicB s).1 = r at *
  have hc := cut_size r
  rw [cut_f (k' + 1) r (by omega) (by omega)]
  simp only [Option.bind_some]
  rw [number_f (k' + 1) _ (by omega)]
  simp only [Option.bind_some]
  have := j2_f k' (by omega) s hs 3 (cut1 r) (numL 64 1 (cut2 r)) ⟨#[]⟩ (by omega) (Nat.zero_le _)
  unfold cut1 cut2 at this ⊢
  rw [this]
  split <;> rfl
theorem j0_f (k : Nat) (hk : 123 ≤ k) (s : ByteArray) (hs : s.size ≤ 100) (kind : Int) (name : ByteArray) (n : Int) (lang : ByteArray) (h1 : name.size ≤ 100) (h2 : lang.size ≤ 100) :
    copydeskref12_Parse.j0 (k + 1) s kind name n lang = some (R0 s kind name n lang) := by
  have ha := afterB_size storyB s
  obtain ⟨k', rfl⟩ : ∃ k', k = k' + 1 := ⟨k - 1, by omega⟩
  rw [copydeskref12_Parse.j0]
  unfold R0
  rw [show (⟨#[47, 115, 116, 111, 114, 121, 47]⟩ : ByteArray) = storyB from rfl, after_B]
  simp only [Option.bind_some]
  rw [j1_f k' (by omega) s hs kind name n lang h1 h2]
  generalize (afterB storyB s).1 = r at *
  have hc := cut_size r
  rw [cut_f (k' + 1) r (by omega) (by omega)]
  simp only [Option.bind_some]
  rw [number_f (k' + 1) _ (by omega)]
  simp only [Option.bind_some]
  have := j1_f k' (by omega) s hs 2 ⟨#[]⟩ (numL 64 1 (cut1 r)) (cut2 r) (Nat.zero_le _) (by omega)
  unfold cut1 cut2 at this ⊢
  rw [this]
  split <;> rfl
theorem parse_ref (k : Nat) (hk : 123 ≤ k) (s : ByteArray) (hs : s.size ≤ 100) : copydeskref12_Parse.f (k + 1) s = some (refB s) := by
  unfold copydeskref12_Parse.f refB
  rw [j0_f k hk s hs _ _ _ _ (Nat.zero_le _) (Nat.zero_le _), j0_f k hk s hs _ _ _ _ (Nat.zero_le _) (Nat.zero_le _)]
  split <;> rfl

/-- Either nothing, or an address whose path is the given one. -/
def Kept (s : ByteArray) (r : Addr) : Prop := r = (0, ⟨#[]⟩, 0, ⟨#[]⟩, 120) ∨ ∃ kind name n lang, fmtB kind name n lang = (s, 0) ∧ r = (kind, name, n, lang, 0)
theorem chk_kept (s : ByteArray) (kind : Int) (name : ByteArray) (n : Int) (lang : ByteArray) : Kept s (chk s kind name n lang) := by
  unfold chk
  by_cases h1 : (fmtB kind name n lang).2 = 0
  · by_cases h2 : (fmtB kind name n lang).1.toList = s.toList
    · rw [if_pos h1, if_pos h2]
      refine Or.inr ⟨kind, name, n, lang, ?_, rfl⟩
      rw [ByteArray.toList_eq, ByteArray.toList_eq] at h2
      exact Prod.ext (ba_ext h2) h1
    · rw [if_pos h1, if_neg h2]; exact Or.inl rfl
  · rw [if_neg h1]; exact Or.inl rfl
theorem chk_valid {s : ByteArray} {kind : Int} {name : ByteArray} {n : Int} {lang : ByteArray} (h : fmtB kind name n lang = (s, 0)) : chk s kind name n lang = (kind, name, n, lang, 0) := by
  unfold chk
  rw [h, if_pos rfl, if_pos rfl]
theorem ref_kept (s : ByteArray) : Kept s (refB s) := by
  unfold refB R0 R1 R2 R3
  repeat' split
  all_goals exact chk_kept s _ _ _ _

theorem R3_no {s : ByteArray} (h : feedB.data.toList.isPrefixOf s.data.toList = false) (kind : Int) (name : ByteArray) (n : Int) (lang : ByteArray) : R3 s kind name n lang = chk s kind name n lang := by
  unfold R3; rw [afterB_no h]; exact if_neg (by simp)
theorem R2_no {s : ByteArray} (h : authorB.data.toList.isPrefixOf s.data.toList = false) (kind : Int) (name : ByteArray) (n : Int) (lang : ByteArray) : R2 s kind name n lang = R3 s kind name n lang := by
  unfold R2; rw [afterB_no h]; exact if_neg (by simp)
theorem R1_no {s : ByteArray} (h : topicB.data.toList.isPrefixOf s.data.toList = false) (kind : Int) (name : ByteArray) (n : Int) (lang : ByteArray) : R1 s kind name n lang = R2 s kind name n lang := by
  unfold R1; rw [afterB_no h]; exact if_neg (by simp)
theorem R0_no {s : ByteArray} (h : storyB.data.toList.isPrefixOf s.data.toList = false) (kind : Int) (name : ByteArray) (n : Int) (lang : ByteArray) : R0 s kind name n lang = R1 s kind name n lang := by
  unfold R0; rw [afterB_no h]; exact if_neg (by simp)

theorem fmt_valid {kind : Int} {name : ByteArray} {n : Int} {lang s : ByteArray} (h : fmtB kind name n lang = (s, 0)) : validB kind name n lang = true := by
  unfold fmtB at h
  split at h
  · assumption
  · injection h with _ h; cases h

theorem cut_pair {a b s : ByteArray} (ha : (47 : UInt8) ∉ a.data.toList) (h : s.data.toList = a.data.toList ++ 47 :: b.data.toList) : cut1 s = a ∧ cut2 s = b := by
  unfold cut1 cut2
  rw [h, cutL_at _ _ ha]
  exact ⟨ba_ext rfl, ba_ext rfl⟩

theorem ref_valid {s : ByteArray} {kind : Int} {name : ByteArray} {n : Int} {lang : ByteArray} (h : fmtB kind name n lang = (s, 0)) : refB s = (kind, name, n, lang, 0) := by
  have hv := fmt_valid h
  have hc := chk_valid h
  obtain ⟨m, rfl, hm⟩ := valid_num hv
  have hd : s.data.toList = 47 :: Lib.join ((piecesOf (slotOf (numOf kind)) name m lang).map (·.data.toList)) [47] := by
    unfold fmtB at h
    rw [if_pos hv, Int.toNat_natCast] at h
    injection h with h _
    rw [← h]
    simp [joinB]
  clear h
  have h2 := hv
  unfold validB at h2
  unfold refB
  rw [ByteArray.toList_eq]
  rcases valid_kind hv with rfl | rfl | rfl | rfl | rfl | rfl
  · replace hd : s.data.toList = [47] := hd
    simp at h2
    have e1 := nil_ba h2.1
    have e3 := nil_ba h2.2.2
    obtain rfl : m = 0 := by omega
    subst e1 e3
    rw [if_neg (by rw [hd]; simp), R0_no (by rw [hd]; rfl), R1_no (by rw [hd]; rfl), R2_no (by rw [hd]; rfl), R3_no (by rw [hd]; rfl)]
    exact hc
  · replace hd : s.data.toList = 47 :: Lib.join [[115, 116, 111, 114, 121], (itoaB m).data.toList, lang.data.toList] [47] := hd
    simp [Lib.join, List.intercalate, List.intersperse] at hd
    simp at h2
    have e1 := nil_ba h2.2.2
    subst e1
    have hn : 1 ≤ m ∧ m ≤ 64 := by
      have := h2.1
      unfold numB at this
      simp at this
      omega
    have ha : afterB storyB s = (⟨((itoaB m).data.toList ++ 47 :: lang.data.toList).toArray⟩, true) := afterB_yes (by rw [hd]; rfl)
    obtain ⟨c1, c2⟩ := cut_pair (a := itoaB m) (b := lang) (s := ⟨((itoaB m).data.toList ++ 47 :: lang.data.toList).toArray⟩) (itoa_slash m hm) rfl
    rw [if_neg (by rw [hd]; simp)]
    unfold R0
    rw [ha, if_pos rfl]
    simp only
    rw [c1, c2, numL_itoa m hn.1 hn.2, R1_no (by rw [hd]; rfl), R2_no (by rw [hd]; rfl), R3_no (by rw [hd]; rfl)]
    exact hc
  · replace hd : s.data.toList = 47 :: Lib.join [[116, 111, 112, 105, 99], name.data.toList, (itoaB m).data.toList] [47] := hd
    simp [Lib.join, List.intercalate, List.intersperse] at hd
    simp at h2
    have e1 := nil_ba h2.2.2
    subst e1
    have hn : 1 ≤ m ∧ m ≤ 64 := by
      have := h2.1
      unfold numB at this
      simp at this
      omega
    have ha : afterB topicB s = (⟨(name.data.toList ++ 47 :: (itoaB m).data.toList).toArray⟩, true) := afterB_yes (by rw [hd]; rfl)
    obtain ⟨c1, c2⟩ := cut_pair (a := name) (b := itoaB m) (s := ⟨(name.data.toList ++ 47 :: (itoaB m).data.toList).toArray⟩) (ok_slash h2.2.1) rfl
    rw [if_neg (by rw [hd]; simp), R0_no (by rw [hd]; rfl)]
    unfold R1
    rw [ha, if_pos rfl]
    simp only
    rw [c1, c2, numL_itoa m hn.1 hn.2, R2_no (by rw [hd]; rfl), R3_no (by rw [hd]; rfl)]
    exact hc
  · replace hd : s.data.toList = 47 :: Lib.join [[97, 117, 116, 104, 111, 114], name.data.toList] [47] := hd
    simp [Lib.join, List.intercalate, List.intersperse] at hd
    simp at h2
    have e1 := nil_ba h2.2.2
    obtain rfl : m = 0 := by omega
    subst e1
    have ha : afterB authorB s = (⟨name.data.toList.toArray⟩, true) := afterB_yes (by rw [hd]; rfl)
    rw [if_neg (by rw [hd]; simp), R0_no (by rw [hd]; rfl), R1_no (by rw [hd]; rfl)]
    unfold R2
    rw [ha, if_pos rfl, R3_no (by rw [hd]; rfl)]
    exact hc
  · replace hd : s.data.toList = 47 :: Lib.join [[102, 101, 101, 100], name.data.toList] [47] := hd
    simp [Lib.join, List.intercalate, List.intersperse] at hd
    simp at h2
    have e1 := nil_ba h2.2.2
    obtain rfl : m = 0 := by omega
    subst e1
    have ha : afterB feedB s = (⟨name.data.toList.toArray⟩, true) := afterB_yes (by rw [hd]; rfl)
    rw [if_neg (by rw [hd]; simp), R0_no (by rw [hd]; rfl), R1_no (by rw [hd]; rfl), R2_no (by rw [hd]; rfl)]
    unfold R3
    rw [ha, if_pos rfl]
    exact hc
  · replace hd : s.data.toList = [47, 109, 97, 112] := hd
    simp at h2
    have e1 := nil_ba h2.1
    have e3 := nil_ba h2.2.2
    obtain rfl : m = 0 := by omega
    subst e1 e3
    rw [if_pos hd, R0_no (by rw [hd]; rfl), R1_no (by rw [hd]; rfl), R2_no (by rw [hd]; rfl), R3_no (by rw [hd]; rfl)]
    exact hc

theorem parse_kept (s : ByteArray) : Kept s (parseB s) := by
  unfold parseB
  cases h : candB s with
  | none => exact .inl rfl
  | some x =>
    obtain ⟨k, a, n, l⟩ := x
    simp only
    by_cases hf : (fmtB k a n l).2 = 0 ∧ (fmtB k a n l).1.toList = s.toList
    · rw [if_pos hf]
      refine .inr ⟨k, a, n, l, ?_, rfl⟩
      obtain ⟨h1, h2⟩ := hf
      rw [ByteArray.toList_eq, ByteArray.toList_eq] at h2
      exact Prod.ext (ba_ext h2) h1
    · rw [if_neg hf]
      exact .inl rfl

/-- Parse gives what the reference gives. -/
theorem parse_same (s : ByteArray) : parseB s = refB s := by
  rcases ref_kept s with h | ⟨kind, name, n, lang, hf, hr⟩
  · rcases parse_kept s with h1 | ⟨kind, name, n, lang, hf, hr⟩
    · rw [h, h1]
    · rw [hr, ref_valid hf]
  · have := parse_format (fmt_valid hf)
    rw [hf] at this
    rw [hr]
    exact this

theorem cut_hundred (n : Nat) : 0 ≤ mn (n : Int) 100 ∧ mn (n : Int) 100 ≤ n ∧ mn (n : Int) 100 ≤ 100 := by
  unfold mn; split <;> omega

theorem ParseMatches_pure (a0 : ByteArray) : copydesklaw12_AddressParseMatchesReference.f 200 a0 = some true := by
  obtain ⟨b1, b2, b3⟩ := cut_hundred a0.size
  have hs : (a0.extract 0 (mn (a0.size : Int) 100).toNat).size ≤ 100 := by rw [ByteArray.size_extract]; omega
  unfold copydesklaw12_AddressParseMatchesReference.f copydesklaw12_sane.f address_Parse.f
  simp only [Option.bind_some]
  rw [if_pos b1, if_pos b2]
  generalize a0.extract 0 (mn (a0.size : Int) 100).toNat = s at *
  rw [parse_ref 199 (by omega) s hs, parse_same s, if_pos (show s.size ≤ 1000 by omega)]
  simp

end Go.Proofs.YtdfjpbdfafpfgaaGreatDoor.PX
