/- The plain law AddressParsedAgain. -/
import Derived.Test.YtdfjpbdfafpfgaaGreatDoorPXx17
namespace Go.Proofs.YtdfjpbdfafpfgaaGreatDoor.PX
open Go.RowKit Go.Proofs.YtdfjpbdfafpfgaaGreatDoorW.PrintWords Go.Proofs.YtdfjpbdfafpfgaaGreatDoorW.PrintLast Go.Proofs.YtdfjpbdfafpfgaaGreatDoorW.PrintMore
open Ad

theorem parseB_cases (s : ByteArray) : parseB s = noneB ∨ ∃ k a n l, candB s = some (k, a, n, l) ∧ parseB s = (k, a, n, l, 0) ∧ (fmtB k a n l).2 = 0 ∧ (fmtB k a n l).1.toList = s.toList := by
  unfold parseB
  cases h : candB s with
  | none => exact .inl rfl
  | some x =>
    obtain ⟨k, a, n, l⟩ := x
    simp only
    by_cases hf : (fmtB k a n l).2 = 0 ∧ (fmtB k a n l).1.toList = s.toList
    · rw [if_pos hf]
      exact .inr ⟨k, a, n, l, rfl, rfl, hf.1, hf.2⟩
    · rw [if_neg hf]
      exact .inl rfl

theorem fmtB_valid {k : Int} {a : ByteArray} {n : Int} {l : ByteArray} (h : (fmtB k a n l).2 = 0) : validB k a n l = true := by
  unfold fmtB at h
  split at h
  · assumption
  · cases h

theorem mn_bounds (n : Nat) : 0 ≤ mn (n : Int) 100 ∧ mn (n : Int) 100 ≤ n ∧ mn (n : Int) 100 ≤ 100 := by
  unfold mn; split <;> omega

theorem ParsedAgain_pure : copydesklaw12_AddressParsedAgain.Pure := by
  intro a0 _
  refine ⟨1, ?_⟩
  obtain ⟨h1, h2, h3⟩ := mn_bounds a0.size
  unfold copydesklaw12_AddressParsedAgain.f copydesklaw12_sane.f
  simp only [Option.bind_some]
  rw [if_pos h1, if_pos h2]
  have hs : (a0.extract 0 (mn (a0.size : Int) 100).toNat).size ≤ 1000 := by rw [ByteArray.size_extract]; omega
  generalize a0.extract 0 (mn (a0.size : Int) 100).toNat = s at *
  unfold address_Parse.f address_Format.f
  rw [if_pos hs]
  simp only [Option.bind_some]
  rcases parseB_cases s with h | ⟨k, a, n, l, -, h, hf, ht⟩
  · rw [h]
    have e0 : (⟨#[]⟩ : ByteArray).toList = [] := by rw [ByteArray.toList_eq]
    unfold noneB
    show (if (120 : Int) = 0 then _ else _) = _
    rw [if_neg (by decide), if_pos trivial, if_pos rfl]
    show some ((0 : Int) == 0 && ((⟨#[]⟩ : ByteArray).toList == [] && ((0 : Int) == 0 && (⟨#[]⟩ : ByteArray).toList == []))) = some true
    rw [e0]; rfl
  · rw [h]
    show (if (0 : Int) = 0 then _ else _) = _
    rw [if_pos rfl, if_pos trivial]
    rw [if_pos ht.symm, if_pos hf, valid_f, fmtB_valid hf]
    rfl

end Go.Proofs.YtdfjpbdfafpfgaaGreatDoor.PX
