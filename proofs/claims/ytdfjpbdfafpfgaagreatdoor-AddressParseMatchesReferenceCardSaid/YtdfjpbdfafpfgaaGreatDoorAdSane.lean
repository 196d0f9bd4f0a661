/- sane of the address laws: true. -/
import Derived.Test.YtdfjpbdfafpfgaaGreatDoorAdAll
import Derived.Test.YtdfjpbdfafpfgaaGreatDoorAdUrgency
namespace Go.Proofs.YtdfjpbdfafpfgaaGreatDoor.Ad
open Go.RowKit

theorem nil_list : (⟨#[]⟩ : ByteArray).toList = [] := by rw [ByteArray.toList_eq]
theorem story7 : fmtB 2 ⟨#[]⟩ 7 ⟨#[101, 110]⟩ = (⟨#[47, 115, 116, 111, 114, 121, 47, 55, 47, 101, 110]⟩, 0) := by
  have hv : validB 2 ⟨#[]⟩ 7 ⟨#[101, 110]⟩ = true := by unfold validB; rw [nil_list]; decide +kernel
  unfold fmtB
  rw [if_pos hv]
  decide +kernel
theorem front_a : fmtB 1 ⟨#[97]⟩ 0 ⟨#[]⟩ = (⟨#[]⟩, 120) := by
  have e : (⟨#[97]⟩ : ByteArray).toList = [97] := by rw [ByteArray.toList_eq]
  have hv : validB 1 ⟨#[97]⟩ 0 ⟨#[]⟩ = false := by unfold validB; rw [nil_list, e]; decide +kernel
  unfold fmtB
  rw [hv]
  rfl
theorem split_city : splitS ⟨#[47, 116, 111, 112, 105, 99, 47, 99, 105, 116, 121, 45, 104, 97, 108, 108, 47, 50]⟩ = [⟨#[116, 111, 112, 105, 99]⟩, ⟨#[99, 105, 116, 121, 45, 104, 97, 108, 108]⟩, ⟨#[50]⟩] := by decide +kernel
theorem split_a02 : splitS ⟨#[47, 116, 111, 112, 105, 99, 47, 97, 47, 48, 50]⟩ = [⟨#[116, 111, 112, 105, 99]⟩, ⟨#[97]⟩, ⟨#[48, 50]⟩] := by decide +kernel
theorem num2 : numI ⟨#[50]⟩ = 2 := by decide +kernel
theorem num02 : numI ⟨#[48, 50]⟩ = 2 := by decide +kernel
theorem numW_eq (x : ByteArray) : numW x = pick fun j => (wordOf j).data.toList == x.data.toList := by
  unfold numW
  congr 1
  funext j
  rw [ByteArray.toList_eq, ByteArray.toList_eq]
theorem topicW : numW ⟨#[116, 111, 112, 105, 99]⟩ = 3 := by rw [numW_eq]; decide +kernel
def cityB : ByteArray := ⟨#[99, 105, 116, 121, 45, 104, 97, 108, 108]⟩
theorem fmt_city : fmtB 3 cityB 2 ⟨#[]⟩ = (⟨#[47, 116, 111, 112, 105, 99, 47, 99, 105, 116, 121, 45, 104, 97, 108, 108, 47, 50]⟩, 0) := by
  have hv : validB 3 cityB 2 ⟨#[]⟩ = true := by unfold validB; rw [nil_list]; decide +kernel
  unfold fmtB
  rw [if_pos hv]
  decide +kernel
theorem fmt_a2 : fmtB 3 ⟨#[97]⟩ 2 ⟨#[]⟩ = (⟨#[47, 116, 111, 112, 105, 99, 47, 97, 47, 50]⟩, 0) := by
  have hv : validB 3 ⟨#[97]⟩ 2 ⟨#[]⟩ = true := by unfold validB; rw [nil_list]; decide +kernel
  unfold fmtB
  rw [if_pos hv]
  decide +kernel
theorem parse_city : parseB ⟨#[47, 116, 111, 112, 105, 99, 47, 99, 105, 116, 121, 45, 104, 97, 108, 108, 47, 50]⟩ = (3, cityB, 2, ⟨#[]⟩, 0) := by
  have hc : candB ⟨#[47, 116, 111, 112, 105, 99, 47, 99, 105, 116, 121, 45, 104, 97, 108, 108, 47, 50]⟩ = some (3, cityB, 2, ⟨#[]⟩) := by
    unfold candB
    rw [split_city]
    simp only
    rw [topicW]
    show some (kindOf 3, putA 3 [cityB, ⟨#[50]⟩]) = _
    show some ((3 : Int), cityB, numI ⟨#[50]⟩, (⟨#[]⟩ : ByteArray)) = _
    rw [num2]
  unfold parseB
  rw [hc]
  simp only
  rw [fmt_city, if_pos ⟨rfl, rfl⟩]
theorem parse_a02 : parseB ⟨#[47, 116, 111, 112, 105, 99, 47, 97, 47, 48, 50]⟩ = noneB := by
  have hc : candB ⟨#[47, 116, 111, 112, 105, 99, 47, 97, 47, 48, 50]⟩ = some (3, ⟨#[97]⟩, 2, ⟨#[]⟩) := by
    unfold candB
    rw [split_a02]
    simp only
    rw [topicW]
    show some ((3 : Int), (⟨#[97]⟩ : ByteArray), numI ⟨#[48, 50]⟩, (⟨#[]⟩ : ByteArray)) = _
    rw [num02]
  unfold parseB
  rw [hc]
  simp only
  rw [fmt_a2, if_neg]
  rintro ⟨-, h⟩
  rw [ByteArray.toList_eq, ByteArray.toList_eq] at h
  revert h
  decide

theorem valid_city : validB 3 cityB 2 ⟨#[]⟩ = true := by unfold validB; rw [nil_list]; decide +kernel
theorem urg_city : urgB 3 cityB 2 ⟨#[]⟩ = 3 := by
  unfold urgB
  rw [if_pos valid_city]
  decide +kernel

set_option maxHeartbeats 4000000 in
set_option maxRecDepth 1000000 in
theorem sane (w : World) (hG : Lex.Gl w) : Calls Tryz.prog 7 #[] w fun e w' => e = .returned (.bool true) ∧ Below w.heap.size w w' := by
  have mixed : Tryz.prog.follows .mixedOrders = true := by kernel_rfl
  have F1 := fun w => format 2 ⟨#[]⟩ 7 ⟨#[101, 110]⟩ w
  have F2 := fun w => format 1 ⟨#[97]⟩ 0 ⟨#[]⟩ w
  rw [story7] at F1
  rw [front_a] at F2
  have P1 := fun w hG => parse ⟨#[47, 116, 111, 112, 105, 99, 47, 99, 105, 116, 121, 45, 104, 97, 108, 108, 47, 50]⟩ (by decide) w hG
  have P2 := fun w hG => parse ⟨#[47, 116, 111, 112, 105, 99, 47, 97, 47, 48, 50]⟩ (by decide) w hG
  simp only [parse_city] at P1
  simp only [parse_a02, noneB] at P2
  have V1 := fun w => valid 3 cityB 2 ⟨#[]⟩ w
  have U1 := fun w => urgency 3 cityB 2 ⟨#[]⟩ w
  rw [valid_city] at V1
  rw [urg_city] at U1
  have A0 := all0
  unfold adr cityB noState at *
  have F1 : Aside _ := F1
  have F2 : Aside _ := F2
  have P1 : Aside _ := P1
  have P2 : Aside _ := P2
  have V1 : Aside _ := V1
  have U1 : Aside _ := U1
  have A0 : Aside _ := A0
  have HG : Aside _ := hG
  clear hG
  go_enter Tryz.func7, Tryz.ntmps7
  go_wp2_with (go_at_call 9; fail)
  refine (F1.out w).mono ?_
  rintro e w1 ⟨rfl, hb1⟩
  have hB1 : Aside (Below w.heap.size w w1) := hb1
  clear hb1
  go_wp2_with (go_at_call 9; fail)
  refine (F2.out w1).mono ?_
  rintro e w2 ⟨rfl, hb2⟩
  have hB2 : Aside (Below w.heap.size w w2) := hB1.out.trans (hb2.mono hB1.out.size)
  clear hb2
  go_wp2_with (go_at_call 15; fail)
  refine (P1.out w2 (gl_to HG.out hB2.out)).mono ?_
  rintro e w3 ⟨rfl, hb3⟩
  have HB3 : Aside (Below w.heap.size w w3) := hB2.out.trans (hb3.mono hB2.out.size)
  clear hb3
  go_wp2_with (go_at_call 15; fail)
  generalize hw4 : World.alloc w3 _ = w4
  have hB34 : Below w3.heap.size w3 w4 := by rw [← hw4]; exact (Below.refl _ _).alloc (Nat.le_refl _) _
  have hs4 : w4.heap.size = w3.heap.size + 1 := by rw [← hw4]; simp
  have ha4 : w4.heap[w3.heap.size]? = some (.cells #[.int .i64 3, .string ⟨#[99, 105, 116, 121, 45, 104, 97, 108, 108]⟩, .int .i64 2, .string ⟨#[]⟩] 23 (0, 0)) := by rw [← hw4]; exact heap_alloc_new _ _
  clear hw4
  have HB4 : Aside (Below w.heap.size w w4) := HB3.out.trans (hB34.mono HB3.out.size)
  refine (P2.out _ (gl_to HG.out HB4.out)).mono ?_
  rintro e w5 ⟨rfl, hb5⟩
  have ha5 : w5.heap[w3.heap.size]? = some (.cells #[.int .i64 3, .string ⟨#[99, 105, 116, 121, 45, 104, 97, 108, 108]⟩, .int .i64 2, .string ⟨#[]⟩] 23 (0, 0)) := by rw [hb5.block _ (by omega)]; exact ha4
  have HA5 : Aside _ := ha5
  have HB5 : Aside (Below w.heap.size w w5) := HB4.out.trans (hb5.mono HB4.out.size)
  have hlt5 : w3.heap.size < w5.heap.size := box_lt ha5
  clear ha4 ha5 hb5 hs4 hB34 HB4 HB3
  generalize w3.heap.size = ab at *
  go_wp2_with (go_at_call 17; fail)
  generalize hw6 : World.alloc w5 _ = w6
  have hB56 : Below w5.heap.size w5 w6 := by rw [← hw6]; exact (Below.refl _ _).alloc (Nat.le_refl _) _
  clear hw6
  refine (A0.out _).mono ?_
  rintro e w7 ⟨⟨b, c, rfl, l0, l1⟩, hb7⟩
  have hB57 : Below w5.heap.size w5 w7 := hB56.trans (hb7.mono hB56.size)
  have ha7 : w7.heap[ab]? = some (.cells #[.int .i64 3, .string ⟨#[99, 105, 116, 121, 45, 104, 97, 108, 108]⟩, .int .i64 2, .string ⟨#[]⟩] 23 (0, 0)) := by rw [hB57.block _ hlt5]; exact HA5.out
  have HB7 : Aside (Below w.heap.size w w7) := HB5.out.trans (hB57.mono HB5.out.size)
  have a0 : w7.cell? ⟨ab, 0, none⟩ = some (.int .i64 3) := by unfold World.cell?; rw [ha7]; rfl
  have a1 : w7.cell? ⟨ab, 1, none⟩ = some (.string ⟨#[99, 105, 116, 121, 45, 104, 97, 108, 108]⟩) := by unfold World.cell?; rw [ha7]; rfl
  have a2 : w7.cell? ⟨ab, 2, none⟩ = some (.int .i64 2) := by unfold World.cell?; rw [ha7]; rfl
  have a3 : w7.cell? ⟨ab, 3, none⟩ = some (.string ⟨#[]⟩) := by unfold World.cell?; rw [ha7]; rfl
  clear ha7 hB57 hB56 hb7 HB5 HA5 hlt5
  go_wp2_with (go_at_call 11; fail)
  refine (V1.out _).mono ?_
  rintro e w8 ⟨rfl, hb8⟩
  have c0 := keep_cell hb8 a0
  have c1 := keep_cell hb8 a1
  have c2 := keep_cell hb8 a2
  have c3 := keep_cell hb8 a3
  have HB8 : Aside (Below w.heap.size w w8) := HB7.out.trans (hb8.mono HB7.out.size)
  clear hb8 a0 a1 a2 a3 l0 l1
  go_wp2_with (go_at_call 13; fail)
  refine (U1.out _).mono ?_
  rintro e w9 ⟨rfl, hb9⟩
  have HB9 : Aside (Below w.heap.size w w9) := HB8.out.trans (hb9.mono HB8.out.size)
  clear hb9 c0 c1 c2 c3
  go_wp2
  go_ret
  exact ⟨rfl, HB9.out⟩

end Go.Proofs.YtdfjpbdfafpfgaaGreatDoor.Ad
