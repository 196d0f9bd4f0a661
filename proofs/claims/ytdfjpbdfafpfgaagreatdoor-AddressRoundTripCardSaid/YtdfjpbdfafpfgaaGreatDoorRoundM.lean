-- Several texts of this session in one (wip/merge.py): Br, AdPRound, AdRound, AdLawRound.
import Derived.Test.YtdfjpbdfafpfgaaGreatDoorWWords
import Derived.Test.YtdfjpbdfafpfgaaGreatDoorWMore
import Derived.Laws.BytesArg
import Derived.Lib.Strings
import Derived.Test.YtdfjpbdfafpfgaaGreatDoorPXx0
import Derived.Test.YtdfjpbdfafpfgaaGreatDoorPXx1
import Derived.Test.YtdfjpbdfafpfgaaGreatDoorPXx2
import Derived.Test.YtdfjpbdfafpfgaaGreatDoorPXx4
import Derived.Test.YtdfjpbdfafpfgaaGreatDoorAdPFormat
import Derived.Test.YtdfjpbdfafpfgaaGreatDoorAdPParse
import Derived.Test.YtdfjpbdfafpfgaaGreatDoorAdPSane
import Derived.Test.YtdfjpbdfafpfgaaGreatDoorAdParse

/- Bytes and numbers of the printed functions as lists of bytes. -/
namespace Go.Proofs.YtdfjpbdfafpfgaaGreatDoor.Br
open Go.RowKit Go.Proofs.YtdfjpbdfafpfgaaGreatDoorW.PrintWords Go.Proofs.YtdfjpbdfafpfgaaGreatDoorW.PrintMore

/-- Bytes as whole numbers. -/
def ints (l : List UInt8) : List Int := l.map fun b => (b.toNat : Int)
theorem ints_length (l : List UInt8) : (ints l).length = l.length := by simp [ints]
theorem ints_append (a b : List UInt8) : ints (a ++ b) = ints a ++ ints b := by simp [ints]
theorem ints_snoc (a : List UInt8) (c : UInt8) : ints a ++ [(c.toNat : Int)] = ints (a ++ [c]) := by simp [ints]
theorem strOfNums_ints (l : List UInt8) : strOfNums (ints l) = ⟨l.toArray⟩ := by
  unfold strOfNums ints
  rw [List.map_map]
  congr 2
  rw [show ((fun n : Int => UInt8.ofNat n.toNat) ∘ fun b : UInt8 => (b.toNat : Int)) = id from funext fun b => by simp]
  simp
theorem bt_nat (s : ByteArray) (k : Nat) (h : k < s.size) : bt s (k : Int) = ((s.data.toList[k]'(by simpa using h)).toNat : Int) := by
  unfold bt
  rw [dif_pos (by simpa using h)]
  rfl
theorem wrap_succ (k : Nat) (h : k < 9223372036854775807) : wrap64 ((k : Int) + 1) = ((k + 1 : Nat) : Int) := by
  unfold wrap64
  omega
theorem wrap_id (i : Int) (h0 : -9223372036854775808 ≤ i) (h1 : i ≤ 9223372036854775807) : wrap64 i = i := by
  unfold wrap64
  omega
theorem size_toList (s : ByteArray) : s.data.toList.length = s.size := by simp
theorem mk_toList (l : List UInt8) : (⟨l.toArray⟩ : ByteArray).data.toList = l := by simp
theorem mk_size (l : List UInt8) : (⟨l.toArray⟩ : ByteArray).size = l.length := by simp [ByteArray.size]
theorem ba_toList (s : ByteArray) : s.toList = s.data.toList := by
  exact Lib.toList_data s
theorem mk_toList' (l : List UInt8) : (⟨l.toArray⟩ : ByteArray).toList = l := by rw [ba_toList]
theorem mk_append (a b : List UInt8) : (⟨a.toArray⟩ : ByteArray) ++ ⟨b.toArray⟩ = ⟨(a ++ b).toArray⟩ := by
  apply ByteArray.ext
  simp
theorem ba_eta (s : ByteArray) : s = ⟨s.data.toList.toArray⟩ := by simp
theorem ba_ext {a b : ByteArray} (h : a.data.toList = b.data.toList) : a = b := by
  rw [ba_eta a, ba_eta b, h]
theorem extract_list (s : ByteArray) (a b : Nat) : s.extract a b = ⟨((s.data.toList.drop a).take (b - a)).toArray⟩ := by
  exact Lib.extract_eq s a b
theorem mn_nat (a b : Nat) : mn (a : Int) (b : Int) = ((min a b : Nat) : Int) := by
  unfold mn
  split <;> omega
theorem mx_nat (a b : Nat) : mx (a : Int) (b : Int) = ((max a b : Nat) : Int) := by
  unfold mx
  split <;> omega

end Go.Proofs.YtdfjpbdfafpfgaaGreatDoor.Br

-- Written by wip/pr.py, a program of this session, that runs the kit's printer with contracts of our own put in. Lean checks it.
namespace Go.Proofs.YtdfjpbdfafpfgaaGreatDoor.PX
open Go.RowKit Go.Proofs.YtdfjpbdfafpfgaaGreatDoorW.PrintWords Go.Proofs.YtdfjpbdfafpfgaaGreatDoorW.PrintLast Go.Proofs.YtdfjpbdfafpfgaaGreatDoorW.PrintMore
attribute [local go_sem] max2_int min2_int max_two min_two max_three min_three max_four min_four   -- for this text's walks alone
set_option linter.unusedVariables false
set_option linter.unusedSimpArgs false

attribute [local go_sem high] eqA23
theorem urg_none {kind : Int} {name : ByteArray} {n : Int} {lang : ByteArray} {k : Nat} {u : Int} (h : address_Urgency.f kind name n lang = some u) (hv : address_Valid.f k kind name n lang = some false) : u = -1 := by
  unfold address_Urgency.f Ad.urgB at h
  have h2 : some (Ad.validB kind name n lang) = some false := by
    rw [← address_Valid.mono kind name n lang k _ hv]
    exact (Ad.valid_f kind name n lang).symm
  injection h2 with h2
  rw [h2] at h
  injection h with h
  exact h.symm

/-! ### copydesklaw12_AddressRoundTrip: function 5 -/
def copydesklaw12_AddressRoundTrip.j0 : Nat → Bool → ByteArray → Int → ByteArray → Int → Bool → Int → ByteArray → Int → ByteArray → Int → ByteArray → Int → ByteArray → Option (Bool)
  | 0, _, _, _, _, _, _, _, _, _, _, _, _, _, _ => none
  | k + 1, x5, x6, x7, x8, x9, x48, x177000, x177001, x177002, x177003, x178000, x178001, x178002, x178003 => if x48 = true then (some false) else (if x7 = 0 then ((address_Parse.f x6).bind fun bt193 => (if x5 = true then (if (bt193.1 == x177000 && (bt193.2.1.toList == x177001.toList && (bt193.2.2.1 == x177002 && (bt193.2.2.2.1.toList == x177003.toList)))) = true then (if bt193.2.2.2.2 = 0 then (if x9 = 0 then (some ((x6.toList == x8.toList) == (x177000 == x178000 && (x177001.toList == x178001.toList && (x177002 == x178002 && (x177003.toList == x178003.toList)))))) else (some true)) else (some false)) else (some false)) else (some false))) else (some x5))
def copydesklaw12_AddressRoundTrip.f (k : Nat) (a0_0 : Int) (a0_1 : ByteArray) (a0_2 : Int) (a0_3 : ByteArray) (a1_0 : Int) (a1_1 : ByteArray) (a1_2 : Int) (a1_3 : ByteArray) : Option (Bool) := (copydesklaw12_sane.f).bind fun t178 => ((copydesklaw12_short.f a0_0 a0_1 a0_2 a0_3).bind fun bt179 => ((copydesklaw12_short.f a1_0 a1_1 a1_2 a1_3).bind fun bt183 => ((address_Format.f bt179.1 bt179.2.1 bt179.2.2.1 bt179.2.2.2).bind fun bt187 => ((address_Format.f bt183.1 bt183.2.1 bt183.2.2.1 bt183.2.2.2).bind fun bt189 => ((address_Valid.f k bt179.1 bt179.2.1 bt179.2.2.1 bt179.2.2.2).bind fun t191 => (if ((bt187.2 == 0) != t191) = true then (copydesklaw12_AddressRoundTrip.j0 k t178 bt187.1 bt187.2 bt189.1 bt189.2 true bt179.1 bt179.2.1 bt179.2.2.1 bt179.2.2.2 bt183.1 bt183.2.1 bt183.2.2.1 bt183.2.2.2) else (if bt187.2 = 0 then (copydesklaw12_AddressRoundTrip.j0 k t178 bt187.1 bt187.2 bt189.1 bt189.2 false bt179.1 bt179.2.1 bt179.2.2.1 bt179.2.2.2 bt183.1 bt183.2.1 bt183.2.2.1 bt183.2.2.2) else (if bt187.2 = 120 then (if bt187.1.toList = ([] : List UInt8) then ((address_Urgency.f bt179.1 bt179.2.1 bt179.2.2.1 bt179.2.2.2).bind fun t192 => (copydesklaw12_AddressRoundTrip.j0 k t178 bt187.1 bt187.2 bt189.1 bt189.2 (t192 != (-1)) bt179.1 bt179.2.1 bt179.2.2.1 bt179.2.2.2 bt183.1 bt183.2.1 bt183.2.2.1 bt183.2.2.2)) else (copydesklaw12_AddressRoundTrip.j0 k t178 bt187.1 bt187.2 bt189.1 bt189.2 true bt179.1 bt179.2.1 bt179.2.2.1 bt179.2.2.2 bt183.1 bt183.2.1 bt183.2.2.1 bt183.2.2.2)) else (copydesklaw12_AddressRoundTrip.j0 k t178 bt187.1 bt187.2 bt189.1 bt189.2 true bt179.1 bt179.2.1 bt179.2.2.1 bt179.2.2.2 bt183.1 bt183.2.1 bt183.2.2.1 bt183.2.2.2)))))))))
theorem copydesklaw12_AddressRoundTrip.mono_l : ∀ k, (∀ y0 y1 y2 y3 y4 y5 y6 y7 y8 y9 y10 y11 y12 y13, LeO (copydesklaw12_AddressRoundTrip.j0 k y0 y1 y2 y3 y4 y5 y6 y7 y8 y9 y10 y11 y12 y13) (copydesklaw12_AddressRoundTrip.j0 (k + 1) y0 y1 y2 y3 y4 y5 y6 y7 y8 y9 y10 y11 y12 y13))
  | 0 => fun _ _ _ _ _ _ _ _ _ _ _ _ _ _ r h => by simp [copydesklaw12_AddressRoundTrip.j0] at h
  | k + 1 => by
    have ih0 := copydesklaw12_AddressRoundTrip.mono_l k
    · intro y0 y1 y2 y3 y4 y5 y6 y7 y8 y9 y10 y11 y12 y13
      unfold copydesklaw12_AddressRoundTrip.j0
      repeat' first
      | (with_reducible exact ih0 _ _ _ _ _ _ _ _ _ _ _ _ _ _)
      | (with_reducible exact address_Valid.mono _ _ _ _ _)
      | (with_reducible exact LeO.refl _)
      | (with_reducible exact LeO.none _)
      | (with_reducible refine LeO.ite ?_ ?_)
      | (with_reducible refine LeO.bind ?_ (fun _ => ?_))
      | exact ih0 _ _ _ _ _ _ _ _ _ _ _ _ _ _
      | exact address_Valid.mono _ _ _ _ _
      | exact LeO.none _
      | refine LeO.ite ?_ ?_
      | refine LeO.bind ?_ (fun _ => ?_)
theorem copydesklaw12_AddressRoundTrip.mono : ∀ a0 a1 a2 a3 a4 a5 a6 a7 k, LeO (copydesklaw12_AddressRoundTrip.f k a0 a1 a2 a3 a4 a5 a6 a7) (copydesklaw12_AddressRoundTrip.f (k + 1) a0 a1 a2 a3 a4 a5 a6 a7) := by
  intro a0 a1 a2 a3 a4 a5 a6 a7 k
  have ih0 := copydesklaw12_AddressRoundTrip.mono_l k
  unfold copydesklaw12_AddressRoundTrip.f
  repeat' first
      | (with_reducible exact ih0 _ _ _ _ _ _ _ _ _ _ _ _ _ _)
      | (with_reducible exact address_Valid.mono _ _ _ _ _)
      | (with_reducible exact LeO.refl _)
      | (with_reducible exact LeO.none _)
      | (with_reducible refine LeO.ite ?_ ?_)
      | (with_reducible refine LeO.bind ?_ (fun _ => ?_))
      | exact ih0 _ _ _ _ _ _ _ _ _ _ _ _ _ _
      | exact address_Valid.mono _ _ _ _ _
      | exact LeO.none _
      | refine LeO.ite ?_ ?_
      | refine LeO.bind ?_ (fun _ => ?_)
set_option maxHeartbeats 8000000 in
set_option maxRecDepth 100000 in
theorem copydesklaw12_AddressRoundTrip.calls (k : Nat) (a0_0 : Int) (a0_1 : ByteArray) (a0_2 : Int) (a0_3 : ByteArray) (a1_0 : Int) (a1_1 : ByteArray) (a1_2 : Int) (a1_3 : ByteArray) (r : Bool) (w : World) (hG : Go.Proofs.YtdfjpbdfafpfgaaGreatDoor.Lex.Gl w) (h : copydesklaw12_AddressRoundTrip.f k a0_0 a0_1 a0_2 a0_3 a1_0 a1_1 a1_2 a1_3 = some r) :
    Calls Tryz.prog 5 #[.agg #[.int .i64 a0_0, .string a0_1, .int .i64 a0_2, .string a0_3], .agg #[.int .i64 a1_0, .string a1_1, .int .i64 a1_2, .string a1_3]] w fun e w' => e = .returned (.bool r) ∧ Below w.heap.size w w' := by
  have hu23 := Tryz.underlying23
  have HG := Aside0.mk hG
  clear hG
  have HB := Aside0.mk (Below.refl w.heap.size w)
  have H : ((copydesklaw12_sane.f).bind fun t178 => ((copydesklaw12_short.f a0_0 a0_1 a0_2 a0_3).bind fun bt179 => ((copydesklaw12_short.f a1_0 a1_1 a1_2 a1_3).bind fun bt183 => ((address_Format.f bt179.1 bt179.2.1 bt179.2.2.1 bt179.2.2.2).bind fun bt187 => ((address_Format.f bt183.1 bt183.2.1 bt183.2.2.1 bt183.2.2.2).bind fun bt189 => ((address_Valid.f k bt179.1 bt179.2.1 bt179.2.2.1 bt179.2.2.2).bind fun t191 => (if ((bt187.2 == 0) != t191) = true then (copydesklaw12_AddressRoundTrip.j0 k t178 bt187.1 bt187.2 bt189.1 bt189.2 true bt179.1 bt179.2.1 bt179.2.2.1 bt179.2.2.2 bt183.1 bt183.2.1 bt183.2.2.1 bt183.2.2.2) else (if bt187.2 = 0 then (copydesklaw12_AddressRoundTrip.j0 k t178 bt187.1 bt187.2 bt189.1 bt189.2 false bt179.1 bt179.2.1 bt179.2.2.1 bt179.2.2.2 bt183.1 bt183.2.1 bt183.2.2.1 bt183.2.2.2) else (if bt187.2 = 120 then (if bt187.1.toList = ([] : List UInt8) then ((address_Urgency.f bt179.1 bt179.2.1 bt179.2.2.1 bt179.2.2.2).bind fun t192 => (copydesklaw12_AddressRoundTrip.j0 k t178 bt187.1 bt187.2 bt189.1 bt189.2 (t192 != (-1)) bt179.1 bt179.2.1 bt179.2.2.1 bt179.2.2.2 bt183.1 bt183.2.1 bt183.2.2.1 bt183.2.2.2)) else (copydesklaw12_AddressRoundTrip.j0 k t178 bt187.1 bt187.2 bt189.1 bt189.2 true bt179.1 bt179.2.1 bt179.2.2.1 bt179.2.2.2 bt183.1 bt183.2.1 bt183.2.2.1 bt183.2.2.2)) else (copydesklaw12_AddressRoundTrip.j0 k t178 bt187.1 bt187.2 bt189.1 bt189.2 true bt179.1 bt179.2.1 bt179.2.2.1 bt179.2.2.2 bt183.1 bt183.2.1 bt183.2.2.1 bt183.2.2.2)))))))))) = some r := h
  clear h
  replace H := Option.bind_eq_some_iff.mp H
  obtain ⟨t178, A30, H⟩ := H
  replace H : ((copydesklaw12_short.f a0_0 a0_1 a0_2 a0_3).bind fun bt179 => ((copydesklaw12_short.f a1_0 a1_1 a1_2 a1_3).bind fun bt183 => ((address_Format.f bt179.1 bt179.2.1 bt179.2.2.1 bt179.2.2.2).bind fun bt187 => ((address_Format.f bt183.1 bt183.2.1 bt183.2.2.1 bt183.2.2.2).bind fun bt189 => ((address_Valid.f k bt179.1 bt179.2.1 bt179.2.2.1 bt179.2.2.2).bind fun t191 => (if ((bt187.2 == 0) != t191) = true then (copydesklaw12_AddressRoundTrip.j0 k t178 bt187.1 bt187.2 bt189.1 bt189.2 true bt179.1 bt179.2.1 bt179.2.2.1 bt179.2.2.2 bt183.1 bt183.2.1 bt183.2.2.1 bt183.2.2.2) else (if bt187.2 = 0 then (copydesklaw12_AddressRoundTrip.j0 k t178 bt187.1 bt187.2 bt189.1 bt189.2 false bt179.1 bt179.2.1 bt179.2.2.1 bt179.2.2.2 bt183.1 bt183.2.1 bt183.2.2.1 bt183.2.2.2) else (if bt187.2 = 120 then (if bt187.1.toList = ([] : List UInt8) then ((address_Urgency.f bt179.1 bt179.2.1 bt179.2.2.1 bt179.2.2.2).bind fun t192 => (copydesklaw12_AddressRoundTrip.j0 k t178 bt187.1 bt187.2 bt189.1 bt189.2 (t192 != (-1)) bt179.1 bt179.2.1 bt179.2.2.1 bt179.2.2.2 bt183.1 bt183.2.1 bt183.2.2.1 bt183.2.2.2)) else (copydesklaw12_AddressRoundTrip.j0 k t178 bt187.1 bt187.2 bt189.1 bt189.2 true bt179.1 bt179.2.1 bt179.2.2.1 bt179.2.2.2 bt183.1 bt183.2.1 bt183.2.2.1 bt183.2.2.2)) else (copydesklaw12_AddressRoundTrip.j0 k t178 bt187.1 bt187.2 bt189.1 bt189.2 true bt179.1 bt179.2.1 bt179.2.2.1 bt179.2.2.2 bt183.1 bt183.2.1 bt183.2.2.1 bt183.2.2.2))))))))) = some r := H
  have A3 := Aside0.mk A30
  clear A30
  replace H := Option.bind_eq_some_iff.mp H
  obtain ⟨⟨t179, t180, t181, t182⟩, A40, H⟩ := H
  replace H : ((copydesklaw12_short.f a1_0 a1_1 a1_2 a1_3).bind fun bt183 => ((address_Format.f t179 t180 t181 t182).bind fun bt187 => ((address_Format.f bt183.1 bt183.2.1 bt183.2.2.1 bt183.2.2.2).bind fun bt189 => ((address_Valid.f k t179 t180 t181 t182).bind fun t191 => (if ((bt187.2 == 0) != t191) = true then (copydesklaw12_AddressRoundTrip.j0 k t178 bt187.1 bt187.2 bt189.1 bt189.2 true t179 t180 t181 t182 bt183.1 bt183.2.1 bt183.2.2.1 bt183.2.2.2) else (if bt187.2 = 0 then (copydesklaw12_AddressRoundTrip.j0 k t178 bt187.1 bt187.2 bt189.1 bt189.2 false t179 t180 t181 t182 bt183.1 bt183.2.1 bt183.2.2.1 bt183.2.2.2) else (if bt187.2 = 120 then (if bt187.1.toList = ([] : List UInt8) then ((address_Urgency.f t179 t180 t181 t182).bind fun t192 => (copydesklaw12_AddressRoundTrip.j0 k t178 bt187.1 bt187.2 bt189.1 bt189.2 (t192 != (-1)) t179 t180 t181 t182 bt183.1 bt183.2.1 bt183.2.2.1 bt183.2.2.2)) else (copydesklaw12_AddressRoundTrip.j0 k t178 bt187.1 bt187.2 bt189.1 bt189.2 true t179 t180 t181 t182 bt183.1 bt183.2.1 bt183.2.2.1 bt183.2.2.2)) else (copydesklaw12_AddressRoundTrip.j0 k t178 bt187.1 bt187.2 bt189.1 bt189.2 true t179 t180 t181 t182 bt183.1 bt183.2.1 bt183.2.2.1 bt183.2.2.2)))))))) = some r := H
  have A4 := Aside0.mk A40
  clear A40
  replace H := Option.bind_eq_some_iff.mp H
  obtain ⟨⟨t183, t184, t185, t186⟩, A50, H⟩ := H
  replace H : ((address_Format.f t179 t180 t181 t182).bind fun bt187 => ((address_Format.f t183 t184 t185 t186).bind fun bt189 => ((address_Valid.f k t179 t180 t181 t182).bind fun t191 => (if ((bt187.2 == 0) != t191) = true then (copydesklaw12_AddressRoundTrip.j0 k t178 bt187.1 bt187.2 bt189.1 bt189.2 true t179 t180 t181 t182 t183 t184 t185 t186) else (if bt187.2 = 0 then (copydesklaw12_AddressRoundTrip.j0 k t178 bt187.1 bt187.2 bt189.1 bt189.2 false t179 t180 t181 t182 t183 t184 t185 t186) else (if bt187.2 = 120 then (if bt187.1.toList = ([] : List UInt8) then ((address_Urgency.f t179 t180 t181 t182).bind fun t192 => (copydesklaw12_AddressRoundTrip.j0 k t178 bt187.1 bt187.2 bt189.1 bt189.2 (t192 != (-1)) t179 t180 t181 t182 t183 t184 t185 t186)) else (copydesklaw12_AddressRoundTrip.j0 k t178 bt187.1 bt187.2 bt189.1 bt189.2 true t179 t180 t181 t182 t183 t184 t185 t186)) else (copydesklaw12_AddressRoundTrip.j0 k t178 bt187.1 bt187.2 bt189.1 bt189.2 true t179 t180 t181 t182 t183 t184 t185 t186))))))) = some r := H
  have A5 := Aside0.mk A50
  clear A50
  replace H := Option.bind_eq_some_iff.mp H
  obtain ⟨⟨t187, t188⟩, A60, H⟩ := H
  replace H : ((address_Format.f t183 t184 t185 t186).bind fun bt189 => ((address_Valid.f k t179 t180 t181 t182).bind fun t191 => (if ((t188 == 0) != t191) = true then (copydesklaw12_AddressRoundTrip.j0 k t178 t187 t188 bt189.1 bt189.2 true t179 t180 t181 t182 t183 t184 t185 t186) else (if t188 = 0 then (copydesklaw12_AddressRoundTrip.j0 k t178 t187 t188 bt189.1 bt189.2 false t179 t180 t181 t182 t183 t184 t185 t186) else (if t188 = 120 then (if t187.toList = ([] : List UInt8) then ((address_Urgency.f t179 t180 t181 t182).bind fun t192 => (copydesklaw12_AddressRoundTrip.j0 k t178 t187 t188 bt189.1 bt189.2 (t192 != (-1)) t179 t180 t181 t182 t183 t184 t185 t186)) else (copydesklaw12_AddressRoundTrip.j0 k t178 t187 t188 bt189.1 bt189.2 true t179 t180 t181 t182 t183 t184 t185 t186)) else (copydesklaw12_AddressRoundTrip.j0 k t178 t187 t188 bt189.1 bt189.2 true t179 t180 t181 t182 t183 t184 t185 t186)))))) = some r := H
  have A6 := Aside0.mk A60
  clear A60
  replace H := Option.bind_eq_some_iff.mp H
  obtain ⟨⟨t189, t190⟩, A70, H⟩ := H
  replace H : ((address_Valid.f k t179 t180 t181 t182).bind fun t191 => (if ((t188 == 0) != t191) = true then (copydesklaw12_AddressRoundTrip.j0 k t178 t187 t188 t189 t190 true t179 t180 t181 t182 t183 t184 t185 t186) else (if t188 = 0 then (copydesklaw12_AddressRoundTrip.j0 k t178 t187 t188 t189 t190 false t179 t180 t181 t182 t183 t184 t185 t186) else (if t188 = 120 then (if t187.toList = ([] : List UInt8) then ((address_Urgency.f t179 t180 t181 t182).bind fun t192 => (copydesklaw12_AddressRoundTrip.j0 k t178 t187 t188 t189 t190 (t192 != (-1)) t179 t180 t181 t182 t183 t184 t185 t186)) else (copydesklaw12_AddressRoundTrip.j0 k t178 t187 t188 t189 t190 true t179 t180 t181 t182 t183 t184 t185 t186)) else (copydesklaw12_AddressRoundTrip.j0 k t178 t187 t188 t189 t190 true t179 t180 t181 t182 t183 t184 t185 t186))))) = some r := H
  have A7 := Aside0.mk A70
  clear A70
  have HC8 := Aside0.mk H
  clear H
  go_enter Tryz.func5, Tryz.ntmps5
  try go_wp2_with (first | ((with_reducible refine gate_dst (N := 2) rfl ?_); refine box_event ?hg (N := 2) ?hd (cs := #[.int .i64 a0_0, .string a0_1, .int .i64 a0_2, .string a0_3]) (t := 23) ?hr ?_; (case hd => rfl); (case hg => rfl); (case hr => first | (go_simp; done) | (go_simp; rfl)); intro gb176 hg w9 hbox hb; have n0_ := Aside0.mk (below_step (by repeat (first | (with_reducible first | exact HB.out | apply below_alloc | apply pw_below_drewN | apply below_drew1) | exact HB.out)) hb); have n1_ := Aside0.mk (hbox); have n2_ := Aside0.mk ((by rw [hg]; exact (below_size (by repeat (first | (with_reducible first | exact HB.out | apply below_alloc | apply pw_below_drewN | apply below_drew1) | exact HB.out))) : w.heap.size ≤ gb176)); have n3_ := Aside0.mk ((by rw [hg]; exact (below_size (by repeat (first | (with_reducible first | exact HB.out | apply below_alloc | apply pw_below_drewN | apply below_drew1) | exact HB.out))) : w.heap.size ≤ gb176)); clear HB; have HB := n0_; have BK176 := n1_; have GW176 := n2_; have GE176 := n3_; clear n0_ n1_ n2_ n3_; clear hb hbox hg) | ((with_reducible refine gate_dst (N := 3) rfl ?_); refine box_event ?hg (N := 3) ?hd (cs := #[.int .i64 a1_0, .string a1_1, .int .i64 a1_2, .string a1_3]) (t := 23) ?hr ?_; (case hd => rfl); (case hg => rfl); (case hr => first | (go_simp; done) | (go_simp; rfl)); intro gb177 hg w10 hbox hb; have n0_ := Aside0.mk (blk_below (g := gb176) (o := .cells #[.int .i64 a0_0, .string a0_1, .int .i64 a0_2, .string a0_3] 23 (0, 0)) (by (with_reducible repeat (first | refine blk_drewN ?_ _ | refine blk_drew ?_ | refine blk_alloc ?_ _)); exact BK176.out) hb); have n1_ := Aside0.mk (below_step (by repeat (first | (with_reducible first | exact HB.out | apply below_alloc | apply pw_below_drewN | apply below_drew1 | refine below_set ?_ GE176.out) | exact HB.out)) hb); have n2_ := Aside0.mk (hbox); have n3_ := Aside0.mk ((by rw [hg]; exact (below_size (by repeat (first | (with_reducible first | exact HB.out | apply below_alloc | apply pw_below_drewN | apply below_drew1 | refine below_set ?_ GE176.out) | exact HB.out))) : w.heap.size ≤ gb177)); have n4_ := Aside0.mk ((by rw [hg]; exact (below_size (by repeat (first | (with_reducible first | exact HB.out | apply below_alloc | apply pw_below_drewN | apply below_drew1 | refine below_set ?_ GE176.out) | exact HB.out))) : w.heap.size ≤ gb177)); have n5_ := Aside0.mk ((by rw [hg]; exact Nat.ne_of_lt (blk_lt (g := gb176) (o := .cells #[.int .i64 a0_0, .string a0_1, .int .i64 a0_2, .string a0_3] 23 (0, 0)) (by (with_reducible repeat (first | refine blk_drewN ?_ _ | refine blk_drew ?_ | refine blk_alloc ?_ _)); exact BK176.out)) : gb176 ≠ gb177)); have n6_ := Aside0.mk ((by rw [hg]; exact Nat.ne_of_gt (blk_lt (g := gb176) (o := .cells #[.int .i64 a0_0, .string a0_1, .int .i64 a0_2, .string a0_3] 23 (0, 0)) (by (with_reducible repeat (first | refine blk_drewN ?_ _ | refine blk_drew ?_ | refine blk_alloc ?_ _)); exact BK176.out)) : gb177 ≠ gb176)); clear BK176; clear HB; have BK176 := n0_; have HB := n1_; have BK177 := n2_; have GW177 := n3_; have GE177 := n4_; have NB176_177 := n5_; have NB177_176 := n6_; clear n0_ n1_ n2_ n3_ n4_ n5_ n6_; clear hb hbox hg) | ((with_reducible refine gate_callee (f := 7) rfl ?_); refine goesL_ (some 12) rfl rfl Tryz.func7 (by kernel_rfl) rfl #[] rfl (by (try simp only [List.map_toArray, List.map_cons, List.map_nil]); first | done | rfl | (simp only [List.length_drop, List.length_take]; rfl)) ?_; (with_reducible refine (copydesklaw12_sane.calls  t178 _ ?side99 A3.out).mono ?_); (case side99 => first | exact HG.out | exact Go.Proofs.YtdfjpbdfafpfgaaGreatDoor.Lex.Gl.below HG.out (by repeat (first | (with_reducible first | exact HB.out | apply below_alloc | apply pw_below_drewN | apply below_drew1 | refine below_set ?_ GE176.out | refine below_set ?_ GE177.out) | exact HB.out))); rintro e w11 ⟨rfl, hb⟩; refine ⟨_, rfl, ?_⟩; have n0_ := Aside0.mk (blk_below (g := gb176) (o := .cells #[.int .i64 a0_0, .string a0_1, .int .i64 a0_2, .string a0_3] 23 (0, 0)) (by (with_reducible repeat (first | refine blk_drewN ?_ _ | refine blk_drew ?_ | refine blk_alloc ?_ _)); exact BK176.out) hb); have n1_ := Aside0.mk (blk_below (g := gb177) (o := .cells #[.int .i64 a1_0, .string a1_1, .int .i64 a1_2, .string a1_3] 23 (0, 0)) (by (with_reducible repeat (first | refine blk_drewN ?_ _ | refine blk_drew ?_ | refine blk_alloc ?_ _)); exact BK177.out) hb); have n2_ := Aside0.mk (below_step (by repeat (first | (with_reducible first | exact HB.out | apply below_alloc | apply pw_below_drewN | apply below_drew1 | refine below_set ?_ GE176.out | refine below_set ?_ GE177.out) | exact HB.out)) hb); clear BK176; clear BK177; clear HB; have BK176 := n0_; have BK177 := n1_; have HB := n2_; clear n0_ n1_ n2_; (try clear hb); (try clear hb2); (try clear hk); (try clear hi)))
  have n0_ := Aside0.mk (blk_drew BK176.out)
  have n1_ := Aside0.mk (blk_drew BK177.out)
  have n2_ := Aside0.mk (below_drew1 HB.out)
  clear BK176
  clear BK177
  clear HB
  have BK176 := n0_
  have BK177 := n1_
  have HB := n2_
  clear n0_ n1_ n2_
  refine start_ (n := 6) (S := fun w' => w'.cell? ⟨gb176, 0, none⟩ = some (.int .i64 a0_0) ∧ w'.cell? ⟨gb176, 1, none⟩ = some (.string a0_1) ∧ w'.cell? ⟨gb176, 2, none⟩ = some (.int .i64 a0_2) ∧ w'.cell? ⟨gb176, 3, none⟩ = some (.string a0_3) ∧ w'.cell? ⟨gb177, 0, none⟩ = some (.int .i64 a1_0) ∧ w'.cell? ⟨gb177, 1, none⟩ = some (.string a1_1) ∧ w'.cell? ⟨gb177, 2, none⟩ = some (.int .i64 a1_2) ∧ w'.cell? ⟨gb177, 3, none⟩ = some (.string a1_3)) (ds := [4, 5]) #[false, false, false, false, false, false] (by kernel_rfl) rfl rfl ⟨(blk_cell BK176.out 0).trans rfl, (blk_cell BK176.out 1).trans rfl, (blk_cell BK176.out 2).trans rfl, (blk_cell BK176.out 3).trans rfl, (blk_cell BK177.out 0).trans rfl, (blk_cell BK177.out 1).trans rfl, (blk_cell BK177.out 2).trans rfl, (blk_cell BK177.out 3).trans rfl⟩ (fun hHeld => ?_)
  generalize w11.drew = w12 at BK176 BK177 HB hHeld ⊢
  refine take_ (i := 0) (N := some 13) (v := ?_) (a' := ?_) #[true, false, false, false, false, false] rfl rfl (by kernel_rfl) (fun _ _ _ h => h) (Or.inl ⟨by rfl, ?_⟩) hHeld ?_ ?_
  rotate_left
  · rintro w' ⟨s0, s1, s2, s3, s4, s5, s6, s7⟩
    go_simp
    with_reducible rfl
  rotate_left
  · simp only [Act.put, List.setIfInBounds_toArray, List.set_cons_zero, List.set_cons_succ, i64_w, i32_w]
    rfl
  refine take_ (i := 2) (N := some 15) (v := ?_) (a' := ?_) #[true, false, true, false, false, false] rfl rfl (by kernel_rfl) (fun _ _ _ h => h) (Or.inl ⟨by rfl, ?_⟩) hHeld ?_ ?_
  rotate_left
  · rintro w' ⟨s0, s1, s2, s3, s4, s5, s6, s7⟩
    go_simp
    with_reducible rfl
  rotate_left
  · simp only [Act.put, List.setIfInBounds_toArray, List.set_cons_zero, List.set_cons_succ, i64_w, i32_w]
    rfl
  refine one_ (i := 1) (N := some 14) #[true, true, true, false, false, false] rfl rfl (by kernel_rfl) (by decide) (fun K hK => ?_)
  refine goes_ Tryz.func8 (by kernel_rfl) rfl #[.agg #[.int .i64 a0_0, .string a0_1, .int .i64 a0_2, .string a0_3]] (by rfl) rfl rfl (by (try simp only [List.map_toArray, List.map_cons, List.map_nil]); first | done | rfl | (simp only [List.length_drop, List.length_take]; rfl)) ?_
  with_reducible refine (copydesklaw12_short.calls a0_0 a0_1 a0_2 a0_3 t179 t180 t181 t182 _ A4.out).mono ?_
  rintro e w13 ⟨rfl, hb⟩
  refine ⟨_, rfl, ?_⟩
  have n0_ := Aside0.mk (blk_below (g := gb176) (o := .cells #[.int .i64 a0_0, .string a0_1, .int .i64 a0_2, .string a0_3] 23 (0, 0)) (by (with_reducible repeat (first | refine blk_drewN ?_ _ | refine blk_drew ?_ | refine blk_alloc ?_ _)); exact BK176.out) hb)
  have n1_ := Aside0.mk (blk_below (g := gb177) (o := .cells #[.int .i64 a1_0, .string a1_1, .int .i64 a1_2, .string a1_3] 23 (0, 0)) (by (with_reducible repeat (first | refine blk_drewN ?_ _ | refine blk_drew ?_ | refine blk_alloc ?_ _)); exact BK177.out) hb)
  have n2_ := Aside0.mk (below_step (by repeat (first | (with_reducible first | exact HB.out | apply below_alloc | apply pw_below_drewN | apply below_drew1 | refine below_set ?_ GE176.out | refine below_set ?_ GE177.out) | exact HB.out)) hb)
  clear BK176
  clear BK177
  clear HB
  have BK176 := n0_
  have BK177 := n1_
  have HB := n2_
  clear n0_ n1_ n2_
  (try clear hb)
  (try clear hb2)
  (try clear hk)
  (try clear hi)
  refine hK.out _ _ ⟨(blk_cell BK176.out 0).trans rfl, (blk_cell BK176.out 1).trans rfl, (blk_cell BK176.out 2).trans rfl, (blk_cell BK176.out 3).trans rfl, (blk_cell BK177.out 0).trans rfl, (blk_cell BK177.out 1).trans rfl, (blk_cell BK177.out 2).trans rfl, (blk_cell BK177.out 3).trans rfl⟩ (fun hHeld => ?_)
  clear hK K
  refine norm_ (a' := ?_) ?_ ?_
  rotate_left
  · show Act.put _ (some 14) _ = _
    simp only [Act.put, List.setIfInBounds_toArray, List.set_cons_zero, List.set_cons_succ, i64_w, i32_w]
    rfl
  refine one_ (i := 3) (N := some 16) #[true, true, true, true, false, false] rfl rfl (by kernel_rfl) (by decide) (fun K hK => ?_)
  refine goes_ Tryz.func8 (by kernel_rfl) rfl #[.agg #[.int .i64 a1_0, .string a1_1, .int .i64 a1_2, .string a1_3]] (by rfl) rfl rfl (by (try simp only [List.map_toArray, List.map_cons, List.map_nil]); first | done | rfl | (simp only [List.length_drop, List.length_take]; rfl)) ?_
  with_reducible refine (copydesklaw12_short.calls a1_0 a1_1 a1_2 a1_3 t183 t184 t185 t186 _ A5.out).mono ?_
  rintro e w14 ⟨rfl, hb⟩
  refine ⟨_, rfl, ?_⟩
  have n0_ := Aside0.mk (blk_below (g := gb176) (o := .cells #[.int .i64 a0_0, .string a0_1, .int .i64 a0_2, .string a0_3] 23 (0, 0)) (by (with_reducible repeat (first | refine blk_drewN ?_ _ | refine blk_drew ?_ | refine blk_alloc ?_ _)); exact BK176.out) hb)
  have n1_ := Aside0.mk (blk_below (g := gb177) (o := .cells #[.int .i64 a1_0, .string a1_1, .int .i64 a1_2, .string a1_3] 23 (0, 0)) (by (with_reducible repeat (first | refine blk_drewN ?_ _ | refine blk_drew ?_ | refine blk_alloc ?_ _)); exact BK177.out) hb)
  have n2_ := Aside0.mk (below_step (by repeat (first | (with_reducible first | exact HB.out | apply below_alloc | apply pw_below_drewN | apply below_drew1 | refine below_set ?_ GE176.out | refine below_set ?_ GE177.out) | exact HB.out)) hb)
  clear BK176
  clear BK177
  clear HB
  have BK176 := n0_
  have BK177 := n1_
  have HB := n2_
  clear n0_ n1_ n2_
  (try clear hb)
  (try clear hb2)
  (try clear hk)
  (try clear hi)
  refine hK.out _ _ ⟨(blk_cell BK176.out 0).trans rfl, (blk_cell BK176.out 1).trans rfl, (blk_cell BK176.out 2).trans rfl, (blk_cell BK176.out 3).trans rfl, (blk_cell BK177.out 0).trans rfl, (blk_cell BK177.out 1).trans rfl, (blk_cell BK177.out 2).trans rfl, (blk_cell BK177.out 3).trans rfl⟩ (fun hHeld => ?_)
  clear hK K
  refine norm_ (a' := ?_) ?_ ?_
  rotate_left
  · show Act.put _ (some 16) _ = _
    simp only [Act.put, List.setIfInBounds_toArray, List.set_cons_zero, List.set_cons_succ, i64_w, i32_w]
    rfl
  refine last_ (i := 4) (N := none) #[true, true, true, true, true, false] rfl rfl (by kernel_rfl) (by decide) (fun K hK => ?_)
  have hs15 : w14.cell? ⟨gb176, 0, none⟩ = some (.int .i64 a0_0) := (blk_cell BK176.out 0).trans rfl
  have hfs15 := blk_frozen BK176.out 0
  have hns15_1 := NB177_176.out
  have hms15_1 := NB176_177.out
  have hs16 : w14.cell? ⟨gb176, 1, none⟩ = some (.string a0_1) := (blk_cell BK176.out 1).trans rfl
  have hfs16 := blk_frozen BK176.out 1
  have hns16_1 := NB177_176.out
  have hms16_1 := NB176_177.out
  have hs17 : w14.cell? ⟨gb176, 2, none⟩ = some (.int .i64 a0_2) := (blk_cell BK176.out 2).trans rfl
  have hfs17 := blk_frozen BK176.out 2
  have hns17_1 := NB177_176.out
  have hms17_1 := NB176_177.out
  have hs18 : w14.cell? ⟨gb176, 3, none⟩ = some (.string a0_3) := (blk_cell BK176.out 3).trans rfl
  have hfs18 := blk_frozen BK176.out 3
  have hns18_1 := NB177_176.out
  have hms18_1 := NB176_177.out
  refine skip_ (w1 := ?_) (by rfl) rfl ?_ ?_
  rotate_left
  · go_simp
    rfl
  refine hK.out _ _ ?_
  clear hK K
  refine last_ (i := 5) (N := none) #[true, true, true, true, true, true] rfl rfl (by kernel_rfl) (by decide) (fun K hK => ?_)
  have hs19 : w14.cell? ⟨gb177, 0, none⟩ = some (.int .i64 a1_0) := (blk_cell BK177.out 0).trans rfl
  have hfs19 := blk_frozen BK177.out 0
  have hns19_0 := NB176_177.out
  have hms19_0 := NB177_176.out
  have hs20 : w14.cell? ⟨gb177, 1, none⟩ = some (.string a1_1) := (blk_cell BK177.out 1).trans rfl
  have hfs20 := blk_frozen BK177.out 1
  have hns20_0 := NB176_177.out
  have hms20_0 := NB177_176.out
  have hs21 : w14.cell? ⟨gb177, 2, none⟩ = some (.int .i64 a1_2) := (blk_cell BK177.out 2).trans rfl
  have hfs21 := blk_frozen BK177.out 2
  have hns21_0 := NB176_177.out
  have hms21_0 := NB177_176.out
  have hs22 : w14.cell? ⟨gb177, 3, none⟩ = some (.string a1_3) := (blk_cell BK177.out 3).trans rfl
  have hfs22 := blk_frozen BK177.out 3
  have hns22_0 := NB176_177.out
  have hms22_0 := NB177_176.out
  refine skip_ (w1 := ?_) (by rfl) rfl ?_ ?_
  rotate_left
  · go_simp
    rfl
  refine hK.out _ _ ?_
  clear hK K
  refine done_ (by kernel_rfl) ?_
  have hnb23 := NB176_177.out
  have hnc23 := NB177_176.out
  have hcz24_0 : w14.cell? ⟨gb176, 0, none⟩ = some (.int .i64 a0_0) := (blk_cell BK176.out 0).trans rfl
  have hcz24_1 : w14.cell? ⟨gb176, 1, none⟩ = some (.string a0_1) := (blk_cell BK176.out 1).trans rfl
  have hcz24_2 : w14.cell? ⟨gb176, 2, none⟩ = some (.int .i64 a0_2) := (blk_cell BK176.out 2).trans rfl
  have hcz24_3 : w14.cell? ⟨gb176, 3, none⟩ = some (.string a0_3) := (blk_cell BK176.out 3).trans rfl
  have hfz24_0 := blk_frozen BK176.out 0
  have hfz24_1 := blk_frozen BK176.out 1
  have hfz24_2 := blk_frozen BK176.out 2
  have hfz24_3 := blk_frozen BK176.out 3
  go_upto_region 5 with (first | ((with_reducible refine gate_callee (f := 9) rfl ?_); refine goesL_ (some 19) rfl rfl Tryz.func9 (by kernel_rfl) rfl #[.agg #[.int .i64 t179, .string t180, .int .i64 t181, .string t182]] rfl (by (try simp only [List.map_toArray, List.map_cons, List.map_nil]); first | done | rfl | (simp only [List.length_drop, List.length_take]; rfl)) ?_; (with_reducible refine (address_Format.calls t179 t180 t181 t182 t187 t188 _ A6.out).mono ?_); rintro e w25 ⟨rfl, hb⟩; refine ⟨_, rfl, ?_⟩; have n0_ := Aside0.mk (blk_below (g := gb176) (o := .cells #[.int .i64 t179, .string t180, .int .i64 t181, .string t182] 23 (0, 0)) (by (with_reducible repeat (first | refine blk_drewN ?_ _ | refine blk_drew ?_ | refine blk_alloc ?_ _)); refine blk_far ?_ NB176_177.out _; (with_reducible repeat (first | refine blk_drewN ?_ _ | refine blk_drew ?_ | refine blk_alloc ?_ _)); refine blk_far ?_ NB176_177.out _; (with_reducible repeat (first | refine blk_drewN ?_ _ | refine blk_drew ?_ | refine blk_alloc ?_ _)); refine blk_far ?_ NB176_177.out _; (with_reducible repeat (first | refine blk_drewN ?_ _ | refine blk_drew ?_ | refine blk_alloc ?_ _)); refine blk_far ?_ NB176_177.out _; (with_reducible repeat (first | refine blk_drewN ?_ _ | refine blk_drew ?_ | refine blk_alloc ?_ _)); refine blk_put (cs := #[.int .i64 t179, .string t180, .int .i64 t181, .string a0_3]) ?_ 3 _ rfl; (with_reducible repeat (first | refine blk_drewN ?_ _ | refine blk_drew ?_ | refine blk_alloc ?_ _)); refine blk_put (cs := #[.int .i64 t179, .string t180, .int .i64 a0_2, .string a0_3]) ?_ 2 _ rfl; (with_reducible repeat (first | refine blk_drewN ?_ _ | refine blk_drew ?_ | refine blk_alloc ?_ _)); refine blk_put (cs := #[.int .i64 t179, .string a0_1, .int .i64 a0_2, .string a0_3]) ?_ 1 _ rfl; (with_reducible repeat (first | refine blk_drewN ?_ _ | refine blk_drew ?_ | refine blk_alloc ?_ _)); refine blk_put (cs := #[.int .i64 a0_0, .string a0_1, .int .i64 a0_2, .string a0_3]) ?_ 0 _ rfl; (with_reducible repeat (first | refine blk_drewN ?_ _ | refine blk_drew ?_ | refine blk_alloc ?_ _)); exact BK176.out) hb); have n1_ := Aside0.mk (blk_below (g := gb177) (o := .cells #[.int .i64 t183, .string t184, .int .i64 t185, .string t186] 23 (0, 0)) (by (with_reducible repeat (first | refine blk_drewN ?_ _ | refine blk_drew ?_ | refine blk_alloc ?_ _)); refine blk_put (cs := #[.int .i64 t183, .string t184, .int .i64 t185, .string a1_3]) ?_ 3 _ rfl; (with_reducible repeat (first | refine blk_drewN ?_ _ | refine blk_drew ?_ | refine blk_alloc ?_ _)); refine blk_put (cs := #[.int .i64 t183, .string t184, .int .i64 a1_2, .string a1_3]) ?_ 2 _ rfl; (with_reducible repeat (first | refine blk_drewN ?_ _ | refine blk_drew ?_ | refine blk_alloc ?_ _)); refine blk_put (cs := #[.int .i64 t183, .string a1_1, .int .i64 a1_2, .string a1_3]) ?_ 1 _ rfl; (with_reducible repeat (first | refine blk_drewN ?_ _ | refine blk_drew ?_ | refine blk_alloc ?_ _)); refine blk_put (cs := #[.int .i64 a1_0, .string a1_1, .int .i64 a1_2, .string a1_3]) ?_ 0 _ rfl; (with_reducible repeat (first | refine blk_drewN ?_ _ | refine blk_drew ?_ | refine blk_alloc ?_ _)); refine blk_far ?_ NB177_176.out _; (with_reducible repeat (first | refine blk_drewN ?_ _ | refine blk_drew ?_ | refine blk_alloc ?_ _)); refine blk_far ?_ NB177_176.out _; (with_reducible repeat (first | refine blk_drewN ?_ _ | refine blk_drew ?_ | refine blk_alloc ?_ _)); refine blk_far ?_ NB177_176.out _; (with_reducible repeat (first | refine blk_drewN ?_ _ | refine blk_drew ?_ | refine blk_alloc ?_ _)); refine blk_far ?_ NB177_176.out _; (with_reducible repeat (first | refine blk_drewN ?_ _ | refine blk_drew ?_ | refine blk_alloc ?_ _)); exact BK177.out) hb); have n2_ := Aside0.mk (below_step (by repeat (first | (with_reducible first | exact HB.out | apply below_alloc | apply pw_below_drewN | apply below_drew1 | refine below_set ?_ GE176.out | refine below_set ?_ GE177.out) | exact HB.out)) hb); clear BK176; clear BK177; clear HB; have BK176 := n0_; have BK177 := n1_; have HB := n2_; clear n0_ n1_ n2_; (try clear hb); (try clear hb2); (try clear hk); (try clear hi); have hcz26_0 : w25.cell? ⟨gb177, 0, none⟩ = some (.int .i64 t183) := (blk_cell BK177.out 0).trans rfl; have hcz26_1 : w25.cell? ⟨gb177, 1, none⟩ = some (.string t184) := (blk_cell BK177.out 1).trans rfl; have hcz26_2 : w25.cell? ⟨gb177, 2, none⟩ = some (.int .i64 t185) := (blk_cell BK177.out 2).trans rfl; have hcz26_3 : w25.cell? ⟨gb177, 3, none⟩ = some (.string t186) := (blk_cell BK177.out 3).trans rfl; have hfz26_0 := blk_frozen BK177.out 0; have hfz26_1 := blk_frozen BK177.out 1; have hfz26_2 := blk_frozen BK177.out 2; have hfz26_3 := blk_frozen BK177.out 3) | ((with_reducible refine gate_callee (f := 9) rfl ?_); refine goesL_ (some 24) rfl rfl Tryz.func9 (by kernel_rfl) rfl #[.agg #[.int .i64 t183, .string t184, .int .i64 t185, .string t186]] rfl (by (try simp only [List.map_toArray, List.map_cons, List.map_nil]); first | done | rfl | (simp only [List.length_drop, List.length_take]; rfl)) ?_; (with_reducible refine (address_Format.calls t183 t184 t185 t186 t189 t190 _ A7.out).mono ?_); rintro e w27 ⟨rfl, hb⟩; refine ⟨_, rfl, ?_⟩; have n0_ := Aside0.mk (blk_below (g := gb176) (o := .cells #[.int .i64 t179, .string t180, .int .i64 t181, .string t182] 23 (0, 0)) (by (with_reducible repeat (first | refine blk_drewN ?_ _ | refine blk_drew ?_ | refine blk_alloc ?_ _)); exact BK176.out) hb); have n1_ := Aside0.mk (blk_below (g := gb177) (o := .cells #[.int .i64 t183, .string t184, .int .i64 t185, .string t186] 23 (0, 0)) (by (with_reducible repeat (first | refine blk_drewN ?_ _ | refine blk_drew ?_ | refine blk_alloc ?_ _)); exact BK177.out) hb); have n2_ := Aside0.mk (below_step (by repeat (first | (with_reducible first | exact HB.out | apply below_alloc | apply pw_below_drewN | apply below_drew1 | refine below_set ?_ GE176.out | refine below_set ?_ GE177.out) | exact HB.out)) hb); clear BK176; clear BK177; clear HB; have BK176 := n0_; have BK177 := n1_; have HB := n2_; clear n0_ n1_ n2_; (try clear hb); (try clear hb2); (try clear hk); (try clear hi)))
  (try simp only [Act.put, List.setIfInBounds_toArray, List.set_cons_zero, List.set_cons_succ])
  go_cut [48] (fun v48 wc => ∃ (kq : Nat) (x48_7 : Bool), v48 = .bool x48_7 ∧ Aside0 (copydesklaw12_AddressRoundTrip.j0 kq t178 t187 t188 t189 t190 x48_7 t179 t180 t181 t182 t183 t184 t185 t186 = some r) ∧ Aside0 (kq ≤ k) ∧ Aside0 (wc.heap[gb176]? = some (.cells #[.int .i64 t179, .string t180, .int .i64 t181, .string t182] 23 (0, 0))) ∧ Aside0 (wc.heap[gb177]? = some (.cells #[.int .i64 t183, .string t184, .int .i64 t185, .string t186] 23 (0, 0))) ∧ Aside0 (Below w.heap.size w wc))
  case first =>
    have H := HC8.out
    clear HC8
    replace H := Option.bind_eq_some_iff.mp H
    obtain ⟨t191, A280, H⟩ := H
    replace H : (if ((t188 == 0) != t191) = true then (copydesklaw12_AddressRoundTrip.j0 k t178 t187 t188 t189 t190 true t179 t180 t181 t182 t183 t184 t185 t186) else (if t188 = 0 then (copydesklaw12_AddressRoundTrip.j0 k t178 t187 t188 t189 t190 false t179 t180 t181 t182 t183 t184 t185 t186) else (if t188 = 120 then (if t187.toList = ([] : List UInt8) then ((address_Urgency.f t179 t180 t181 t182).bind fun t192 => (copydesklaw12_AddressRoundTrip.j0 k t178 t187 t188 t189 t190 (t192 != (-1)) t179 t180 t181 t182 t183 t184 t185 t186)) else (copydesklaw12_AddressRoundTrip.j0 k t178 t187 t188 t189 t190 true t179 t180 t181 t182 t183 t184 t185 t186)) else (copydesklaw12_AddressRoundTrip.j0 k t178 t187 t188 t189 t190 true t179 t180 t181 t182 t183 t184 t185 t186)))) = some r := H
    have A28 := Aside0.mk A280
    clear A280
    by_cases c29 : ((t188 == 0) != t191) = true
    · rw [if_pos c29] at H
      have c29b0 : ((t188 == 0) != t191) = true := c29
      (try (have c29b1 : decide ((t188 == 0) = t191) = false := by simpa using c29))
      (try (have c29b2 : ((t188 == 0) == t191) = false := by simpa using c29))
      (try (have c29b3 : ¬ ((t188 == 0) = t191) := by simpa using c29))
      clear c29
      (first | rw [c29b0] | (simp only [i64_w, i32_w]; rw [c29b0]) | skip)
      have H' := Aside0.mk H
      clear H
      have hnb30 := NB176_177.out
      have hnc30 := NB177_176.out
      have hcz31_0 : w27.cell? ⟨gb176, 0, none⟩ = some (.int .i64 t179) := (blk_cell BK176.out 0).trans rfl
      have hcz31_1 : w27.cell? ⟨gb176, 1, none⟩ = some (.string t180) := (blk_cell BK176.out 1).trans rfl
      have hcz31_2 : w27.cell? ⟨gb176, 2, none⟩ = some (.int .i64 t181) := (blk_cell BK176.out 2).trans rfl
      have hcz31_3 : w27.cell? ⟨gb176, 3, none⟩ = some (.string t182) := (blk_cell BK176.out 3).trans rfl
      have hfz31_0 := blk_frozen BK176.out 0
      have hfz31_1 := blk_frozen BK176.out 1
      have hfz31_2 := blk_frozen BK176.out 2
      have hfz31_3 := blk_frozen BK176.out 3
      go_wp2_with (first | ((with_reducible refine gate_callee (f := 11) rfl ?_); refine goesL_ (some 30) rfl rfl Tryz.func11 (by kernel_rfl) rfl #[.agg #[.int .i64 t179, .string t180, .int .i64 t181, .string t182]] rfl (by (try simp only [List.map_toArray, List.map_cons, List.map_nil]); first | done | rfl | (simp only [List.length_drop, List.length_take]; rfl)) ?_; (with_reducible refine (address_Valid.calls k t179 t180 t181 t182 t191 _ A28.out).mono ?_); rintro e w32 ⟨rfl, hb⟩; refine ⟨_, rfl, ?_⟩; have n0_ := Aside0.mk (blk_below (g := gb176) (o := .cells #[.int .i64 t179, .string t180, .int .i64 t181, .string t182] 23 (0, 0)) (by (with_reducible repeat (first | refine blk_drewN ?_ _ | refine blk_drew ?_ | refine blk_alloc ?_ _)); exact BK176.out) hb); have n1_ := Aside0.mk (blk_below (g := gb177) (o := .cells #[.int .i64 t183, .string t184, .int .i64 t185, .string t186] 23 (0, 0)) (by (with_reducible repeat (first | refine blk_drewN ?_ _ | refine blk_drew ?_ | refine blk_alloc ?_ _)); exact BK177.out) hb); have n2_ := Aside0.mk (below_step (by repeat (first | (with_reducible first | exact HB.out | apply below_alloc | apply pw_below_drewN | apply below_drew1 | refine below_set ?_ GE176.out | refine below_set ?_ GE177.out) | exact HB.out)) hb); clear BK176; clear BK177; clear HB; have BK176 := n0_; have BK177 := n1_; have HB := n2_; clear n0_ n1_ n2_; (try clear hb); (try clear hb2); (try clear hk); (try clear hi)))
      go_meet
      case rel => exact ⟨_, (true), (by first | rfl | (simp; done) | (simp [*]; done)), H', ⟨by first | omega | exact Nat.le_refl _⟩, ⟨by (with_reducible repeat (first | refine blk_drewN ?_ _ | refine blk_drew ?_ | refine blk_alloc ?_ _)); exact BK176.out⟩, ⟨by (with_reducible repeat (first | refine blk_drewN ?_ _ | refine blk_drew ?_ | refine blk_alloc ?_ _)); exact BK177.out⟩, ⟨by repeat (first | (with_reducible first | exact HB.out | apply below_alloc | apply pw_below_drewN | apply below_drew1 | refine below_set ?_ GE176.out | refine below_set ?_ GE177.out) | exact HB.out)⟩⟩
    · rw [if_neg c29] at H
      have c29b0 : ((t188 == 0) != t191) = false := by simpa using c29
      (try (have c29b1 : decide ((t188 == 0) = t191) = true := by simpa using c29))
      (try (have c29b2 : ((t188 == 0) == t191) = true := by simpa using c29))
      clear c29
      (first | rw [c29b0] | (simp only [i64_w, i32_w]; rw [c29b0]) | skip)
      by_cases c33 : t188 = 0
      · rw [if_pos c33] at H
        have c33b0 : (t188 == 0) = true := beq_iff_eq.mpr c33
        have c33b1 : (t188 != 0) = false := bne_eq_false_iff_eq.mpr c33
        obtain rfl : t191 = true := by
          rw [c33b0] at c29b0
          revert c29b0; cases t191 <;> simp
        clear c29b0
        clear c33
        have H' := Aside0.mk H
        clear H
        have hnb34 := NB176_177.out
        have hnc34 := NB177_176.out
        have hcz35_0 : w27.cell? ⟨gb176, 0, none⟩ = some (.int .i64 t179) := (blk_cell BK176.out 0).trans rfl
        have hcz35_1 : w27.cell? ⟨gb176, 1, none⟩ = some (.string t180) := (blk_cell BK176.out 1).trans rfl
        have hcz35_2 : w27.cell? ⟨gb176, 2, none⟩ = some (.int .i64 t181) := (blk_cell BK176.out 2).trans rfl
        have hcz35_3 : w27.cell? ⟨gb176, 3, none⟩ = some (.string t182) := (blk_cell BK176.out 3).trans rfl
        have hfz35_0 := blk_frozen BK176.out 0
        have hfz35_1 := blk_frozen BK176.out 1
        have hfz35_2 := blk_frozen BK176.out 2
        have hfz35_3 := blk_frozen BK176.out 3
        go_wp2_with (first | ((with_reducible refine gate_callee (f := 11) rfl ?_); refine goesL_ (some 30) rfl rfl Tryz.func11 (by kernel_rfl) rfl #[.agg #[.int .i64 t179, .string t180, .int .i64 t181, .string t182]] rfl (by (try simp only [List.map_toArray, List.map_cons, List.map_nil]); first | done | rfl | (simp only [List.length_drop, List.length_take]; rfl)) ?_; (with_reducible refine (address_Valid.calls k t179 t180 t181 t182 true _ A28.out).mono ?_); rintro e w36 ⟨rfl, hb⟩; refine ⟨_, rfl, ?_⟩; have n0_ := Aside0.mk (blk_below (g := gb176) (o := .cells #[.int .i64 t179, .string t180, .int .i64 t181, .string t182] 23 (0, 0)) (by (with_reducible repeat (first | refine blk_drewN ?_ _ | refine blk_drew ?_ | refine blk_alloc ?_ _)); exact BK176.out) hb); have n1_ := Aside0.mk (blk_below (g := gb177) (o := .cells #[.int .i64 t183, .string t184, .int .i64 t185, .string t186] 23 (0, 0)) (by (with_reducible repeat (first | refine blk_drewN ?_ _ | refine blk_drew ?_ | refine blk_alloc ?_ _)); exact BK177.out) hb); have n2_ := Aside0.mk (below_step (by repeat (first | (with_reducible first | exact HB.out | apply below_alloc | apply pw_below_drewN | apply below_drew1 | refine below_set ?_ GE176.out | refine below_set ?_ GE177.out) | exact HB.out)) hb); clear BK176; clear BK177; clear HB; have BK176 := n0_; have BK177 := n1_; have HB := n2_; clear n0_ n1_ n2_; (try clear hb); (try clear hb2); (try clear hk); (try clear hi)))
        go_meet
        case rel => exact ⟨_, (false), (by first | rfl | (simp; done) | (simp [*]; done)), H', ⟨by first | omega | exact Nat.le_refl _⟩, ⟨by (with_reducible repeat (first | refine blk_drewN ?_ _ | refine blk_drew ?_ | refine blk_alloc ?_ _)); exact BK176.out⟩, ⟨by (with_reducible repeat (first | refine blk_drewN ?_ _ | refine blk_drew ?_ | refine blk_alloc ?_ _)); exact BK177.out⟩, ⟨by repeat (first | (with_reducible first | exact HB.out | apply below_alloc | apply pw_below_drewN | apply below_drew1 | refine below_set ?_ GE176.out | refine below_set ?_ GE177.out) | exact HB.out)⟩⟩
      · rw [if_neg c33] at H
        have c33b0 : (t188 == 0) = false := beq_eq_false_iff_ne.mpr c33
        have c33b1 : (t188 != 0) = true := bne_iff_ne.mpr c33
        obtain rfl : t191 = false := by
          rw [c33b0] at c29b0
          revert c29b0; cases t191 <;> simp
        clear c29b0
        by_cases c37 : t188 = 120
        · rw [if_pos c37] at H
          have c37b0 : (t188 == 120) = true := beq_iff_eq.mpr c37
          have c37b1 : (t188 != 120) = false := bne_eq_false_iff_eq.mpr c37
          clear c37
          by_cases c38 : t187.toList = ([] : List UInt8)
          · rw [if_pos c38] at H
            have c38b0 : (t187.toList == ([] : List UInt8)) = true := beq_iff_eq.mpr c38
            have c38be : t187.toList.isEmpty = true := by have h_ := eq_of_beq c38b0; rw [h_]; rfl
            have c38b1 : (t187.toList != ([] : List UInt8)) = false := bne_eq_false_iff_eq.mpr c38
            clear c38
            replace H := Option.bind_eq_some_iff.mp H
            obtain ⟨t192, A390, H⟩ := H
            obtain rfl : t192 = (-1) := urg_none A390 A28.out
            replace H : (copydesklaw12_AddressRoundTrip.j0 k t178 t187 t188 t189 t190 ((-1) != (-1)) t179 t180 t181 t182 t183 t184 t185 t186) = some r := H
            have A39 := Aside0.mk A390
            clear A390
            have H' := Aside0.mk H
            clear H
            have hnb40 := NB176_177.out
            have hnc40 := NB177_176.out
            have hcz41_0 : w27.cell? ⟨gb176, 0, none⟩ = some (.int .i64 t179) := (blk_cell BK176.out 0).trans rfl
            have hcz41_1 : w27.cell? ⟨gb176, 1, none⟩ = some (.string t180) := (blk_cell BK176.out 1).trans rfl
            have hcz41_2 : w27.cell? ⟨gb176, 2, none⟩ = some (.int .i64 t181) := (blk_cell BK176.out 2).trans rfl
            have hcz41_3 : w27.cell? ⟨gb176, 3, none⟩ = some (.string t182) := (blk_cell BK176.out 3).trans rfl
            have hfz41_0 := blk_frozen BK176.out 0
            have hfz41_1 := blk_frozen BK176.out 1
            have hfz41_2 := blk_frozen BK176.out 2
            have hfz41_3 := blk_frozen BK176.out 3
            go_wp2_with (first | ((with_reducible refine gate_callee (f := 11) rfl ?_); refine goesL_ (some 30) rfl rfl Tryz.func11 (by kernel_rfl) rfl #[.agg #[.int .i64 t179, .string t180, .int .i64 t181, .string t182]] rfl (by (try simp only [List.map_toArray, List.map_cons, List.map_nil]); first | done | rfl | (simp only [List.length_drop, List.length_take]; rfl)) ?_; (with_reducible refine (address_Valid.calls k t179 t180 t181 t182 false _ A28.out).mono ?_); rintro e w42 ⟨rfl, hb⟩; refine ⟨_, rfl, ?_⟩; have n0_ := Aside0.mk (blk_below (g := gb176) (o := .cells #[.int .i64 t179, .string t180, .int .i64 t181, .string t182] 23 (0, 0)) (by (with_reducible repeat (first | refine blk_drewN ?_ _ | refine blk_drew ?_ | refine blk_alloc ?_ _)); exact BK176.out) hb); have n1_ := Aside0.mk (blk_below (g := gb177) (o := .cells #[.int .i64 t183, .string t184, .int .i64 t185, .string t186] 23 (0, 0)) (by (with_reducible repeat (first | refine blk_drewN ?_ _ | refine blk_drew ?_ | refine blk_alloc ?_ _)); exact BK177.out) hb); have n2_ := Aside0.mk (below_step (by repeat (first | (with_reducible first | exact HB.out | apply below_alloc | apply pw_below_drewN | apply below_drew1 | refine below_set ?_ GE176.out | refine below_set ?_ GE177.out) | exact HB.out)) hb); clear BK176; clear BK177; clear HB; have BK176 := n0_; have BK177 := n1_; have HB := n2_; clear n0_ n1_ n2_; (try clear hb); (try clear hb2); (try clear hk); (try clear hi); have hcz43_0 : w42.cell? ⟨gb176, 0, none⟩ = some (.int .i64 t179) := (blk_cell BK176.out 0).trans rfl; have hcz43_1 : w42.cell? ⟨gb176, 1, none⟩ = some (.string t180) := (blk_cell BK176.out 1).trans rfl; have hcz43_2 : w42.cell? ⟨gb176, 2, none⟩ = some (.int .i64 t181) := (blk_cell BK176.out 2).trans rfl; have hcz43_3 : w42.cell? ⟨gb176, 3, none⟩ = some (.string t182) := (blk_cell BK176.out 3).trans rfl; have hfz43_0 := blk_frozen BK176.out 0; have hfz43_1 := blk_frozen BK176.out 1; have hfz43_2 := blk_frozen BK176.out 2; have hfz43_3 := blk_frozen BK176.out 3) | (go_at_call 13; (with_reducible refine (address_Urgency.calls t179 t180 t181 t182 (-1) _ A39.out).mono ?_); rintro e w44 ⟨rfl, hb⟩; have n0_ := Aside0.mk (blk_below (g := gb176) (o := .cells #[.int .i64 t179, .string t180, .int .i64 t181, .string t182] 23 (0, 0)) (by (with_reducible repeat (first | refine blk_drewN ?_ _ | refine blk_drew ?_ | refine blk_alloc ?_ _)); exact BK176.out) hb); have n1_ := Aside0.mk (blk_below (g := gb177) (o := .cells #[.int .i64 t183, .string t184, .int .i64 t185, .string t186] 23 (0, 0)) (by (with_reducible repeat (first | refine blk_drewN ?_ _ | refine blk_drew ?_ | refine blk_alloc ?_ _)); exact BK177.out) hb); have n2_ := Aside0.mk (below_step (by repeat (first | (with_reducible first | exact HB.out | apply below_alloc | apply pw_below_drewN | apply below_drew1 | refine below_set ?_ GE176.out | refine below_set ?_ GE177.out) | exact HB.out)) hb); clear BK176; clear BK177; clear HB; have BK176 := n0_; have BK177 := n1_; have HB := n2_; clear n0_ n1_ n2_; (try clear hb); (try clear hb2); (try clear hk); (try clear hi)))
            go_meet
            case rel => exact ⟨_, (((-1) != (-1))), (by first | rfl | (simp; done) | (simp [*]; done)), H', ⟨by first | omega | exact Nat.le_refl _⟩, ⟨by (with_reducible repeat (first | refine blk_drewN ?_ _ | refine blk_drew ?_ | refine blk_alloc ?_ _)); exact BK176.out⟩, ⟨by (with_reducible repeat (first | refine blk_drewN ?_ _ | refine blk_drew ?_ | refine blk_alloc ?_ _)); exact BK177.out⟩, ⟨by repeat (first | (with_reducible first | exact HB.out | apply below_alloc | apply pw_below_drewN | apply below_drew1 | refine below_set ?_ GE176.out | refine below_set ?_ GE177.out) | exact HB.out)⟩⟩
          · rw [if_neg c38] at H
            have c38b0 : (t187.toList == ([] : List UInt8)) = false := beq_eq_false_iff_ne.mpr c38
            have c38be : t187.toList.isEmpty = false := by have h_ := c38b0; revert h_; cases t187.toList with | nil => (intro h_; exact absurd h_ (by decide)) | cons a_ l_ => (intro _; rfl)
            have c38b1 : (t187.toList != ([] : List UInt8)) = true := bne_iff_ne.mpr c38
            have H' := Aside0.mk H
            clear H
            have hnb45 := NB176_177.out
            have hnc45 := NB177_176.out
            have hcz46_0 : w27.cell? ⟨gb176, 0, none⟩ = some (.int .i64 t179) := (blk_cell BK176.out 0).trans rfl
            have hcz46_1 : w27.cell? ⟨gb176, 1, none⟩ = some (.string t180) := (blk_cell BK176.out 1).trans rfl
            have hcz46_2 : w27.cell? ⟨gb176, 2, none⟩ = some (.int .i64 t181) := (blk_cell BK176.out 2).trans rfl
            have hcz46_3 : w27.cell? ⟨gb176, 3, none⟩ = some (.string t182) := (blk_cell BK176.out 3).trans rfl
            have hfz46_0 := blk_frozen BK176.out 0
            have hfz46_1 := blk_frozen BK176.out 1
            have hfz46_2 := blk_frozen BK176.out 2
            have hfz46_3 := blk_frozen BK176.out 3
            go_wp2_with (first | ((with_reducible refine gate_callee (f := 11) rfl ?_); refine goesL_ (some 30) rfl rfl Tryz.func11 (by kernel_rfl) rfl #[.agg #[.int .i64 t179, .string t180, .int .i64 t181, .string t182]] rfl (by (try simp only [List.map_toArray, List.map_cons, List.map_nil]); first | done | rfl | (simp only [List.length_drop, List.length_take]; rfl)) ?_; (with_reducible refine (address_Valid.calls k t179 t180 t181 t182 false _ A28.out).mono ?_); rintro e w47 ⟨rfl, hb⟩; refine ⟨_, rfl, ?_⟩; have n0_ := Aside0.mk (blk_below (g := gb176) (o := .cells #[.int .i64 t179, .string t180, .int .i64 t181, .string t182] 23 (0, 0)) (by (with_reducible repeat (first | refine blk_drewN ?_ _ | refine blk_drew ?_ | refine blk_alloc ?_ _)); exact BK176.out) hb); have n1_ := Aside0.mk (blk_below (g := gb177) (o := .cells #[.int .i64 t183, .string t184, .int .i64 t185, .string t186] 23 (0, 0)) (by (with_reducible repeat (first | refine blk_drewN ?_ _ | refine blk_drew ?_ | refine blk_alloc ?_ _)); exact BK177.out) hb); have n2_ := Aside0.mk (below_step (by repeat (first | (with_reducible first | exact HB.out | apply below_alloc | apply pw_below_drewN | apply below_drew1 | refine below_set ?_ GE176.out | refine below_set ?_ GE177.out) | exact HB.out)) hb); clear BK176; clear BK177; clear HB; have BK176 := n0_; have BK177 := n1_; have HB := n2_; clear n0_ n1_ n2_; (try clear hb); (try clear hb2); (try clear hk); (try clear hi)))
            go_meet
            case rel => exact ⟨_, (true), (by first | rfl | (simp; done) | (simp [*]; done)), H', ⟨by first | omega | exact Nat.le_refl _⟩, ⟨by (with_reducible repeat (first | refine blk_drewN ?_ _ | refine blk_drew ?_ | refine blk_alloc ?_ _)); exact BK176.out⟩, ⟨by (with_reducible repeat (first | refine blk_drewN ?_ _ | refine blk_drew ?_ | refine blk_alloc ?_ _)); exact BK177.out⟩, ⟨by repeat (first | (with_reducible first | exact HB.out | apply below_alloc | apply pw_below_drewN | apply below_drew1 | refine below_set ?_ GE176.out | refine below_set ?_ GE177.out) | exact HB.out)⟩⟩
        · rw [if_neg c37] at H
          have c37b0 : (t188 == 120) = false := beq_eq_false_iff_ne.mpr c37
          have c37b1 : (t188 != 120) = true := bne_iff_ne.mpr c37
          have H' := Aside0.mk H
          clear H
          have hnb48 := NB176_177.out
          have hnc48 := NB177_176.out
          have hcz49_0 : w27.cell? ⟨gb176, 0, none⟩ = some (.int .i64 t179) := (blk_cell BK176.out 0).trans rfl
          have hcz49_1 : w27.cell? ⟨gb176, 1, none⟩ = some (.string t180) := (blk_cell BK176.out 1).trans rfl
          have hcz49_2 : w27.cell? ⟨gb176, 2, none⟩ = some (.int .i64 t181) := (blk_cell BK176.out 2).trans rfl
          have hcz49_3 : w27.cell? ⟨gb176, 3, none⟩ = some (.string t182) := (blk_cell BK176.out 3).trans rfl
          have hfz49_0 := blk_frozen BK176.out 0
          have hfz49_1 := blk_frozen BK176.out 1
          have hfz49_2 := blk_frozen BK176.out 2
          have hfz49_3 := blk_frozen BK176.out 3
          go_wp2_with (first | ((with_reducible refine gate_callee (f := 11) rfl ?_); refine goesL_ (some 30) rfl rfl Tryz.func11 (by kernel_rfl) rfl #[.agg #[.int .i64 t179, .string t180, .int .i64 t181, .string t182]] rfl (by (try simp only [List.map_toArray, List.map_cons, List.map_nil]); first | done | rfl | (simp only [List.length_drop, List.length_take]; rfl)) ?_; (with_reducible refine (address_Valid.calls k t179 t180 t181 t182 false _ A28.out).mono ?_); rintro e w50 ⟨rfl, hb⟩; refine ⟨_, rfl, ?_⟩; have n0_ := Aside0.mk (blk_below (g := gb176) (o := .cells #[.int .i64 t179, .string t180, .int .i64 t181, .string t182] 23 (0, 0)) (by (with_reducible repeat (first | refine blk_drewN ?_ _ | refine blk_drew ?_ | refine blk_alloc ?_ _)); exact BK176.out) hb); have n1_ := Aside0.mk (blk_below (g := gb177) (o := .cells #[.int .i64 t183, .string t184, .int .i64 t185, .string t186] 23 (0, 0)) (by (with_reducible repeat (first | refine blk_drewN ?_ _ | refine blk_drew ?_ | refine blk_alloc ?_ _)); exact BK177.out) hb); have n2_ := Aside0.mk (below_step (by repeat (first | (with_reducible first | exact HB.out | apply below_alloc | apply pw_below_drewN | apply below_drew1 | refine below_set ?_ GE176.out | refine below_set ?_ GE177.out) | exact HB.out)) hb); clear BK176; clear BK177; clear HB; have BK176 := n0_; have BK177 := n1_; have HB := n2_; clear n0_ n1_ n2_; (try clear hb); (try clear hb2); (try clear hk); (try clear hi)))
          go_meet
          case rel => exact ⟨_, (true), (by first | rfl | (simp; done) | (simp [*]; done)), H', ⟨by first | omega | exact Nat.le_refl _⟩, ⟨by (with_reducible repeat (first | refine blk_drewN ?_ _ | refine blk_drew ?_ | refine blk_alloc ?_ _)); exact BK176.out⟩, ⟨by (with_reducible repeat (first | refine blk_drewN ?_ _ | refine blk_drew ?_ | refine blk_alloc ?_ _)); exact BK177.out⟩, ⟨by repeat (first | (with_reducible first | exact HB.out | apply below_alloc | apply pw_below_drewN | apply below_drew1 | refine below_set ?_ GE176.out | refine below_set ?_ GE177.out) | exact HB.out)⟩⟩
  case rest =>
    clear HC8
    try clear c1
    try clear c2
    try clear p2
    try clear c3
    try clear c4
    try clear c5
    try clear c7
    try clear c8
    try clear c9
    try clear c11
    try clear c23
    try clear c29
    try clear c29b0
    try clear c29b1
    try clear c29b2
    try clear c30
    try clear c33
    try clear c33b0
    try clear c33b1
    try clear c34
    try clear c37
    try clear c37b0
    try clear c37b1
    try clear c38
    try clear c38b0
    try clear c38b1
    try clear c40
    try clear c45
    try clear c48
    try clear hcz24_0
    try clear hcz24_1
    try clear hcz24_2
    try clear hcz24_3
    try clear hcz26_0
    try clear hcz26_1
    try clear hcz26_2
    try clear hcz26_3
    try clear hcz31_0
    try clear hcz31_1
    try clear hcz31_2
    try clear hcz31_3
    try clear hcz35_0
    try clear hcz35_1
    try clear hcz35_2
    try clear hcz35_3
    try clear hcz41_0
    try clear hcz41_1
    try clear hcz41_2
    try clear hcz41_3
    try clear hcz43_0
    try clear hcz43_1
    try clear hcz43_2
    try clear hcz43_3
    try clear hcz46_0
    try clear hcz46_1
    try clear hcz46_2
    try clear hcz46_3
    try clear hcz49_0
    try clear hcz49_1
    try clear hcz49_2
    try clear hcz49_3
    try clear hfz24_0
    try clear hfz24_1
    try clear hfz24_2
    try clear hfz24_3
    try clear hfz26_0
    try clear hfz26_1
    try clear hfz26_2
    try clear hfz26_3
    try clear hfz31_0
    try clear hfz31_1
    try clear hfz31_2
    try clear hfz31_3
    try clear hfz35_0
    try clear hfz35_1
    try clear hfz35_2
    try clear hfz35_3
    try clear hfz41_0
    try clear hfz41_1
    try clear hfz41_2
    try clear hfz41_3
    try clear hfz43_0
    try clear hfz43_1
    try clear hfz43_2
    try clear hfz43_3
    try clear hfz46_0
    try clear hfz46_1
    try clear hfz46_2
    try clear hfz46_3
    try clear hfz49_0
    try clear hfz49_1
    try clear hfz49_2
    try clear hfz49_3
    obtain ⟨kq, x48_7, rfl, HA, HJ7, BK176, BK177, HB⟩ := hcut
    cases kq with
    | zero => exact absurd HA.out (by simp [copydesklaw12_AddressRoundTrip.j0])
    | succ kj7 =>
      have H := HA.out
      clear HA
      simp only [copydesklaw12_AddressRoundTrip.j0] at H
      by_cases c51 : x48_7 = true
      · subst c51
        have H1 : (some false) = some r := by rw [if_pos rfl] at H; exact H
        clear H
        have H := H1
        clear H1
        obtain rfl := Option.some.inj H
        go_wp2
        go_ret
        exact ⟨by first | rfl | (simp [errW_none, errW_some] <;> rfl) | (simp [*, errW_none, errW_some] <;> rfl), by repeat (first | (with_reducible first | exact HB.out | apply below_alloc | apply pw_below_drewN | apply below_drew1 | refine below_set ?_ GE176.out | refine below_set ?_ GE177.out) | exact HB.out)⟩
      · replace c51 := Bool.eq_false_iff.mpr c51
        subst c51
        have H1 : (if t188 = 0 then ((address_Parse.f t187).bind fun bt193 => (if t178 = true then (if (bt193.1 == t179 && (bt193.2.1.toList == t180.toList && (bt193.2.2.1 == t181 && (bt193.2.2.2.1.toList == t182.toList)))) = true then (if bt193.2.2.2.2 = 0 then (if t190 = 0 then (some ((t187.toList == t189.toList) == (t179 == t183 && (t180.toList == t184.toList && (t181 == t185 && (t182.toList == t186.toList)))))) else (some true)) else (some false)) else (some false)) else (some false))) else (some t178)) = some r := by rw [if_neg (show ¬ (false = true) by decide)] at H; exact H
        clear H
        have H := H1
        clear H1
        by_cases c52 : t188 = 0
        · rw [if_pos c52] at H
          have c52b0 : (t188 == 0) = true := beq_iff_eq.mpr c52
          have c52b1 : (t188 != 0) = false := bne_eq_false_iff_eq.mpr c52
          clear c52
          replace H := Option.bind_eq_some_iff.mp H
          obtain ⟨⟨t193, t194, t195, t196, t197⟩, A530, H⟩ := H
          replace H : (if t178 = true then (if (t193 == t179 && (t194.toList == t180.toList && (t195 == t181 && (t196.toList == t182.toList)))) = true then (if t197 = 0 then (if t190 = 0 then (some ((t187.toList == t189.toList) == (t179 == t183 && (t180.toList == t184.toList && (t181 == t185 && (t182.toList == t186.toList)))))) else (some true)) else (some false)) else (some false)) else (some false)) = some r := H
          have A53 := Aside0.mk A530
          clear A530
          by_cases c54 : t178 = true
          · subst c54
            have H1 : (if (t193 == t179 && (t194.toList == t180.toList && (t195 == t181 && (t196.toList == t182.toList)))) = true then (if t197 = 0 then (if t190 = 0 then (some ((t187.toList == t189.toList) == (t179 == t183 && (t180.toList == t184.toList && (t181 == t185 && (t182.toList == t186.toList)))))) else (some true)) else (some false)) else (some false)) = some r := by rw [if_pos rfl] at H; exact H
            clear H
            have H := H1
            clear H1
            by_cases c55 : (t193 == t179 && (t194.toList == t180.toList && (t195 == t181 && (t196.toList == t182.toList)))) = true
            · rw [if_pos c55] at H
              have c55b0 : (t193 == t179 && (t194.toList == t180.toList && (t195 == t181 && (t196.toList == t182.toList)))) = true := c55
              (try (have c55b1 : decide (t193 = t179 && (t194.toList == t180.toList && (t195 == t181 && (t196.toList == t182.toList)))) = true := by simpa using c55))
              (try (have c55b2 : (t193 == t179 && (t194.toList == t180.toList && (t195 == t181 && (t196.toList == t182.toList)))) = true := by simpa using c55))
              clear c55
              by_cases c56 : t197 = 0
              · rw [if_pos c56] at H
                have c56b0 : (t197 == 0) = true := beq_iff_eq.mpr c56
                have c56b1 : (t197 != 0) = false := bne_eq_false_iff_eq.mpr c56
                clear c56
                by_cases c57 : t190 = 0
                · rw [if_pos c57] at H
                  have c57b0 : (t190 == 0) = true := beq_iff_eq.mpr c57
                  have c57b1 : (t190 != 0) = false := bne_eq_false_iff_eq.mpr c57
                  clear c57
                  obtain rfl := Option.some.inj H
                  go_wp2_with (first | ((with_reducible refine gate_callee (f := 15) rfl ?_); refine goesL_ (some 54) rfl rfl Tryz.func15 (by kernel_rfl) rfl #[.string t187] rfl (by (try simp only [List.map_toArray, List.map_cons, List.map_nil]); first | done | rfl | (simp only [List.length_drop, List.length_take]; rfl)) ?_; (with_reducible refine (address_Parse.calls t187 t193 t194 t195 t196 t197 _ ?side99 A53.out).mono ?_); (case side99 => first | exact HG.out | exact Go.Proofs.YtdfjpbdfafpfgaaGreatDoor.Lex.Gl.below HG.out (by repeat (first | (with_reducible first | exact HB.out | apply below_alloc | apply pw_below_drewN | apply below_drew1 | refine below_set ?_ GE176.out | refine below_set ?_ GE177.out) | exact HB.out))); rintro e w58 ⟨rfl, hb⟩; refine ⟨_, rfl, ?_⟩; have n0_ := Aside0.mk (blk_below (g := gb176) (o := .cells #[.int .i64 t179, .string t180, .int .i64 t181, .string t182] 23 (0, 0)) (by (with_reducible repeat (first | refine blk_drewN ?_ _ | refine blk_drew ?_ | refine blk_alloc ?_ _)); exact BK176.out) hb); have n1_ := Aside0.mk (blk_below (g := gb177) (o := .cells #[.int .i64 t183, .string t184, .int .i64 t185, .string t186] 23 (0, 0)) (by (with_reducible repeat (first | refine blk_drewN ?_ _ | refine blk_drew ?_ | refine blk_alloc ?_ _)); exact BK177.out) hb); have n2_ := Aside0.mk (below_step (by repeat (first | (with_reducible first | exact HB.out | apply below_alloc | apply pw_below_drewN | apply below_drew1 | refine below_set ?_ GE176.out | refine below_set ?_ GE177.out) | exact HB.out)) hb); clear BK176; clear BK177; clear HB; have BK176 := n0_; have BK177 := n1_; have HB := n2_; clear n0_ n1_ n2_; (try clear hb); (try clear hb2); (try clear hk); (try clear hi)) | ((with_reducible refine gate_dst (N := 10) rfl ?_); refine box_event ?hg (N := 10) ?hd (cs := #[.int .i64 0, .string (⟨#[]⟩ : ByteArray), .int .i64 0, .string (⟨#[]⟩ : ByteArray)]) (t := 23) ?hr ?_; (case hd => rfl); (case hg => rfl); (case hr => first | (go_simp; done) | (go_simp; rfl)); intro gb198 hg w59 hbox hb; have n0_ := Aside0.mk (blk_below (g := gb176) (o := .cells #[.int .i64 t179, .string t180, .int .i64 t181, .string t182] 23 (0, 0)) (by (with_reducible repeat (first | refine blk_drewN ?_ _ | refine blk_drew ?_ | refine blk_alloc ?_ _)); exact BK176.out) hb); have n1_ := Aside0.mk (blk_below (g := gb177) (o := .cells #[.int .i64 t183, .string t184, .int .i64 t185, .string t186] 23 (0, 0)) (by (with_reducible repeat (first | refine blk_drewN ?_ _ | refine blk_drew ?_ | refine blk_alloc ?_ _)); exact BK177.out) hb); have n2_ := Aside0.mk (below_step (by repeat (first | (with_reducible first | exact HB.out | apply below_alloc | apply pw_below_drewN | apply below_drew1 | refine below_set ?_ GE176.out | refine below_set ?_ GE177.out) | exact HB.out)) hb); have n3_ := Aside0.mk (hbox); have n4_ := Aside0.mk ((by rw [hg]; exact (below_size (by repeat (first | (with_reducible first | exact HB.out | apply below_alloc | apply pw_below_drewN | apply below_drew1 | refine below_set ?_ GE176.out | refine below_set ?_ GE177.out) | exact HB.out))) : w.heap.size ≤ gb198)); have n5_ := Aside0.mk ((by rw [hg]; exact (below_size (by repeat (first | (with_reducible first | exact HB.out | apply below_alloc | apply pw_below_drewN | apply below_drew1 | refine below_set ?_ GE176.out | refine below_set ?_ GE177.out) | exact HB.out))) : w.heap.size ≤ gb198)); have n6_ := Aside0.mk ((by rw [hg]; exact Nat.ne_of_lt (blk_lt (g := gb176) (o := .cells #[.int .i64 t179, .string t180, .int .i64 t181, .string t182] 23 (0, 0)) (by (with_reducible repeat (first | refine blk_drewN ?_ _ | refine blk_drew ?_ | refine blk_alloc ?_ _)); exact BK176.out)) : gb176 ≠ gb198)); have n7_ := Aside0.mk ((by rw [hg]; exact Nat.ne_of_gt (blk_lt (g := gb176) (o := .cells #[.int .i64 t179, .string t180, .int .i64 t181, .string t182] 23 (0, 0)) (by (with_reducible repeat (first | refine blk_drewN ?_ _ | refine blk_drew ?_ | refine blk_alloc ?_ _)); exact BK176.out)) : gb198 ≠ gb176)); have n8_ := Aside0.mk ((by rw [hg]; exact Nat.ne_of_lt (blk_lt (g := gb177) (o := .cells #[.int .i64 t183, .string t184, .int .i64 t185, .string t186] 23 (0, 0)) (by (with_reducible repeat (first | refine blk_drewN ?_ _ | refine blk_drew ?_ | refine blk_alloc ?_ _)); exact BK177.out)) : gb177 ≠ gb198)); have n9_ := Aside0.mk ((by rw [hg]; exact Nat.ne_of_gt (blk_lt (g := gb177) (o := .cells #[.int .i64 t183, .string t184, .int .i64 t185, .string t186] 23 (0, 0)) (by (with_reducible repeat (first | refine blk_drewN ?_ _ | refine blk_drew ?_ | refine blk_alloc ?_ _)); exact BK177.out)) : gb198 ≠ gb177)); clear BK176; clear BK177; clear HB; have BK176 := n0_; have BK177 := n1_; have HB := n2_; have BK198 := n3_; have GW198 := n4_; have GE198 := n5_; have NB176_198 := n6_; have NB198_176 := n7_; have NB177_198 := n8_; have NB198_177 := n9_; clear n0_ n1_ n2_ n3_ n4_ n5_ n6_ n7_ n8_ n9_; clear hb hbox hg; have hnb60 := NB198_176.out; have hnc60 := NB176_198.out; have hnb61 := NB198_177.out; have hnc61 := NB177_198.out; have hcz62_0 : w59.cell? ⟨gb198, 0, none⟩ = some (.int .i64 0) := (blk_cell BK198.out 0).trans rfl; have hcz62_1 : w59.cell? ⟨gb198, 1, none⟩ = some (.string (⟨#[]⟩ : ByteArray)) := (blk_cell BK198.out 1).trans rfl; have hcz62_2 : w59.cell? ⟨gb198, 2, none⟩ = some (.int .i64 0) := (blk_cell BK198.out 2).trans rfl; have hcz62_3 : w59.cell? ⟨gb198, 3, none⟩ = some (.string (⟨#[]⟩ : ByteArray)) := (blk_cell BK198.out 3).trans rfl; have hfz62_0 := blk_frozen BK198.out 0; have hfz62_1 := blk_frozen BK198.out 1; have hfz62_2 := blk_frozen BK198.out 2; have hfz62_3 := blk_frozen BK198.out 3; have hnb63 := NB176_177.out; have hnc63 := NB177_176.out; have hcz64_0 : w59.cell? ⟨gb176, 0, none⟩ = some (.int .i64 t179) := (blk_cell BK176.out 0).trans rfl; have hcz64_1 : w59.cell? ⟨gb176, 1, none⟩ = some (.string t180) := (blk_cell BK176.out 1).trans rfl; have hcz64_2 : w59.cell? ⟨gb176, 2, none⟩ = some (.int .i64 t181) := (blk_cell BK176.out 2).trans rfl; have hcz64_3 : w59.cell? ⟨gb176, 3, none⟩ = some (.string t182) := (blk_cell BK176.out 3).trans rfl; have hfz64_0 := blk_frozen BK176.out 0; have hfz64_1 := blk_frozen BK176.out 1; have hfz64_2 := blk_frozen BK176.out 2; have hfz64_3 := blk_frozen BK176.out 3; have hcz65_0 : w59.cell? ⟨gb177, 0, none⟩ = some (.int .i64 t183) := (blk_cell BK177.out 0).trans rfl; have hcz65_1 : w59.cell? ⟨gb177, 1, none⟩ = some (.string t184) := (blk_cell BK177.out 1).trans rfl; have hcz65_2 : w59.cell? ⟨gb177, 2, none⟩ = some (.int .i64 t185) := (blk_cell BK177.out 2).trans rfl; have hcz65_3 : w59.cell? ⟨gb177, 3, none⟩ = some (.string t186) := (blk_cell BK177.out 3).trans rfl; have hfz65_0 := blk_frozen BK177.out 0; have hfz65_1 := blk_frozen BK177.out 1; have hfz65_2 := blk_frozen BK177.out 2; have hfz65_3 := blk_frozen BK177.out 3))
                  go_ret
                  exact ⟨by first | rfl | (simp [errW_none, errW_some] <;> rfl) | (simp [*, errW_none, errW_some] <;> rfl), by repeat (first | (with_reducible first | exact HB.out | apply below_alloc | apply pw_below_drewN | apply below_drew1 | refine below_set ?_ GE176.out | refine below_set ?_ GE177.out | refine below_set ?_ GE198.out) | exact HB.out)⟩
                · rw [if_neg c57] at H
                  have c57b0 : (t190 == 0) = false := beq_eq_false_iff_ne.mpr c57
                  have c57b1 : (t190 != 0) = true := bne_iff_ne.mpr c57
                  obtain rfl := Option.some.inj H
                  go_wp2_with (first | ((with_reducible refine gate_callee (f := 15) rfl ?_); refine goesL_ (some 54) rfl rfl Tryz.func15 (by kernel_rfl) rfl #[.string t187] rfl (by (try simp only [List.map_toArray, List.map_cons, List.map_nil]); first | done | rfl | (simp only [List.length_drop, List.length_take]; rfl)) ?_; (with_reducible refine (address_Parse.calls t187 t193 t194 t195 t196 t197 _ ?side99 A53.out).mono ?_); (case side99 => first | exact HG.out | exact Go.Proofs.YtdfjpbdfafpfgaaGreatDoor.Lex.Gl.below HG.out (by repeat (first | (with_reducible first | exact HB.out | apply below_alloc | apply pw_below_drewN | apply below_drew1 | refine below_set ?_ GE176.out | refine below_set ?_ GE177.out) | exact HB.out))); rintro e w66 ⟨rfl, hb⟩; refine ⟨_, rfl, ?_⟩; have n0_ := Aside0.mk (blk_below (g := gb176) (o := .cells #[.int .i64 t179, .string t180, .int .i64 t181, .string t182] 23 (0, 0)) (by (with_reducible repeat (first | refine blk_drewN ?_ _ | refine blk_drew ?_ | refine blk_alloc ?_ _)); exact BK176.out) hb); have n1_ := Aside0.mk (blk_below (g := gb177) (o := .cells #[.int .i64 t183, .string t184, .int .i64 t185, .string t186] 23 (0, 0)) (by (with_reducible repeat (first | refine blk_drewN ?_ _ | refine blk_drew ?_ | refine blk_alloc ?_ _)); exact BK177.out) hb); have n2_ := Aside0.mk (below_step (by repeat (first | (with_reducible first | exact HB.out | apply below_alloc | apply pw_below_drewN | apply below_drew1 | refine below_set ?_ GE176.out | refine below_set ?_ GE177.out) | exact HB.out)) hb); clear BK176; clear BK177; clear HB; have BK176 := n0_; have BK177 := n1_; have HB := n2_; clear n0_ n1_ n2_; (try clear hb); (try clear hb2); (try clear hk); (try clear hi)) | ((with_reducible refine gate_dst (N := 10) rfl ?_); refine box_event ?hg (N := 10) ?hd (cs := #[.int .i64 0, .string (⟨#[]⟩ : ByteArray), .int .i64 0, .string (⟨#[]⟩ : ByteArray)]) (t := 23) ?hr ?_; (case hd => rfl); (case hg => rfl); (case hr => first | (go_simp; done) | (go_simp; rfl)); intro gb198 hg w67 hbox hb; have n0_ := Aside0.mk (blk_below (g := gb176) (o := .cells #[.int .i64 t179, .string t180, .int .i64 t181, .string t182] 23 (0, 0)) (by (with_reducible repeat (first | refine blk_drewN ?_ _ | refine blk_drew ?_ | refine blk_alloc ?_ _)); exact BK176.out) hb); have n1_ := Aside0.mk (blk_below (g := gb177) (o := .cells #[.int .i64 t183, .string t184, .int .i64 t185, .string t186] 23 (0, 0)) (by (with_reducible repeat (first | refine blk_drewN ?_ _ | refine blk_drew ?_ | refine blk_alloc ?_ _)); exact BK177.out) hb); have n2_ := Aside0.mk (below_step (by repeat (first | (with_reducible first | exact HB.out | apply below_alloc | apply pw_below_drewN | apply below_drew1 | refine below_set ?_ GE176.out | refine below_set ?_ GE177.out) | exact HB.out)) hb); have n3_ := Aside0.mk (hbox); have n4_ := Aside0.mk ((by rw [hg]; exact (below_size (by repeat (first | (with_reducible first | exact HB.out | apply below_alloc | apply pw_below_drewN | apply below_drew1 | refine below_set ?_ GE176.out | refine below_set ?_ GE177.out) | exact HB.out))) : w.heap.size ≤ gb198)); have n5_ := Aside0.mk ((by rw [hg]; exact (below_size (by repeat (first | (with_reducible first | exact HB.out | apply below_alloc | apply pw_below_drewN | apply below_drew1 | refine below_set ?_ GE176.out | refine below_set ?_ GE177.out) | exact HB.out))) : w.heap.size ≤ gb198)); have n6_ := Aside0.mk ((by rw [hg]; exact Nat.ne_of_lt (blk_lt (g := gb176) (o := .cells #[.int .i64 t179, .string t180, .int .i64 t181, .string t182] 23 (0, 0)) (by (with_reducible repeat (first | refine blk_drewN ?_ _ | refine blk_drew ?_ | refine blk_alloc ?_ _)); exact BK176.out)) : gb176 ≠ gb198)); have n7_ := Aside0.mk ((by rw [hg]; exact Nat.ne_of_gt (blk_lt (g := gb176) (o := .cells #[.int .i64 t179, .string t180, .int .i64 t181, .string t182] 23 (0, 0)) (by (with_reducible repeat (first | refine blk_drewN ?_ _ | refine blk_drew ?_ | refine blk_alloc ?_ _)); exact BK176.out)) : gb198 ≠ gb176)); have n8_ := Aside0.mk ((by rw [hg]; exact Nat.ne_of_lt (blk_lt (g := gb177) (o := .cells #[.int .i64 t183, .string t184, .int .i64 t185, .string t186] 23 (0, 0)) (by (with_reducible repeat (first | refine blk_drewN ?_ _ | refine blk_drew ?_ | refine blk_alloc ?_ _)); exact BK177.out)) : gb177 ≠ gb198)); have n9_ := Aside0.mk ((by rw [hg]; exact Nat.ne_of_gt (blk_lt (g := gb177) (o := .cells #[.int .i64 t183, .string t184, .int .i64 t185, .string t186] 23 (0, 0)) (by (with_reducible repeat (first | refine blk_drewN ?_ _ | refine blk_drew ?_ | refine blk_alloc ?_ _)); exact BK177.out)) : gb198 ≠ gb177)); clear BK176; clear BK177; clear HB; have BK176 := n0_; have BK177 := n1_; have HB := n2_; have BK198 := n3_; have GW198 := n4_; have GE198 := n5_; have NB176_198 := n6_; have NB198_176 := n7_; have NB177_198 := n8_; have NB198_177 := n9_; clear n0_ n1_ n2_ n3_ n4_ n5_ n6_ n7_ n8_ n9_; clear hb hbox hg; have hnb68 := NB198_176.out; have hnc68 := NB176_198.out; have hnb69 := NB198_177.out; have hnc69 := NB177_198.out; have hcz70_0 : w67.cell? ⟨gb198, 0, none⟩ = some (.int .i64 0) := (blk_cell BK198.out 0).trans rfl; have hcz70_1 : w67.cell? ⟨gb198, 1, none⟩ = some (.string (⟨#[]⟩ : ByteArray)) := (blk_cell BK198.out 1).trans rfl; have hcz70_2 : w67.cell? ⟨gb198, 2, none⟩ = some (.int .i64 0) := (blk_cell BK198.out 2).trans rfl; have hcz70_3 : w67.cell? ⟨gb198, 3, none⟩ = some (.string (⟨#[]⟩ : ByteArray)) := (blk_cell BK198.out 3).trans rfl; have hfz70_0 := blk_frozen BK198.out 0; have hfz70_1 := blk_frozen BK198.out 1; have hfz70_2 := blk_frozen BK198.out 2; have hfz70_3 := blk_frozen BK198.out 3; have hnb71 := NB176_177.out; have hnc71 := NB177_176.out; have hcz72_0 : w67.cell? ⟨gb176, 0, none⟩ = some (.int .i64 t179) := (blk_cell BK176.out 0).trans rfl; have hcz72_1 : w67.cell? ⟨gb176, 1, none⟩ = some (.string t180) := (blk_cell BK176.out 1).trans rfl; have hcz72_2 : w67.cell? ⟨gb176, 2, none⟩ = some (.int .i64 t181) := (blk_cell BK176.out 2).trans rfl; have hcz72_3 : w67.cell? ⟨gb176, 3, none⟩ = some (.string t182) := (blk_cell BK176.out 3).trans rfl; have hfz72_0 := blk_frozen BK176.out 0; have hfz72_1 := blk_frozen BK176.out 1; have hfz72_2 := blk_frozen BK176.out 2; have hfz72_3 := blk_frozen BK176.out 3))
                  go_ret
                  exact ⟨by first | rfl | (simp [errW_none, errW_some] <;> rfl) | (simp [*, errW_none, errW_some] <;> rfl), by repeat (first | (with_reducible first | exact HB.out | apply below_alloc | apply pw_below_drewN | apply below_drew1 | refine below_set ?_ GE176.out | refine below_set ?_ GE177.out | refine below_set ?_ GE198.out) | exact HB.out)⟩
              · rw [if_neg c56] at H
                have c56b0 : (t197 == 0) = false := beq_eq_false_iff_ne.mpr c56
                have c56b1 : (t197 != 0) = true := bne_iff_ne.mpr c56
                obtain rfl := Option.some.inj H
                go_wp2_with (first | ((with_reducible refine gate_callee (f := 15) rfl ?_); refine goesL_ (some 54) rfl rfl Tryz.func15 (by kernel_rfl) rfl #[.string t187] rfl (by (try simp only [List.map_toArray, List.map_cons, List.map_nil]); first | done | rfl | (simp only [List.length_drop, List.length_take]; rfl)) ?_; (with_reducible refine (address_Parse.calls t187 t193 t194 t195 t196 t197 _ ?side99 A53.out).mono ?_); (case side99 => first | exact HG.out | exact Go.Proofs.YtdfjpbdfafpfgaaGreatDoor.Lex.Gl.below HG.out (by repeat (first | (with_reducible first | exact HB.out | apply below_alloc | apply pw_below_drewN | apply below_drew1 | refine below_set ?_ GE176.out | refine below_set ?_ GE177.out) | exact HB.out))); rintro e w73 ⟨rfl, hb⟩; refine ⟨_, rfl, ?_⟩; have n0_ := Aside0.mk (blk_below (g := gb176) (o := .cells #[.int .i64 t179, .string t180, .int .i64 t181, .string t182] 23 (0, 0)) (by (with_reducible repeat (first | refine blk_drewN ?_ _ | refine blk_drew ?_ | refine blk_alloc ?_ _)); exact BK176.out) hb); have n1_ := Aside0.mk (blk_below (g := gb177) (o := .cells #[.int .i64 t183, .string t184, .int .i64 t185, .string t186] 23 (0, 0)) (by (with_reducible repeat (first | refine blk_drewN ?_ _ | refine blk_drew ?_ | refine blk_alloc ?_ _)); exact BK177.out) hb); have n2_ := Aside0.mk (below_step (by repeat (first | (with_reducible first | exact HB.out | apply below_alloc | apply pw_below_drewN | apply below_drew1 | refine below_set ?_ GE176.out | refine below_set ?_ GE177.out) | exact HB.out)) hb); clear BK176; clear BK177; clear HB; have BK176 := n0_; have BK177 := n1_; have HB := n2_; clear n0_ n1_ n2_; (try clear hb); (try clear hb2); (try clear hk); (try clear hi)) | ((with_reducible refine gate_dst (N := 10) rfl ?_); refine box_event ?hg (N := 10) ?hd (cs := #[.int .i64 0, .string (⟨#[]⟩ : ByteArray), .int .i64 0, .string (⟨#[]⟩ : ByteArray)]) (t := 23) ?hr ?_; (case hd => rfl); (case hg => rfl); (case hr => first | (go_simp; done) | (go_simp; rfl)); intro gb198 hg w74 hbox hb; have n0_ := Aside0.mk (blk_below (g := gb176) (o := .cells #[.int .i64 t179, .string t180, .int .i64 t181, .string t182] 23 (0, 0)) (by (with_reducible repeat (first | refine blk_drewN ?_ _ | refine blk_drew ?_ | refine blk_alloc ?_ _)); exact BK176.out) hb); have n1_ := Aside0.mk (blk_below (g := gb177) (o := .cells #[.int .i64 t183, .string t184, .int .i64 t185, .string t186] 23 (0, 0)) (by (with_reducible repeat (first | refine blk_drewN ?_ _ | refine blk_drew ?_ | refine blk_alloc ?_ _)); exact BK177.out) hb); have n2_ := Aside0.mk (below_step (by repeat (first | (with_reducible first | exact HB.out | apply below_alloc | apply pw_below_drewN | apply below_drew1 | refine below_set ?_ GE176.out | refine below_set ?_ GE177.out) | exact HB.out)) hb); have n3_ := Aside0.mk (hbox); have n4_ := Aside0.mk ((by rw [hg]; exact (below_size (by repeat (first | (with_reducible first | exact HB.out | apply below_alloc | apply pw_below_drewN | apply below_drew1 | refine below_set ?_ GE176.out | refine below_set ?_ GE177.out) | exact HB.out))) : w.heap.size ≤ gb198)); have n5_ := Aside0.mk ((by rw [hg]; exact (below_size (by repeat (first | (with_reducible first | exact HB.out | apply below_alloc | apply pw_below_drewN | apply below_drew1 | refine below_set ?_ GE176.out | refine below_set ?_ GE177.out) | exact HB.out))) : w.heap.size ≤ gb198)); have n6_ := Aside0.mk ((by rw [hg]; exact Nat.ne_of_lt (blk_lt (g := gb176) (o := .cells #[.int .i64 t179, .string t180, .int .i64 t181, .string t182] 23 (0, 0)) (by (with_reducible repeat (first | refine blk_drewN ?_ _ | refine blk_drew ?_ | refine blk_alloc ?_ _)); exact BK176.out)) : gb176 ≠ gb198)); have n7_ := Aside0.mk ((by rw [hg]; exact Nat.ne_of_gt (blk_lt (g := gb176) (o := .cells #[.int .i64 t179, .string t180, .int .i64 t181, .string t182] 23 (0, 0)) (by (with_reducible repeat (first | refine blk_drewN ?_ _ | refine blk_drew ?_ | refine blk_alloc ?_ _)); exact BK176.out)) : gb198 ≠ gb176)); have n8_ := Aside0.mk ((by rw [hg]; exact Nat.ne_of_lt (blk_lt (g := gb177) (o := .cells #[.int .i64 t183, .string t184, .int .i64 t185, .string t186] 23 (0, 0)) (by (with_reducible repeat (first | refine blk_drewN ?_ _ | refine blk_drew ?_ | refine blk_alloc ?_ _)); exact BK177.out)) : gb177 ≠ gb198)); have n9_ := Aside0.mk ((by rw [hg]; exact Nat.ne_of_gt (blk_lt (g := gb177) (o := .cells #[.int .i64 t183, .string t184, .int .i64 t185, .string t186] 23 (0, 0)) (by (with_reducible repeat (first | refine blk_drewN ?_ _ | refine blk_drew ?_ | refine blk_alloc ?_ _)); exact BK177.out)) : gb198 ≠ gb177)); clear BK176; clear BK177; clear HB; have BK176 := n0_; have BK177 := n1_; have HB := n2_; have BK198 := n3_; have GW198 := n4_; have GE198 := n5_; have NB176_198 := n6_; have NB198_176 := n7_; have NB177_198 := n8_; have NB198_177 := n9_; clear n0_ n1_ n2_ n3_ n4_ n5_ n6_ n7_ n8_ n9_; clear hb hbox hg; have hnb75 := NB198_176.out; have hnc75 := NB176_198.out; have hnb76 := NB198_177.out; have hnc76 := NB177_198.out; have hcz77_0 : w74.cell? ⟨gb198, 0, none⟩ = some (.int .i64 0) := (blk_cell BK198.out 0).trans rfl; have hcz77_1 : w74.cell? ⟨gb198, 1, none⟩ = some (.string (⟨#[]⟩ : ByteArray)) := (blk_cell BK198.out 1).trans rfl; have hcz77_2 : w74.cell? ⟨gb198, 2, none⟩ = some (.int .i64 0) := (blk_cell BK198.out 2).trans rfl; have hcz77_3 : w74.cell? ⟨gb198, 3, none⟩ = some (.string (⟨#[]⟩ : ByteArray)) := (blk_cell BK198.out 3).trans rfl; have hfz77_0 := blk_frozen BK198.out 0; have hfz77_1 := blk_frozen BK198.out 1; have hfz77_2 := blk_frozen BK198.out 2; have hfz77_3 := blk_frozen BK198.out 3; have hnb78 := NB176_177.out; have hnc78 := NB177_176.out; have hcz79_0 : w74.cell? ⟨gb176, 0, none⟩ = some (.int .i64 t179) := (blk_cell BK176.out 0).trans rfl; have hcz79_1 : w74.cell? ⟨gb176, 1, none⟩ = some (.string t180) := (blk_cell BK176.out 1).trans rfl; have hcz79_2 : w74.cell? ⟨gb176, 2, none⟩ = some (.int .i64 t181) := (blk_cell BK176.out 2).trans rfl; have hcz79_3 : w74.cell? ⟨gb176, 3, none⟩ = some (.string t182) := (blk_cell BK176.out 3).trans rfl; have hfz79_0 := blk_frozen BK176.out 0; have hfz79_1 := blk_frozen BK176.out 1; have hfz79_2 := blk_frozen BK176.out 2; have hfz79_3 := blk_frozen BK176.out 3))
                go_ret
                exact ⟨by first | rfl | (simp [errW_none, errW_some] <;> rfl) | (simp [*, errW_none, errW_some] <;> rfl), by repeat (first | (with_reducible first | exact HB.out | apply below_alloc | apply pw_below_drewN | apply below_drew1 | refine below_set ?_ GE176.out | refine below_set ?_ GE177.out | refine below_set ?_ GE198.out) | exact HB.out)⟩
            · rw [if_neg c55] at H
              have c55b0 : (t193 == t179 && (t194.toList == t180.toList && (t195 == t181 && (t196.toList == t182.toList)))) = false := by simpa using c55
              (try (have c55b1 : decide (t193 = t179 && (t194.toList == t180.toList && (t195 == t181 && (t196.toList == t182.toList)))) = false := by simpa using c55))
              (try (have c55b2 : (t193 == t179 && (t194.toList == t180.toList && (t195 == t181 && (t196.toList == t182.toList)))) = false := by simpa using c55))
              (try (have c55b3 : ¬ (t193 = t179 && (t194.toList == t180.toList && (t195 == t181 && (t196.toList == t182.toList)))) := by simpa using c55))
              clear c55
              obtain rfl := Option.some.inj H
              go_wp2_with (first | ((with_reducible refine gate_callee (f := 15) rfl ?_); refine goesL_ (some 54) rfl rfl Tryz.func15 (by kernel_rfl) rfl #[.string t187] rfl (by (try simp only [List.map_toArray, List.map_cons, List.map_nil]); first | done | rfl | (simp only [List.length_drop, List.length_take]; rfl)) ?_; (with_reducible refine (address_Parse.calls t187 t193 t194 t195 t196 t197 _ ?side99 A53.out).mono ?_); (case side99 => first | exact HG.out | exact Go.Proofs.YtdfjpbdfafpfgaaGreatDoor.Lex.Gl.below HG.out (by repeat (first | (with_reducible first | exact HB.out | apply below_alloc | apply pw_below_drewN | apply below_drew1 | refine below_set ?_ GE176.out | refine below_set ?_ GE177.out) | exact HB.out))); rintro e w80 ⟨rfl, hb⟩; refine ⟨_, rfl, ?_⟩; have n0_ := Aside0.mk (blk_below (g := gb176) (o := .cells #[.int .i64 t179, .string t180, .int .i64 t181, .string t182] 23 (0, 0)) (by (with_reducible repeat (first | refine blk_drewN ?_ _ | refine blk_drew ?_ | refine blk_alloc ?_ _)); exact BK176.out) hb); have n1_ := Aside0.mk (blk_below (g := gb177) (o := .cells #[.int .i64 t183, .string t184, .int .i64 t185, .string t186] 23 (0, 0)) (by (with_reducible repeat (first | refine blk_drewN ?_ _ | refine blk_drew ?_ | refine blk_alloc ?_ _)); exact BK177.out) hb); have n2_ := Aside0.mk (below_step (by repeat (first | (with_reducible first | exact HB.out | apply below_alloc | apply pw_below_drewN | apply below_drew1 | refine below_set ?_ GE176.out | refine below_set ?_ GE177.out) | exact HB.out)) hb); clear BK176; clear BK177; clear HB; have BK176 := n0_; have BK177 := n1_; have HB := n2_; clear n0_ n1_ n2_; (try clear hb); (try clear hb2); (try clear hk); (try clear hi)) | ((with_reducible refine gate_dst (N := 10) rfl ?_); refine box_event ?hg (N := 10) ?hd (cs := #[.int .i64 0, .string (⟨#[]⟩ : ByteArray), .int .i64 0, .string (⟨#[]⟩ : ByteArray)]) (t := 23) ?hr ?_; (case hd => rfl); (case hg => rfl); (case hr => first | (go_simp; done) | (go_simp; rfl)); intro gb198 hg w81 hbox hb; have n0_ := Aside0.mk (blk_below (g := gb176) (o := .cells #[.int .i64 t179, .string t180, .int .i64 t181, .string t182] 23 (0, 0)) (by (with_reducible repeat (first | refine blk_drewN ?_ _ | refine blk_drew ?_ | refine blk_alloc ?_ _)); exact BK176.out) hb); have n1_ := Aside0.mk (blk_below (g := gb177) (o := .cells #[.int .i64 t183, .string t184, .int .i64 t185, .string t186] 23 (0, 0)) (by (with_reducible repeat (first | refine blk_drewN ?_ _ | refine blk_drew ?_ | refine blk_alloc ?_ _)); exact BK177.out) hb); have n2_ := Aside0.mk (below_step (by repeat (first | (with_reducible first | exact HB.out | apply below_alloc | apply pw_below_drewN | apply below_drew1 | refine below_set ?_ GE176.out | refine below_set ?_ GE177.out) | exact HB.out)) hb); have n3_ := Aside0.mk (hbox); have n4_ := Aside0.mk ((by rw [hg]; exact (below_size (by repeat (first | (with_reducible first | exact HB.out | apply below_alloc | apply pw_below_drewN | apply below_drew1 | refine below_set ?_ GE176.out | refine below_set ?_ GE177.out) | exact HB.out))) : w.heap.size ≤ gb198)); have n5_ := Aside0.mk ((by rw [hg]; exact (below_size (by repeat (first | (with_reducible first | exact HB.out | apply below_alloc | apply pw_below_drewN | apply below_drew1 | refine below_set ?_ GE176.out | refine below_set ?_ GE177.out) | exact HB.out))) : w.heap.size ≤ gb198)); have n6_ := Aside0.mk ((by rw [hg]; exact Nat.ne_of_lt (blk_lt (g := gb176) (o := .cells #[.int .i64 t179, .string t180, .int .i64 t181, .string t182] 23 (0, 0)) (by (with_reducible repeat (first | refine blk_drewN ?_ _ | refine blk_drew ?_ | refine blk_alloc ?_ _)); exact BK176.out)) : gb176 ≠ gb198)); have n7_ := Aside0.mk ((by rw [hg]; exact Nat.ne_of_gt (blk_lt (g := gb176) (o := .cells #[.int .i64 t179, .string t180, .int .i64 t181, .string t182] 23 (0, 0)) (by (with_reducible repeat (first | refine blk_drewN ?_ _ | refine blk_drew ?_ | refine blk_alloc ?_ _)); exact BK176.out)) : gb198 ≠ gb176)); have n8_ := Aside0.mk ((by rw [hg]; exact Nat.ne_of_lt (blk_lt (g := gb177) (o := .cells #[.int .i64 t183, .string t184, .int .i64 t185, .string t186] 23 (0, 0)) (by (with_reducible repeat (first | refine blk_drewN ?_ _ | refine blk_drew ?_ | refine blk_alloc ?_ _)); exact BK177.out)) : gb177 ≠ gb198)); have n9_ := Aside0.mk ((by rw [hg]; exact Nat.ne_of_gt (blk_lt (g := gb177) (o := .cells #[.int .i64 t183, .string t184, .int .i64 t185, .string t186] 23 (0, 0)) (by (with_reducible repeat (first | refine blk_drewN ?_ _ | refine blk_drew ?_ | refine blk_alloc ?_ _)); exact BK177.out)) : gb198 ≠ gb177)); clear BK176; clear BK177; clear HB; have BK176 := n0_; have BK177 := n1_; have HB := n2_; have BK198 := n3_; have GW198 := n4_; have GE198 := n5_; have NB176_198 := n6_; have NB198_176 := n7_; have NB177_198 := n8_; have NB198_177 := n9_; clear n0_ n1_ n2_ n3_ n4_ n5_ n6_ n7_ n8_ n9_; clear hb hbox hg; have hnb82 := NB198_176.out; have hnc82 := NB176_198.out; have hnb83 := NB198_177.out; have hnc83 := NB177_198.out; have hcz84_0 : w81.cell? ⟨gb198, 0, none⟩ = some (.int .i64 0) := (blk_cell BK198.out 0).trans rfl; have hcz84_1 : w81.cell? ⟨gb198, 1, none⟩ = some (.string (⟨#[]⟩ : ByteArray)) := (blk_cell BK198.out 1).trans rfl; have hcz84_2 : w81.cell? ⟨gb198, 2, none⟩ = some (.int .i64 0) := (blk_cell BK198.out 2).trans rfl; have hcz84_3 : w81.cell? ⟨gb198, 3, none⟩ = some (.string (⟨#[]⟩ : ByteArray)) := (blk_cell BK198.out 3).trans rfl; have hfz84_0 := blk_frozen BK198.out 0; have hfz84_1 := blk_frozen BK198.out 1; have hfz84_2 := blk_frozen BK198.out 2; have hfz84_3 := blk_frozen BK198.out 3; have hnb85 := NB176_177.out; have hnc85 := NB177_176.out; have hcz86_0 : w81.cell? ⟨gb176, 0, none⟩ = some (.int .i64 t179) := (blk_cell BK176.out 0).trans rfl; have hcz86_1 : w81.cell? ⟨gb176, 1, none⟩ = some (.string t180) := (blk_cell BK176.out 1).trans rfl; have hcz86_2 : w81.cell? ⟨gb176, 2, none⟩ = some (.int .i64 t181) := (blk_cell BK176.out 2).trans rfl; have hcz86_3 : w81.cell? ⟨gb176, 3, none⟩ = some (.string t182) := (blk_cell BK176.out 3).trans rfl; have hfz86_0 := blk_frozen BK176.out 0; have hfz86_1 := blk_frozen BK176.out 1; have hfz86_2 := blk_frozen BK176.out 2; have hfz86_3 := blk_frozen BK176.out 3))
              go_ret
              exact ⟨by first | rfl | (simp [errW_none, errW_some] <;> rfl) | (simp [*, errW_none, errW_some] <;> rfl), by repeat (first | (with_reducible first | exact HB.out | apply below_alloc | apply pw_below_drewN | apply below_drew1 | refine below_set ?_ GE176.out | refine below_set ?_ GE177.out | refine below_set ?_ GE198.out) | exact HB.out)⟩
          · replace c54 := Bool.eq_false_iff.mpr c54
            subst c54
            have H1 : (some false) = some r := by rw [if_neg (show ¬ (false = true) by decide)] at H; exact H
            clear H
            have H := H1
            clear H1
            obtain rfl := Option.some.inj H
            go_wp2_with (first | ((with_reducible refine gate_callee (f := 15) rfl ?_); refine goesL_ (some 54) rfl rfl Tryz.func15 (by kernel_rfl) rfl #[.string t187] rfl (by (try simp only [List.map_toArray, List.map_cons, List.map_nil]); first | done | rfl | (simp only [List.length_drop, List.length_take]; rfl)) ?_; (with_reducible refine (address_Parse.calls t187 t193 t194 t195 t196 t197 _ ?side99 A53.out).mono ?_); (case side99 => first | exact HG.out | exact Go.Proofs.YtdfjpbdfafpfgaaGreatDoor.Lex.Gl.below HG.out (by repeat (first | (with_reducible first | exact HB.out | apply below_alloc | apply pw_below_drewN | apply below_drew1 | refine below_set ?_ GE176.out | refine below_set ?_ GE177.out) | exact HB.out))); rintro e w87 ⟨rfl, hb⟩; refine ⟨_, rfl, ?_⟩; have n0_ := Aside0.mk (blk_below (g := gb176) (o := .cells #[.int .i64 t179, .string t180, .int .i64 t181, .string t182] 23 (0, 0)) (by (with_reducible repeat (first | refine blk_drewN ?_ _ | refine blk_drew ?_ | refine blk_alloc ?_ _)); exact BK176.out) hb); have n1_ := Aside0.mk (blk_below (g := gb177) (o := .cells #[.int .i64 t183, .string t184, .int .i64 t185, .string t186] 23 (0, 0)) (by (with_reducible repeat (first | refine blk_drewN ?_ _ | refine blk_drew ?_ | refine blk_alloc ?_ _)); exact BK177.out) hb); have n2_ := Aside0.mk (below_step (by repeat (first | (with_reducible first | exact HB.out | apply below_alloc | apply pw_below_drewN | apply below_drew1 | refine below_set ?_ GE176.out | refine below_set ?_ GE177.out) | exact HB.out)) hb); clear BK176; clear BK177; clear HB; have BK176 := n0_; have BK177 := n1_; have HB := n2_; clear n0_ n1_ n2_; (try clear hb); (try clear hb2); (try clear hk); (try clear hi)) | ((with_reducible refine gate_dst (N := 10) rfl ?_); refine box_event ?hg (N := 10) ?hd (cs := #[.int .i64 0, .string (⟨#[]⟩ : ByteArray), .int .i64 0, .string (⟨#[]⟩ : ByteArray)]) (t := 23) ?hr ?_; (case hd => rfl); (case hg => rfl); (case hr => first | (go_simp; done) | (go_simp; rfl)); intro gb198 hg w88 hbox hb; have n0_ := Aside0.mk (blk_below (g := gb176) (o := .cells #[.int .i64 t179, .string t180, .int .i64 t181, .string t182] 23 (0, 0)) (by (with_reducible repeat (first | refine blk_drewN ?_ _ | refine blk_drew ?_ | refine blk_alloc ?_ _)); exact BK176.out) hb); have n1_ := Aside0.mk (blk_below (g := gb177) (o := .cells #[.int .i64 t183, .string t184, .int .i64 t185, .string t186] 23 (0, 0)) (by (with_reducible repeat (first | refine blk_drewN ?_ _ | refine blk_drew ?_ | refine blk_alloc ?_ _)); exact BK177.out) hb); have n2_ := Aside0.mk (below_step (by repeat (first | (with_reducible first | exact HB.out | apply below_alloc | apply pw_below_drewN | apply below_drew1 | refine below_set ?_ GE176.out | refine below_set ?_ GE177.out) | exact HB.out)) hb); have n3_ := Aside0.mk (hbox); have n4_ := Aside0.mk ((by rw [hg]; exact (below_size (by repeat (first | (with_reducible first | exact HB.out | apply below_alloc | apply pw_below_drewN | apply below_drew1 | refine below_set ?_ GE176.out | refine below_set ?_ GE177.out) | exact HB.out))) : w.heap.size ≤ gb198)); have n5_ := Aside0.mk ((by rw [hg]; exact (below_size (by repeat (first | (with_reducible first | exact HB.out | apply below_alloc | apply pw_below_drewN | apply below_drew1 | refine below_set ?_ GE176.out | refine below_set ?_ GE177.out) | exact HB.out))) : w.heap.size ≤ gb198)); have n6_ := Aside0.mk ((by rw [hg]; exact Nat.ne_of_lt (blk_lt (g := gb176) (o := .cells #[.int .i64 t179, .string t180, .int .i64 t181, .string t182] 23 (0, 0)) (by (with_reducible repeat (first | refine blk_drewN ?_ _ | refine blk_drew ?_ | refine blk_alloc ?_ _)); exact BK176.out)) : gb176 ≠ gb198)); have n7_ := Aside0.mk ((by rw [hg]; exact Nat.ne_of_gt (blk_lt (g := gb176) (o := .cells #[.int .i64 t179, .string t180, .int .i64 t181, .string t182] 23 (0, 0)) (by (with_reducible repeat (first | refine blk_drewN ?_ _ | refine blk_drew ?_ | refine blk_alloc ?_ _)); exact BK176.out)) : gb198 ≠ gb176)); have n8_ := Aside0.mk ((by rw [hg]; exact Nat.ne_of_lt (blk_lt (g := gb177) (o := .cells #[.int .i64 t183, .string t184, .int .i64 t185, .string t186] 23 (0, 0)) (by (with_reducible repeat (first | refine blk_drewN ?_ _ | refine blk_drew ?_ | refine blk_alloc ?_ _)); exact BK177.out)) : gb177 ≠ gb198)); have n9_ := Aside0.mk ((by rw [hg]; exact Nat.ne_of_gt (blk_lt (g := gb177) (o := .cells #[.int .i64 t183, .string t184, .int .i64 t185, .string t186] 23 (0, 0)) (by (with_reducible repeat (first | refine blk_drewN ?_ _ | refine blk_drew ?_ | refine blk_alloc ?_ _)); exact BK177.out)) : gb198 ≠ gb177)); clear BK176; clear BK177; clear HB; have BK176 := n0_; have BK177 := n1_; have HB := n2_; have BK198 := n3_; have GW198 := n4_; have GE198 := n5_; have NB176_198 := n6_; have NB198_176 := n7_; have NB177_198 := n8_; have NB198_177 := n9_; clear n0_ n1_ n2_ n3_ n4_ n5_ n6_ n7_ n8_ n9_; clear hb hbox hg; have hnb89 := NB198_176.out; have hnc89 := NB176_198.out; have hnb90 := NB198_177.out; have hnc90 := NB177_198.out; have hcz91_0 : w88.cell? ⟨gb198, 0, none⟩ = some (.int .i64 0) := (blk_cell BK198.out 0).trans rfl; have hcz91_1 : w88.cell? ⟨gb198, 1, none⟩ = some (.string (⟨#[]⟩ : ByteArray)) := (blk_cell BK198.out 1).trans rfl; have hcz91_2 : w88.cell? ⟨gb198, 2, none⟩ = some (.int .i64 0) := (blk_cell BK198.out 2).trans rfl; have hcz91_3 : w88.cell? ⟨gb198, 3, none⟩ = some (.string (⟨#[]⟩ : ByteArray)) := (blk_cell BK198.out 3).trans rfl; have hfz91_0 := blk_frozen BK198.out 0; have hfz91_1 := blk_frozen BK198.out 1; have hfz91_2 := blk_frozen BK198.out 2; have hfz91_3 := blk_frozen BK198.out 3))
            go_ret
            exact ⟨by first | rfl | (simp [errW_none, errW_some] <;> rfl) | (simp [*, errW_none, errW_some] <;> rfl), by repeat (first | (with_reducible first | exact HB.out | apply below_alloc | apply pw_below_drewN | apply below_drew1 | refine below_set ?_ GE176.out | refine below_set ?_ GE177.out | refine below_set ?_ GE198.out) | exact HB.out)⟩
        · rw [if_neg c52] at H
          have c52b0 : (t188 == 0) = false := beq_eq_false_iff_ne.mpr c52
          have c52b1 : (t188 != 0) = true := bne_iff_ne.mpr c52
          obtain rfl := Option.some.inj H
          go_wp2
          go_ret
          exact ⟨by first | rfl | (simp [errW_none, errW_some] <;> rfl) | (simp [*, errW_none, errW_some] <;> rfl), by repeat (first | (with_reducible first | exact HB.out | apply below_alloc | apply pw_below_drewN | apply below_drew1 | refine below_set ?_ GE176.out | refine below_set ?_ GE177.out) | exact HB.out)⟩

end Go.Proofs.YtdfjpbdfafpfgaaGreatDoor.PX

/- Parse gives back the address that was formatted. -/
namespace Go.Proofs.YtdfjpbdfafpfgaaGreatDoor.Ad
open Go.RowKit Br

theorem idx_none : ∀ l : List UInt8, (47 : UInt8) ∉ l → Lib.index l [47] = -1
  | [], _ => rfl
  | b :: l, h => by
    have hb : b ≠ 47 := fun e => h (by rw [e]; exact List.mem_cons_self)
    have ih := idx_none l (fun hm => h (List.mem_cons_of_mem _ hm))
    unfold Lib.index
    have hp : List.isPrefixOf [47] (b :: l) = false := by
      simp only [List.isPrefixOf, Bool.and_true]
      exact beq_eq_false_iff_ne.2 (fun e => hb e.symm)
    rw [hp, ih]
    rfl
theorem idx_at : ∀ (a b : List UInt8), (47 : UInt8) ∉ a → Lib.index (a ++ 47 :: b) [47] = a.length
  | [], b, _ => by
    show Lib.index (47 :: b) [47] = _
    unfold Lib.index
    rw [if_pos (by simp [List.isPrefixOf])]
    rfl
  | c :: a, b, h => by
    have hc : c ≠ 47 := fun e => h (by rw [e]; exact List.mem_cons_self)
    have ih := idx_at a b (fun hm => h (List.mem_cons_of_mem _ hm))
    show Lib.index (c :: (a ++ 47 :: b)) [47] = _
    unfold Lib.index
    have hp : List.isPrefixOf [47] (c :: (a ++ 47 :: b)) = false := by
      simp only [List.isPrefixOf, Bool.and_true]
      exact beq_eq_false_iff_ne.2 (fun e => hc e.symm)
    have hn : ((a.length : Int) == -1) = false := by rw [beq_eq_false_iff_ne]; omega
    rw [hp, ih, hn]
    simp

theorem join_cons (x y : List UInt8) (l : List (List UInt8)) : Lib.join (x :: y :: l) [47] = x ++ 47 :: Lib.join (y :: l) [47] := by
  simp [Lib.join, List.intercalate, List.intersperse]
theorem join_one (x : List UInt8) : Lib.join [x] [47] = x := by simp [Lib.join, List.intercalate, List.intersperse]

theorem split_join : ∀ (x : List UInt8) (l : List (List UInt8)), (∀ y ∈ x :: l, (47 : UInt8) ∉ y) →
    Lib.count (Lib.join (x :: l) [47]) [47] = l.length ∧ Lib.splitK [47] 0 l.length (Lib.join (x :: l) [47]) = x :: l
  | x, [], h => by
    rw [join_one]
    exact ⟨Lib.count_miss (idx_none x (h x (by simp))), rfl⟩
  | x, y :: l, h => by
    rw [join_cons]
    have hi := idx_at x (Lib.join (y :: l) [47]) (h x (by simp))
    obtain ⟨h1, h2⟩ := split_join y l (fun z hz => h z (List.mem_cons_of_mem _ hz))
    have hd : (x ++ 47 :: Lib.join (y :: l) [47]).drop (x.length + 1) = Lib.join (y :: l) [47] := by
      rw [List.drop_append]; simp
    constructor
    · rw [Lib.count_hit (by decide) hi]
      rw [show x.length + [(47 : UInt8)].length = x.length + 1 from rfl, hd, h1]
      simp; omega
    · show Lib.splitK [47] 0 (l.length + 1) _ = _
      unfold Lib.splitK
      have hn : ((x.length : Int) == -1) = false := by rw [beq_eq_false_iff_ne]; omega
      rw [hi, hn]
      simp only [Bool.false_eq_true, if_false, Int.toNat_natCast, Nat.add_zero]
      rw [show x.length + [(47 : UInt8)].length = x.length + 1 from rfl, hd, h2]
      simp

/-- The parts of a path that was joined. -/
theorem splitS_join (x : ByteArray) (l : List ByteArray) (h : ∀ y ∈ x :: l, (47 : UInt8) ∉ y.data.toList) (s : ByteArray) (hs : s.data.toList = 47 :: Lib.join ((x :: l).map (·.data.toList)) [47]) : splitS s = x :: l := by
  have hp : (pathB s).data.toList = Lib.join ((x :: l).map (·.data.toList)) [47] := by
    unfold pathB
    rw [mk_toList, hs]
    show Lib.trimPrefix (47 :: _) [47] = _
    unfold Lib.trimPrefix Lib.hasPrefix
    rw [if_pos (by simp [List.isPrefixOf])]
    rfl
  have hsp := split_join x.data.toList (l.map (·.data.toList)) (by
    intro y hy
    rcases List.mem_cons.1 hy with rfl | hy
    · exact h x (by simp)
    · obtain ⟨z, hz, rfl⟩ := List.mem_map.1 hy
      exact h z (List.mem_cons_of_mem _ hz))
  have hm : (splitS s).map (·.data.toList) = (x :: l).map (·.data.toList) := by
    unfold splitS
    rw [Lib.splitB_data]
    have hc : Lib.countB (pathB s) slashB = Lib.count (pathB s).data.toList [47] := rfl
    rw [hc, hp]
    show Lib.splitK [47] 0 (Lib.count (Lib.join (x.data.toList :: l.map (·.data.toList)) [47]) [47]) _ = _
    rw [hsp.1]
    exact hsp.2
  have inj : ∀ l1 l2 : List ByteArray, l1.map (·.data.toList) = l2.map (·.data.toList) → l1 = l2 := by
    intro l1
    induction l1 with
    | nil => intro l2 h; cases l2 with
      | nil => rfl
      | cons _ _ => cases h
    | cons a l1 ih => intro l2 h; cases l2 with
      | nil => cases h
      | cons b l2 =>
        simp only [List.map_cons, List.cons.injEq] at h
        rw [ba_ext h.1, ih l2 h.2]
  exact inj _ _ hm

theorem ok_slash {s : ByteArray} (h : nameB s = true) : (47 : UInt8) ∉ s.data.toList := by
  unfold nameB at h
  simp only [Bool.and_eq_true, List.all_eq_true] at h
  intro hm
  have := h.1.1 _ hm
  revert this
  decide
theorem nil_slash {s : ByteArray} (h : s.toList = []) : (47 : UInt8) ∉ s.data.toList := by
  rw [ByteArray.toList_eq] at h
  rw [h]; simp
theorem itoa_slash (n : Nat) (h : n < 100) : (47 : UInt8) ∉ (itoaB n).data.toList := by
  have : (List.range 100).all (fun n => !(itoaB n).data.toList.contains 47) = true := by decide +kernel
  rw [List.all_eq_true] at this
  have := this n (by simpa using h)
  simpa using this
theorem numI_itoa (n : Nat) (h : n < 100) : numI (itoaB n) = n := by
  have : (List.range 100).all (fun n => decide (numI (itoaB n) = n)) = true := by decide +kernel
  rw [List.all_eq_true] at this
  simpa using this n (by simpa using h)
theorem numW_data (x : ByteArray) : numW x = pick fun j => (wordOf j).data.toList == x.data.toList := by
  unfold numW
  congr 1
  funext j
  rw [ByteArray.toList_eq, ByteArray.toList_eq]
theorem numW_word (j : Nat) (h : j < 6) : numW (wordOf j) = j := by
  rw [numW_data]
  rcases (by omega : j = 0 ∨ j = 1 ∨ j = 2 ∨ j = 3 ∨ j = 4 ∨ j = 5) with rfl | rfl | rfl | rfl | rfl | rfl <;> decide +kernel
theorem word_slash (j : Nat) : (47 : UInt8) ∉ (wordOf j).data.toList := by
  unfold wordOf; split <;> decide

theorem nil_ba {s : ByteArray} (h : s.toList = []) : s = ⟨#[]⟩ := by
  rw [ByteArray.toList_eq] at h
  exact ba_ext h

/-- What Parse makes of the string of a valid address. -/
theorem parse_format {kind : Int} {name : ByteArray} {n : Int} {lang : ByteArray} (hv : validB kind name n lang = true) : parseB (fmtB kind name n lang).1 = (kind, name, n, lang, 0) := by
  obtain ⟨m, rfl, hm⟩ := valid_num hv
  have hf : fmtB kind name m lang = ((⟨#[47]⟩ : ByteArray) ++ joinB (piecesOf (slotOf (numOf kind)) name m lang), 0) := by
    unfold fmtB; rw [if_pos hv, Int.toNat_natCast]
  have hsl : ∀ y ∈ piecesOf (slotOf (numOf kind)) name m lang, (47 : UInt8) ∉ y.data.toList := by
    intro y hy
    unfold piecesOf at hy
    rcases List.mem_cons.1 hy with rfl | hy
    · exact word_slash _
    have h2 := hv
    unfold validB at h2
    rcases valid_kind hv with rfl | rfl | rfl | rfl | rfl | rfl
    · cases hy
    · simp at h2
      have : y ∈ [itoaB m, lang] := hy
      rcases List.mem_cons.1 this with rfl | h3
      · exact itoa_slash m hm
      · rw [List.mem_singleton.1 h3]; exact ok_slash h2.2.1
    · simp at h2
      have : y ∈ [name, itoaB m] := hy
      rcases List.mem_cons.1 this with rfl | h3
      · exact ok_slash h2.2.1
      · rw [List.mem_singleton.1 h3]; exact itoa_slash m hm
    · simp at h2
      have : y ∈ [name] := hy
      rw [List.mem_singleton.1 this]; exact ok_slash h2.1
    · simp at h2
      have : y ∈ [name] := hy
      rw [List.mem_singleton.1 this]; exact ok_slash h2.1
    · cases hy
  have hsp := splitS_join (wordOf (slotOf (numOf kind))) (partsOf (slotOf (numOf kind)) name m lang) hsl (fmtB kind name m lang).1 (by rw [hf]; simp [joinB, piecesOf])
  have hc : candB (fmtB kind name m lang).1 = some (kind, name, (m : Int), lang) := by
    unfold candB
    rw [hsp]
    simp only
    have hj := numOf_known kind (valid_kind hv)
    rw [numW_word _ hj]
    have hs : slotOf ((slotOf (numOf kind) : Nat) : Int) = slotOf (numOf kind) := by unfold slotOf; rw [if_neg (by omega)]; simp
    rw [hs, if_pos ⟨by omega, partN_eq _ _ _ _⟩]
    have h2 := hv
    unfold validB at h2
    have hni := numI_itoa m hm
    rcases valid_kind hv with rfl | rfl | rfl | rfl | rfl | rfl
    · simp at h2
      rw [nil_ba h2.1, nil_ba h2.2.2, h2.2.1]
      rfl
    · simp at h2
      rw [nil_ba h2.2.2]
      show some ((2 : Int), (⟨#[]⟩ : ByteArray), numI (itoaB m), lang) = _
      rw [hni]
    · simp at h2
      rw [nil_ba h2.2.2]
      show some ((3 : Int), name, numI (itoaB m), (⟨#[]⟩ : ByteArray)) = _
      rw [hni]
    · simp at h2
      rw [nil_ba h2.2.2, h2.2.1]
      rfl
    · simp at h2
      rw [nil_ba h2.2.2, h2.2.1]
      rfl
    · simp at h2
      rw [nil_ba h2.1, nil_ba h2.2.2, h2.2.1]
      rfl
  unfold parseB
  rw [hc]
  simp only
  rw [if_pos ⟨by rw [hf], trivial⟩]

end Go.Proofs.YtdfjpbdfafpfgaaGreatDoor.Ad

/- The plain law AddressRoundTrip. -/
namespace Go.Proofs.YtdfjpbdfafpfgaaGreatDoor.PX
open Go.RowKit Go.Proofs.YtdfjpbdfafpfgaaGreatDoorW.PrintWords Go.Proofs.YtdfjpbdfafpfgaaGreatDoorW.PrintLast Go.Proofs.YtdfjpbdfafpfgaaGreatDoorW.PrintMore
open Ad Br

theorem fmt_none {kind : Int} {name : ByteArray} {n : Int} {lang : ByteArray} (h : validB kind name n lang = false) : fmtB kind name n lang = (⟨#[]⟩, 120) := by
  unfold fmtB
  rw [if_neg (by rw [h]; decide)]
theorem fmt_some {kind : Int} {name : ByteArray} {n : Int} {lang : ByteArray} (h : validB kind name n lang = true) : (fmtB kind name n lang).2 = 0 := by
  unfold fmtB
  rw [if_pos h]

theorem fmt_size {kind : Int} {name : ByteArray} {n : Int} {lang : ByteArray} (hv : validB kind name n lang = true) (h1 : name.size ≤ 40) (h2 : lang.size ≤ 40) : (fmtB kind name n lang).1.size ≤ 1000 := by
  obtain ⟨m, rfl, hm⟩ := valid_num hv
  have hi := itoa_small m hm
  have el : ∀ s : ByteArray, s.data.toList.length = s.size := fun s => by simp
  have hd : (fmtB kind name m lang).1.data.toList = 47 :: Lib.join ((piecesOf (slotOf (numOf kind)) name m lang).map (·.data.toList)) [47] := by
    unfold fmtB
    rw [if_pos hv, Int.toNat_natCast]
    simp [joinB]
  rw [← el, hd]
  have e1 := el name
  have e2 := el lang
  have e3 := el (itoaB m)
  rcases valid_kind hv with rfl | rfl | rfl | rfl | rfl | rfl
  · show (47 :: Lib.join [[]] [47]).length ≤ _
    rw [join_one]; simp
  · show (47 :: Lib.join [[115, 116, 111, 114, 121], (itoaB m).data.toList, lang.data.toList] [47]).length ≤ _
    rw [join_cons, join_cons, join_one]
    simp only [List.length_cons, List.length_append, List.length_nil]
    omega
  · show (47 :: Lib.join [[116, 111, 112, 105, 99], name.data.toList, (itoaB m).data.toList] [47]).length ≤ _
    rw [join_cons, join_cons, join_one]
    simp only [List.length_cons, List.length_append, List.length_nil]
    omega
  · show (47 :: Lib.join [[97, 117, 116, 104, 111, 114], name.data.toList] [47]).length ≤ _
    rw [join_cons, join_one]
    simp only [List.length_cons, List.length_append, List.length_nil]
    omega
  · show (47 :: Lib.join [[102, 101, 101, 100], name.data.toList] [47]).length ≤ _
    rw [join_cons, join_one]
    simp only [List.length_cons, List.length_append, List.length_nil]
    omega
  · show (47 :: Lib.join [[109, 97, 112]] [47]).length ≤ _
    rw [join_one]; simp

theorem short_eq (kind : Int) (name : ByteArray) (n : Int) (lang : ByteArray) : ∃ name' lang', copydesklaw12_short.f kind name n lang = some (kind, name', n, lang') ∧ name'.size ≤ 40 ∧ lang'.size ≤ 40 := by
  have hb : ∀ n : Nat, 0 ≤ mn (n : Int) 40 ∧ mn (n : Int) 40 ≤ n ∧ mn (n : Int) 40 ≤ 40 := fun n => by unfold mn; split <;> omega
  obtain ⟨a1, a2, a3⟩ := hb name.size
  obtain ⟨b1, b2, b3⟩ := hb lang.size
  unfold copydesklaw12_short.f
  rw [if_pos a1, if_pos a2, if_pos b1, if_pos b2]
  exact ⟨_, _, rfl, by rw [ByteArray.size_extract]; omega, by rw [ByteArray.size_extract]; omega⟩

theorem Round_pure (a0 : Int) (a1 : ByteArray) (a2 : Int) (a3 : ByteArray) (b0 : Int) (b1 : ByteArray) (b2 : Int) (b3 : ByteArray) :
    copydesklaw12_AddressRoundTrip.f 2 a0 a1 a2 a3 b0 b1 b2 b3 = some true := by
  obtain ⟨an, al, hs, ha1, ha2⟩ := short_eq a0 a1 a2 a3
  obtain ⟨bn, bl, hs2, -, -⟩ := short_eq b0 b1 b2 b3
  have hV : address_Valid.f 2 a0 an a2 al = some (validB a0 an a2 al) := by
    have := valid_f a0 an a2 al
    exact this
  unfold copydesklaw12_AddressRoundTrip.f copydesklaw12_sane.f
  simp only [Option.bind_some]
  rw [hs]
  simp only [Option.bind_some]
  rw [hs2]
  simp only [Option.bind_some]
  unfold address_Format.f address_Urgency.f
  simp only [Option.bind_some]
  rw [hV]
  simp only [Option.bind_some]
  clear hV hs hs2
  cases hv : validB a0 an a2 al with
  | false =>
    rw [fmt_none hv]
    have hu : urgB a0 an a2 al = -1 := by unfold urgB; rw [if_neg (by rw [hv]; decide)]
    rw [hu]
    have e0 : (⟨#[]⟩ : ByteArray).toList = [] := by rw [ByteArray.toList_eq]
    simp [e0, copydesklaw12_AddressRoundTrip.j0]
  | true =>
    have h0 := fmt_some hv
    have hp := parse_format hv
    have hz := fmt_size hv ha1 ha2
    have hinj : ∀ s, fmtB b0 bn b2 bl = (s, 0) → (fmtB a0 an a2 al).1 = s → a0 = b0 ∧ an = bn ∧ a2 = b2 ∧ al = bl := by
      intro s hb he
      have hvb : validB b0 bn b2 bl = true := by
        cases h : validB b0 bn b2 bl with
        | true => rfl
        | false =>
          rw [fmt_none h] at hb
          injection hb with _ hb
          cases hb
      have hq := parse_format hvb
      rw [hb] at hq
      rw [he, hq] at hp
      injection hp with p1 hp
      injection hp with p2 hp
      injection hp with p3 hp
      injection hp with p4 _
      exact ⟨p1.symm, p2.symm, p3.symm, p4.symm⟩
    have hsame : a0 = b0 ∧ an = bn ∧ a2 = b2 ∧ al = bl → (fmtB a0 an a2 al).1 = (fmtB b0 bn b2 bl).1 := by
      rintro ⟨rfl, rfl, rfl, rfl⟩
      rfl
    rw [h0, if_neg (by simp), if_pos rfl, copydesklaw12_AddressRoundTrip.j0, if_neg (by simp), if_pos rfl]
    unfold address_Parse.f
    rw [if_pos hz, hp]
    simp only [Option.bind_some]
    rw [if_pos trivial, if_pos (by simp), if_pos trivial]
    generalize hfb : fmtB b0 bn b2 bl = q at *
    obtain ⟨t, f⟩ := q
    simp only at hsame ⊢
    by_cases hf : f = 0
    · subst hf
      rw [if_pos rfl]
      congr 1
      by_cases he : (fmtB a0 an a2 al).1 = t
      · obtain ⟨e1, e2, e3, e4⟩ := hinj t rfl he
        rw [he, e1, e2, e3, e4]
        simp
      · have h1 : ((fmtB a0 an a2 al).1.toList == t.toList) = false := by
          rw [beq_eq_false_iff_ne]
          intro h
          rw [ByteArray.toList_eq, ByteArray.toList_eq] at h
          exact he (ba_ext h)
        have h2 : (a0 == b0 && (an.toList == bn.toList && (a2 == b2 && al.toList == bl.toList))) = false := by
          rw [Bool.eq_false_iff]
          intro h
          simp only [Bool.and_eq_true, beq_iff_eq] at h
          obtain ⟨e1, e2, e3, e4⟩ := h
          rw [ByteArray.toList_eq, ByteArray.toList_eq] at e2 e4
          exact he (hsame ⟨e1, ba_ext e2, e3, ba_ext e4⟩)
        rw [h1, h2]
        rfl
    · rw [if_neg hf]

end Go.Proofs.YtdfjpbdfafpfgaaGreatDoor.PX
