/- Bytes and numbers of the printed functions as lists of bytes. -/
import Derived.Test.YtbgnkoecfokmaaaDoorWWords
import Derived.Test.YtbgnkoecfokmaaaDoorWMore
import Derived.Laws.BytesArg
import Derived.Lib.Strings
namespace Go.Proofs.YtbgnkoecfokmaaaDoor.Br
open Go.RowKit Go.Proofs.YtbgnkoecfokmaaaDoorW.PrintWords Go.Proofs.YtbgnkoecfokmaaaDoorW.PrintMore

/-- Bytes as whole numbers. -/
def ints (l : List UInt8) : List Int := l.map fun b => (b.toNat : Int)
theorem ints_length (l : List UInt8) : (ints l).length = l.length := by simp [ints]
theorem ints_append (a b : List UInt8) : ints (a ++ b) = ints a ++ ints b := by simp [ints]
theorem ints_snoc (a : List UInt8) (c : UInt8) : ints a ++ [(c.toNat : Int)] = ints (a ++ [c]) := by simp [ints]
theorem strOfNums_ints (l : List UInt8) : strOfNums (ints l) = ⟨l.toArray⟩ := by
  unfold strOfNums ints
  rw [List.map_map]
  congr 2
  rw [show ((fun n : Int => UInt8.ofNat n.toNat) ∘ fun b : UInt8 => (b.toNat : Int)) = id from funext fun b => by simp]
  simp
theorem bt_nat (s : ByteArray) (k : Nat) (h : k < s.size) : bt s (k : Int) = ((s.data.toList[k]'(by simpa using h)).toNat : Int) := by
  unfold bt
  rw [dif_pos (by simpa using h)]
  rfl
theorem wrap_succ (k : Nat) (h : k < 9223372036854775807) : wrap64 ((k : Int) + 1) = ((k + 1 : Nat) : Int) := by
  unfold wrap64
  omega
theorem wrap_id (i : Int) (h0 : -9223372036854775808 ≤ i) (h1 : i ≤ 9223372036854775807) : wrap64 i = i := by
  unfold wrap64
  omega
theorem size_toList (s : ByteArray) : s.data.toList.length = s.size := by simp
theorem mk_toList (l : List UInt8) : (⟨l.toArray⟩ : ByteArray).data.toList = l := by simp
theorem mk_size (l : List UInt8) : (⟨l.toArray⟩ : ByteArray).size = l.length := by simp [ByteArray.size]
theorem ba_toList (s : ByteArray) : s.toList = s.data.toList := by
  exact Lib.toList_data s
theorem mk_toList' (l : List UInt8) : (⟨l.toArray⟩ : ByteArray).toList = l := by rw [ba_toList]
theorem mk_append (a b : List UInt8) : (⟨a.toArray⟩ : ByteArray) ++ ⟨b.toArray⟩ = ⟨(a ++ b).toArray⟩ := by
  apply ByteArray.ext
  simp
theorem ba_eta (s : ByteArray) : s = ⟨s.data.toList.toArray⟩ := by simp
theorem ba_ext {a b : ByteArray} (h : a.data.toList = b.data.toList) : a = b := by
  rw [ba_eta a, ba_eta b, h]
theorem extract_list (s : ByteArray) (a b : Nat) : s.extract a b = ⟨((s.data.toList.drop a).take (b - a)).toArray⟩ := by
  exact Lib.extract_eq s a b
theorem mn_nat (a b : Nat) : mn (a : Int) (b : Int) = ((min a b : Nat) : Int) := by
  unfold mn
  split <;> omega
theorem mx_nat (a b : Nat) : mx (a : Int) (b : Int) = ((max a b : Nat) : Int) := by
  unfold mx
  split <;> omega

end Go.Proofs.YtbgnkoecfokmaaaDoor.Br
