/- The token of a tag at the beginning of a string. -/
import Derived.Test.YtbgnkoecfokmaaaDoorLexWalkC
namespace Go.Proofs.YtbgnkoecfokmaaaDoor.Lex
open Go.RowKit Go.Shelf

def tokV (t : Nat × Bs × Nat) : Value := .tuple #[.agg #[.int .i64 (t.1 : Nat), .string ⟨t.2.1.toArray⟩, .int .i64 0], .int .i64 (t.2.2 : Nat)]
theorem tokV_eq {k n : Nat} {x : ByteArray} {t : Nat × Bs × Nat} (h : t = (k, x.data.toList, n)) : Value.tuple #[.agg #[.int .i64 (k : Nat), .string x, .int .i64 0], .int .i64 (n : Nat)] = tokV t := by
  subst h
  rfl

theorem head_drop (s : ByteArray) (h : 0 < s.size) : s.data.toList = s[0] :: s.data.toList.drop 1 := by
  have := drop_cons s 0 h
  simpa using this

theorem span_all (g : Nat) (p : UInt8 → Bool) (hp : TestAt g p) (eg : ∀ args w, (callFunc g args).run Tryd.prog w = .ok (.enter g args) w) (s : ByteArray) (w : World) (hs : s.size ≤ 140737488351232) :
    ∃ n : Nat, n = spanL p s.data.toList ∧ n ≤ s.size ∧ Calls Tryd.prog 22 #[.string s, .func (.func g) #[] #[]] w fun e w' => e = .returned (.int .i64 (n : Nat)) ∧ w = w' :=
  ⟨_, rfl, by have := spanL_le p s.data.toList; simpa using this, span_any g p hp eg s w (by omega)⟩

set_option maxHeartbeats 1000000 in
theorem token_name (s : ByteArray) (w : World) (h0 : 0 < s.size) (hs : s.size ≤ 140737488351232) (hl : lowerB s[0] = true) :
    Calls Tryd.prog 20 #[.string s] w fun e w' => e = .returned (tokV (tokenL s.data.toList)) ∧ Below w.heap.size w w' := by
  have L := lower_any s[0] (w.alloc (.cells #[.int .i64 0, .string ⟨#[]⟩, .int .i64 0] 29))
  rw [hl] at L
  have LH := hid L
  clear L
  obtain ⟨n, hn, hle, S⟩ := span_all _ _ name_any (enters_of Tryd.func27 (by kernel_rfl) rfl) s (w.alloc (.cells #[.int .i64 0, .string ⟨#[]⟩, .int .i64 0] 29)) hs
  have SH := hid S
  clear S
  have HT := hid (show tokenL s.data.toList = if n ≤ 20 then (2, s.data.toList.take n, n) else (0, [], 0) by
    rw [hn]
    have e := head_drop s h0
    rw [e]
    simp only [tokenL, hl, if_true])
  clear hn hl
  by_cases h20 : n ≤ 20
  · go_enter Tryd.func20, Tryd.ntmps20
    go_wp2_with (first | (go_at_call 26; refine LH.out.mono ?_; rintro e w' ⟨rfl, rfl⟩) | (go_at_call 22; refine SH.out.mono ?_; rintro e w' ⟨rfl, rfl⟩))
    refine bodyPost_ret (v := .tuple #[.agg #[.int .i64 (2 : Nat), .string (s.extract 0 n), .int .i64 0], .int .i64 (n : Nat)]) (by simp [results, Tryd.results20, go_sem]) rfl ⟨congrArg Ending.returned (tokV_eq ?_), ?_⟩
    · rw [HT.out, if_pos h20, Lib.extract_from_zero]
    · exact (Below.refl _ _).alloc (Nat.le_refl _) _
  · go_enter Tryd.func20, Tryd.ntmps20
    go_wp2_with (first | (go_at_call 26; refine LH.out.mono ?_; rintro e w' ⟨rfl, rfl⟩) | (go_at_call 22; refine SH.out.mono ?_; rintro e w' ⟨rfl, rfl⟩))
    refine bodyPost_ret (v := .tuple #[.agg #[.int .i64 (0 : Nat), .string ⟨#[]⟩, .int .i64 0], .int .i64 (0 : Nat)]) (by simp [results, Tryd.results20, go_sem]) rfl ⟨congrArg Ending.returned (tokV_eq ?_), ?_⟩
    · rw [HT.out, if_neg h20]
    · exact (Below.refl _ _).alloc (Nat.le_refl _) _


set_option maxHeartbeats 1000000 in
theorem token_number (s : ByteArray) (w : World) (h0 : 0 < s.size) (hs : s.size ≤ 140737488351232) (hl : lowerB s[0] = false) (hd : digitB s[0] = true) :
    Calls Tryd.prog 20 #[.string s] w fun e w' => e = .returned (tokV (tokenL s.data.toList)) ∧ Below w.heap.size w w' := by
  have L := lower_any s[0] (w.alloc (.cells #[.int .i64 0, .string ⟨#[]⟩, .int .i64 0] 29))
  rw [hl] at L
  have LH := hid L
  clear L
  have D := digit_any s[0] (w.alloc (.cells #[.int .i64 0, .string ⟨#[]⟩, .int .i64 0] 29))
  rw [hd] at D
  have DH := hid D
  clear D
  obtain ⟨n, hn, hle, S⟩ := span_all _ _ digit_any (enters_of Tryd.func28 (by kernel_rfl) rfl) s (w.alloc (.cells #[.int .i64 0, .string ⟨#[]⟩, .int .i64 0] 29)) hs
  have SH := hid S
  clear S
  have HT := hid (show tokenL s.data.toList = if n = 1 ∨ n ≤ 6 ∧ s[0] ≠ 48 then (3, s.data.toList.take n, n) else (0, [], 0) by
    rw [hn]
    have e := head_drop s h0
    generalize s[0] = c at *
    rw [e]
    simp only [tokenL, hl, hd, if_true, if_false, Bool.false_eq_true])
  clear hn hl hd
  have H48 : s[0] ≠ 48 ↔ ¬ s[0].toNat = 48 := by rw [Ne, ← UInt8.toNat_inj]; rfl
  have H48' := hid H48
  clear H48
  by_cases h1 : n = 1
  · subst h1
    go_enter Tryd.func20, Tryd.ntmps20
    go_wp2_with (first | (go_at_call 26; refine LH.out.mono ?_; rintro e w' ⟨rfl, rfl⟩) | (go_at_call 28; refine DH.out.mono ?_; rintro e w' ⟨rfl, rfl⟩) | (go_at_call 22; refine SH.out.mono ?_; rintro e w' ⟨rfl, rfl⟩))
    refine bodyPost_ret (v := .tuple #[.agg #[.int .i64 (3 : Nat), .string (s.extract 0 1), .int .i64 0], .int .i64 (1 : Nat)]) (by simp [results, Tryd.results20, go_sem]) rfl ⟨congrArg Ending.returned (tokV_eq ?_), ?_⟩
    · rw [HT.out, if_pos (by simp), Lib.extract_from_zero]
    · exact (Below.refl _ _).alloc (Nat.le_refl _) _
  · have hb1 : ((n : Int) == 1) = false := by simp; omega
    have N1 := hid h1
    clear h1
    by_cases h6 : n ≤ 6
    · by_cases h48 : s[0].toNat = 48
      · have hb : ((s[0].toNat : Int) != 48) = false := by simp; omega
        have N48 := hid h48
        clear h48
        go_enter Tryd.func20, Tryd.ntmps20
        go_wp2_with (first | (go_at_call 26; refine LH.out.mono ?_; rintro e w' ⟨rfl, rfl⟩) | (go_at_call 28; refine DH.out.mono ?_; rintro e w' ⟨rfl, rfl⟩) | (go_at_call 22; refine SH.out.mono ?_; rintro e w' ⟨rfl, rfl⟩))
        refine bodyPost_ret (v := .tuple #[.agg #[.int .i64 (0 : Nat), .string ⟨#[]⟩, .int .i64 0], .int .i64 (0 : Nat)]) (by simp [results, Tryd.results20, go_sem]) rfl ⟨congrArg Ending.returned (tokV_eq ?_), ?_⟩
        · rw [HT.out, if_neg (by rw [H48'.out]; exact fun h => h.elim N1.out (fun h => h.2 N48.out))]
        · exact (Below.refl _ _).alloc (Nat.le_refl _) _
      · have hb : ((s[0].toNat : Int) != 48) = true := by simp; omega
        have N48 := hid h48
        clear h48
        go_enter Tryd.func20, Tryd.ntmps20
        go_wp2_with (first | (go_at_call 26; refine LH.out.mono ?_; rintro e w' ⟨rfl, rfl⟩) | (go_at_call 28; refine DH.out.mono ?_; rintro e w' ⟨rfl, rfl⟩) | (go_at_call 22; refine SH.out.mono ?_; rintro e w' ⟨rfl, rfl⟩))
        refine bodyPost_ret (v := .tuple #[.agg #[.int .i64 (3 : Nat), .string (s.extract 0 n), .int .i64 0], .int .i64 (n : Nat)]) (by simp [results, Tryd.results20, go_sem]) rfl ⟨congrArg Ending.returned (tokV_eq ?_), ?_⟩
        · rw [HT.out, if_pos (.inr ⟨h6, H48'.out.2 N48.out⟩), Lib.extract_from_zero]
        · exact (Below.refl _ _).alloc (Nat.le_refl _) _
    · go_enter Tryd.func20, Tryd.ntmps20
      go_wp2_with (first | (go_at_call 26; refine LH.out.mono ?_; rintro e w' ⟨rfl, rfl⟩) | (go_at_call 28; refine DH.out.mono ?_; rintro e w' ⟨rfl, rfl⟩) | (go_at_call 22; refine SH.out.mono ?_; rintro e w' ⟨rfl, rfl⟩))
      refine bodyPost_ret (v := .tuple #[.agg #[.int .i64 (0 : Nat), .string ⟨#[]⟩, .int .i64 0], .int .i64 (0 : Nat)]) (by simp [results, Tryd.results20, go_sem]) rfl ⟨congrArg Ending.returned (tokV_eq ?_), ?_⟩
      · rw [HT.out, if_neg (fun h => h.elim N1.out (fun h => h6 h.1))]
      · exact (Below.refl _ _).alloc (Nat.le_refl _) _

set_option maxHeartbeats 1000000 in
theorem token_string (s : ByteArray) (w : World) (h0 : 0 < s.size) (hs : s.size ≤ 140737488351232) (hl : lowerB s[0] = false) (hd : digitB s[0] = false) (hc : s[0] = 34) :
    Calls Tryd.prog 20 #[.string s] w fun e w' => e = .returned (tokV (tokenL s.data.toList)) ∧ Below w.heap.size w w' := by
  have L := lower_any s[0] (w.alloc (.cells #[.int .i64 0, .string ⟨#[]⟩, .int .i64 0] 29))
  rw [hl] at L
  have LH := hid L
  clear L
  have D := digit_any s[0] (w.alloc (.cells #[.int .i64 0, .string ⟨#[]⟩, .int .i64 0] 29))
  rw [hd] at D
  have DH := hid D
  clear D
  have hb : ((s[0].toNat : Int) == 34) = true := by rw [hc]; rfl
  have hsx : (s.extract 1 s.size).size = s.size - 1 := by simp
  obtain ⟨n, hn, hle, S⟩ := span_all _ _ str_any (enters_of Tryd.func29 (by kernel_rfl) rfl) (s.extract 1 s.size) (w.alloc (.cells #[.int .i64 0, .string ⟨#[]⟩, .int .i64 0] 29)) (by omega)
  have SH := hid S
  clear S
  rw [Lib.extract_to_end] at hn
  rw [hsx] at hle
  clear hsx
  have HT := hid (show tokenL s.data.toList = if (s.data.toList.drop 1)[n]? = some 34 then (4, (s.data.toList.drop 1).take n, n + 2) else (0, [], 0) by
    have e := head_drop s h0
    rw [hn]
    rw [hc] at e hl hd
    rw [e]
    simp only [tokenL, hl, hd, if_true, if_false, Bool.false_eq_true, List.drop_succ_cons, List.drop_zero])
  have HN := hid (show ∀ h : n + 1 < s.size, (s.data.toList.drop 1)[n]? = some s[n + 1] from fun h => by
    rw [List.getElem?_drop, show 1 + n = n + 1 from by omega, List.getElem?_eq_getElem (by simpa using h)]
    rfl)
  clear hn hl hd hc
  by_cases h1 : n + 1 < s.size
  · by_cases h34 : s[n + 1].toNat = 34
    · have hb34 : ((s[n + 1].toNat : Int) == 34) = true := by simp; omega
      have N34 := hid (show s[n + 1] = 34 from UInt8.toNat_inj.1 h34)
      clear h34
      go_enter Tryd.func20, Tryd.ntmps20
      go_wp2_with (first | (go_at_call 26; refine LH.out.mono ?_; rintro e w' ⟨rfl, rfl⟩) | (go_at_call 28; refine DH.out.mono ?_; rintro e w' ⟨rfl, rfl⟩) | (go_at_call 22; refine SH.out.mono ?_; rintro e w' ⟨rfl, rfl⟩))
      refine bodyPost_ret (v := .tuple #[.agg #[.int .i64 (4 : Nat), .string (s.extract 1 (n + 1)), .int .i64 0], .int .i64 (n + 2 : Nat)]) (by simp [results, Tryd.results20, go_sem]) rfl ⟨congrArg Ending.returned (tokV_eq ?_), ?_⟩
      · rw [HT.out, if_pos (by rw [HN.out h1, N34.out]), Lib.extract_data]
        rfl
      · exact (Below.refl _ _).alloc (Nat.le_refl _) _
    · have hb34 : ((s[n + 1].toNat : Int) == 34) = false := by simp; omega
      have N34 := hid (show s[n + 1] ≠ 34 from fun e => h34 (by rw [e]; rfl))
      clear h34
      go_enter Tryd.func20, Tryd.ntmps20
      go_wp2_with (first | (go_at_call 26; refine LH.out.mono ?_; rintro e w' ⟨rfl, rfl⟩) | (go_at_call 28; refine DH.out.mono ?_; rintro e w' ⟨rfl, rfl⟩) | (go_at_call 22; refine SH.out.mono ?_; rintro e w' ⟨rfl, rfl⟩))
      refine bodyPost_ret (v := .tuple #[.agg #[.int .i64 (0 : Nat), .string ⟨#[]⟩, .int .i64 0], .int .i64 (0 : Nat)]) (by simp [results, Tryd.results20, go_sem]) rfl ⟨congrArg Ending.returned (tokV_eq ?_), ?_⟩
      · rw [HT.out, if_neg (by rw [HN.out h1]; simpa using N34.out)]
      · exact (Below.refl _ _).alloc (Nat.le_refl _) _
  · go_enter Tryd.func20, Tryd.ntmps20
    go_wp2_with (first | (go_at_call 26; refine LH.out.mono ?_; rintro e w' ⟨rfl, rfl⟩) | (go_at_call 28; refine DH.out.mono ?_; rintro e w' ⟨rfl, rfl⟩) | (go_at_call 22; refine SH.out.mono ?_; rintro e w' ⟨rfl, rfl⟩))
    refine bodyPost_ret (v := .tuple #[.agg #[.int .i64 (0 : Nat), .string ⟨#[]⟩, .int .i64 0], .int .i64 (0 : Nat)]) (by simp [results, Tryd.results20, go_sem]) rfl ⟨congrArg Ending.returned (tokV_eq ?_), ?_⟩
    · rw [HT.out, if_neg (by rw [List.getElem?_eq_none (by simp; omega)]; simp)]
    · exact (Below.refl _ _).alloc (Nat.le_refl _) _

set_option maxHeartbeats 1000000 in
theorem token_pipe (s : ByteArray) (w : World) (h0 : 0 < s.size) (_hs : s.size ≤ 140737488351232) (hl : lowerB s[0] = false) (hd : digitB s[0] = false) (hc : s[0] = 124) :
    Calls Tryd.prog 20 #[.string s] w fun e w' => e = .returned (tokV (tokenL s.data.toList)) ∧ Below w.heap.size w w' := by
  have L := lower_any s[0] (w.alloc (.cells #[.int .i64 0, .string ⟨#[]⟩, .int .i64 0] 29))
  rw [hl] at L
  have LH := hid L
  clear L
  have D := digit_any s[0] (w.alloc (.cells #[.int .i64 0, .string ⟨#[]⟩, .int .i64 0] 29))
  rw [hd] at D
  have DH := hid D
  clear D
  have hb34 : ((s[0].toNat : Int) == 34) = false := by rw [hc]; rfl
  have hb124 : ((s[0].toNat : Int) == 124) = true := by rw [hc]; rfl
  have HT := hid (show tokenL s.data.toList = (5, [124], 1) by
    have e := head_drop s h0
    rw [hc] at e hl hd
    rw [e]
    simp only [tokenL, hl, hd, if_false, Bool.false_eq_true]
    rfl)
  clear hl hd hc
  go_enter Tryd.func20, Tryd.ntmps20
  go_wp2_with (first | (go_at_call 26; refine LH.out.mono ?_; rintro e w' ⟨rfl, rfl⟩) | (go_at_call 28; refine DH.out.mono ?_; rintro e w' ⟨rfl, rfl⟩))
  refine bodyPost_ret (v := .tuple #[.agg #[.int .i64 (5 : Nat), .string ⟨#[124]⟩, .int .i64 0], .int .i64 (1 : Nat)]) (by simp [results, Tryd.results20, go_sem]) rfl ⟨congrArg Ending.returned (tokV_eq ?_), ?_⟩
  · rw [HT.out]
  · exact (Below.refl _ _).alloc (Nat.le_refl _) _

set_option maxHeartbeats 1000000 in
theorem token_close (s : ByteArray) (w : World) (h0 : 0 < s.size) (_hs : s.size ≤ 140737488351232) (hl : lowerB s[0] = false) (hd : digitB s[0] = false) (hc : s[0] = 125) :
    Calls Tryd.prog 20 #[.string s] w fun e w' => e = .returned (tokV (tokenL s.data.toList)) ∧ Below w.heap.size w w' := by
  have L := lower_any s[0] (w.alloc (.cells #[.int .i64 0, .string ⟨#[]⟩, .int .i64 0] 29))
  rw [hl] at L
  have LH := hid L
  clear L
  have D := digit_any s[0] (w.alloc (.cells #[.int .i64 0, .string ⟨#[]⟩, .int .i64 0] 29))
  rw [hd] at D
  have DH := hid D
  clear D
  have hb34 : ((s[0].toNat : Int) == 34) = false := by rw [hc]; rfl
  have hb124 : ((s[0].toNat : Int) == 124) = false := by rw [hc]; rfl
  have hb125 : ((s[0].toNat : Int) == 125) = true := by rw [hc]; rfl
  have HT := hid (show tokenL s.data.toList = (7, [125], 1) by
    have e := head_drop s h0
    rw [hc] at e hl hd
    rw [e]
    simp only [tokenL, hl, hd, if_false, Bool.false_eq_true]
    rfl)
  clear hl hd hc
  go_enter Tryd.func20, Tryd.ntmps20
  go_wp2_with (first | (go_at_call 26; refine LH.out.mono ?_; rintro e w' ⟨rfl, rfl⟩) | (go_at_call 28; refine DH.out.mono ?_; rintro e w' ⟨rfl, rfl⟩))
  refine bodyPost_ret (v := .tuple #[.agg #[.int .i64 (7 : Nat), .string ⟨#[125]⟩, .int .i64 0], .int .i64 (1 : Nat)]) (by simp [results, Tryd.results20, go_sem]) rfl ⟨congrArg Ending.returned (tokV_eq ?_), ?_⟩
  · rw [HT.out]
  · exact (Below.refl _ _).alloc (Nat.le_refl _) _

set_option maxHeartbeats 1000000 in
theorem token_none (s : ByteArray) (w : World) (h0 : 0 < s.size) (_hs : s.size ≤ 140737488351232) (hl : lowerB s[0] = false) (hd : digitB s[0] = false) (h1 : s[0] ≠ 34) (h2 : s[0] ≠ 124) (h3 : s[0] ≠ 125) :
    Calls Tryd.prog 20 #[.string s] w fun e w' => e = .returned (tokV (tokenL s.data.toList)) ∧ Below w.heap.size w w' := by
  have L := lower_any s[0] (w.alloc (.cells #[.int .i64 0, .string ⟨#[]⟩, .int .i64 0] 29))
  rw [hl] at L
  have LH := hid L
  clear L
  have D := digit_any s[0] (w.alloc (.cells #[.int .i64 0, .string ⟨#[]⟩, .int .i64 0] 29))
  rw [hd] at D
  have DH := hid D
  clear D
  have hb34 : ((s[0].toNat : Int) == 34) = false := by
    have : s[0].toNat ≠ 34 := fun e => h1 (UInt8.toNat_inj.1 e)
    simp; omega
  have hb124 : ((s[0].toNat : Int) == 124) = false := by
    have : s[0].toNat ≠ 124 := fun e => h2 (UInt8.toNat_inj.1 e)
    simp; omega
  have hb125 : ((s[0].toNat : Int) == 125) = false := by
    have : s[0].toNat ≠ 125 := fun e => h3 (UInt8.toNat_inj.1 e)
    simp; omega
  have HT := hid (show tokenL s.data.toList = (0, [], 0) by
    have e := head_drop s h0
    generalize s[0] = c at *
    rw [e]
    simp only [tokenL, hl, hd, h1, h2, h3, if_false, Bool.false_eq_true])
  clear hl hd h1 h2 h3
  go_enter Tryd.func20, Tryd.ntmps20
  go_wp2_with (first | (go_at_call 26; refine LH.out.mono ?_; rintro e w' ⟨rfl, rfl⟩) | (go_at_call 28; refine DH.out.mono ?_; rintro e w' ⟨rfl, rfl⟩))
  refine bodyPost_ret (v := .tuple #[.agg #[.int .i64 (0 : Nat), .string ⟨#[]⟩, .int .i64 0], .int .i64 (0 : Nat)]) (by simp [results, Tryd.results20, go_sem]) rfl ⟨congrArg Ending.returned (tokV_eq ?_), ?_⟩
  · rw [HT.out]
  · exact (Below.refl _ _).alloc (Nat.le_refl _) _

theorem token_any (s : ByteArray) (w : World) (h0 : 0 < s.size) (hs : s.size ≤ 140737488351232) :
    Calls Tryd.prog 20 #[.string s] w fun e w' => e = .returned (tokV (tokenL s.data.toList)) ∧ Below w.heap.size w w' := by
  cases hl : lowerB s[0] with
  | true => exact token_name s w h0 hs hl
  | false =>
    cases hd : digitB s[0] with
    | true => exact token_number s w h0 hs hl hd
    | false =>
      by_cases h1 : s[0] = 34
      · exact token_string s w h0 hs hl hd h1
      · by_cases h2 : s[0] = 124
        · exact token_pipe s w h0 hs hl hd h2
        · by_cases h3 : s[0] = 125
          · exact token_close s w h0 hs hl hd h3
          · exact token_none s w h0 hs hl hd h1 h2 h3

end Go.Proofs.YtbgnkoecfokmaaaDoor.Lex
