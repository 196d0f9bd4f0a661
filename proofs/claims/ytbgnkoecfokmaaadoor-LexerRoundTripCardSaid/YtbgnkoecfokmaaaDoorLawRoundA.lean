/- LexerRoundTrip, the parts: the permitted texts, the gaps and the words that the law composes. -/
import Derived.Test.YtbgnkoecfokmaaaDoorPXx6
import Derived.Test.YtbgnkoecfokmaaaDoorLawText
import Derived.Test.YtbgnkoecfokmaaaDoorLexPre
namespace Go.Proofs.YtbgnkoecfokmaaaDoor.Pure
open Go.RowKit Go.Proofs.YtbgnkoecfokmaaaDoor.PX Go.Proofs.YtbgnkoecfokmaaaDoorW.PrintWords Go.Proofs.YtbgnkoecfokmaaaDoorW.PrintLast Go.Proofs.YtbgnkoecfokmaaaDoorW.PrintMore Go.Proofs.YtbgnkoecfokmaaaDoor.Br

/-- A whole number of sixty-four bits. -/
def I64 (n : Int) : Prop := -9223372036854775808 ≤ n ∧ n ≤ 9223372036854775807

theorem pick4 (n : Int) (h : I64 n) : ∃ t : Nat, t < 4 ∧ copydesklaw09_pick.f n 4 = some (t : Int) := by
  obtain ⟨h0, h1⟩ := h
  unfold copydesklaw09_pick.f
  by_cases hn : n < 0
  · rw [if_pos hn, if_neg (by decide), wrap_id (n + 1) (by omega) (by omega), wrap_id _ (by omega) (by omega)]
    refine ⟨((-(n + 1)).toNat) % 4, Nat.mod_lt _ (by decide), ?_⟩
    congr 1
    rw [Int.tmod_eq_emod_of_nonneg (by omega)]
    omega
  · rw [if_neg hn, if_neg (by decide)]
    refine ⟨n.toNat % 4, Nat.mod_lt _ (by decide), ?_⟩
    congr 1
    rw [Int.tmod_eq_emod_of_nonneg (by omega)]
    omega

theorem gap_some (n : Int) (h : I64 n) (m : Bool) : ∃ g : Lex.Bs, g.all Lex.blankB = true ∧ g.length ≤ 2 ∧ (m = true → g ≠ []) ∧ copydesklaw09_gap.f n m = some ⟨g.toArray⟩ := by
  obtain ⟨t, ht, hp⟩ := pick4 n h
  unfold copydesklaw09_gap.f
  simp only [hp, Option.bind_some]
  have : t = 0 ∨ t = 1 ∨ t = 2 ∨ t = 3 := by omega
  rcases this with rfl | rfl | rfl | rfl <;> cases m
  · exact ⟨[], rfl, by decide, by simp, rfl⟩
  · exact ⟨[32], rfl, by decide, by simp, by decide +kernel⟩
  · exact ⟨[32], rfl, by decide, by simp, rfl⟩
  · exact ⟨[32], rfl, by decide, by simp, by decide +kernel⟩
  · exact ⟨[10], rfl, by decide, by simp, rfl⟩
  · exact ⟨[10], rfl, by decide, by simp, by decide +kernel⟩
  · exact ⟨[32, 32], rfl, by decide, by simp, rfl⟩
  · exact ⟨[32, 32], rfl, by decide, by simp, by decide +kernel⟩

/-! ### the literal texts -/
theorem lit_l0 (s : ByteArray) (hs : s.size ≤ 9223372036854775807) : ∀ (d i : Nat) (acc : Lex.Bs), i + d = s.size → acc.all Lex.okB = true → acc.length ≤ 30 →
    ∃ b : Lex.Bs, b.all Lex.okB = true ∧ b.length ≤ 30 ∧ Ev (fun k => copydesklaw09_literal.l0 k s (ints acc) (i : Int)) ⟨b.toArray⟩ := by
  intro d
  induction d with
  | zero =>
    intro i acc hi ha hl
    refine ⟨acc, ha, hl, ?_⟩
    refine Ev.step (f := fun k => copydesklaw09_literal.j1 k s (ints acc) (i : Int) false) (fun k => by rw [copydesklaw09_literal.l0, if_neg (by omega)]) ?_
    exact Ev.step (fun k => by rw [copydesklaw09_literal.j1, if_neg (by decide), strOfNums_ints]) (Ev.now _)
  | succ d ih =>
    intro i acc hi ha hl
    have hlt : i < s.size := by omega
    have hb := bt_nat s i hlt
    generalize s.data.toList[i]'(by simpa using hlt) = c at hb
    by_cases h30 : acc.length < 30
    · have hst : ∀ k, copydesklaw09_literal.l0 (k + 1) s (ints acc) (i : Int) = copydesklaw09_literal.j1 k s (ints acc) (i : Int) true := fun k => by
        rw [copydesklaw09_literal.l0, if_pos (by omega), decide_eq_true (by rw [ints_length]; omega)]
      have hlen : (ints acc).length < 140737488355328 := by rw [ints_length]; omega
      by_cases hc : Lex.okB c = true
      · obtain ⟨b, h1, h2, h3⟩ := ih (i + 1) (acc ++ [c]) (by omega) (by simp [List.all_append, ha, hc]) (by simp; omega)
        refine ⟨b, h1, h2, Ev.step hst (Ev.step (fun k => ?_) h3)⟩
        rw [copydesklaw09_literal.j1, if_pos rfl, if_pos (by omega), if_pos (by omega), hb, ints_snoc, wrap_succ _ (by omega)]
        simp only [Lex.okB, Lex.plainB, Bool.or_eq_true, Bool.and_eq_true, decide_eq_true_eq, beq_iff_eq] at hc
        by_cases h10 : (c.toNat : Int) = 10
        · rw [if_pos h10, if_pos hlen]
        · have hc10 : c ≠ 10 := fun e => h10 (by rw [e]; rfl)
          have hc' : 32 ≤ c.toNat ∧ c.toNat ≤ 126 := hc.resolve_left hc10
          rw [if_neg h10, if_pos (by omega), if_pos (by omega), if_pos hlen]
      · obtain ⟨b, h1, h2, h3⟩ := ih (i + 1) acc (by omega) ha hl
        refine ⟨b, h1, h2, Ev.step hst (Ev.step (fun k => ?_) h3)⟩
        rw [copydesklaw09_literal.j1, if_pos rfl, if_pos (by omega), if_pos (by omega), hb, wrap_succ _ (by omega)]
        simp only [Lex.okB, Lex.plainB, Bool.or_eq_true, Bool.and_eq_true, decide_eq_true_eq, beq_iff_eq, not_or] at hc
        have h10 : ¬ (c.toNat : Int) = 10 := fun e => hc.1 (UInt8.toNat_inj.1 (by simpa using (show c.toNat = 10 by omega)))
        rw [if_neg h10]
        by_cases h32 : (c.toNat : Int) ≥ 32
        · rw [if_pos h32, if_neg (by omega)]
        · rw [if_neg h32]
    · refine ⟨acc, ha, hl, ?_⟩
      refine Ev.step (f := fun k => copydesklaw09_literal.j1 k s (ints acc) (i : Int) false) (fun k => by rw [copydesklaw09_literal.l0, if_pos (by omega), decide_eq_false (by rw [ints_length]; omega)]) ?_
      exact Ev.step (fun k => by rw [copydesklaw09_literal.j1, if_neg (by decide), strOfNums_ints]) (Ev.now _)

/-! ### the words -/
/-- What a word gathers, by its kind. -/
def wordB (kd : Nat) : UInt8 → Bool := if kd = 2 then Lex.nameB else if kd = 3 then Lex.digitB else if kd = 4 then Lex.strB else fun _ => false

/-- What 'word' gives. -/
def Worded (kd : Nat) (w : Lex.Bs) : Prop := w.length ≤ 7 ∧ (kd ≠ 5 → Lex.Word kd w)

theorem name_letter (n : Nat) (h : n < 11) : ∃ c : UInt8, Lex.nameB c = true ∧ bt (⟨#[97, 98, 99, 120, 121, 122, 48, 49, 56, 57, 45]⟩ : ByteArray) (n : Int) = (c.toNat : Int) := by
  rw [bt_nat _ n (show n < (⟨#[97, 98, 99, 120, 121, 122, 48, 49, 56, 57, 45]⟩ : ByteArray).size from h)]
  refine ⟨_, ?_, rfl⟩
  have : n = 0 ∨ n = 1 ∨ n = 2 ∨ n = 3 ∨ n = 4 ∨ n = 5 ∨ n = 6 ∨ n = 7 ∨ n = 8 ∨ n = 9 ∨ n = 10 := by omega
  rcases this with rfl | rfl | rfl | rfl | rfl | rfl | rfl | rfl | rfl | rfl | rfl <;> rfl

theorem word_end (kd : Nat) (hkd : kd = 2 ∨ kd = 3 ∨ kd = 4 ∨ kd = 5) (s : ByteArray) (acc : Lex.Bs) (i : Int) (ha : acc.all (wordB kd) = true) (hl : acc.length ≤ 6) :
    ∃ w : Lex.Bs, Worded kd w ∧ Ev (fun k => copydesklaw09_word.j1 k (kd : Int) s (ints acc) i false) ⟨w.toArray⟩ := by
  rcases hkd with rfl | rfl | rfl | rfl
  · refine ⟨110 :: acc, ⟨by simp; omega, fun _ => .inl ⟨rfl, ⟨_, rfl⟩, ?_, by simp; omega⟩⟩, Ev.step (fun k => ?_) (Ev.now _)⟩
    · have ha' : acc.all Lex.nameB = true := ha
      rw [List.all_cons, ha']; rfl
    · rw [copydesklaw09_word.j1, if_neg (by decide), if_pos (by rfl), strOfNums_ints, if_pos (by rw [mk_size]; omega), show (⟨#[110]⟩ : ByteArray) = ⟨[(110 : UInt8)].toArray⟩ from rfl, mk_append]
      rfl
  · have ht : (acc.take 5).all Lex.digitB = true := by
      have ha' : acc.all Lex.digitB = true := ha
      rw [List.all_eq_true] at ha' ⊢
      exact fun x hx => ha' x (List.mem_of_mem_take hx)
    refine ⟨55 :: acc.take 5, ⟨by simp; omega, fun _ => .inr (.inl ⟨rfl, ⟨_, rfl⟩, ?_, by simp; omega⟩)⟩, Ev.step (fun k => ?_) (Ev.now _)⟩
    · rw [List.all_cons, ht]; rfl
    · have hmn : mn ((ints acc).length : Int) 5 = ((min acc.length 5 : Nat) : Int) := by rw [ints_length]; exact mn_nat acc.length 5
      have htk : (ints acc).take (min acc.length 5) = ints (acc.take 5) := by
        unfold ints
        rw [← List.map_take, Nat.min_comm, ← List.take_take, List.take_length]
      rw [copydesklaw09_word.j1, if_neg (by decide), if_neg (by decide), if_pos (by rfl), hmn, if_pos (by omega), if_pos (by rw [ints_length]; omega), Int.toNat_natCast, htk, Option.bind_some, strOfNums_ints, if_pos (by rw [mk_size]; simp; omega), show (⟨#[55]⟩ : ByteArray) = ⟨[(55 : UInt8)].toArray⟩ from rfl, mk_append]
      rfl
  · exact ⟨acc, ⟨by omega, fun _ => .inr (.inr (.inl ⟨rfl, ha⟩))⟩, Ev.step (fun k => by rw [copydesklaw09_word.j1, if_neg (by decide), if_neg (by decide), if_neg (by decide), strOfNums_ints]) (Ev.now _)⟩
  · exact ⟨acc, ⟨by omega, fun h => absurd rfl h⟩, Ev.step (fun k => by rw [copydesklaw09_word.j1, if_neg (by decide), if_neg (by decide), if_neg (by decide), strOfNums_ints]) (Ev.now _)⟩

theorem word_l0 (kd : Nat) (hkd : kd = 2 ∨ kd = 3 ∨ kd = 4 ∨ kd = 5) (s : ByteArray) : ∀ (d i : Nat) (acc : Lex.Bs), i + d = min s.size 6 → acc.all (wordB kd) = true → acc.length ≤ i →
    ∃ w : Lex.Bs, Worded kd w ∧ Ev (fun k => copydesklaw09_word.l0 k (kd : Int) s (ints acc) (i : Int)) ⟨w.toArray⟩ := by
  intro d
  induction d with
  | zero =>
    intro i acc hi ha hl
    obtain ⟨w, h1, h2⟩ := word_end kd hkd s acc i ha (by omega)
    refine ⟨w, h1, Ev.step (fun k => ?_) h2⟩
    rw [copydesklaw09_word.l0]
    by_cases h : (i : Int) < (s.size : Int)
    · rw [if_pos h, decide_eq_false (by omega)]
    · rw [if_neg h]
  | succ d ih =>
    intro i acc hi ha hl
    have hlt : i < s.size := by omega
    have hb := bt_nat s i hlt
    generalize s.data.toList[i]'(by simpa using hlt) = c at hb
    have hst : ∀ k, copydesklaw09_word.l0 (k + 1) (kd : Int) s (ints acc) (i : Int) = copydesklaw09_word.j1 k (kd : Int) s (ints acc) (i : Int) true := fun k => by
      rw [copydesklaw09_word.l0, if_pos (by omega), decide_eq_true (by omega)]
    have hlen : (ints acc).length < 140737488355328 := by rw [ints_length]; omega
    have hw := wrap_succ i (by omega)
    -- one byte more, or none
    have more : ∀ c', wordB kd c' = true → ∃ w : Lex.Bs, Worded kd w ∧ Ev (fun k => copydesklaw09_word.l0 k (kd : Int) s (ints acc ++ [(c'.toNat : Int)]) ((i + 1 : Nat) : Int)) ⟨w.toArray⟩ := fun c' hc' => by
      rw [ints_snoc]
      exact ih (i + 1) _ (by omega) (by simp [List.all_append, ha, hc']) (by simp; omega)
    obtain ⟨w0, g1, g2⟩ := ih (i + 1) acc (by omega) ha (by omega)
    rcases hkd with rfl | rfl | rfl | rfl
    · obtain ⟨c', k1, k2⟩ := name_letter (c.toNat % 11) (Nat.mod_lt _ (by decide))
      obtain ⟨w, h1, h2⟩ := more c' k1
      refine ⟨w, h1, Ev.step hst (Ev.step (f := fun k => copydesklaw09_word.j2 k ((2 : Nat) : Int) s (ints acc) (i : Int) (c.toNat : Int) false) (fun k => ?_) (Ev.step (fun k => ?_) h2))⟩
      · rw [copydesklaw09_word.j1, if_pos rfl, if_pos (by omega), if_pos (by omega), if_neg (by decide), hb]
      · have hm : Int.tmod (c.toNat : Int) 11 = ((c.toNat % 11 : Nat) : Int) := by rw [Int.tmod_eq_emod_of_nonneg (by omega)]; omega
        rw [copydesklaw09_word.j2, if_neg (by decide), if_pos (by rfl), hm, if_pos (by omega), if_pos (by omega), if_pos hlen, k2, hw]
    · have hc' : Lex.digitB (UInt8.ofNat (48 + c.toNat % 10)) = true ∧ ((UInt8.ofNat (48 + c.toNat % 10)).toNat : Int) = (48 + Int.tmod (c.toNat : Int) 10) % 256 := by
        have hm : Int.tmod (c.toNat : Int) 10 = ((c.toNat % 10 : Nat) : Int) := by rw [Int.tmod_eq_emod_of_nonneg (by omega)]; omega
        have ht : (UInt8.ofNat (48 + c.toNat % 10)).toNat = 48 + c.toNat % 10 := by simp; omega
        refine ⟨?_, by rw [ht, hm]; omega⟩
        simp only [Lex.digitB, ht, Bool.and_eq_true, decide_eq_true_eq]
        omega
      obtain ⟨w, h1, h2⟩ := more _ hc'.1
      rw [hc'.2] at h2
      refine ⟨w, h1, Ev.step hst (Ev.step (f := fun k => copydesklaw09_word.j2 k ((3 : Nat) : Int) s (ints acc) (i : Int) (c.toNat : Int) false) (fun k => ?_) (Ev.step (fun k => ?_) h2))⟩
      · rw [copydesklaw09_word.j1, if_pos rfl, if_pos (by omega), if_pos (by omega), if_neg (by decide), hb]
      · rw [copydesklaw09_word.j2, if_neg (by decide), if_neg (by decide), if_pos (by rfl), if_pos hlen, hw]
    · by_cases hc : Lex.strB c = true
      · obtain ⟨w, h1, h2⟩ := more c hc
        simp only [Lex.strB, Lex.plainB, Bool.and_eq_true, decide_eq_true_eq, bne_iff_ne] at hc
        refine ⟨w, h1, Ev.step hst (Ev.step (f := fun k => copydesklaw09_word.j2 k ((4 : Nat) : Int) s (ints acc) (i : Int) (c.toNat : Int) true) (fun k => ?_) (Ev.step (fun k => ?_) h2))⟩
        · have h34 : (c.toNat : Int) ≠ 34 := fun e => hc.2 (UInt8.toNat_inj.1 (by simpa using (show c.toNat = 34 by omega)))
          rw [copydesklaw09_word.j1, if_pos rfl, if_pos (by omega), if_pos (by omega), if_pos (by rfl), hb, if_pos (by omega), if_pos (by omega), bne_iff_ne.2 h34]
        · rw [copydesklaw09_word.j2, if_pos rfl, if_pos hlen, hw]
      · simp only [Lex.strB, Lex.plainB, Bool.and_eq_true, decide_eq_true_eq, bne_iff_ne] at hc
        refine ⟨w0, g1, Ev.step hst (Ev.step (f := fun k => copydesklaw09_word.j2 k ((4 : Nat) : Int) s (ints acc) (i : Int) (c.toNat : Int) false) (fun k => ?_) (Ev.step (fun k => ?_) g2))⟩
        · rw [copydesklaw09_word.j1, if_pos rfl, if_pos (by omega), if_pos (by omega), if_pos (by rfl), hb]
          by_cases h32 : (c.toNat : Int) ≥ 32
          · rw [if_pos h32]
            by_cases h126 : (c.toNat : Int) ≤ 126
            · rw [if_pos h126]
              have : c = 34 := by
                by_cases e : c = 34
                · exact e
                · exact absurd ⟨⟨by omega, by omega⟩, e⟩ hc
              subst this
              rfl
            · rw [if_neg h126]
          · rw [if_neg h32]
        · rw [copydesklaw09_word.j2, if_neg (by decide), if_neg (by decide), if_neg (by decide), hw]
    · refine ⟨w0, g1, Ev.step hst (Ev.step (f := fun k => copydesklaw09_word.j2 k ((5 : Nat) : Int) s (ints acc) (i : Int) (c.toNat : Int) false) (fun k => ?_) (Ev.step (fun k => ?_) g2))⟩
      · rw [copydesklaw09_word.j1, if_pos rfl, if_pos (by omega), if_pos (by omega), if_neg (by decide), hb]
      · rw [copydesklaw09_word.j2, if_neg (by decide), if_neg (by decide), if_neg (by decide), hw]

theorem word_ev (kd : Nat) (hkd : kd = 2 ∨ kd = 3 ∨ kd = 4 ∨ kd = 5) (s : ByteArray) : ∃ w : Lex.Bs, Worded kd w ∧ Ev (fun k => copydesklaw09_word.f k (kd : Int) s) ⟨w.toArray⟩ := by
  obtain ⟨w, h1, h2⟩ := word_l0 kd hkd s (min s.size 6) 0 [] (by omega) rfl (by simp)
  exact ⟨w, h1, h2⟩

end Go.Proofs.YtbgnkoecfokmaaaDoor.Pure
