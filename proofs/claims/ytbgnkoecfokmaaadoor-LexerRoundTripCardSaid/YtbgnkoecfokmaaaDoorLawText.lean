/- LexerText: a text of permitted bytes with every opening brace doubled is a single token, for every string. -/
import Derived.Test.YtbgnkoecfokmaaaDoorPXx2
import Derived.Test.YtbgnkoecfokmaaaDoorLexRel
import Derived.Test.YtbgnkoecfokmaaaDoorBr
namespace Go.Proofs.YtbgnkoecfokmaaaDoor.Pure
open Go.RowKit Go.Proofs.YtbgnkoecfokmaaaDoor.PX Go.Proofs.YtbgnkoecfokmaaaDoorW.PrintWords Go.Proofs.YtbgnkoecfokmaaaDoorW.PrintLast Go.Proofs.YtbgnkoecfokmaaaDoorW.PrintMore Go.Proofs.YtbgnkoecfokmaaaDoor.Br

theorem sane_ok : copydesklaw09_sane.f = some true := by decide +kernel

theorem escaped_l0 (s : ByteArray) (hs : 2 * s.size < 140737488355328) : ∀ (d k i : Nat) (acc : List UInt8), i + d = s.size → d < k → acc.length + 2 * d ≤ 2 * s.size →
    copydesklaw09_escaped.l0 k s (ints acc) (i : Int) = some ⟨(acc ++ Lex.esc (s.data.toList.drop i)).toArray⟩ := by
  intro d
  induction d with
  | zero =>
    intro k i acc hi hk hl
    obtain ⟨k, rfl⟩ : ∃ m, k = m + 1 := ⟨k - 1, by omega⟩
    rw [copydesklaw09_escaped.l0, if_neg (by omega), strOfNums_ints, List.drop_eq_nil_of_le (by rw [size_toList]; omega)]
    simp [Lex.esc]
  | succ d ih =>
    intro k i acc hi hk hl
    obtain ⟨k, rfl⟩ : ∃ m, k = m + 1 := ⟨k - 1, by omega⟩
    have hlt : i < s.size := by omega
    have hb := bt_nat s i hlt
    have hd : s.data.toList.drop i = s.data.toList[i]'(by simpa using hlt) :: s.data.toList.drop (i + 1) := List.drop_eq_getElem_cons (by simpa using hlt)
    generalize s.data.toList[i]'(by simpa using hlt) = c at hb hd
    rw [copydesklaw09_escaped.l0, if_pos (by omega), if_pos (by omega), if_pos (by rw [ints_length]; omega), hb, ints_snoc]
    simp only [Option.bind_some]
    rw [wrap_succ i (by omega), hd]
    by_cases hc : c = 123
    · have : (c.toNat : Int) = 123 := by rw [hc]; rfl
      rw [if_pos this, if_pos (by rw [ints_length]; simp; omega), ints_snoc, ih k (i + 1) _ (by omega) (by omega) (by simp; omega)]
      simp [Lex.esc, hc]
    · have : ¬ (c.toNat : Int) = 123 := fun e => hc (UInt8.toNat_inj.1 (by simpa using (show c.toNat = 123 by omega)))
      rw [if_neg this, ih k (i + 1) _ (by omega) (by omega) (by simp; omega)]
      simp [Lex.esc, hc]

theorem escaped_ev (s : ByteArray) (hs : 2 * s.size < 140737488355328) : Ev (fun k => copydesklaw09_escaped.f k s) ⟨(Lex.esc s.data.toList).toArray⟩ := by
  refine Ev.of (fun k => copydesklaw09_escaped.mono s k) (k := s.size + 1) ?_
  have := escaped_l0 s hs s.size (s.size + 1) 0 [] (by omega) (by omega) (by simp)
  simpa [copydesklaw09_escaped.f, ints] using this

theorem tokens_text (b : Lex.Bs) (h : b.all Lex.okB = true) (hl : b.length ≤ 500) : Lex.tokens (Lex.esc b) = (if b = [] then [] else [(1, b, 0)], 0, 0) := by
  have hlen := Lex.esc_length b
  by_cases hb : b = []
  · subst hb
    rw [if_pos rfl]
    exact Lex.tokens_src .nil (by simp [Lex.esc])
  · rw [if_neg hb]
    have := Lex.Src.text (a := 0) (run := Lex.esc b) (rest := []) (l := []) (fun e => hb (Lex.esc_nil e)) (Lex.esc_full b) (Lex.esc_all _ b h) rfl .nil
    rw [List.append_nil, Lex.unesc_esc] at this
    exact Lex.tokens_src this (by omega)

theorem text_end (b : Lex.Bs) (h : b.all Lex.okB = true) (hl : b.length ≤ 400) : Ev (fun k => (copydesklaw09_escaped.f k (strOfNums (ints b))).bind fun t135 => ((lexer_Tokens.f t135).bind fun bt136 => (if ((ints b).length : Int) = 0 then (if true = true then (if bt136.2.2 = 0 then (some ((bt136.1.length : Int) == 0)) else (some false)) else (some false)) else (if true = true then (if bt136.2.2 = 0 then (if (bt136.1.length : Int) = 1 then (if 0 < (bt136.1.length : Int) then (some (((rd_T29 bt136.1 0).f0) == 1 && ((((rd_T29 bt136.1 0).f1).toList) == ((strOfNums (ints b)).toList) && (((rd_T29 bt136.1 0).f2) == 0)))) else (none)) else (some false)) else (some false)) else (some false))))) true := by
  rw [strOfNums_ints]
  refine Ev.bind (f := fun _ t135 => (lexer_Tokens.f t135).bind fun bt136 => _) (escaped_ev ⟨b.toArray⟩ (by rw [mk_size]; omega)) ?_
  refine Ev.congr (f := fun _ => some true) (fun k => ?_) (Ev.now _)
  rw [mk_toList]
  have ht := tokens_text b h (by omega)
  simp only [lexer_Tokens.f, ht, Option.bind_some, ints_length]
  by_cases hb : b = []
  · subst hb; rfl
  · have : ¬ (b.length : Int) = 0 := fun e => hb (List.eq_nil_of_length_eq_zero (by omega))
    rw [if_neg hb, if_neg this]
    simp [rd_T29, toS]

theorem text_l0 (a0 : ByteArray) (hs : a0.size ≤ 140737488351232) : ∀ (d i : Nat) (acc : Lex.Bs), i + d = min a0.size 400 → acc.all Lex.okB = true → acc.length ≤ i →
    Ev (fun k => copydesklaw09_LexerText.l0 k a0 true (ints acc) (i : Int)) true := by
  intro d
  induction d with
  | zero =>
    intro i acc hi ha hl
    by_cases h : i < a0.size
    · refine Ev.step (f := fun k => copydesklaw09_LexerText.j1 k a0 true (ints acc) (i : Int) false) (fun k => by rw [copydesklaw09_LexerText.l0, if_pos (by omega), decide_eq_false (by omega)]) ?_
      refine Ev.step (fun k => by rw [copydesklaw09_LexerText.j1, if_neg (by decide)]) (text_end acc ha (by omega))
    · refine Ev.step (f := fun k => copydesklaw09_LexerText.j1 k a0 true (ints acc) (i : Int) false) (fun k => by rw [copydesklaw09_LexerText.l0, if_neg (by omega)]) ?_
      refine Ev.step (fun k => by rw [copydesklaw09_LexerText.j1, if_neg (by decide)]) (text_end acc ha (by omega))
  | succ d ih =>
    intro i acc hi ha hl
    have hlt : i < a0.size := by omega
    have hb := bt_nat a0 i hlt
    generalize a0.data.toList[i]'(by simpa using hlt) = c at hb
    refine Ev.step (f := fun k => copydesklaw09_LexerText.j1 k a0 true (ints acc) (i : Int) true) (fun k => by rw [copydesklaw09_LexerText.l0, if_pos (by omega), decide_eq_true (by omega)]) ?_
    have hw := wrap_succ i (by omega)
    have hlen : (ints acc).length < 140737488355328 := by rw [ints_length]; omega
    by_cases h10 : (c.toNat : Int) = 10
    · refine Ev.step (f := fun k => copydesklaw09_LexerText.l0 k a0 true (ints (acc ++ [c])) ((i + 1 : Nat) : Int)) (fun k => by
        rw [copydesklaw09_LexerText.j1, if_pos rfl, if_pos (by omega), if_pos (by omega), hb, if_pos h10, if_pos hlen, ints_snoc, hw]) (ih (i + 1) _ (by omega) ?_ (by simp; omega))
      have : c = 10 := UInt8.toNat_inj.1 (by simpa using (show c.toNat = 10 by omega))
      simp only [List.all_append, ha, this]
      rfl
    · by_cases h32 : (c.toNat : Int) ≥ 32 ∧ (c.toNat : Int) ≤ 126
      · refine Ev.step (f := fun k => copydesklaw09_LexerText.l0 k a0 true (ints (acc ++ [c])) ((i + 1 : Nat) : Int)) (fun k => by
          rw [copydesklaw09_LexerText.j1, if_pos rfl, if_pos (by omega), if_pos (by omega), hb, if_neg h10, if_pos h32.1, if_pos h32.2, if_pos hlen, ints_snoc, hw]) (ih (i + 1) _ (by omega) ?_ (by simp; omega))
        have : Lex.okB c = true := by
          simp only [Lex.okB, Lex.plainB, Bool.or_eq_true, Bool.and_eq_true, decide_eq_true_eq]
          exact .inr ⟨by omega, by omega⟩
        simp [List.all_append, ha, this]
      · refine Ev.step (f := fun k => copydesklaw09_LexerText.l0 k a0 true (ints acc) ((i + 1 : Nat) : Int)) (fun k => ?_) (ih (i + 1) acc (by omega) ha (by omega))
        rw [copydesklaw09_LexerText.j1, if_pos rfl, if_pos (by omega), if_pos (by omega), hb, if_neg h10]
        by_cases h : (c.toNat : Int) ≥ 32
        · rw [if_pos h, if_neg (fun h' => h32 ⟨h, h'⟩), hw]
        · rw [if_neg h, hw]

theorem LexerText : copydesklaw09_LexerText.Pure := by
  intro a0 hs
  refine Ev.rounds ?_
  refine Ev.congr (f := fun k => copydesklaw09_LexerText.l0 k a0 true (ints []) ((0 : Nat) : Int)) (fun k => ?_) (text_l0 a0 hs (min a0.size 400) 0 [] (by omega) rfl (by simp))
  unfold copydesklaw09_LexerText.f
  rw [sane_ok]
  rfl

end Go.Proofs.YtbgnkoecfokmaaaDoor.Pure
