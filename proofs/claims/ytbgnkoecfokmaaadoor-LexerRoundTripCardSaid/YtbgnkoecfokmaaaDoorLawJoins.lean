/- LexerJoins: the tokens of two accepted sources one after the other are the tokens of both, and text that follows text becomes one token; for all strings. -/
import Derived.Test.YtbgnkoecfokmaaaDoorPXx3
import Derived.Test.YtbgnkoecfokmaaaDoorLawText
import Derived.Test.YtbgnkoecfokmaaaDoorLexGlue
namespace Go.Proofs.YtbgnkoecfokmaaaDoor.Pure
open Go.RowKit Go.Proofs.YtbgnkoecfokmaaaDoor.PX Go.Proofs.YtbgnkoecfokmaaaDoorW.PrintWords Go.Proofs.YtbgnkoecfokmaaaDoorW.PrintLast Go.Proofs.YtbgnkoecfokmaaaDoorW.PrintMore Go.Proofs.YtbgnkoecfokmaaaDoor.Br

theorem rd_at (L : List S29) (i : Nat) (h : i < L.length) : rd_T29 L (i : Int) = L[i] := by
  simp [rd_T29, h]

theorem same_l0 (L : List S29) (hL : L.length < 9000) : ∀ (d i : Nat), i + d = L.length → Ev (fun k => copydesklaw09_same.l0 k L L (i : Int)) true := by
  intro d
  induction d with
  | zero =>
    intro i hi
    exact Ev.step (fun k => by rw [copydesklaw09_same.l0, if_neg (by omega)]) (Ev.now true)
  | succ d ih =>
    intro i hi
    refine Ev.step (f := fun k => copydesklaw09_same.l0 k L L ((i + 1 : Nat) : Int)) (fun k => ?_) (ih (i + 1) (by omega))
    rw [copydesklaw09_same.l0, if_pos (by omega), if_pos (by omega), if_pos (by omega), if_neg (by simp), wrap_succ _ (by omega)]

theorem same_ev (L : List S29) (hL : L.length < 9000) : Ev (fun k => copydesklaw09_same.f k L L) true :=
  Ev.congr (fun k => by rw [copydesklaw09_same.f, if_pos rfl]; rfl) (same_l0 L hL L.length 0 (by omega))

theorem toS_later (d : Nat) (x : Lex.Tok) (h : x.2.2 + d < 9000) : toS (Lex.later d x) = ⟨(toS x).f0, (toS x).f1, wrap64 ((toS x).f2 + (d : Int))⟩ := by
  simp only [toS, Lex.later]
  rw [wrap_id _ (by omega) (by omega)]
  simp

theorem Src_at {a : Nat} {s : Lex.Bs} {l : List Lex.Tok} (h : Lex.Src a s l) : ∀ x ∈ l, x.2.2 ≤ a + s.length := by
  have ht : ∀ {a : Nat} {s rest : Lex.Bs} {l : List Lex.Tok}, Lex.Tag a s l rest → ∀ x ∈ l, x.2.2 ≤ a + s.length := by
    intro a s rest l h
    induction h with
    | blank _ _ ih => intro x hx; have := ih x hx; simp; omega
    | @tok a kd n c r tx l rest h h1 h2 h3 t ih =>
      intro x hx
      have hn : n ≤ (c :: r).length := by have := Lex.tokenL_le (c :: r); rw [h1] at this; exact this
      rcases List.mem_cons.1 hx with rfl | hx
      · simp
      · have := ih x hx; simp at this hn ⊢; omega
    | close => simp
  induction h with
  | nil => simp
  | @text a run rest l h h1 h2 h3 t ih =>
    intro x hx
    rcases List.mem_cons.1 hx with rfl | hx
    · simp
    · have := ih x hx; simp at this ⊢; omega
  | @tag a r rest l m h t u ih =>
    intro x hx
    have hlen := t.length
    rcases List.mem_cons.1 hx with rfl | hx
    · simp
    · rcases List.mem_append.1 hx with hx | hx
      · have := ht t x hx; simp at this ⊢; omega
      · have := ih x hx; simp at this ⊢; omega

section
variable (S T : Lex.Bs) (M W' : List Lex.Tok)

theorem joins_end (hS : S.length ≤ 400) (hT : T.length ≤ 400) (ht : Lex.tokens (S ++ T) = (W', 0, 0)) (hW : W'.length < 9000) (W : List S29) (hWW : W = W'.map toS) :
    Ev (fun k => copydesklaw09_LexerJoins.l0 k true ⟨S.toArray⟩ ⟨T.toArray⟩ (M.map toS) W (M.length : Int)) true := by
  refine Ev.step (f := fun k => (copydesklaw09_same.f k (W'.map toS) W).bind fun t180 => (some t180)) (fun k => ?_) ?_
  · rw [copydesklaw09_LexerJoins.l0, if_neg (by simp), if_pos (by rw [mk_size, mk_size]; omega)]
    simp only [lexer_Tokens.f, Option.bind_some, mk_append, ht]
    rfl
  · subst hWW
    exact Ev.bind (f := fun _ t => some t) (same_ev _ (by simpa using hW)) (Ev.now true)

theorem joins_rest (hS : S.length ≤ 400) (hT : T.length ≤ 400) (hM : ∀ x ∈ M, x.2.2 ≤ 400) (hMl : M.length < 9000) (ht : Lex.tokens (S ++ T) = (W', 0, 0)) (hW : W'.length < 9000) :
    ∀ (d i : Nat) (W : List S29), i + d = M.length → 0 < i → W ++ ((M.drop i).map (Lex.later S.length)).map toS = W'.map toS →
    Ev (fun k => copydesklaw09_LexerJoins.l0 k true ⟨S.toArray⟩ ⟨T.toArray⟩ (M.map toS) W (i : Int)) true := by
  intro d
  induction d with
  | zero =>
    intro i W hi h0 hw
    obtain rfl : i = M.length := by omega
    refine joins_end S T M W' hS hT ht hW W ?_
    rw [← hw, List.drop_eq_nil_of_le (Nat.le_refl _)]
    simp
  | succ d ih =>
    intro i W hi h0 hw
    have hlt : i < M.length := by omega
    have hx : rd_T29 (M.map toS) (i : Int) = toS M[i] := by rw [rd_at _ _ (by simpa using hlt)]; simp
    have hWl : W.length < 9000 := by have := congrArg List.length hw; simp at this; omega
    have h1 := hM M[i] (List.getElem_mem hlt)
    refine Ev.step (f := fun k => copydesklaw09_LexerJoins.l0 k true ⟨S.toArray⟩ ⟨T.toArray⟩ (M.map toS) (W ++ [toS (Lex.later S.length M[i])]) ((i + 1 : Nat) : Int)) (fun k => ?_) (ih (i + 1) _ (by omega) (by omega) ?_)
    · rw [copydesklaw09_LexerJoins.l0, if_pos (by simp; omega), if_pos (by omega), if_neg (by omega), if_pos (by omega), hx, mk_size, wrap_succ _ (by omega), toS_later _ _ (by omega)]
    · rw [← hw, List.drop_eq_getElem_cons hlt, List.map_cons, List.map_cons, List.append_assoc]
      rfl

theorem joins_first {L : List Lex.Tok} (hS : S.length ≤ 400) (hT : T.length ≤ 400) (hL : L.length < 4000) (hM : ∀ x ∈ M, x.2.2 ≤ 400) (hMl : M.length < 4000) (ht : Lex.tokens (S ++ T) = (Lex.glue L (M.map (Lex.later S.length)), 0, 0)) (hW : (Lex.glue L (M.map (Lex.later S.length))).length < 9000)
    (hsz : ∀ x ∈ L, x.2.1.length ≤ 400) (hszM : ∀ x ∈ M, x.2.1.length ≤ 400) :
    Ev (fun k => copydesklaw09_LexerJoins.l0 k true ⟨S.toArray⟩ ⟨T.toArray⟩ (M.map toS) (L.map toS) ((0 : Nat) : Int)) true := by
  cases M with
  | nil =>
    refine joins_end S T [] _ hS hT ht hW _ ?_
    have : ∀ l : List Lex.Tok, Lex.glue l [] = l := by
      intro l
      induction l with
      | nil => rfl
      | cons x l ih => cases l with
        | nil => rfl
        | cons y l => show x :: Lex.glue (y :: l) [] = _; rw [ih]
    rw [List.map_nil, this]
  | cons x M =>
    have h1 := hM x (by simp)
    have hx : rd_T29 ((x :: M).map toS) ((0 : Nat) : Int) = toS x := by simp [rd_T29]
    rcases List.eq_nil_or_concat L with rfl | ⟨L0, y, rfl⟩
    · refine Ev.step (f := fun k => copydesklaw09_LexerJoins.l0 k true ⟨S.toArray⟩ ⟨T.toArray⟩ ((x :: M).map toS) ([] ++ [toS (Lex.later S.length x)]) ((1 : Nat) : Int)) (fun k => ?_) (joins_rest S T (x :: M) _ hS hT hM (by omega) ht hW M.length 1 _ (by simp; omega) (by omega) (by simp [Lex.glue]))
      rw [copydesklaw09_LexerJoins.l0, if_pos (by simp), if_pos (by omega), if_pos (by rfl), if_neg (by simp), if_pos (by simp), hx, mk_size, wrap_succ _ (by omega), toS_later _ _ (by omega)]
      rfl
    · rw [List.concat_eq_append] at *
      have hg : Lex.glue (L0 ++ [y]) ((x :: M).map (Lex.later S.length)) = L0 ++ Lex.glue [y] ((x :: M).map (Lex.later S.length)) := by
        clear ht hW hL hsz
        induction L0 with
        | nil => rfl
        | cons z L0 ih =>
          cases L0 with
          | nil => rfl
          | cons z' L0 => show z :: Lex.glue (z' :: L0 ++ [y]) _ = _; rw [ih]; rfl
      have hlen : ((L0 ++ [y]).map toS).length = L0.length + 1 := by simp
      have hlast : wrap64 ((((L0 ++ [y]).map toS).length : Int) - 1) = (L0.length : Int) := by
        have hL1 : (L0 ++ [y]).length = L0.length + 1 := by simp
        rw [hlen, wrap_id _ (by omega) (by omega)]
        omega
      have hy : rd_T29 ((L0 ++ [y]).map toS) (L0.length : Int) = toS y := by rw [rd_at _ _ (by simp)]; simp
      have hL0 : L0.length < 4000 := by simp at hL; omega
      by_cases hk : x.1 = 1 ∧ y.1 = 1
      · have hgl : Lex.glue (L0 ++ [y]) ((x :: M).map (Lex.later S.length)) = L0 ++ (1, y.2.1 ++ x.2.1, y.2.2) :: M.map (Lex.later S.length) := by
          rw [hg]
          show L0 ++ (if y.1 = 1 ∧ x.1 = 1 then (1, y.2.1 ++ x.2.1, y.2.2) :: M.map (Lex.later S.length) else _) = _
          rw [if_pos ⟨hk.2, hk.1⟩]
        refine Ev.step (f := fun k => copydesklaw09_LexerJoins.l0 k true ⟨S.toArray⟩ ⟨T.toArray⟩ ((x :: M).map toS) ((L0 ++ [(1, y.2.1 ++ x.2.1, y.2.2)]).map toS) ((1 : Nat) : Int)) (fun k => ?_) (joins_rest S T (x :: M) _ hS hT hM (by omega) ht hW M.length 1 _ (by simp; omega) (by omega) (by rw [hgl]; simp))
        have h400 := hsz y (by simp)
        have h400' := hszM x (by simp)
        rw [copydesklaw09_LexerJoins.l0, if_pos (by simp), if_pos (by omega), if_pos (by rfl), if_pos (by rw [hlen]; omega), hx, if_pos (by simp [toS, hk.1]), hlast, if_pos (by omega), if_pos (by rw [hlen]; omega), hy, if_pos (by simp [toS, hk.2]), if_pos (by simp [toS, mk_size]; omega), wrap_succ _ (by omega)]
        congr 1
        simp only [Int.toNat_natCast, List.map_append, List.map_cons, List.map_nil]
        rw [List.set_append_right _ _ (by simp), List.length_map, Nat.sub_self, List.set_cons_zero]
        simp [toS, hk.2, mk_append]
      · have hgl : Lex.glue (L0 ++ [y]) ((x :: M).map (Lex.later S.length)) = L0 ++ [y] ++ (x :: M).map (Lex.later S.length) := by
          rw [hg]
          show L0 ++ (if y.1 = 1 ∧ x.1 = 1 then _ else y :: Lex.later S.length x :: M.map (Lex.later S.length)) = _
          rw [if_neg (fun h => hk ⟨h.2, h.1⟩)]
          simp
        refine Ev.step (f := fun k => copydesklaw09_LexerJoins.l0 k true ⟨S.toArray⟩ ⟨T.toArray⟩ ((x :: M).map toS) ((L0 ++ [y]).map toS ++ [toS (Lex.later S.length x)]) ((1 : Nat) : Int)) (fun k => ?_) (joins_rest S T (x :: M) _ hS hT hM (by omega) ht hW M.length 1 _ (by simp; omega) (by omega) (by rw [hgl]; simp))
        rw [copydesklaw09_LexerJoins.l0, if_pos (by simp), if_pos (by omega), if_pos (by rfl), if_pos (by rw [hlen]; omega), hx, hlast]
        by_cases hx1 : x.1 = 1
        · rw [if_pos (by simp [toS, hx1]), if_pos (by omega), if_pos (by rw [hlen]; omega), hy, if_neg (by simp only [toS]; omega), if_pos (by rw [hlen]; omega), mk_size, wrap_succ _ (by omega), toS_later _ _ (by omega)]
        · rw [if_neg (by simp only [toS]; omega), if_pos (by rw [hlen]; omega), mk_size, wrap_succ _ (by omega), toS_later _ _ (by omega)]
end

theorem Src_size {a : Nat} {s : Lex.Bs} {l : List Lex.Tok} (h : Lex.Src a s l) : ∀ x ∈ l, x.2.1.length ≤ s.length := by
  have hu : ∀ (n : Nat) (r : Lex.Bs), r.length ≤ n → (Lex.unesc r).length ≤ r.length := by
    intro n
    induction n with
    | zero => intro r h; have : r = [] := List.eq_nil_of_length_eq_zero (by omega); subst this; simp [Lex.unesc]
    | succ n ih =>
      intro r h
      match r with
      | [] => simp [Lex.unesc]
      | [c] => simp [Lex.unesc]
      | c :: d :: r =>
        simp only [Lex.unesc]
        split
        · have := ih r (by simp at h; omega); simp; omega
        · have := ih (d :: r) (by simp at h ⊢; omega); simp at this ⊢; omega
  have ht : ∀ {a : Nat} {s rest : Lex.Bs} {l : List Lex.Tok}, Lex.Tag a s l rest → ∀ x ∈ l, x.2.1.length ≤ s.length := by
    intro a s rest l h
    induction h with
    | blank _ _ ih => intro x hx; have := ih x hx; simp; omega
    | @tok a kd n c r tx l rest h h1 h2 h3 t ih =>
      intro x hx
      have hn : n ≤ (c :: r).length := by have := Lex.tokenL_le (c :: r); rw [h1] at this; exact this
      obtain ⟨_, _, hr, _⟩ := Lex.tokenL_raw h1 h2
      rcases List.mem_cons.1 hx with rfl | hx
      · have : tx.length ≤ (Lex.raw kd tx).length := by unfold Lex.raw; split <;> simp <;> omega
        simp only; omega
      · have := ih x hx; simp at this hn ⊢; omega
    | close => simp
  induction h with
  | nil => simp
  | @text a run rest l h h1 h2 h3 t ih =>
    intro x hx
    rcases List.mem_cons.1 hx with rfl | hx
    · have := hu run.length run (Nat.le_refl _); simp; omega
    · have := ih x hx; simp at this ⊢; omega
  | @tag a r rest l m h t u ih =>
    intro x hx
    have hlen := t.length
    rcases List.mem_cons.1 hx with rfl | hx
    · simp
    · rcases List.mem_append.1 hx with hx | hx
      · have := ht t x hx; simp at this ⊢; omega
      · have := ih x hx; simp at this ⊢; omega

theorem Tag_len' {a : Nat} {s rest : Lex.Bs} {l : List Lex.Tok} (h : Lex.Tag a s l rest) : l.length + rest.length ≤ s.length := by
  induction h with
  | blank _ _ ih => simp; omega
  | @tok a kd n c r tx l rest h h1 h2 h3 t ih => simp at ih ⊢; omega
  | close => simp; omega

theorem Src_len' {a : Nat} {s : Lex.Bs} {l : List Lex.Tok} (h : Lex.Src a s l) : l.length ≤ s.length := by
  induction h with
  | nil => simp
  | @text a run rest l h h1 h2 h3 t ih => have := List.length_pos_iff.2 h; simp at ih ⊢; omega
  | @tag a r rest l m h t u ih => have := Tag_len' t; simp at ih ⊢; omega

theorem LexerJoins : copydesklaw09_LexerJoins.Pure := by
  intro a0 a1 hs hs1
  refine Ev.rounds ?_
  unfold copydesklaw09_LexerJoins.f
  simp only [sane_ok, Option.bind_some]
  have hmn : mn (a0.size : Int) 400 = ((min a0.size 400 : Nat) : Int) := mn_nat a0.size 400
  have hmn1 : mn (a1.size : Int) 400 = ((min a1.size 400 : Nat) : Int) := mn_nat a1.size 400
  simp only [hmn, hmn1]
  have k1 : (0 : Int) ≤ ((min a0.size 400 : Nat) : Int) := by omega
  have k2 : ((min a0.size 400 : Nat) : Int) ≤ (a0.size : Int) := by omega
  have k3 : (0 : Int) ≤ ((min a1.size 400 : Nat) : Int) := by omega
  have k4 : ((min a1.size 400 : Nat) : Int) ≤ (a1.size : Int) := by omega
  obtain ⟨s, hS, hlen⟩ : ∃ s : Lex.Bs, a0.extract 0 ((min a0.size 400 : Nat) : Int).toNat = ⟨s.toArray⟩ ∧ s.length ≤ 400 := ⟨_, by rw [Int.toNat_natCast, extract_list], by simp; omega⟩
  obtain ⟨t, hT, hlen1⟩ : ∃ s : Lex.Bs, a1.extract 0 ((min a1.size 400 : Nat) : Int).toNat = ⟨s.toArray⟩ ∧ s.length ≤ 400 := ⟨_, by rw [Int.toNat_natCast, extract_list], by simp; omega⟩
  simp only [k1, k2, k3, k4, if_true, hS, hT, lexer_Tokens.f, Option.bind_some]
  by_cases h : (Lex.tokens s).2.2 = 0
  · obtain ⟨hsrc, _, _⟩ := Lex.src_tokens h
    have h0 : (((Lex.tokens s).2.2 : Nat) : Int) = 0 := by omega
    simp only [h0, if_true]
    by_cases h' : (Lex.tokens t).2.2 = 0
    · obtain ⟨hsrc', _, _⟩ := Lex.src_tokens h'
      have h0' : (((Lex.tokens t).2.2 : Nat) : Int) = 0 := by omega
      simp only [h0']
      have hl := Src_len' hsrc
      have hl' := Src_len' hsrc'
      refine Ev.step (f := fun k => copydesklaw09_LexerJoins.l0 k true ⟨s.toArray⟩ ⟨t.toArray⟩ ((Lex.tokens t).1.map toS) ((Lex.tokens s).1.map toS) ((0 : Nat) : Int)) (fun k => by
        rw [copydesklaw09_LexerJoins.j0, if_neg (by decide), if_pos (by simp; omega)]; rfl) ?_
      have hj := hsrc.glue (t := t) (by rw [Nat.zero_add]; have := hsrc'.later s.length; rw [Nat.zero_add] at this; exact this)
      have hjl := Src_len' hj
      refine joins_first s t _ hlen hlen1 (by omega) (fun x hx => by have := Src_at hsrc' x hx; omega) (by omega) (Lex.tokens_src hj (by simp; omega)) (by simp at hjl; omega) (fun x hx => by have := Src_size hsrc x hx; omega) (fun x hx => by have := Src_size hsrc' x hx; omega)
    · refine Ev.step (fun k => by rw [copydesklaw09_LexerJoins.j0, if_pos (bne_iff_ne.2 (by omega))]) (Ev.now true)
  · have h0 : ¬ (((Lex.tokens s).2.2 : Nat) : Int) = 0 := by omega
    simp only [h0, if_false]
    exact Ev.step (fun k => by rw [copydesklaw09_LexerJoins.j0, if_pos rfl]) (Ev.now true)

end Go.Proofs.YtbgnkoecfokmaaaDoor.Pure
