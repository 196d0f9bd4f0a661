/- LexerOffsets: offsets ascend, each token of a tag stands at its offset, tags alternate, and between the tokens of a tag there are only spaces and newlines; for every string. -/
import Derived.Test.YtbgnkoecfokmaaaDoorPXx4
import Derived.Test.YtbgnkoecfokmaaaDoorLawText
namespace Go.Proofs.YtbgnkoecfokmaaaDoor.Pure
open Go.RowKit Go.Proofs.YtbgnkoecfokmaaaDoor.PX Go.Proofs.YtbgnkoecfokmaaaDoorW.PrintWords Go.Proofs.YtbgnkoecfokmaaaDoorW.PrintLast Go.Proofs.YtbgnkoecfokmaaaDoorW.PrintMore Go.Proofs.YtbgnkoecfokmaaaDoor.Br

theorem rd_toks (L0 : List Lex.Tok) (x : Lex.Tok) (l : List Lex.Tok) : rd_T29 ((L0 ++ x :: l).map toS) (L0.length : Int) = toS x := by
  simp [rd_T29]

theorem bt_mk (pre : Lex.Bs) (c : UInt8) (r : Lex.Bs) : bt ⟨(pre ++ c :: r).toArray⟩ (pre.length : Int) = (c.toNat : Int) := by
  rw [bt_nat _ _ (by rw [mk_size]; simp)]
  simp

/-- How a token stands in the source. -/
def shown (kd : Nat) (tx : Lex.Bs) : Lex.Bs := if kd = 1 then Lex.esc tx else Lex.raw kd tx

section
variable (pre bl w s' : Lex.Bs) (L0 l : List Lex.Tok) (kd : Nat) (tx : Lex.Bs) (ins : Bool)

theorem off_blanks (hS : (pre ++ bl ++ w ++ s').length ≤ 1000) (hb : bl.all (fun c => c == 32 || c == 10) = true) (hi : bl ≠ [] → ins = true) {LL : List S29} {i : Int}
    (h : Ev (fun k => copydesklaw09_LexerOffsets.l1 k true ⟨(pre ++ bl ++ w ++ s').toArray⟩ LL ins i ((pre ++ bl).length : Int) (kd : Nat) ⟨tx.toArray⟩ ((pre ++ bl).length : Int)) true) :
    ∀ (b2 b1 : Lex.Bs), bl = b1 ++ b2 → Ev (fun k => copydesklaw09_LexerOffsets.l1 k true ⟨(pre ++ bl ++ w ++ s').toArray⟩ LL ins i ((pre ++ b1).length : Int) (kd : Nat) ⟨tx.toArray⟩ ((pre ++ bl).length : Int)) true := by
  intro b2
  induction b2 with
  | nil => intro b1 e; rw [List.append_nil] at e; subst e; exact h
  | cons c b2 ih =>
    intro b1 e
    have hins : ins = true := hi (by rw [e]; simp)
    have hc : c = 32 ∨ c = 10 := by
      rw [e] at hb
      simp at hb
      exact hb.2.1
    have hbt : bt ⟨(pre ++ bl ++ w ++ s').toArray⟩ ((pre ++ b1).length : Int) = (c.toNat : Int) := by
      rw [e, show pre ++ (b1 ++ c :: b2) ++ w ++ s' = (pre ++ b1) ++ c :: (b2 ++ w ++ s') by simp]
      exact bt_mk _ _ _
    have hlen : (pre ++ bl).length = (pre ++ b1).length + 1 + b2.length := by rw [e]; simp; omega
    have hlt : (pre ++ b1).length < 1000 := by simp at hS hlen ⊢; omega
    have hsz : (⟨(pre ++ bl ++ w ++ s').toArray⟩ : ByteArray).size = (pre ++ bl).length + w.length + s'.length := by rw [mk_size]; simp; omega
    refine Ev.step (f := fun k => copydesklaw09_LexerOffsets.l1 k true ⟨(pre ++ bl ++ w ++ s').toArray⟩ LL ins i ((pre ++ (b1 ++ [c])).length : Int) (kd : Nat) ⟨tx.toArray⟩ ((pre ++ bl).length : Int)) (fun k => ?_) (ih (b1 ++ [c]) (by simp [e]))
    rw [copydesklaw09_LexerOffsets.l1, if_pos (by omega), if_pos hins, if_pos (by omega), if_pos (by rw [hsz]; omega), hbt, wrap_succ _ (by omega)]
    have e2 : (pre ++ (b1 ++ [c])).length = (pre ++ b1).length + 1 := by simp; omega
    rw [e2]
    rcases hc with rfl | rfl
    · rw [if_pos (by rfl)]
    · rw [if_neg (by decide), if_pos (by rfl)]

theorem off_tok (hS : (pre ++ bl ++ w ++ s').length ≤ 1000) (hb : bl.all (fun c => c == 32 || c == 10) = true) (hi : bl ≠ [] → ins = true)
    (hw : w = shown kd tx) (hw0 : w ≠ []) (hkd : if kd = 1 ∨ kd = 6 then ins = false else ins = true)
    (h : Ev (fun k => copydesklaw09_LexerOffsets.l0 k true ⟨(pre ++ bl ++ w ++ s').toArray⟩ ((L0 ++ (kd, tx, (pre ++ bl).length) :: l).map toS) ((pre ++ bl ++ w).length : Int) (decide (kd ≠ 1 ∧ kd ≠ 7)) ((L0.length + 1 : Nat) : Int)) true) (hL : L0.length < 2000) (htx : 2 * tx.length < 140737488355328) :
    Ev (fun k => copydesklaw09_LexerOffsets.l0 k true ⟨(pre ++ bl ++ w ++ s').toArray⟩ ((L0 ++ (kd, tx, (pre ++ bl).length) :: l).map toS) (pre.length : Int) ins (L0.length : Int)) true := by
  have hsz : (⟨(pre ++ bl ++ w ++ s').toArray⟩ : ByteArray).size = (pre ++ bl).length + w.length + s'.length := by rw [mk_size]; simp; omega
  have hwl : 0 < w.length := List.length_pos_iff.2 hw0
  have hpl : pre.length ≤ (pre ++ bl).length := by simp
  have hN : (pre ++ bl).length + w.length + s'.length ≤ 1000 := by rw [mk_size] at hsz; omega
  have hex : ((⟨(pre ++ bl ++ w ++ s').toArray⟩ : ByteArray).extract (pre ++ bl).length ((pre ++ bl).length + w.length)).toList = w := by
    rw [extract_list, mk_toList', mk_toList, show pre ++ bl ++ w ++ s' = (pre ++ bl) ++ (w ++ s') by simp, List.drop_left, Nat.add_sub_cancel_left, List.take_left]
  have hwr : wrap64 (((pre ++ bl).length : Int) + (w.length : Int)) = ((pre ++ bl ++ w).length : Int) := by
    rw [wrap_id _ (by omega) (by omega)]
    simp; omega
  have hwN : ((pre ++ bl ++ w).length : Int) = (pre ++ bl).length + w.length := by simp; omega
  have hto : ((pre ++ bl ++ w).length : Int).toNat = (pre ++ bl).length + w.length := by rw [Int.toNat_natCast]; simp; omega
  have hwm : wrap64 (((⟨(pre ++ bl ++ w ++ s').toArray⟩ : ByteArray).size : Int) - ((pre ++ bl).length : Int)) = ((w.length + s'.length : Nat) : Int) := by
    rw [hsz, wrap_id _ (by omega) (by omega)]
    omega
  have hll : (L0.length : Int) < (((L0 ++ (kd, tx, (pre ++ bl).length) :: l).map toS).length : Int) := by simp; omega
  refine Ev.step (f := fun k => copydesklaw09_LexerOffsets.j1 k true ⟨(pre ++ bl ++ w ++ s').toArray⟩ ((L0 ++ (kd, tx, (pre ++ bl).length) :: l).map toS) (pre.length : Int) ins (L0.length : Int) false (kd : Nat) ⟨tx.toArray⟩ ((pre ++ bl).length : Int)) (fun k => ?_) ?_
  · rw [copydesklaw09_LexerOffsets.l0, if_pos hll, if_pos (by omega), rd_toks]
    rw [if_neg (by simp only [toS]; omega), decide_eq_false (by simp only [toS]; rw [hsz]; omega)]
    rfl
  refine Ev.step (fun k => by rw [copydesklaw09_LexerOffsets.j1, if_neg (by decide)]) ?_
  refine (off_blanks pre bl w s' kd tx ins hS hb hi ?_ bl [] rfl : Ev (fun k => copydesklaw09_LexerOffsets.l1 k true ⟨(pre ++ bl ++ w ++ s').toArray⟩ ((L0 ++ (kd, tx, (pre ++ bl).length) :: l).map toS) ins (L0.length : Int) ((pre ++ []).length : Int) (kd : Nat) ⟨tx.toArray⟩ ((pre ++ bl).length : Int)) true) |> fun h => by rw [List.append_nil] at h; exact h
  by_cases h1 : kd = 1
  · subst h1
    have hins : ins = false := hkd
    subst hins
    have hw' : w = Lex.esc tx := hw
    refine Ev.step (f := fun k => (copydesklaw09_escaped.f k ⟨tx.toArray⟩).bind fun t189 => _) (fun k => by rw [copydesklaw09_LexerOffsets.l1, if_neg (by omega), if_pos (by rfl)]) ?_
    refine Ev.bind (f := fun k t189 => _) (by have := escaped_ev ⟨tx.toArray⟩ (by rw [mk_size]; exact htx); rw [mk_toList] at this; exact this) ?_
    rw [← hw']
    refine Ev.congr (fun k => ?_) h
    rw [if_neg (by decide), hwm, mk_size w, if_neg (by omega), if_pos (by omega), hwr, if_pos (by omega), if_pos (by rw [hsz]; omega), hto, Int.toNat_natCast, hex, if_pos (mk_toList' w).symm, wrap_succ _ (by omega)]
    rfl
  · have hne : ¬ ((kd : Nat) : Int) = 1 := by omega
    by_cases h4 : kd = 4
    · subst h4
      have hins : ins = true := hkd
      subst hins
      have hw' : w = 34 :: tx ++ [34] := hw
      have hq : ((⟨#[34]⟩ : ByteArray) ++ ⟨tx.toArray⟩) ++ (⟨#[34]⟩ : ByteArray) = ⟨w.toArray⟩ := by
        rw [hw', show (⟨#[34]⟩ : ByteArray) = ⟨[(34 : UInt8)].toArray⟩ from rfl, mk_append, mk_append]
        rfl
      have hwlen : w.length = tx.length + 2 := by rw [hw']; simp
      have hq2 : (1 + ((⟨tx.toArray⟩ : ByteArray).size : Int) + 1) = (w.length : Int) := by rw [mk_size, hwlen]; omega
      refine Ev.step (fun k => ?_) h
      rw [copydesklaw09_LexerOffsets.l1, if_neg (by omega), if_neg (by decide), if_pos (by rfl), if_pos (by rw [mk_size]; omega), if_pos (by rw [mk_size]; omega), hq2, hq, if_neg (by decide), hwm, if_neg (by omega), if_pos (by omega), hwr, if_pos (by omega), if_pos (by rw [hsz]; omega), hto, Int.toNat_natCast, hex, if_pos (mk_toList' w).symm, wrap_succ _ (by omega)]
      rfl
    · have hne4 : ¬ ((kd : Nat) : Int) = 4 := by omega
      have hw' : w = tx := by rw [hw, shown, if_neg h1, Lex.raw, if_neg h4]
      subst hw'
      have hins : ¬ ((((kd : Nat) : Int) == 6) == ins) = true := by
        by_cases h6 : kd = 6
        · subst h6
          have : ins = false := hkd
          subst this
          decide
        · rw [if_neg (by omega)] at hkd
          subst hkd
          rw [beq_eq_false_iff_ne.2 (show ((kd : Nat) : Int) ≠ 6 by omega)]
          decide
      have h7 : (((kd : Nat) : Int) != 7) = decide (kd ≠ 1 ∧ kd ≠ 7) := by
        by_cases h : kd = 7
        · subst h; rfl
        · rw [decide_eq_true ⟨h1, h⟩]
          exact bne_iff_ne.2 (by omega)
      refine Ev.step (fun k => ?_) h
      rw [copydesklaw09_LexerOffsets.l1, if_neg (by omega), if_neg hne, if_neg hne4, if_neg hins, hwm, mk_size w, if_neg (by omega), if_pos (by omega), hwr, if_pos (by omega), if_pos (by rw [hsz]; omega), hto, Int.toNat_natCast, hex, if_pos (mk_toList' w).symm, wrap_succ _ (by omega), h7]
end

theorem Tag_len {a : Nat} {s rest : Lex.Bs} {l : List Lex.Tok} (h : Lex.Tag a s l rest) : l.length + rest.length ≤ s.length := by
  induction h with
  | blank _ _ ih => simp; omega
  | @tok a kd n c r tx l rest h h1 h2 h3 t ih => simp at ih ⊢; omega
  | close => simp; omega

theorem Src_len {a : Nat} {s : Lex.Bs} {l : List Lex.Tok} (h : Lex.Src a s l) : l.length ≤ s.length := by
  induction h with
  | nil => simp
  | @text a run rest l h h1 h2 h3 t ih => have := List.length_pos_iff.2 h; simp at ih ⊢; omega
  | @tag a r rest l m h t u ih => have := Tag_len t; simp at ih ⊢; omega

theorem off_tag {a : Nat} {s rest : Lex.Bs} {l : List Lex.Tok} (h : Lex.Tag a s l rest) : ∀ (pre bl : Lex.Bs) (L0 m : List Lex.Tok), (pre ++ bl ++ s).length ≤ 1000 → a = (pre ++ bl).length → bl.all (fun c => c == 32 || c == 10) = true → L0.length + l.length ≤ 1002 →
    (∀ pre', pre' ++ rest = pre ++ bl ++ s → Ev (fun k => copydesklaw09_LexerOffsets.l0 k true ⟨(pre ++ bl ++ s).toArray⟩ ((L0 ++ l ++ m).map toS) (pre'.length : Int) false ((L0.length + l.length : Nat) : Int)) true) →
    Ev (fun k => copydesklaw09_LexerOffsets.l0 k true ⟨(pre ++ bl ++ s).toArray⟩ ((L0 ++ l ++ m).map toS) (pre.length : Int) true (L0.length : Int)) true := by
  induction h with
  | @blank a c r l rest h t ih =>
    intro pre bl L0 m hS ha hb hl hk
    have e : pre ++ bl ++ c :: r = pre ++ (bl ++ [c]) ++ r := by simp
    rw [e] at hk hS ⊢
    refine ih pre (bl ++ [c]) L0 m hS (by simp [ha]; omega) ?_ hl hk
    rw [List.all_append, hb]
    rcases h with rfl | rfl <;> rfl
  | @tok a kd n c r tx l rest h h1 h2 h3 t ih =>
    intro pre bl L0 m hS ha hb hl hk
    obtain ⟨hr, hkd, hn, -⟩ := Lex.tokenL_raw h1 h2
    have e : pre ++ bl ++ c :: r = pre ++ bl ++ Lex.raw kd tx ++ (c :: r).drop n := by rw [← hr, List.append_assoc (pre ++ bl), List.take_append_drop]
    have e2 : L0 ++ (kd, tx, a) :: l ++ m = L0 ++ (kd, tx, (pre ++ bl).length) :: (l ++ m) := by rw [ha]; simp
    rw [e, e2]
    rw [e] at hS hk
    have hne1 : kd ≠ 1 := by rcases hkd with h | h | h | h | h <;> omega
    have htx : tx.length ≤ 1000 := by
      have : tx.length ≤ (Lex.raw kd tx).length := by unfold Lex.raw; split <;> simp <;> omega
      simp at hS; omega
    refine off_tok pre bl (Lex.raw kd tx) ((c :: r).drop n) L0 (l ++ m) kd tx true hS hb (fun _ => rfl) (by rw [shown, if_neg hne1]) (fun e => h2 (by rw [hn, e]; rfl)) (by rw [if_neg (by rcases hkd with h | h | h | h | h <;> omega)]) ?_ (by simp at hl; omega) (by omega)
    rw [decide_eq_true ⟨hne1, h3⟩]
    have := ih (pre ++ bl ++ Lex.raw kd tx) [] (L0 ++ [(kd, tx, a)]) m (by simpa using hS) (by simp [ha, hn]; omega) rfl (by simp at hl ⊢; omega) ?_
    · simpa [ha] using this
    · intro pre' hp
      have := hk pre' (by simpa using hp)
      simpa [Nat.add_comm, Nat.add_left_comm, Nat.add_assoc, ha] using this
  | @close a r =>
    intro pre bl L0 m hS ha hb hl hk
    have e : pre ++ bl ++ 125 :: r = pre ++ bl ++ [125] ++ r := by simp
    have e2 : L0 ++ [(7, [125], a)] ++ m = L0 ++ (7, [125], (pre ++ bl).length) :: m := by rw [ha]; simp
    rw [e2]
    rw [e2] at hk
    rw [e] at hS hk ⊢
    refine off_tok pre bl [125] r L0 m 7 [125] true hS hb (fun _ => rfl) rfl (by simp) rfl ?_ (by simp at hl; omega) (by simp)
    exact hk (pre ++ bl ++ [125]) rfl

theorem off_src {a : Nat} {s : Lex.Bs} {l : List Lex.Tok} (h : Lex.Src a s l) : ∀ (pre : Lex.Bs) (L0 : List Lex.Tok), (pre ++ s).length ≤ 1000 → a = pre.length → L0.length + l.length ≤ 1001 →
    Ev (fun k => copydesklaw09_LexerOffsets.l0 k true ⟨(pre ++ s).toArray⟩ ((L0 ++ l).map toS) (pre.length : Int) false (L0.length : Int)) true := by
  induction h with
  | nil =>
    intro pre L0 hS ha hl
    refine Ev.step (fun k => ?_) (Ev.now true)
    rw [copydesklaw09_LexerOffsets.l0, if_neg (by simp), if_pos rfl, if_neg (by decide), mk_size]
    simp
  | @text a run rest l h h1 h2 h3 t ih =>
    intro pre L0 hS ha hl
    have hrun := Lex.esc_unesc run.length run (Nat.le_refl _) h1
    have htx : (Lex.unesc run).length ≤ 1000 := by
      have h1 : (Lex.unesc run).length ≤ (Lex.esc (Lex.unesc run)).length := by
        generalize Lex.unesc run = b
        induction b with
        | nil => simp
        | cons c b ih => simp only [Lex.esc]; split <;> simp <;> omega
      rw [hrun] at h1
      simp at hS; omega
    have := off_tok pre [] run rest L0 l 1 (Lex.unesc run) false (by simpa using hS) rfl (fun h => absurd rfl h) (by rw [shown, if_pos rfl, hrun]) h rfl ?_ (by simp at hl; omega) (by omega)
    · simpa [ha] using this
    · have := ih (pre ++ run) (L0 ++ [(1, Lex.unesc run, a)]) (by simpa using hS) (by simp [ha]) (by simp at hl ⊢; omega)
      simpa [ha] using this
  | @tag a r rest l m h t u ih =>
    intro pre L0 hS ha hl
    have := off_tok pre [] [123] r L0 (l ++ m) 6 [123] false (by simpa using hS) rfl (fun h => absurd rfl h) rfl (by simp) rfl ?_ (by simp at hl; omega) (by simp)
    · simpa [ha] using this
    · have := off_tag t (pre ++ [123]) [] (L0 ++ [(6, [123], a)]) m (by simpa using hS) (by simp [ha]) rfl (by simp at hl ⊢; omega) ?_
      · simpa [ha] using this
      · intro pre' hp
        have hlen := congrArg List.length hp
        have hlt := t.length
        have hp' : pre' ++ rest = pre ++ 123 :: r := by simpa using hp
        have := ih pre' (L0 ++ (6, [123], a) :: l) (by rw [hp']; exact hS) (by simp at hlen; omega) (by simp at hl ⊢; omega)
        rw [hp'] at this
        simpa [Nat.add_comm, Nat.add_left_comm, Nat.add_assoc] using this

theorem tokens_err {s : Lex.Bs} (h : (Lex.tokens s).2.2 ≠ 0) : (Lex.tokens s).1 = [] := by
  unfold Lex.tokens at h ⊢
  split
  · rfl
  · rename_i h1
    rw [if_neg h1] at h
    split
    · rfl
    · rename_i h2
      rw [h2] at h
      exact absurd rfl h

theorem LexerOffsets : copydesklaw09_LexerOffsets.Pure := by
  intro a0 hs
  refine Ev.rounds ?_
  unfold copydesklaw09_LexerOffsets.f
  simp only [sane_ok, Option.bind_some]
  have hmn : mn (a0.size : Int) 1000 = ((min a0.size 1000 : Nat) : Int) := mn_nat a0.size 1000
  simp only [hmn]
  have h1 : (0 : Int) ≤ ((min a0.size 1000 : Nat) : Int) := by omega
  have h2 : ((min a0.size 1000 : Nat) : Int) ≤ (a0.size : Int) := by omega
  obtain ⟨s, hS, hlen⟩ : ∃ s : Lex.Bs, a0.extract 0 ((min a0.size 1000 : Nat) : Int).toNat = ⟨s.toArray⟩ ∧ s.length ≤ 1000 := ⟨_, by rw [Int.toNat_natCast, extract_list], by simp; omega⟩
  simp only [h1, h2, if_true, hS, lexer_Tokens.f, Option.bind_some]
  by_cases h : (Lex.tokens s).2.2 = 0
  · obtain ⟨hsrc, _, _⟩ := Lex.src_tokens h
    have := off_src hsrc [] [] (by simpa using hlen) rfl (by have := Src_len hsrc; simp; omega)
    have h0 : (((Lex.tokens s).2.2 : Nat) : Int) = 0 := by omega
    simp only [h0, if_true]
    simpa using this
  · have h0 : ¬ (((Lex.tokens s).2.2 : Nat) : Int) = 0 := by omega
    simp only [h0, if_false, tokens_err h]
    exact Ev.now true

end Go.Proofs.YtbgnkoecfokmaaaDoor.Pure
