/- Two accepted sources one after the other: the tokens of both, where text that follows text becomes one token. -/
import Derived.Test.YtbgnkoecfokmaaaDoorLexRel
namespace Go.Proofs.YtbgnkoecfokmaaaDoor.Lex
open Go.Lib

/-- Later by d. -/
def later (d : Nat) (x : Tok) : Tok := (x.1, x.2.1, x.2.2 + d)

theorem Tag.later {a : Nat} {s rest : Bs} {l : List Tok} (h : Tag a s l rest) (d : Nat) : Tag (a + d) s (l.map (later d)) rest := by
  induction h with
  | @blank a c r l rest h t ih => exact .blank h (by rw [Nat.add_right_comm]; exact ih)
  | @tok a kd n c r tx l rest h h1 h2 h3 t ih =>
    exact .tok h h1 h2 h3 (by rw [Nat.add_right_comm]; exact ih)
  | close => exact .close

theorem Src.later {a : Nat} {s : Bs} {l : List Tok} (h : Src a s l) (d : Nat) : Src (a + d) s (l.map (Lex.later d)) := by
  induction h with
  | nil => exact .nil
  | @text a run rest l h h1 h2 h3 t ih => exact .text h h1 h2 h3 (by rw [Nat.add_right_comm]; exact ih)
  | @tag a r rest l m h t u ih =>
    rw [List.map_cons, List.map_append]
    exact .tag h (by rw [Nat.add_right_comm]; exact t.later d) (by rw [Nat.add_right_comm]; exact ih)

/-- Two lists of tokens, text that follows text made one token. -/
def glue : List Tok → List Tok → List Tok
  | [], m => m
  | x :: [], [] => [x]
  | x :: [], y :: m => if x.1 = 1 ∧ y.1 = 1 then (1, x.2.1 ++ y.2.1, x.2.2) :: m else x :: y :: m
  | x :: x' :: l, m => x :: glue (x' :: l) m

theorem glue_cons_ne (x : Tok) (hx : x.1 ≠ 1) (l m : List Tok) : glue (x :: l) m = x :: glue l m := by
  cases l with
  | nil =>
    cases m with
    | nil => rfl
    | cons y m => simp [glue, hx]
  | cons x' l => rfl

theorem glue_append (p l m : List Tok) (hp : ∀ x ∈ p, x.1 ≠ 1) : glue (p ++ l) m = p ++ glue l m := by
  induction p with
  | nil => rfl
  | cons x p ih => rw [List.cons_append, glue_cons_ne x (hp x (by simp)), ih (fun y hy => hp y (by simp [hy])), List.cons_append]

theorem Tag.no_text {a : Nat} {s rest : Bs} {l : List Tok} (h : Tag a s l rest) : ∀ x ∈ l, x.1 ≠ 1 := by
  induction h with
  | blank _ _ ih => exact ih
  | @tok a kd n c r tx l rest h h1 h2 h3 t ih =>
    intro x hx
    rcases List.mem_cons.1 hx with rfl | hx
    · obtain ⟨_, hkd, _⟩ := tokenL_raw h1 h2
      simp only
      rcases hkd with h | h | h | h | h <;> omega
    · exact ih x hx
  | close => simp

/-- A source either begins with text or with a tag, or is empty. -/
theorem textL_tag_append {r : Bs} (h : textL (123 :: r) = 0) (hr : r ≠ []) (t : Bs) : textL (123 :: r ++ t) = 0 := by
  cases r with
  | nil => exact absurd rfl hr
  | cons d r =>
    by_cases hd : d = 123
    · subst hd
      rw [textL_cons_two] at h
      omega
    · simp [textL, hd]

theorem Tag.ne_nil {a : Nat} {s rest : Bs} {l : List Tok} (h : Tag a s l rest) : s ≠ [] := by
  cases h <;> simp

theorem Src.glue {a : Nat} {s : Bs} {l : List Tok} (h : Src a s l) : ∀ {t : Bs} {m : List Tok}, Src (a + s.length) t m → Src a (s ++ t) (Lex.glue l m) := by
  induction h with
  | nil => intro t m h; simpa [Lex.glue] using h
  | @text a run rest l h h1 h2 h3 t ih =>
    intro t' m hm
    have hm' : Src (a + run.length + rest.length) t' m := by simpa [Nat.add_assoc] using hm
    have ih' := ih hm'
    rw [List.append_assoc]
    cases t with
    | nil =>
      rw [List.nil_append] at ih' ⊢
      cases hm with
      | nil =>
        exact .text h h1 h2 (by simp [textL]) .nil
      | @text _ run' rest' l' g g1 g2 g3 t'' =>
        show Src a _ (if (1 : Nat) = 1 ∧ (1 : Nat) = 1 then (1, unesc run ++ unesc run', a) :: l' else _)
        rw [if_pos ⟨rfl, rfl⟩, ← unesc_append _ _ _ (Nat.le_refl _) h1, ← List.append_assoc]
        refine .text (by simp [h]) (full_append h1 g1) (by rw [List.all_append, h2, g2]; rfl) g3 ?_
        simpa [Nat.add_assoc] using t''
      | @tag _ r rest' l' m' g t'' u =>
        show Src a _ (if (1 : Nat) = 1 ∧ (6 : Nat) = 1 then _ else _)
        rw [if_neg (by decide)]
        exact .text h h1 h2 g (by simpa using Src.tag g t'' u)
    | @text _ run' rest' l' g g1 g2 g3 t'' =>
      exfalso
      rw [textL_full_append _ _ _ (Nat.le_refl _) g1] at h3
      exact g (List.eq_nil_of_length_eq_zero (by omega))
    | @tag _ r rest' l' m' g t'' u =>
      show Src a _ ((1, unesc run, a) :: Lex.glue ((6, [123], a + run.length) :: (l' ++ m')) m)
      exact .text h h1 h2 (textL_tag_append g t''.ne_nil t') ih'
  | @tag a r rest l m1 h t u ih =>
    intro t' m hm
    have hlen := t.length
    rw [glue_cons_ne _ (show (6 : Nat) ≠ 1 by decide), glue_append _ _ _ t.no_text]
    refine Src.tag (textL_tag_append h t.ne_nil t') (t.append t') ?_
    have := ih (t := t') (m := m) (by
      refine (show a + (123 :: r).length = a + (r.length + 1 - rest.length) + rest.length from ?_) ▸ hm
      simp; omega)
    rw [show r.length + 1 - rest.length = (r ++ t').length + 1 - (rest ++ t').length by simp; omega] at this
    exact this

end Go.Proofs.YtbgnkoecfokmaaaDoor.Lex
