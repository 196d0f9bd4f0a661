/- A tag that is built from left to right: what stands so far, whatever fits behind it. -/
import Derived.Test.YtbgnkoecfokmaaaDoorLexGlue
namespace Go.Proofs.YtbgnkoecfokmaaaDoor.Lex
open Go.Lib

/-- What may stand behind a token of a kind: behind a name or a number no byte of a name. -/
def Bd (kd : Nat) (q : Bs) : Prop := kd = 2 ∨ kd = 3 → ∀ c r, q = c :: r → nameB c = false

/-- A begun tag: its text, its tokens, the kind of the last. -/
def Pre (a : Nat) (p : Bs) (l : List Tok) (last : Nat) : Prop :=
  ∀ (q : Bs) (l' : List Tok) (rest : Bs), Bd last q → Tag (a + p.length) q l' rest → Tag a (p ++ q) (l ++ l') rest

theorem Pre.nil (a : Nat) : Pre a [] [] 6 := fun _ _ _ _ h => h

/-- The text of a token of a kind, as words make it. -/
def Word (kd : Nat) (w : Bs) : Prop :=
  (kd = 2 ∧ (∃ r, w = 110 :: r) ∧ w.all nameB = true ∧ w.length ≤ 20) ∨
  (kd = 3 ∧ (∃ r, w = 55 :: r) ∧ w.all digitB = true ∧ w.length ≤ 6) ∨
  (kd = 4 ∧ w.all strB = true) ∨ (kd = 5 ∧ w = [124])

theorem digit_name {c : UInt8} (h : digitB c = true) : nameB c = true := by simp [nameB, h]

theorem tokenL_word {kd : Nat} {w : Bs} (h : Word kd w) (q : Bs) (hq : Bd kd q) : tokenL (raw kd w ++ q) = (kd, w, (raw kd w).length) ∧ raw kd w ≠ [] ∧ (∀ c r, raw kd w ++ q = c :: r → ¬ (c = 32 ∨ c = 10) ∧ (kd ≠ 2 → kd ≠ 3 → nameB c = false)) := by
  rcases h with ⟨rfl, ⟨r, rfl⟩, ha, hl⟩ | ⟨rfl, ⟨r, rfl⟩, ha, hl⟩ | ⟨rfl, ha⟩ | ⟨rfl, rfl⟩
  · have hs : spanL nameB (110 :: r ++ q) = (110 :: r).length := spanL_of ha (fun c r' e => hq (.inl rfl) c r' e)
    have hr : raw 2 (110 :: r) = 110 :: r := rfl
    rw [hr]
    refine ⟨?_, by simp, fun c r' e => ?_⟩
    · show tokenL (110 :: (r ++ q)) = _
      rw [tokenL, if_pos (by decide)]
      rw [List.cons_append] at hs
      rw [if_pos (by rw [hs]; exact hl), hs]
      simp
    · rw [List.cons_append] at e
      obtain ⟨rfl, _⟩ := List.cons.inj e
      exact ⟨by decide, fun h => absurd rfl h⟩
  · have hs : spanL digitB (55 :: r ++ q) = (55 :: r).length := spanL_of ha (fun c r' e => by
      have := hq (.inr rfl) c r' e
      cases hd : digitB c with
      | false => rfl
      | true => rw [digit_name hd] at this; exact this)
    have hr : raw 3 (55 :: r) = 55 :: r := rfl
    rw [hr]
    refine ⟨?_, by simp, fun c r' e => ?_⟩
    · show tokenL (55 :: (r ++ q)) = _
      rw [tokenL, if_neg (by decide), if_pos (by decide)]
      rw [List.cons_append] at hs
      rw [if_pos (.inr ⟨by rw [hs]; exact hl, by decide⟩), hs]
      simp
    · rw [List.cons_append] at e
      obtain ⟨rfl, _⟩ := List.cons.inj e
      exact ⟨by decide, fun _ h => absurd rfl h⟩
  · have hr : raw 4 w = 34 :: w ++ [34] := rfl
    have hs : spanL strB (w ++ 34 :: q) = w.length := spanL_of ha (fun c r' e => by obtain ⟨rfl, _⟩ := List.cons.inj e; rfl)
    rw [hr]
    refine ⟨?_, by simp, fun c r' e => ?_⟩
    · show tokenL (34 :: w ++ [34] ++ q) = _
      rw [show 34 :: w ++ [34] ++ q = 34 :: (w ++ 34 :: q) by simp]
      rw [tokenL, if_neg (by decide), if_neg (by decide), if_pos rfl, hs]
      rw [if_pos (by simp)]
      simp
    · rw [show 34 :: w ++ [34] ++ q = 34 :: (w ++ 34 :: q) by simp] at e
      obtain ⟨rfl, _⟩ := List.cons.inj e
      exact ⟨by decide, fun _ _ => rfl⟩
  · have hr : raw 5 [124] = [124] := rfl
    rw [hr]
    refine ⟨rfl, by simp, fun c r' e => ?_⟩
    rw [List.cons_append] at e
    obtain ⟨rfl, _⟩ := List.cons.inj e
    exact ⟨by decide, fun _ _ => rfl⟩

def blankB (c : UInt8) : Bool := c == 32 || c == 10
theorem blank_not_name {c : UInt8} (h : blankB c = true) : nameB c = false := by
  simp only [blankB, Bool.or_eq_true, beq_iff_eq] at h
  rcases h with rfl | rfl <;> rfl

theorem Tag.blanks {g : Bs} (h : g.all blankB = true) : ∀ {a : Nat} {q : Bs} {l : List Tok} {rest : Bs}, Tag (a + g.length) q l rest → Tag a (g ++ q) l rest := by
  induction g with
  | nil => intro a q l rest t; exact t
  | cons c g ih =>
    intro a q l rest t
    simp only [List.all_cons, Bool.and_eq_true] at h
    refine .blank (by simpa [blankB] using h.1) (ih h.2 ?_)
    rw [show a + 1 + g.length = a + (c :: g).length by simp; omega]
    exact t

theorem Bd_blanks {kd : Nat} {g q : Bs} (h : g.all blankB = true) (hq : g = [] → Bd kd q) : Bd kd (g ++ q) := by
  cases g with
  | nil => exact hq rfl
  | cons c g =>
    intro _ c' r e
    rw [List.cons_append] at e
    obtain ⟨rfl, _⟩ := List.cons.inj e
    simp only [List.all_cons, Bool.and_eq_true] at h
    exact blank_not_name h.1

theorem Pre.step {a : Nat} {p : Bs} {l : List Tok} {last kd : Nat} {g w : Bs} (h : Pre a p l last) (hg : g.all blankB = true) (hw : Word kd w) (ht : (last = 2 ∨ last = 3) → (kd = 2 ∨ kd = 3) → g ≠ []) :
    Pre a (p ++ g ++ raw kd w) (l ++ [(kd, w, a + (p ++ g).length)]) kd := by
  intro q l' rest hq t
  obtain ⟨h1, h2, h3⟩ := tokenL_word hw q hq
  have : p ++ g ++ raw kd w ++ q = p ++ (g ++ (raw kd w ++ q)) := by simp
  rw [this, List.append_assoc]
  refine h _ _ _ (Bd_blanks hg fun e => ?_) (Tag.blanks hg ?_)
  · intro hl c r e'
    refine (h3 c r e').2 (fun e2 => ht hl (.inl e2) e) (fun e2 => ht hl (.inr e2) e)
  · obtain ⟨c, r, e⟩ : ∃ c r, raw kd w ++ q = c :: r := by
      cases hr : raw kd w with
      | nil => exact absurd hr h2
      | cons c r => exact ⟨c, r ++ q, rfl⟩
    have hkd : kd ≠ 7 := by rcases hw with ⟨h, _⟩ | ⟨h, _⟩ | ⟨h, _⟩ | ⟨h, _⟩ <;> omega
    have hdrop : (c :: r).drop (raw kd w).length = q := by rw [← e]; simp
    have t' : Tag (a + p.length + g.length + (raw kd w).length) ((c :: r).drop (raw kd w).length) l' rest := by
      rw [hdrop]
      simpa [Nat.add_assoc] using t
    have h1' := h1
    rw [e] at h1' ⊢
    have := Tag.tok (h3 c r e).1 h1' (by intro e2; exact h2 (List.eq_nil_of_length_eq_zero e2)) hkd t'
    simpa [Nat.add_assoc] using this

/-- The tag is closed. -/
theorem Pre.close {a : Nat} {p : Bs} {l : List Tok} {last : Nat} {g : Bs} (h : Pre a p l last) (hg : g.all blankB = true) (rest : Bs) :
    Tag a (p ++ g ++ 125 :: rest) (l ++ [(7, [125], a + (p ++ g).length)]) rest := by
  rw [List.append_assoc]
  refine h _ _ _ (Bd_blanks hg fun _ => ?_) (Tag.blanks hg ?_)
  · intro _ c r e
    obtain ⟨rfl, _⟩ := List.cons.inj e
    rfl
  · have := Tag.close (a := a + p.length + g.length) (r := rest)
    simpa [Nat.add_assoc] using this

theorem Tag.no_brace {a : Nat} {r rest : Bs} {l : List Tok} : ¬ Tag a (123 :: r) l rest := by
  intro h
  generalize hs : 123 :: r = s at h
  cases h with
  | blank h _ => obtain ⟨rfl, _⟩ := List.cons.inj hs; revert h; decide
  | tok h h1 h2 h3 t =>
    obtain ⟨rfl, _⟩ := List.cons.inj hs
    exact h2 (by have := congrArg (fun x => x.2.2) h1; exact this.symm)
  | close => cases hs

theorem textL_of_tag {a : Nat} {r rest : Bs} {l : List Tok} (h : Tag a r l rest) : textL (123 :: r) = 0 := by
  cases r with
  | nil => exact absurd rfl h.ne_nil
  | cons d r =>
    by_cases hd : d = 123
    · subst hd; exact absurd h Tag.no_brace
    · simp [textL, hd]

end Go.Proofs.YtbgnkoecfokmaaaDoor.Lex
