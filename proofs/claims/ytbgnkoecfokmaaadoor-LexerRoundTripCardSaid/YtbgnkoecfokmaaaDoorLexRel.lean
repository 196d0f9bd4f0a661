/- Which sources are accepted, with their tokens: a relation without a bound on steps, and that the scan gives just it. -/
import Derived.Test.YtbgnkoecfokmaaaDoorLexSpec
namespace Go.Proofs.YtbgnkoecfokmaaaDoor.Lex
open Go.Lib

/-! ### literal text -/
/-- All of it is literal text. -/
def Full (r : Bs) : Prop := textL r = r.length

theorem textL_cons_ne (c : UInt8) (r : Bs) (h : c ≠ 123) : textL (c :: r) = textL r + 1 := by
  cases r with
  | nil => simp [textL, h]
  | cons d r => simp [textL, h]
theorem textL_cons_two (r : Bs) : textL (123 :: 123 :: r) = textL r + 2 := by simp [textL]

theorem full_nil : Full [] := rfl
theorem full_cases {r : Bs} (h : Full r) : r = [] ∨ (∃ c r', r = c :: r' ∧ c ≠ 123 ∧ Full r') ∨ (∃ r', r = 123 :: 123 :: r' ∧ Full r') := by
  unfold Full at *
  match r, h with
  | [], _ => exact .inl rfl
  | [c], h =>
    by_cases hc : c = 123
    · subst hc; simp [textL] at h
    · exact .inr (.inl ⟨c, [], rfl, hc, rfl⟩)
  | c :: d :: r, h =>
    by_cases hc : c = 123
    · subst hc
      by_cases hd : d = 123
      · subst hd
        rw [textL_cons_two] at h
        exact .inr (.inr ⟨r, rfl, by simpa using h⟩)
      · simp [textL, hd] at h
    · rw [textL_cons_ne _ _ hc] at h
      exact .inr (.inl ⟨c, d :: r, rfl, hc, by simpa using h⟩)

theorem textL_full_append : ∀ (n : Nat) (r t : Bs), r.length ≤ n → Full r → textL (r ++ t) = r.length + textL t := by
  intro n
  induction n with
  | zero =>
    intro r t hn h
    obtain rfl : r = [] := List.eq_nil_of_length_eq_zero (by omega)
    simp
  | succ n ih =>
    intro r t hn h
    rcases full_cases h with rfl | ⟨c, r', rfl, hc, h'⟩ | ⟨r', rfl, h'⟩
    · simp
    · rw [List.cons_append, textL_cons_ne _ _ hc, ih r' t (by simpa using hn) h']
      simp; omega
    · rw [List.cons_append, List.cons_append, textL_cons_two, ih r' t (by simp at hn; omega) h']
      simp; omega

theorem unesc_append : ∀ (n : Nat) (r t : Bs), r.length ≤ n → Full r → unesc (r ++ t) = unesc r ++ unesc t := by
  intro n
  induction n with
  | zero =>
    intro r t hn h
    obtain rfl : r = [] := List.eq_nil_of_length_eq_zero (by omega)
    simp [unesc]
  | succ n ih =>
    intro r t hn h
    rcases full_cases h with rfl | ⟨c, r', rfl, hc, h'⟩ | ⟨r', rfl, h'⟩
    · simp [unesc]
    · have e : ∀ u : Bs, unesc (c :: u) = c :: unesc u := fun u => by
        cases u with
        | nil => simp [unesc]
        | cons d u => simp [unesc, hc]
      rw [List.cons_append, e, e, ih r' t (by simpa using hn) h']
      rfl
    · have e : ∀ u : Bs, unesc (123 :: 123 :: u) = 123 :: unesc u := fun u => by simp [unesc]
      rw [List.cons_append, List.cons_append, e, e, ih r' t (by simp at hn; omega) h']
      rfl

theorem full_append {r t : Bs} (h : Full r) (h' : Full t) : Full (r ++ t) := by
  unfold Full at *
  rw [textL_full_append r.length r t (Nat.le_refl _) h, h', List.length_append]

theorem full_take : ∀ (n : Nat) (s : Bs), s.length ≤ n → Full (s.take (textL s)) := by
  intro n
  induction n with
  | zero =>
    intro s hn
    obtain rfl : s = [] := List.eq_nil_of_length_eq_zero (by omega)
    rfl
  | succ n ih =>
    intro s hn
    match s, hn with
    | [], _ => rfl
    | [c], _ =>
      by_cases hc : c = 123
      · subst hc; rfl
      · simp [textL, hc, Full]
    | c :: d :: r, hn =>
      by_cases hc : c = 123
      · subst hc
        by_cases hd : d = 123
        · subst hd
          rw [textL_cons_two]
          have := ih r (by simp at hn; omega)
          unfold Full at *
          simp only [List.take_succ_cons, textL_cons_two, List.length_cons, this]
        · simp [textL, hd, Full]
      · rw [textL_cons_ne _ _ hc]
        have := ih (d :: r) (by simpa using hn)
        unfold Full at *
        rw [List.take_succ_cons, textL_cons_ne _ _ hc, this]
        simp

theorem textL_drop : ∀ (n : Nat) (s : Bs), s.length ≤ n → textL (s.drop (textL s)) = 0 := by
  intro n s _
  have h := textL_full_append s.length (s.take (textL s)) (s.drop (textL s)) (by simp; omega) (full_take s.length s (Nat.le_refl _))
  rw [List.take_append_drop, List.length_take, Nat.min_eq_left (textL_le s)] at h
  omega

/-- Every opening brace is doubled. -/
def esc : Bs → Bs
  | [] => []
  | c :: r => if c = 123 then 123 :: 123 :: esc r else c :: esc r
theorem esc_append (a b : Bs) : esc (a ++ b) = esc a ++ esc b := by
  induction a with
  | nil => rfl
  | cons c r ih => simp only [List.cons_append, esc, ih]; split <;> rfl
theorem esc_full (b : Bs) : Full (esc b) := by
  induction b with
  | nil => rfl
  | cons c r ih =>
    simp only [esc]
    split
    · unfold Full at *; rw [textL_cons_two, ih]; rfl
    · rename_i h; unfold Full at *; rw [textL_cons_ne _ _ h, ih]; rfl
theorem unesc_esc (b : Bs) : unesc (esc b) = b := by
  induction b with
  | nil => rfl
  | cons c r ih =>
    simp only [esc]
    split
    · rename_i h; subst h; simp [unesc, ih]
    · rename_i h
      have e : ∀ u : Bs, unesc (c :: u) = c :: unesc u := fun u => by
        cases u with
        | nil => simp [unesc]
        | cons d u => simp [unesc, h]
      rw [e, ih]
theorem esc_unesc : ∀ (n : Nat) (r : Bs), r.length ≤ n → Full r → esc (unesc r) = r := by
  intro n
  induction n with
  | zero =>
    intro r hn h
    obtain rfl : r = [] := List.eq_nil_of_length_eq_zero (by omega)
    rfl
  | succ n ih =>
    intro r hn h
    rcases full_cases h with rfl | ⟨c, r', rfl, hc, h'⟩ | ⟨r', rfl, h'⟩
    · rfl
    · have e : ∀ u : Bs, unesc (c :: u) = c :: unesc u := fun u => by
        cases u with
        | nil => simp [unesc]
        | cons d u => simp [unesc, hc]
      rw [e, esc, if_neg hc, ih r' (by simpa using hn) h']
    · have e : ∀ u : Bs, unesc (123 :: 123 :: u) = 123 :: unesc u := fun u => by simp [unesc]
      rw [e, esc, if_pos rfl, ih r' (by simp at hn; omega) h']
theorem esc_all (p : UInt8 → Bool) (b : Bs) (h : b.all p = true) : (esc b).all p = true := by
  induction b with
  | nil => rfl
  | cons c r ih =>
    simp only [List.all_cons, Bool.and_eq_true] at h
    simp only [esc]
    split
    · rename_i hc; subst hc; simp [h.1, ih h.2]
    · simp [h.1, ih h.2]
theorem esc_length (b : Bs) : (esc b).length ≤ 2 * b.length := by
  induction b with
  | nil => simp [esc]
  | cons c r ih => simp only [esc]; split <;> simp <;> omega
theorem esc_nil {b : Bs} (h : esc b = []) : b = [] := by
  cases b with
  | nil => rfl
  | cons c r => simp only [esc] at h; split at h <;> cases h

/-! ### spans -/
theorem spanL_all {p : UInt8 → Bool} {l : Bs} (h : l.all p = true) : spanL p l = l.length := by
  induction l with
  | nil => rfl
  | cons c r ih =>
    simp only [List.all_cons, Bool.and_eq_true] at h
    simp [spanL, h.1, ih h.2]
theorem all_of_spanL {p : UInt8 → Bool} {l : Bs} (h : spanL p l = l.length) : l.all p = true := by
  induction l with
  | nil => rfl
  | cons c r ih =>
    simp only [spanL] at h
    split at h
    · rename_i hc
      simp only [List.all_cons, hc, Bool.true_and]
      exact ih (by simpa using h)
    · simp at h
theorem spanL_append {p : UInt8 → Bool} {l t : Bs} (h : spanL p l < l.length) : spanL p (l ++ t) = spanL p l := by
  induction l with
  | nil => simp at h
  | cons c r ih =>
    simp only [List.cons_append, spanL]
    simp only [spanL] at h
    split
    · rename_i hc
      rw [if_pos hc] at h
      rw [ih (by simpa using h)]
    · rfl
theorem take_span_all (p : UInt8 → Bool) (l : Bs) : (l.take (spanL p l)).all p = true := by
  induction l with
  | nil => rfl
  | cons c r ih =>
    simp only [spanL]
    split
    · rename_i hc; simp [hc, ih]
    · simp
theorem spanL_of {p : UInt8 → Bool} {l t : Bs} (h : l.all p = true) (h' : ∀ c r, t = c :: r → p c = false) : spanL p (l ++ t) = l.length := by
  induction l with
  | nil =>
    cases t with
    | nil => rfl
    | cons c r => simp [spanL, h' c r rfl]
  | cons c r ih =>
    simp only [List.all_cons, Bool.and_eq_true] at h
    simp only [List.cons_append, spanL, h.1, if_true, ih h.2, List.length_cons]

/-! ### the tokens of a tag -/
/-- A token as it stands in the source. -/
def raw (kd : Nat) (tx : Bs) : Bs := if kd = 4 then 34 :: tx ++ [34] else tx

theorem tokenL_raw {s : Bs} {kd n : Nat} {tx : Bs} (h : tokenL s = (kd, tx, n)) (hn : n ≠ 0) : s.take n = raw kd tx ∧ (kd = 2 ∨ kd = 3 ∨ kd = 4 ∨ kd = 5 ∨ kd = 7) ∧ n = (raw kd tx).length ∧ (kd = 7 → ∃ r, s = 125 :: r ∧ tx = [125] ∧ n = 1) := by
  have hne : ∀ {a b : Nat × Bs × Nat}, a = b → b = (kd, tx, n) → a = (kd, tx, n) := fun h1 h2 => h1.trans h2
  cases s with
  | nil => simp [tokenL] at h; exact absurd h.2.2.symm hn
  | cons c r =>
    have hl1 := spanL_le nameB (c :: r)
    have hl2 := spanL_le digitB (c :: r)
    simp only [tokenL] at h
    split at h
    · split at h
      · obtain ⟨rfl, rfl, rfl⟩ : 2 = kd ∧ _ = tx ∧ _ = n := by simpa using h
        exact ⟨rfl, .inl rfl, by simp only [raw, if_neg (show ¬ 2 = 4 by decide), List.length_take, Nat.min_eq_left hl1], fun e => by cases e⟩
      · simp at h; exact absurd h.2.2.symm hn
    · split at h
      · split at h
        · obtain ⟨rfl, rfl, rfl⟩ : 3 = kd ∧ _ = tx ∧ _ = n := by simpa using h
          exact ⟨rfl, .inr (.inl rfl), by simp only [raw, if_neg (show ¬ 3 = 4 by decide), List.length_take, Nat.min_eq_left hl2], fun e => by cases e⟩
        · simp at h; exact absurd h.2.2.symm hn
      · split at h
        · rename_i hc
          subst hc
          split at h
          · rename_i h34
            obtain ⟨rfl, rfl, rfl⟩ : 4 = kd ∧ _ = tx ∧ _ = n := by simpa using h
            have hlt : spanL strB r < r.length := by
              rcases Nat.lt_or_ge (spanL strB r) r.length with h' | h'
              · exact h'
              · rw [List.getElem?_eq_none h'] at h34; cases h34
            refine ⟨?_, .inr (.inr (.inl rfl)), ?_, fun e => by cases e⟩
            · rw [List.take_succ_cons, List.take_add_one, h34]
              simp [raw]
            · simp [raw]; omega
          · simp at h; exact absurd h.2.2.symm hn
        · split at h
          · rename_i hc
            obtain ⟨rfl, rfl, rfl⟩ : 5 = kd ∧ [124] = tx ∧ 1 = n := by simpa using h
            exact ⟨by simp [raw, hc], .inr (.inr (.inr (.inl rfl))), by simp [raw], fun e => by cases e⟩
          · split at h
            · rename_i hc
              obtain ⟨rfl, rfl, rfl⟩ : 7 = kd ∧ [125] = tx ∧ 1 = n := by simpa using h
              exact ⟨by simp [raw, hc], .inr (.inr (.inr (.inr rfl))), by simp [raw], fun _ => ⟨r, by rw [hc], rfl, rfl⟩⟩
            · simp at h; exact absurd h.2.2.symm hn

theorem tokenL_append {s t : Bs} {kd n : Nat} {tx : Bs} (h : tokenL s = (kd, tx, n)) (hn : n ≠ 0) (hlt : n < s.length ∨ kd = 7) : tokenL (s ++ t) = (kd, tx, n) := by
  cases s with
  | nil => simp [tokenL] at h; exact absurd h.2.2.symm hn
  | cons c r =>
    rw [List.cons_append]
    simp only [tokenL] at h ⊢
    split at h
    · rename_i hl
      rw [if_pos hl]
      split at h
      · rename_i h20
        obtain ⟨rfl, rfl, rfl⟩ : 2 = kd ∧ _ = tx ∧ _ = n := by simpa using h
        have hlt := hlt.resolve_right (by decide)
        have e := spanL_append (t := t) hlt
        rw [List.cons_append] at e
        rw [e, if_pos h20, ← List.cons_append, List.take_append_of_le_length (Nat.le_of_lt hlt)]
      · simp at h; exact absurd h.2.2.symm hn
    · rename_i hl
      rw [if_neg hl]
      split at h
      · rename_i hd
        rw [if_pos hd]
        split at h
        · rename_i h20
          obtain ⟨rfl, rfl, rfl⟩ : 3 = kd ∧ _ = tx ∧ _ = n := by simpa using h
          have hlt := hlt.resolve_right (by decide)
          have e := spanL_append (t := t) hlt
          rw [List.cons_append] at e
          rw [e, if_pos h20, ← List.cons_append, List.take_append_of_le_length (Nat.le_of_lt hlt)]
        · simp at h; exact absurd h.2.2.symm hn
      · rename_i hd
        rw [if_neg hd]
        split at h
        · rename_i hc
          rw [if_pos hc]
          split at h
          · rename_i h34
            obtain ⟨rfl, rfl, rfl⟩ : 4 = kd ∧ _ = tx ∧ _ = n := by simpa using h
            have hlt : spanL strB r < r.length := by
              rcases Nat.lt_or_ge (spanL strB r) r.length with h' | h'
              · exact h'
              · rw [List.getElem?_eq_none h'] at h34; cases h34
            rw [spanL_append hlt, if_pos (by rw [List.getElem?_append_left hlt]; exact h34), List.take_append_of_le_length (Nat.le_of_lt hlt)]
          · simp at h; exact absurd h.2.2.symm hn
        · rename_i hc
          rw [if_neg hc]
          split at h
          · rename_i h5
            rw [if_pos h5]
            exact h
          · rename_i h5
            rw [if_neg h5]
            exact h

/-- The rest of a tag at an offset: its tokens, and what is left behind it. -/
inductive Tag : Nat → Bs → List Tok → Bs → Prop where
  | blank {a : Nat} {c : UInt8} {r : Bs} {l : List Tok} {rest : Bs} (h : c = 32 ∨ c = 10) (t : Tag (a + 1) r l rest) : Tag a (c :: r) l rest
  | tok {a kd n : Nat} {c : UInt8} {r tx : Bs} {l : List Tok} {rest : Bs} (h : ¬ (c = 32 ∨ c = 10)) (h1 : tokenL (c :: r) = (kd, tx, n)) (h2 : n ≠ 0) (h3 : kd ≠ 7) (t : Tag (a + n) ((c :: r).drop n) l rest) : Tag a (c :: r) ((kd, tx, a) :: l) rest
  | close {a : Nat} {r : Bs} : Tag a (125 :: r) [(7, [125], a)] r

/-- An accepted source at an offset, with its tokens. -/
inductive Src : Nat → Bs → List Tok → Prop where
  | nil {a : Nat} : Src a [] []
  | text {a : Nat} {run rest : Bs} {l : List Tok} (h : run ≠ []) (h1 : Full run) (h2 : run.all okB = true) (h3 : textL rest = 0) (t : Src (a + run.length) rest l) : Src a (run ++ rest) ((1, unesc run, a) :: l)
  | tag {a : Nat} {r rest : Bs} {l m : List Tok} (h : textL (123 :: r) = 0) (t : Tag (a + 1) r l rest) (u : Src (a + (r.length + 1 - rest.length)) rest m) : Src a (123 :: r) ((6, [123], a) :: (l ++ m))

theorem Tag.length {a : Nat} {s rest : Bs} {l : List Tok} (h : Tag a s l rest) : rest.length < s.length := by
  induction h with
  | blank _ _ ih => simp; omega
  | tok h h1 h2 h3 t ih => simp at ih ⊢; omega
  | close => simp
theorem Tag.append {a : Nat} {s rest : Bs} {l : List Tok} (h : Tag a s l rest) (t : Bs) : Tag a (s ++ t) l (rest ++ t) := by
  induction h with
  | blank h _ ih => exact .blank h ih
  | @tok a kd n c r tx l rest h h1 h2 h3 t' ih =>
    have hlen := t'.length
    have hn : n < (c :: r).length := by
      simp only [List.length_drop] at hlen
      omega
    refine .tok h (by have := tokenL_append (t := t) h1 h2 (.inl hn); rwa [List.cons_append] at this) h2 h3 ?_
    have e := List.drop_append_of_le_length (l₂ := t) (Nat.le_of_lt hn)
    rw [List.cons_append] at e
    show Tag (a + n) (List.drop n (c :: (r ++ t))) l (rest ++ t)
    rw [e]
    exact ih
  | close => exact .close
theorem Tag.kinds {a : Nat} {s rest : Bs} {l : List Tok} (h : Tag a s l rest) : ∀ x ∈ l, x.1 ≠ 0 := by
  induction h with
  | blank _ _ ih => exact ih
  | @tok a kd n c r tx l rest h h1 h2 h3 t ih =>
    intro x hx
    rcases List.mem_cons.1 hx with rfl | hx
    · rcases (tokenL_raw h1 h2).2.1 with h | h | h | h | h <;> (show kd ≠ 0; omega)
    · exact ih x hx
  | close =>
    intro x hx
    simp at hx
    subst hx
    exact Nat.succ_ne_zero _

theorem Tag.scan {a : Nat} {s rest : Bs} {l : List Tok} (h : Tag a s l rest) (o : Nat) : ∀ k, s.length < k → ∃ k', rest.length < k' ∧ Lex.scan k (some o) a s = l ++ Lex.scan k' none (a + (s.length - rest.length)) rest := by
  induction h with
  | @blank a c r l rest h t ih =>
    intro k hk
    obtain ⟨k, rfl⟩ : ∃ m, k = m + 1 := ⟨k - 1, by omega⟩
    obtain ⟨k', h1, h2⟩ := ih k (by simp at hk; omega)
    have := t.length
    refine ⟨k', h1, ?_⟩
    rw [tag_blank h, h2, show a + 1 + (r.length - rest.length) = a + ((c :: r).length - rest.length) by simp; omega]
  | @tok a kd n c r tx l rest h h1 h2 h3 t ih =>
    intro k hk
    obtain ⟨k, rfl⟩ : ∃ m, k = m + 1 := ⟨k - 1, by omega⟩
    have hlen := t.length
    have hle := tokenL_le (c :: r)
    rw [h1] at hle
    obtain ⟨k', h4, h5⟩ := ih k (by rw [List.length_drop]; have : n ≤ (c :: r).length := hle; omega)
    refine ⟨k', h4, ?_⟩
    rw [tag_tok h (by rw [h1]; exact h2), h1, if_neg h3, h5]
    have : n ≤ (c :: r).length := hle
    rw [List.length_drop] at hlen
    rw [List.length_drop, show a + n + ((c :: r).length - n - rest.length) = a + ((c :: r).length - rest.length) by omega]
    rfl
  | @close a r =>
    intro k hk
    obtain ⟨k, rfl⟩ : ∃ m, k = m + 1 := ⟨k - 1, by omega⟩
    have ht : tokenL (125 :: r) = (7, [125], 1) := rfl
    refine ⟨k, by simpa using hk, ?_⟩
    rw [tag_tok (by decide) (by rw [ht]; decide), ht, if_pos rfl]
    simp

theorem Src.scan {a : Nat} {s : Bs} {l : List Tok} (h : Src a s l) : ∀ k, s.length < k → Lex.scan k none a s = l := by
  induction h with
  | nil => exact fun k hk => scan_end (by omega)
  | @text a run rest l h h1 h2 h3 t ih =>
    intro k hk
    obtain ⟨k, rfl⟩ : ∃ m, k = m + 1 := ⟨k - 1, by omega⟩
    have e : textL (run ++ rest) = run.length := by rw [textL_full_append _ _ _ (Nat.le_refl _) h1, h3]; rfl
    have hpos : 0 < run.length := List.length_pos_iff.2 h
    rw [scan_text (n := run.length) (g := run.length) (by simp [h]) e.symm (by rw [List.take_append_of_le_length (Nat.le_refl _), List.take_length, spanL_all h2]) (by omega) hpos,
      List.take_append_of_le_length (Nat.le_refl _), List.take_length, List.drop_append_of_le_length (Nat.le_refl _), List.drop_length, List.nil_append,
      ih k (by simp at hk; omega)]
  | @tag a r rest l m h t u ih =>
    intro k hk
    obtain ⟨k, rfl⟩ : ∃ m, k = m + 1 := ⟨k - 1, by omega⟩
    rw [scan_open (n := 0) (g := 0) (by simp) h.symm (by simp [spanL]) (by omega) (by omega)]
    obtain ⟨k', h1, h2⟩ := t.scan a k (by simp at hk; omega)
    have hlen := t.length
    rw [show (123 :: r).drop 1 = r from rfl, h2, show a + 1 + (r.length - rest.length) = a + (r.length + 1 - rest.length) by omega, ih k' h1]
theorem Src.kinds {a : Nat} {s : Bs} {l : List Tok} (h : Src a s l) : ∀ x ∈ l, x.1 ≠ 0 := by
  induction h with
  | nil => intro x hx; cases hx
  | text h h1 h2 h3 t ih =>
    intro x hx
    rcases List.mem_cons.1 hx with rfl | hx
    · exact Nat.succ_ne_zero _
    · exact ih x hx
  | tag h t u ih =>
    intro x hx
    rcases List.mem_cons.1 hx with rfl | hx
    · exact Nat.succ_ne_zero _
    · rcases List.mem_append.1 hx with hx | hx
      · exact t.kinds x hx
      · exact ih x hx

/-- A scan that meets no error in a tag leaves it by its end. -/
theorem tag_of_scan : ∀ (k o a : Nat) (s : Bs), s.length < k → (∀ x ∈ scan k (some o) a s, x.1 ≠ 0) → ∃ l rest, Tag a s l rest := by
  intro k
  induction k with
  | zero => intro o a s hk; omega
  | succ k ih =>
    intro o a s hk h
    cases s with
    | nil =>
      rw [tag_end (by omega)] at h
      exact absurd rfl (h _ List.mem_cons_self)
    | cons c r =>
      by_cases hb : c = 32 ∨ c = 10
      · rw [tag_blank hb] at h
        obtain ⟨l, rest, t⟩ := ih o (a + 1) r (by simp at hk; omega) h
        exact ⟨l, rest, .blank hb t⟩
      · by_cases h0 : (tokenL (c :: r)).2.2 = 0
        · rw [tag_bad (by omega) hb h0] at h
          exact absurd rfl (h _ List.mem_cons_self)
        · rw [tag_tok hb h0] at h
          obtain ⟨kd, tx, n, ht⟩ : ∃ kd tx n, tokenL (c :: r) = (kd, tx, n) := ⟨_, _, _, rfl⟩
          rw [ht] at h h0
          by_cases h7 : kd = 7
          · obtain ⟨r', e, e1, e2⟩ := (tokenL_raw ht h0).2.2.2 h7
            injection e with e3 e4
            subst e3
            exact ⟨_, r, .close⟩
          · rw [if_neg h7] at h
            have hn : n ≤ (c :: r).length := by have := tokenL_le (c :: r); rw [ht] at this; exact this
            obtain ⟨l, rest, t⟩ := ih o (a + n) ((c :: r).drop n) (by rw [List.length_drop]; have : n ≠ 0 := h0; omega) (fun x hx => h x (List.mem_cons_of_mem _ hx))
            exact ⟨_, rest, .tok hb ht h0 h7 t⟩

theorem src_of_scan : ∀ (n k a : Nat) (s : Bs), s.length ≤ n → s.length < k → (∀ x ∈ scan k none a s, x.1 ≠ 0) → Src a s (scan k none a s) := by
  intro n
  induction n with
  | zero =>
    intro k a s hn hk h
    obtain rfl : s = [] := List.eq_nil_of_length_eq_zero (by omega)
    rw [scan_end (by omega)]
    exact .nil
  | succ n ih =>
    intro k a s hn hk h
    obtain ⟨k, rfl⟩ : ∃ m, k = m + 1 := ⟨k - 1, by omega⟩
    by_cases h0 : s = []
    · subst h0
      rw [scan_end (by omega)]
      exact .nil
    · by_cases hg : spanL okB (s.take (textL s)) < textL s
      · rw [scan_bad (by omega) h0 rfl rfl hg] at h
        exact absurd rfl (h _ List.mem_cons_self)
      · have hle := textL_le s
        by_cases h1 : 0 < textL s
        · rw [scan_text h0 rfl rfl hg h1] at h ⊢
          have hl : (s.drop (textL s)).length = s.length - textL s := List.length_drop
          have u := ih k (a + textL s) (s.drop (textL s)) (by omega) (by omega) (fun x hx => h x (List.mem_cons_of_mem _ hx))
          have hall : (s.take (textL s)).all okB = true := all_of_spanL (by
            have := spanL_le okB (s.take (textL s))
            rw [List.length_take, Nat.min_eq_left hle] at this ⊢
            omega)
          have r := Src.text (a := a) (run := s.take (textL s)) (rest := s.drop (textL s)) (by
            intro e
            have := congrArg List.length e
            rw [List.length_take, Nat.min_eq_left hle] at this
            simp at this; omega) (full_take _ s (Nat.le_refl _)) hall (textL_drop _ s (Nat.le_refl _)) (by rw [List.length_take, Nat.min_eq_left hle]; exact u)
          rwa [List.take_append_drop] at r
        · rw [scan_open h0 rfl rfl hg h1] at h ⊢
          obtain ⟨c, r, rfl⟩ : ∃ c r, s = c :: r := by
            cases s with
            | nil => exact absurd rfl h0
            | cons c r => exact ⟨c, r, rfl⟩
          have hc : c = 123 := by
            by_cases hc : c = 123
            · exact hc
            · rw [textL_cons_ne _ _ hc] at h1; omega
          subst hc
          have hs : (123 :: r).drop 1 = r := rfl
          rw [hs] at h ⊢
          have hk' : r.length < k := by simpa using hk
          obtain ⟨l, rest, t⟩ := tag_of_scan k a (a + 1) r hk' (fun x hx => h x (List.mem_cons_of_mem _ hx))
          obtain ⟨k', h2, h3⟩ := t.scan a k hk'
          have hlen := t.length
          rw [h3] at h ⊢
          have e : a + 1 + (r.length - rest.length) = a + (r.length + 1 - rest.length) := by omega
          rw [e] at h ⊢
          exact .tag (by omega) t (ih k' _ rest (by simp at hn; omega) h2 (fun x hx => h x (List.mem_cons_of_mem _ (List.mem_append_right _ hx))))

/-- What Tokens gives of an accepted source. -/
theorem tokens_src {s : Bs} {l : List Tok} (h : Src 0 s l) (hs : s.length ≤ 1000) : tokens s = (l, 0, 0) := by
  unfold tokens
  rw [if_neg (by omega)]
  have e : scanAll s = l := h.scan _ (by omega)
  rw [e, List.find?_eq_none.2 (fun x hx => by simpa using h.kinds x hx)]
theorem src_tokens {s : Bs} (h : (tokens s).2.2 = 0) : Src 0 s (tokens s).1 ∧ (tokens s).2.1 = 0 ∧ s.length ≤ 1000 := by
  unfold tokens at *
  by_cases hs : 1000 < s.length
  · rw [if_pos hs] at h; simp at h
  · rw [if_neg hs] at h ⊢
    cases hf : (scanAll s).find? (fun t => t.1 == 0) with
    | some t => rw [hf] at h; simp at h
    | none =>
      refine ⟨src_of_scan s.length (s.length + 1) 0 s (Nat.le_refl _) (by omega) (fun x hx => ?_), rfl, by omega⟩
      have := List.find?_eq_none.1 hf x hx
      simpa using this

end Go.Proofs.YtbgnkoecfokmaaaDoor.Lex
