/- The tokens of a template source as a plain function of its bytes, and what the library's replacement does to doubled braces. No program in sight. -/
import Derived.Lib.Replace
namespace Go.Proofs.YtbgnkoecfokmaaaDoor.Lex
open Go.Lib

abbrev Bs := List UInt8

def plainB (c : UInt8) : Bool := decide (32 ≤ c.toNat) && decide (c.toNat ≤ 126)
def lowerB (c : UInt8) : Bool := decide (97 ≤ c.toNat) && decide (c.toNat ≤ 122)
def digitB (c : UInt8) : Bool := decide (48 ≤ c.toNat) && decide (c.toNat ≤ 57)
def nameB (c : UInt8) : Bool := lowerB c || digitB c || c == 45
def strB (c : UInt8) : Bool := plainB c && c != 34
def okB (c : UInt8) : Bool := c == 10 || plainB c

/-- How many bytes at the beginning are accepted. -/
def spanL (p : UInt8 → Bool) : Bs → Nat
  | [] => 0
  | c :: r => if p c then spanL p r + 1 else 0

/-- The length of the literal text at the beginning. -/
def textL : Bs → Nat
  | [] => 0
  | [c] => if c = 123 then 0 else 1
  | c :: d :: r => if c = 123 then (if d = 123 then textL r + 2 else 0) else textL (d :: r) + 1

/-- Doubled braces become single ones. -/
def unesc : Bs → Bs
  | [] => []
  | [c] => [c]
  | c :: d :: r => if c = 123 ∧ d = 123 then 123 :: unesc r else c :: unesc (d :: r)

abbrev Tok := Nat × Bs × Nat

/-- The token of a tag at the beginning: its kind, its text, its length; the length 0: none. -/
def tokenL : Bs → Nat × Bs × Nat
  | [] => (0, [], 0)
  | c :: r =>
    if lowerB c then (if spanL nameB (c :: r) ≤ 20 then (2, (c :: r).take (spanL nameB (c :: r)), spanL nameB (c :: r)) else (0, [], 0))
    else if digitB c then (if spanL digitB (c :: r) = 1 ∨ spanL digitB (c :: r) ≤ 6 ∧ c ≠ 48 then (3, (c :: r).take (spanL digitB (c :: r)), spanL digitB (c :: r)) else (0, [], 0))
    else if c = 34 then (if r[spanL strB r]? = some 34 then (4, r.take (spanL strB r), spanL strB r + 2) else (0, [], 0))
    else if c = 124 then (5, [124], 1)
    else if c = 125 then (7, [125], 1)
    else (0, [], 0)

/-- The tokens from 'at' on; outside of a tag, or in one that was opened at an offset. -/
def scan : Nat → Option Nat → Nat → Bs → List Tok
  | 0, _, _, _ => []
  | k + 1, none, a, s =>
    if s = [] then []
    else if spanL okB (s.take (textL s)) < textL s then [(0, [], a + spanL okB (s.take (textL s)))]
    else if 0 < textL s then (1, unesc (s.take (textL s)), a) :: scan k none (a + textL s) (s.drop (textL s))
    else (6, [123], a) :: scan k (some a) (a + 1) (s.drop 1)
  | _ + 1, some o, _, [] => [(0, [], o)]
  | k + 1, some o, a, c :: r =>
    if c = 32 ∨ c = 10 then scan k (some o) (a + 1) r
    else if (tokenL (c :: r)).2.2 = 0 then [(0, [], a)]
    else ((tokenL (c :: r)).1, (tokenL (c :: r)).2.1, a) :: scan k (if (tokenL (c :: r)).1 = 7 then none else some o) (a + (tokenL (c :: r)).2.2) ((c :: r).drop (tokenL (c :: r)).2.2)

def scanAll (s : Bs) : List Tok := scan (s.length + 1) none 0 s

/-- The tokens, or the offset of the first error. -/
def tokens (s : Bs) : List Tok × Nat × Nat :=
  if 1000 < s.length then ([], 1000, 90)
  else match (scanAll s).find? (fun t => t.1 == 0) with
    | some t => ([], t.2.2, 90)
    | none => (scanAll s, 0, 0)

/-! ### what is needed on the way -/
theorem spanL_le (p : UInt8 → Bool) (l : Bs) : spanL p l ≤ l.length := by
  induction l with
  | nil => simp [spanL]
  | cons c r ih => simp only [spanL]; split <;> simp <;> omega

/-- All bytes before k pass, the one at k does not (or the string ends there): k is the span. -/
theorem spanL_eq (p : UInt8 → Bool) : ∀ (l : Bs) (k : Nat), k ≤ l.length → (∀ i (h : i < l.length), i < k → p l[i] = true) → (∀ h : k < l.length, p l[k] = false) → spanL p l = k
  | [], k, hk, _, _ => by simp at hk; simp [spanL, hk]
  | c :: r, 0, _, _, h => by
    have := h (by simp)
    simp at this
    simp [spanL, this]
  | c :: r, k + 1, hk, h1, h2 => by
    have h0 := h1 0 (by simp) (by omega)
    simp at h0
    simp only [spanL, h0, if_true]
    rw [spanL_eq p r k (by simpa using hk) (fun i hi hik => by have := h1 (i + 1) (by simpa using hi) (by omega); simpa using this) (fun hl => by have := h2 (by simpa using hl); simpa using this)]

theorem textL_le : ∀ l : Bs, textL l ≤ l.length
  | [] => by simp [textL]
  | [c] => by simp only [textL]; split <;> simp
  | c :: d :: r => by
    have h1 := textL_le r
    have h2 := textL_le (d :: r)
    simp only [textL]
    simp at h2 ⊢
    split
    · split <;> omega
    · omega

theorem tokenL_le (l : Bs) : (tokenL l).2.2 ≤ l.length := by
  cases l with
  | nil => simp [tokenL]
  | cons c r =>
    have h1 := spanL_le nameB (c :: r)
    have h2 := spanL_le digitB (c :: r)
    have h3 := spanL_le strB r
    simp only [tokenL]
    split
    · split
      · exact h1
      · simp
    · split
      · split
        · exact h2
        · simp
      · split
        · split
          · rename_i h
            have : spanL strB r < r.length := by
              rcases Nat.lt_or_ge (spanL strB r) r.length with h' | h'
              · exact h'
              · rw [List.getElem?_eq_none h'] at h; cases h
            simp; omega
          · simp
        · split
          · simp
          · split <;> simp

/-! ### the library's replacement -/
theorem pre2 (c d : UInt8) (r : Bs) : List.isPrefixOf [123, 123] (c :: d :: r) = (decide (c = 123 ∧ d = 123)) := by
  by_cases h1 : c = 123
  · by_cases h2 : d = 123
    · subst h1; subst h2; simp [List.isPrefixOf]
    · simp only [List.isPrefixOf, h1, h2]; simp; exact fun e => h2 e.symm
  · simp only [List.isPrefixOf]; simp [h1]; exact fun e => absurd e.symm h1

theorem index2_miss : ∀ s : Bs, index s [123, 123] = -1 → unesc s = s
  | [], _ => rfl
  | [c], _ => rfl
  | c :: d :: r, h => by
    have hp := pre2 c d r
    rw [index] at h
    by_cases hn : List.isPrefixOf [123, 123] (c :: d :: r) = true
    · rw [if_pos hn] at h; cases h
    · rw [if_neg hn] at h
      rw [hp] at hn
      have hne : ¬ (c = 123 ∧ d = 123) := by simpa using hn
      by_cases h2 : index (d :: r) [123, 123] = -1
      · rw [unesc, if_neg hne, index2_miss (d :: r) h2]
      · have := index_ge (d :: r) [123, 123]
        rw [if_neg (by simpa using h2)] at h
        omega

theorem index2_hit : ∀ (s : Bs) (i : Nat), index s [123, 123] = i → unesc s = s.take i ++ [123] ++ unesc (s.drop (i + 2))
  | [], i, h => by
    exfalso
    have e : index [] [123, 123] = -1 := rfl
    omega
  | [c], i, h => by
    exfalso
    have e : index [c] [123, 123] = -1 := by
      rw [index, if_neg (by simp [List.isPrefixOf])]
      rfl
    omega
  | c :: d :: r, i, h => by
    have hp := pre2 c d r
    have hge := index_ge (d :: r) [123, 123]
    rw [index] at h
    by_cases hn : List.isPrefixOf [123, 123] (c :: d :: r) = true
    · rw [if_pos hn] at h
      rw [hp] at hn
      have hc : c = 123 ∧ d = 123 := by simpa using hn
      obtain rfl : i = 0 := by omega
      simp [unesc, hc]
    · rw [if_neg hn] at h
      rw [hp] at hn
      have hne : ¬ (c = 123 ∧ d = 123) := by simpa using hn
      by_cases h2 : index (d :: r) [123, 123] = -1
      · rw [if_pos (by simpa using h2)] at h; omega
      · rw [if_neg (by simpa using h2)] at h
        obtain ⟨j, rfl⟩ : ∃ j, i = j + 1 := ⟨i - 1, by omega⟩
        have ih := index2_hit (d :: r) j (by omega)
        rw [unesc, if_neg hne, ih]
        have : j + 1 + 2 = (j + 2) + 1 := by omega
        rw [this]
        simp

theorem replaceK_unesc : ∀ (k : Nat) (s : Bs), s.length ≤ k → ∀ m, count s [123, 123] = m → replaceK [123, 123] [123] m s = unesc s := by
  intro k
  induction k with
  | zero =>
    intro s hs m hm
    obtain rfl : s = [] := List.eq_nil_of_length_eq_zero (by omega)
    cases m with
    | zero => rfl
    | succ m => simp [replaceK, index, unesc]
  | succ k ih =>
    intro s hs m hm
    by_cases h1 : index s [123, 123] = -1
    · rw [index2_miss s h1]
      cases m with
      | zero => rfl
      | succ m => simp [replaceK, h1]
    · have hge := index_ge s [123, 123]
      obtain ⟨i, hi⟩ : ∃ i : Nat, index s [123, 123] = i := ⟨(index s [123, 123]).toNat, by omega⟩
      rw [index2_hit s i hi]
      have hm' : m = 1 + count (s.drop (i + 2)) [123, 123] := by
        rw [← hm]
        exact count_hit (by decide) hi
      obtain ⟨n, rfl⟩ : ∃ n, m = n + 1 := ⟨m - 1, by omega⟩
      rw [replaceK_hit _ _ _ _ i hi]
      rw [show i + ([123, 123] : Bs).length = i + 2 from rfl]
      rw [ih (s.drop (i + 2)) (by simp; omega) n (by omega)]

theorem replaceAll_unesc (s : Bs) : replaceAll s [123, 123] [123] = unesc s := by
  unfold replaceAll replace replaceNum
  rw [if_neg (by decide), if_pos (.inl (by decide))]
  exact replaceK_unesc s.length s (Nat.le_refl _) _ rfl

/-! ### one step of the scan -/
theorem scan_end {k a : Nat} (hk : 0 < k) : scan k none a [] = [] := by
  obtain ⟨k, rfl⟩ : ∃ m, k = m + 1 := ⟨k - 1, by omega⟩
  simp [scan]
theorem scan_bad {k a n g : Nat} {s : Bs} (hk : 0 < k) (h0 : s ≠ []) (hn : n = textL s) (hg : g = spanL okB (s.take n)) (h : g < n) : scan k none a s = [(0, [], a + g)] := by
  obtain ⟨k, rfl⟩ : ∃ m, k = m + 1 := ⟨k - 1, by omega⟩
  subst hn hg
  rw [scan, if_neg h0, if_pos h]
theorem scan_text {k a n g : Nat} {s : Bs} (h0 : s ≠ []) (hn : n = textL s) (hg : g = spanL okB (s.take n)) (h : ¬ g < n) (h1 : 0 < n) :
    scan (k + 1) none a s = (1, unesc (s.take n), a) :: scan k none (a + n) (s.drop n) := by
  subst hn hg
  rw [scan, if_neg h0, if_neg h, if_pos h1]
theorem scan_open {k a n g : Nat} {s : Bs} (h0 : s ≠ []) (hn : n = textL s) (hg : g = spanL okB (s.take n)) (h : ¬ g < n) (h1 : ¬ 0 < n) :
    scan (k + 1) none a s = (6, [123], a) :: scan k (some a) (a + 1) (s.drop 1) := by
  subst hn hg
  rw [scan, if_neg h0, if_neg h, if_neg h1]
theorem tag_end {k o a : Nat} (hk : 0 < k) : scan k (some o) a [] = [(0, [], o)] := by
  obtain ⟨k, rfl⟩ : ∃ m, k = m + 1 := ⟨k - 1, by omega⟩
  simp [scan]
theorem tag_blank {k o a : Nat} {c : UInt8} {r : Bs} (h : c = 32 ∨ c = 10) : scan (k + 1) (some o) a (c :: r) = scan k (some o) (a + 1) r := by
  rw [scan, if_pos h]
theorem tag_bad {k o a : Nat} {c : UInt8} {r : Bs} (hk : 0 < k) (h : ¬ (c = 32 ∨ c = 10)) (h0 : (tokenL (c :: r)).2.2 = 0) : scan k (some o) a (c :: r) = [(0, [], a)] := by
  obtain ⟨k, rfl⟩ : ∃ m, k = m + 1 := ⟨k - 1, by omega⟩
  rw [scan, if_neg h, if_pos h0]
theorem tag_tok {k o a : Nat} {c : UInt8} {r : Bs} (h : ¬ (c = 32 ∨ c = 10)) (h0 : (tokenL (c :: r)).2.2 ≠ 0) :
    scan (k + 1) (some o) a (c :: r) = ((tokenL (c :: r)).1, (tokenL (c :: r)).2.1, a) :: scan k (if (tokenL (c :: r)).1 = 7 then none else some o) (a + (tokenL (c :: r)).2.2) ((c :: r).drop (tokenL (c :: r)).2.2) := by
  rw [scan, if_neg h, if_neg h0]
/-- A token of no length has no kind. -/
theorem tokenL_zero (l : Bs) (h : (tokenL l).2.2 = 0) : tokenL l = (0, [], 0) := by
  cases l with
  | nil => rfl
  | cons c r =>
    have hs : ∀ p : UInt8 → Bool, p c = true → spanL p (c :: r) ≠ 0 := fun p hp => by simp [spanL, hp]
    simp only [tokenL] at h ⊢
    split at h
    · rename_i hl
      split at h
      · exact absurd h (hs nameB (by simp [nameB, hl]))
      · rename_i h2
        rw [if_pos hl, if_neg h2]
    · rename_i hl
      rw [if_neg hl]
      split at h
      · rename_i hd
        rw [if_pos hd]
        split at h
        · exact absurd h (hs digitB hd)
        · rename_i h2
          rw [if_neg h2]
      · rename_i hd
        rw [if_neg hd]
        split at h
        · rename_i h3
          rw [if_pos h3]
          split at h
          · exact absurd h (by simp)
          · rename_i h4
            rw [if_neg h4]
        · rename_i h3
          rw [if_neg h3]
          split at h
          · exact absurd h (by simp)
          · rename_i h4
            rw [if_neg h4]
            split at h
            · exact absurd h (by simp)
            · rename_i h5
              rw [if_neg h5]

end Go.Proofs.YtbgnkoecfokmaaaDoor.Lex
