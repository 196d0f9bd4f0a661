/- LexerRoundTrip: a source that is composed of a text, a tag and another text has exactly these tokens, wherever spaces and newlines stand in the tag; the plain law, for all texts, kinds, words and gaps. -/
import Derived.Test.YtbgnkoecfokmaaaDoorPXx7
import Derived.Test.YtbgnkoecfokmaaaDoorLawRoundA
import Derived.Test.YtbgnkoecfokmaaaDoorLawJoins
namespace Go.Proofs.YtbgnkoecfokmaaaDoor.Pure
open Go.RowKit Go.Proofs.YtbgnkoecfokmaaaDoor.PX Go.Proofs.YtbgnkoecfokmaaaDoorW.PrintWords Go.Proofs.YtbgnkoecfokmaaaDoorW.PrintLast Go.Proofs.YtbgnkoecfokmaaaDoorW.PrintMore Go.Proofs.YtbgnkoecfokmaaaDoor.Br

theorem kind_of (t : Nat) (h : t < 4) : rd ([2, 3, 4, 5] : List Int) (t : Int) = ((t + 2 : Nat) : Int) := by
  have : t = 0 ∨ t = 1 ∨ t = 2 ∨ t = 3 := by omega
  rcases this with rfl | rfl | rfl | rfl <;> rfl

theorem rd_mem (l : List Int) (i : Nat) (h : i < l.length) : rd l (i : Int) ∈ l := by
  unfold rd
  rw [Int.toNat_natCast, List.getD_eq_getElem?_getD, List.getElem?_eq_getElem h]
  exact List.getElem_mem h

theorem raw_length (kd : Nat) (w : Lex.Bs) : (Lex.raw kd w).length ≤ w.length + 2 := by
  unfold Lex.raw
  split <;> simp

section
variable (a : Nat) (ha : a ≤ 100) (l1 l3 : List Int) (l2 : List ByteArray) (h1 : ∀ n ∈ l1, I64 n) (h3 : ∀ n ∈ l3, I64 n) (hl1 : l1.length ≤ 9223372036854775807)
include ha h1 h3 hl1

omit h1 h3 in
theorem built_end (p : Lex.Bs) (l : List Lex.Tok) (last : Nat) (i : Int) (hP : Lex.Pre (a + 1) p l last) (hp : p.length ≤ 88) (hl : l.length ≤ 8) :
    ∃ (p' : Lex.Bs) (l' : List Lex.Tok), (∀ rest, Lex.Tag (a + 1) (p' ++ rest) l' rest) ∧ p'.length ≤ 95 ∧ l'.length ≤ 10 ∧
      Ev (fun k => copydesklaw09_built.j1 k (a : Int) l1 l2 l3 ⟨(123 :: p).toArray⟩ (((6, [123], a) :: l).map toS) (last : Int) i false) (⟨(123 :: p').toArray⟩, ((6, [123], a) :: l').map toS) := by
  obtain ⟨g, hg1, hg2, _, hge⟩ := gap_some (l1.length : Int) ⟨by omega, by omega⟩ false
  refine ⟨p ++ g ++ [125], l ++ [(7, [125], a + 1 + (p ++ g).length)], fun rest => ?_, by simp; omega, by simp; omega, Ev.step (fun k => ?_) (Ev.now _)⟩
  · have := hP.close hg1 rest
    simpa using this
  · have e : wrap64 ((a : Int) + ((((⟨(123 :: p).toArray⟩ : ByteArray).size : Int)) + ((⟨g.toArray⟩ : ByteArray).size : Int))) = ((a + 1 + (p ++ g).length : Nat) : Int) := by
      rw [mk_size, mk_size, wrap_id _ (by simp; omega) (by simp; omega)]
      simp
      omega
    rw [copydesklaw09_built.j1, if_neg (by decide), hge]
    simp only [Option.bind_some]
    rw [if_pos (by rw [mk_size, mk_size]; simp; omega), if_pos (by simp; omega), if_pos (by rw [mk_size, mk_size]; simp; omega), e, show (⟨#[125]⟩ : ByteArray) = ⟨[(125 : UInt8)].toArray⟩ from rfl, mk_append, mk_append]
    simp [toS]

theorem built_l0 : ∀ (d i : Nat) (p : Lex.Bs) (l : List Lex.Tok) (last : Nat), i + d = min l1.length 8 → Lex.Pre (a + 1) p l last → p.length ≤ 11 * i → l.length = i →
    ∃ (p' : Lex.Bs) (l' : List Lex.Tok), (∀ rest, Lex.Tag (a + 1) (p' ++ rest) l' rest) ∧ p'.length ≤ 95 ∧ l'.length ≤ 10 ∧
      Ev (fun k => copydesklaw09_built.l0 k (a : Int) l1 l2 l3 ⟨(123 :: p).toArray⟩ (((6, [123], a) :: l).map toS) (last : Int) (i : Int)) (⟨(123 :: p').toArray⟩, ((6, [123], a) :: l').map toS) := by
  intro d
  induction d with
  | zero =>
    intro i p l last hi hP hp hl
    obtain ⟨p', l', g1, g2, g3, g4⟩ := built_end a ha l1 l3 l2 hl1 p l last (i : Int) hP (by omega) (by omega)
    refine ⟨p', l', g1, g2, g3, Ev.step (fun k => ?_) g4⟩
    rw [copydesklaw09_built.l0]
    by_cases h : (i : Int) < (l1.length : Int)
    · rw [if_pos h, decide_eq_false (by omega)]
    · rw [if_neg h]
  | succ d ih =>
    intro i p l last hi hP hp hl
    have hlt : i < l1.length := by omega
    obtain ⟨t, ht, hpk⟩ := pick4 (rd l1 (i : Int)) (h1 _ (rd_mem l1 i hlt))
    obtain ⟨ws, hws⟩ : ∃ ws : ByteArray, ws = if (i : Int) < (l2.length : Int) then rdOf ByteArray.empty l2 (i : Int) else ⟨#[]⟩ := ⟨_, rfl⟩
    obtain ⟨gn, hgn⟩ : ∃ gn : Int, gn = if (i : Int) < (l3.length : Int) then rd l3 (i : Int) else 0 := ⟨_, rfl⟩
    have hgI : I64 gn := by
      rw [hgn]
      split
      · exact h3 _ (rd_mem l3 i (by omega))
      · exact ⟨by decide, by decide⟩
    obtain ⟨kd, hk⟩ : ∃ kd, kd = t + 2 := ⟨_, rfl⟩
    have hkd : kd = 2 ∨ kd = 3 ∨ kd = 4 ∨ kd = 5 := by omega
    obtain ⟨tb, htb⟩ : ∃ tb : Bool, tb = decide ((last = 2 ∨ last = 3) ∧ (kd = 2 ∨ kd = 3)) := ⟨_, rfl⟩
    obtain ⟨w, hw, hwe⟩ := word_ev kd hkd ws
    obtain ⟨g, hg1, hg2, hg3, hge⟩ := gap_some gn hgI tb
    obtain ⟨w', hw'⟩ : ∃ w' : Lex.Bs, w' = if kd = 5 then [124] else w := ⟨_, rfl⟩
    have hwl : w'.length ≤ 7 := by rw [hw']; split; simp; exact hw.1
    have hword : Lex.Word kd w' := by
      rw [hw']
      by_cases h5 : kd = 5
      · rw [if_pos h5]; exact .inr (.inr (.inr ⟨h5, rfl⟩))
      · rw [if_neg h5]; exact hw.2 h5
    have hstep := hP.step hg1 hword (fun e1 e2 => hg3 (by rw [htb]; exact decide_eq_true ⟨e1, e2⟩))
    have hrl := raw_length kd w'
    obtain ⟨p', l', g1, g2, g3, g4⟩ := ih (i + 1) (p ++ g ++ Lex.raw kd w') (l ++ [(kd, w', a + 1 + (p ++ g).length)]) kd (by omega) hstep (by simp; omega) (by simp [hl])
    refine ⟨p', l', g1, g2, g3, ?_⟩
    refine Ev.step (f := fun k => copydesklaw09_built.j1 k (a : Int) l1 l2 l3 ⟨(123 :: p).toArray⟩ (((6, [123], a) :: l).map toS) (last : Int) (i : Int) true) (fun k => by
      rw [copydesklaw09_built.l0, if_pos (by omega), decide_eq_true (by omega)]) ?_
    refine Ev.step (f := fun k => copydesklaw09_built.j2 k (a : Int) l1 l2 l3 ⟨(123 :: p).toArray⟩ (((6, [123], a) :: l).map toS) (last : Int) (i : Int) (kd : Int) ws 0) (fun k => by
      rw [copydesklaw09_built.j1, if_pos rfl, Option.bind_some, if_pos (by omega), if_pos (by omega), hpk, Option.bind_some, if_pos (by omega), if_pos (by simp; omega), kind_of t ht, hk, hws]
      split <;> rfl) ?_
    refine Ev.step (f := fun k => copydesklaw09_built.j3 k (a : Int) l1 l2 l3 ⟨(123 :: p).toArray⟩ (((6, [123], a) :: l).map toS) (last : Int) (i : Int) (kd : Int) ws gn) (fun k => by
      rw [copydesklaw09_built.j2, hgn]
      split
      · rw [if_pos (by omega)]
      · rfl) ?_
    refine Ev.step (f := fun k => copydesklaw09_built.j4 k (a : Int) l1 l2 l3 ⟨(123 :: p).toArray⟩ (((6, [123], a) :: l).map toS) (i : Int) (kd : Int) ws gn tb) (fun k => by
      rw [copydesklaw09_built.j3, htb]
      by_cases e2 : last = 2
      · rw [if_pos (by omega)]
        by_cases e3 : kd = 2
        · rw [if_pos (by omega), decide_eq_true ⟨.inl e2, .inl e3⟩]
        · rw [if_neg (by omega)]
          by_cases e4 : kd = 3
          · rw [decide_eq_true ⟨.inl e2, .inr e4⟩, e4]; rfl
          · rw [decide_eq_false (by omega), beq_eq_false_iff_ne.2 (by omega)]
      · rw [if_neg (by omega)]
        by_cases e5 : last = 3
        · rw [if_pos (by omega)]
          by_cases e3 : kd = 2
          · rw [if_pos (by omega), decide_eq_true ⟨.inr e5, .inl e3⟩]
          · rw [if_neg (by omega)]
            by_cases e4 : kd = 3
            · rw [decide_eq_true ⟨.inr e5, .inr e4⟩, e4]; rfl
            · rw [decide_eq_false (by omega), beq_eq_false_iff_ne.2 (by omega)]
        · rw [if_neg (by omega), decide_eq_false (by omega)]) ?_
    have hpl : p.length ≤ 88 := by omega
    have hw1 := hw.1
    have e : wrap64 ((a : Int) + ((((⟨(123 :: p).toArray⟩ : ByteArray).size : Int)) + ((⟨g.toArray⟩ : ByteArray).size : Int))) = ((a + 1 + (p ++ g).length : Nat) : Int) := by
      rw [mk_size, mk_size, wrap_id _ (by simp; omega) (by simp; omega)]
      simp
      omega
    refine Ev.step (f := fun k => (copydesklaw09_word.f k (kd : Int) ws).bind fun t230 => _) (fun k => by
      rw [copydesklaw09_built.j4, hge, Option.bind_some, if_pos (by rw [mk_size, mk_size]; simp; omega)]) ?_
    refine Ev.bind (f := fun k t230 => _) hwe ?_
    refine Ev.congr (fun k => ?_) g4
    by_cases h4 : kd = 4
    · have hw4 : w' = w := by rw [hw', if_neg (by omega)]
      rw [if_pos (by omega), if_pos (by rw [mk_size, mk_size]; simp; omega), if_pos (by rw [mk_size, mk_size, mk_size]; simp; omega), if_pos (by rw [mk_size, mk_size, mk_size]; simp; omega), if_pos (by simp; omega), e, wrap_succ _ (by omega), hw4, h4, show (⟨#[34]⟩ : ByteArray) = ⟨[(34 : UInt8)].toArray⟩ from rfl, mk_append, mk_append, mk_append, mk_append]
      simp [toS, Lex.raw]
    · rw [if_neg (by omega)]
      by_cases h5 : kd = 5
      · have hw5 : w' = [124] := by rw [hw', if_pos h5]
        rw [if_pos (by omega), if_pos (by rw [mk_size, mk_size]; simp; omega), if_pos (by simp; omega), e, wrap_succ _ (by omega), hw5, h5, show (⟨#[124]⟩ : ByteArray) = ⟨[(124 : UInt8)].toArray⟩ from rfl, mk_append, mk_append]
        simp [toS, Lex.raw]
      · have hw6 : w' = w := by rw [hw', if_neg h5]
        rw [if_neg (by omega), if_pos (by rw [mk_size, mk_size, mk_size]; simp; omega), if_pos (by simp; omega), e, wrap_succ _ (by omega), hw6, mk_append, mk_append]
        simp [toS, Lex.raw, h4]

theorem built_ev : ∃ (p' : Lex.Bs) (l' : List Lex.Tok), (∀ rest, Lex.Tag (a + 1) (p' ++ rest) l' rest) ∧ p'.length ≤ 95 ∧ l'.length ≤ 10 ∧
      Ev (fun k => copydesklaw09_built.f k (a : Int) l1 l2 l3) (⟨(123 :: p').toArray⟩, ((6, [123], a) :: l').map toS) := by
  obtain ⟨p', l', g1, g2, g3, g4⟩ := built_l0 a ha l1 l3 l2 h1 h3 hl1 (min l1.length 8) 0 [] [] 6 (by omega) (Lex.Pre.nil _) (by simp) rfl
  exact ⟨p', l', g1, g2, g3, g4⟩
end

theorem literal_ev (s : ByteArray) (hs : s.size ≤ 9223372036854775807) : ∃ b : Lex.Bs, b.all Lex.okB = true ∧ b.length ≤ 30 ∧ Ev (fun k => copydesklaw09_literal.f k s) ⟨b.toArray⟩ :=
  lit_l0 s hs s.size 0 [] (by omega) rfl (by simp)

/-- The source that the law composes is accepted, with the tokens that the law wants. -/
theorem round_src (b c p : Lex.Bs) (l : List Lex.Tok) (hb : b.all Lex.okB = true) (hc : c.all Lex.okB = true) (hp : ∀ rest, Lex.Tag ((Lex.esc b).length + 1) (p ++ rest) l rest) :
    Lex.Src 0 (Lex.esc b ++ 123 :: p ++ Lex.esc c) ((if b = [] then [] else [(1, b, 0)]) ++ (6, [123], (Lex.esc b).length) :: l ++ (if c = [] then [] else [(1, c, (Lex.esc b ++ 123 :: p).length)])) := by
  have htail : ∀ a, Lex.Src a (Lex.esc c) (if c = [] then [] else [(1, c, a)]) := by
    intro a
    by_cases h : c = []
    · subst h; rw [if_pos rfl]; exact .nil
    · rw [if_neg h]
      have := Lex.Src.text (a := a) (run := Lex.esc c) (rest := []) (l := []) (fun e => h (Lex.esc_nil e)) (Lex.esc_full c) (Lex.esc_all _ c hc) rfl .nil
      rw [List.append_nil, Lex.unesc_esc] at this
      exact this
  have htag := hp (Lex.esc c)
  have hmid : Lex.Src (Lex.esc b).length (123 :: (p ++ Lex.esc c)) ((6, [123], (Lex.esc b).length) :: (l ++ (if c = [] then [] else [(1, c, (Lex.esc b ++ 123 :: p).length)]))) := by
    refine .tag (Lex.textL_of_tag htag) htag ?_
    have e : (Lex.esc b).length + ((p ++ Lex.esc c).length + 1 - (Lex.esc c).length) = (Lex.esc b ++ 123 :: p).length := by simp; omega
    rw [e]
    exact htail _
  by_cases h : b = []
  · subst h
    rw [if_pos rfl]
    simpa [Lex.esc] using hmid
  · rw [if_neg h]
    have := Lex.Src.text (a := 0) (run := Lex.esc b) (rest := 123 :: (p ++ Lex.esc c)) (fun e => h (Lex.esc_nil e)) (Lex.esc_full b) (Lex.esc_all _ b hb) (Lex.textL_of_tag htag) (by rw [Nat.zero_add]; exact hmid)
    rw [Lex.unesc_esc] at this
    simpa using this

theorem LexerRoundTrip (a0 a1 : ByteArray) (l1 l3 : List Int) (l2 : List ByteArray) (hs0 : a0.size ≤ 9223372036854775807) (hs1 : a1.size ≤ 9223372036854775807) (h1 : ∀ n ∈ l1, I64 n) (h3 : ∀ n ∈ l3, I64 n) (hl1 : l1.length ≤ 9223372036854775807) :
    ∃ k, copydesklaw09_LexerRoundTrip.f k a0 a1 l1 l2 l3 = some true := by
  refine Ev.rounds ?_
  obtain ⟨b, hb1, hb2, hb3⟩ := literal_ev a0 hs0
  obtain ⟨c, hc1, hc2, hc3⟩ := literal_ev a1 hs1
  have heb := Lex.esc_length b
  have hec := Lex.esc_length c
  have hesc := escaped_ev ⟨b.toArray⟩ (by rw [mk_size]; omega)
  rw [mk_toList] at hesc
  have hesc2 := escaped_ev ⟨c.toArray⟩ (by rw [mk_size]; omega)
  rw [mk_toList] at hesc2
  obtain ⟨p, l, g1, g2, g3, g4⟩ := built_ev (Lex.esc b).length (by omega) l1 l3 l2 h1 h3 hl1
  have hsrc := round_src b c p l hb1 hc1 g1
  have htok := Lex.tokens_src hsrc (by simp; omega)
  unfold copydesklaw09_LexerRoundTrip.f
  simp only [sane_ok, Option.bind_some]
  refine Ev.bind (f := fun k t243 => _) hb3 ?_
  refine Ev.bind (f := fun k t244 => _) hc3 ?_
  refine Ev.bind (f := fun k t245 => _) hesc ?_
  -- what is wanted so far
  refine Ev.congr (f := fun k => copydesklaw09_LexerRoundTrip.j0 k l1 l2 l3 true ⟨c.toArray⟩ ⟨(Lex.esc b).toArray⟩ ((if b = [] then [] else [(1, b, 0)] : List Lex.Tok).map toS)) (fun k => ?_) ?_
  · rw [mk_toList']
    by_cases h : b = []
    · rw [if_pos h, if_pos h]; rfl
    · rw [if_neg h, if_neg h, if_pos (by decide)]; rfl
  refine Ev.step (f := fun k => (copydesklaw09_built.f k (((⟨(Lex.esc b).toArray⟩ : ByteArray).size : Nat) : Int) l1 l2 l3).bind fun bt249 => _) (fun k => by rw [copydesklaw09_LexerRoundTrip.j0]) ?_
  rw [mk_size]
  refine Ev.bind (f := fun k bt249 => _) g4 ?_
  have hw0 : ((if b = [] then [] else [(1, b, 0)] : List Lex.Tok).map toS).length ≤ 1 := by split <;> simp
  have hlen1 : ((if b = [] then [] else [(1, b, 0)] : List Lex.Tok).map toS).length + (((6, [123], (Lex.esc b).length) :: l).map toS).length < 4398046511104 := by simp at hw0 ⊢; omega
  simp only [hlen1, if_true, Option.bind_some, mk_toList']
  have hwlen : (((if b = [] then [] else [(1, b, 0)]) ++ (6, [123], (Lex.esc b).length) :: l ++ (if c = [] then [] else [(1, c, (Lex.esc b ++ 123 :: p).length)]) : List Lex.Tok).map toS).length < 9000 := by
    have : ((if c = [] then [] else [(1, c, (Lex.esc b ++ 123 :: p).length)] : List Lex.Tok)).length ≤ 1 := by split <;> simp
    simp at hw0 this ⊢
    omega
  by_cases h : c = []
  · have hle : (Lex.esc b).length + (⟨(123 :: p).toArray⟩ : ByteArray).size ≤ 9223372036854775807 := by rw [mk_size]; simp; omega
    simp only [if_pos h, hle, if_true]
    refine Ev.bind (f := fun k t256 => _) hesc2 ?_
    have hle2 : ((Lex.esc b).length + (⟨(123 :: p).toArray⟩ : ByteArray).size) + (⟨(Lex.esc c).toArray⟩ : ByteArray).size ≤ 9223372036854775807 := by rw [mk_size, mk_size]; simp; omega
    simp only [hle2, if_true, lexer_Tokens.f, Option.bind_some, mk_append, htok]
    rw [if_pos h] at hwlen
    simp only [if_pos h, List.append_nil, List.map_append]
    refine Ev.bind (f := fun _ t => some t) (a := true) ?_ (Ev.now true)
    have := same_ev _ hwlen
    simpa using this
  · have hle : (Lex.esc b).length + (⟨(123 :: p).toArray⟩ : ByteArray).size ≤ 9223372036854775807 := by rw [mk_size]; simp; omega
    have hl2 : (((if b = [] then [] else [(1, b, 0)] : List Lex.Tok).map toS) ++ ((6, [123], (Lex.esc b).length) :: l).map toS).length < 4398046511104 := by rw [List.length_append]; exact hlen1
    simp only [if_neg h, hle, hl2, if_true]
    refine Ev.bind (f := fun k t256 => _) hesc2 ?_
    have hle2 : ((Lex.esc b).length + (⟨(123 :: p).toArray⟩ : ByteArray).size) + (⟨(Lex.esc c).toArray⟩ : ByteArray).size ≤ 9223372036854775807 := by rw [mk_size, mk_size]; simp; omega
    have e : ((Lex.esc b).length : Int) + ((⟨(123 :: p).toArray⟩ : ByteArray).size : Int) = (((Lex.esc b ++ 123 :: p).length : Nat) : Int) := by
      rw [mk_size]
      simp
    simp only [hle2, if_true, lexer_Tokens.f, Option.bind_some, mk_append, htok, e]
    rw [if_neg h] at hwlen
    simp only [if_neg h, List.map_append]
    refine Ev.bind (f := fun _ t => some t) (a := true) ?_ (Ev.now true)
    have := same_ev _ hwlen
    simpa [toS] using this

end Go.Proofs.YtbgnkoecfokmaaaDoor.Pure
