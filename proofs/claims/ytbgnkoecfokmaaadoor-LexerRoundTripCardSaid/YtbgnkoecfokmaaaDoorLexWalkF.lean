/- Tokens returns the tokens that the plain function gives, or the offset of the first error. -/
import Derived.Maps.OwnIn
import Derived.Maps.AppendAt
import Derived.RegionIn
import Derived.Test.YtbgnkoecfokmaaaDoorLexWalkE
namespace Go.Proofs.YtbgnkoecfokmaaaDoor.Lex
open Go.RowKit Go.Shelf Go.Proofs.YtbgnkoecfokmaaaDoor.Kp

attribute [local go_sem] Oper.semAt_some wide_fn wide_depth

theorem scan_in (n : Nat) (s : ByteArray) (w : World) :
    CallsIn Fence.wide n Tryd.prog 16 #[.string s] w fun e w' => e = .returned (.func (.func 17) #[] #[.pointer (some ⟨w.heap.size, 0, none⟩)]) ∧ w' = w.alloc (.cells #[.string s] 9) := by
  refine callsIn_of_wp Tryd.func16 rfl trivial ?_ rfl
  simp only [Tryd.ntmps16, List.size_toArray, List.length_cons, List.length_nil, Nat.reduceAdd, Nat.reduceSub, Array.replicate_succ, Array.replicate_zero, List.push_toArray, List.append_toArray, List.nil_append, List.cons_append]
  gi_wp2
  go_ret
  exact ⟨rfl, rfl⟩

theorem scan_stops (n : Nat) (s : ByteArray) (hs : s.size ≤ 1000) (Bn O : Nat) (w : World) (hO : O < w.heap.size) (hBO : Bn ≠ O) (hGO : 0 ≠ O) (hp : ptr O w = none) (hG : Gl w) (hc : w.cell? ⟨Bn, 0, none⟩ = some (.string s)) :
    SeqStopsK Fence.wide n Tryd.prog 17 #[.pointer (some ⟨Bn, 0, none⟩)] encT (Kp O) (fun ys => ys = scanAll s.data.toList) (fun pre => pre <+: scanAll s.data.toList) (scanAll s.data.toList).length w := fun l J Jx W hW hJ _ hY h0 =>
  scan1_in n s hs l Bn O J Jx W (Nat.lt_of_lt_of_le hO hW.size) hBO hGO (by rw [ptr_same (hW.block O hO)]; exact hp) (hG.below hW) ((hW.cell (World.block_lt_of_cell? w _ hc)).trans hc) hJ hY h0

/-- The cells of tokens in a row. -/
def cellsT (l : List Tok) : List Value := l.flatMap fun x => [.int .i64 (x.1 : Nat), .string ⟨x.2.1.toArray⟩, .int .i64 (x.2.2 : Nat)]
theorem cellsT_snoc (l : List Tok) (x : Tok) : cellsT (l ++ [x]) = cellsT l ++ [.int .i64 (x.1 : Nat), .string ⟨x.2.1.toArray⟩, .int .i64 (x.2.2 : Nat)] := by simp [cellsT]

theorem tokInfo : (Tryd.prog.info? 29).map (fun i => (i.zero, i.size, i.bytes)) = some (some (.agg #[.int .i64 0, .string ⟨#[]⟩, .int .i64 0]), 3, 32) := by kernel_rfl

/-- What Tokens hands back. -/
def TokPost (s : ByteArray) (w : World) (e : Ending) (w' : World) : Prop :=
  ∃ v : Value, e = .returned (.tuple #[v, .int .i64 ((tokens s.data.toList).2.1 : Nat), .int .i64 ((tokens s.data.toList).2.2 : Nat)]) ∧
    w'.ownsRow w.heap.size 29 3 v (tokens s.data.toList).1.length (cellsT (tokens s.data.toList).1) ∧ Below w.heap.size w w'

/-- A variable's box is kept where only what is no cells has turned. -/
theorem box_keep {X Y : World} {B B0 : Nat} {t : TypeId} {v : Value} {row : Option Nat} (h : Boxed X B t v) (hg : X.grownBy Y row) (hr : ∀ r, row = some r → B0 ≤ r ∧ ∃ o : Obj, X.heap[r]? = some o ∧ o.isCells = false) : Boxed Y B t v :=
  h.kept hg fun e => by
    obtain ⟨_, o, ho, hc⟩ := hr B e.symm
    rw [show X.heap[B]? = _ from h] at ho
    cases ho
    cases hc
theorem cells_keep {X Y : World} {B B0 : Nat} {t : TypeId} {cs : Array Value} {row : Option Nat} (h : X.heap[B]? = some (.cells cs t (0, 0))) (hg : X.grownBy Y row) (hr : ∀ r, row = some r → B0 ≤ r ∧ ∃ o : Obj, X.heap[r]? = some o ∧ o.isCells = false) : Y.heap[B]? = some (.cells cs t (0, 0)) :=
  (hg.block B (lt_of_heap h) fun e => by
    obtain ⟨_, o, ho, hc⟩ := hr B e.symm
    rw [h] at ho
    cases ho
    cases hc).trans h

theorem ptr_of_box {W : World} {O : Nat} {t : TypeId} {v : Value} (h : Boxed W O t v) : ptr O W = v.ownBlock := by
  unfold ptr
  rw [h.cell]
  rfl
/-- A round that appends to the caller's slice keeps the rest. -/
theorem kp_appended {W w1 : World} {O : Nat} {t : TypeId} {v v' : Value} {tmp : Obj} (hv : Boxed W O t v) (hv1 : Boxed w1 O t v) (hgrow : (W.alloc tmp).grownBy w1 v.ownBlock) (hlt : ∀ g, v'.ownBlock = some g → g < w1.heap.size)
    (hat : v'.ownBlock = v.ownBlock ∨ v'.ownBlock = some (W.alloc tmp).heap.size) : Kp O W (w1.setCell ⟨O, 0, none⟩ v') where
  size := by
    have := hgrow.size
    simp at this
    have h2 := (grownBy_setCell' w1 O v').size
    omega
  keep k cs t m hk hO hp := by
    rw [ptr_of_box hv] at hp
    have hlt := lt_of_heap hk
    have h1 : (W.alloc tmp).heap[k]? = some (.cells cs t m) := (Below.heap_alloc W tmp k hlt).trans hk
    have h2 : w1.heap[k]? = some (.cells cs t m) := (hgrow.block k (by simp; omega) (fun e => hp e.symm)).trans h1
    exact (Below.heap_setCell w1 _ _ k (fun e => hO (by simpa using e))).trans h2
  leads r hr := by
    rw [ptr_of_box (hv1.set v')] at hr
    rw [ptr_of_box hv]
    have h3 := (grownBy_setCell' w1 O v').size
    rcases hat with e | e
    · exact .inl (e ▸ hr)
    · right
      have := hlt r hr
      rw [e] at hr
      simp at hr
      omega

theorem ownsRow_lt {w : World} {base : Nat} {e : TypeId} {size n : Nat} {v : Value} {xs : List Value} (h : w.ownsRow base e size v n xs) (k : Nat) (hk : v.ownBlock = some k) : k < w.heap.size := by
  rcases h.2 with ⟨rfl, _⟩ | ⟨g, cap, cur, rfl, hb, hh, _⟩
  · simp [Value.ownBlock] at hk
  · have : g = k := by simpa [Value.ownBlock] using hk
    subst this
    exact (Array.getElem?_eq_some_iff.1 hh).1

theorem scan_len : ∀ (k : Nat) (m : Option Nat) (a : Nat) (s : Bs), (scan k m a s).length ≤ k
  | 0, _, _, _ => by simp [scan]
  | k + 1, none, a, s => by
    rw [scan]
    split
    · simp
    · split
      · simp
      · split
        · have := scan_len k none (a + textL s) (s.drop (textL s))
          simp; omega
        · have := scan_len k (some a) (a + 1) (s.drop 1)
          simp at this ⊢; omega
  | k + 1, some o, _, [] => by simp [scan]
  | k + 1, some o, a, c :: r => by
    rw [scan]
    split
    · have := scan_len k (some o) (a + 1) r
      omega
    · split
      · simp
      · have := scan_len k (if (tokenL (c :: r)).1 = 7 then none else some o) (a + (tokenL (c :: r)).2.2) ((c :: r).drop (tokenL (c :: r)).2.2)
        rw [List.length_cons]; omega

theorem cells_new (W : World) (cs : List Value) (T : TypeId) : ∀ (j : Nat) (u : Value), cs[j]? = some u → (W.alloc (.cells cs.toArray T)).cell? ((⟨W.heap.size, 0, none⟩ : Addr).add j) = some u := by
  intro j u h
  have e : (⟨W.heap.size, 0, none⟩ : Addr).add j = ⟨W.heap.size, j, none⟩ := by unfold Addr.add; split <;> simp_all
  rw [e]
  have := World.alloc_heap_new W (.cells cs.toArray T)
  unfold World.cell?
  rw [this]
  simpa using h

theorem tok_boxes (w : World) (s : ByteArray) :
    Boxed (((((w.alloc (.cells #[.slice none 0 0] 27)).alloc (.cells #[.int .i64 0] 3)).alloc (.cells #[.int .i64 0] 32)).alloc (.cells #[.slice none 0 0] 27)).alloc (.cells #[.string s] 9)) w.heap.size 27 (.slice none 0 0) ∧ Boxed (((((w.alloc (.cells #[.slice none 0 0] 27)).alloc (.cells #[.int .i64 0] 3)).alloc (.cells #[.int .i64 0] 32)).alloc (.cells #[.slice none 0 0] 27)).alloc (.cells #[.string s] 9)) (w.heap.size + 1) 3 (.int .i64 0) ∧ Boxed (((((w.alloc (.cells #[.slice none 0 0] 27)).alloc (.cells #[.int .i64 0] 3)).alloc (.cells #[.int .i64 0] 32)).alloc (.cells #[.slice none 0 0] 27)).alloc (.cells #[.string s] 9)) (w.heap.size + 1 + 1) 32 (.int .i64 0) ∧
    Boxed (((((w.alloc (.cells #[.slice none 0 0] 27)).alloc (.cells #[.int .i64 0] 3)).alloc (.cells #[.int .i64 0] 32)).alloc (.cells #[.slice none 0 0] 27)).alloc (.cells #[.string s] 9)) (w.heap.size + 1 + 1 + 1) 27 (.slice none 0 0) ∧ Boxed (((((w.alloc (.cells #[.slice none 0 0] 27)).alloc (.cells #[.int .i64 0] 3)).alloc (.cells #[.int .i64 0] 32)).alloc (.cells #[.slice none 0 0] 27)).alloc (.cells #[.string s] 9)) (w.heap.size + 1 + 1 + 1 + 1) 9 (.string s) ∧ Below w.heap.size w (((((w.alloc (.cells #[.slice none 0 0] 27)).alloc (.cells #[.int .i64 0] 3)).alloc (.cells #[.int .i64 0] 32)).alloc (.cells #[.slice none 0 0] 27)).alloc (.cells #[.string s] 9)) ∧ (((((w.alloc (.cells #[.slice none 0 0] 27)).alloc (.cells #[.int .i64 0] 3)).alloc (.cells #[.int .i64 0] 32)).alloc (.cells #[.slice none 0 0] 27)).alloc (.cells #[.string s] 9)).heap.size = w.heap.size + 1 + 1 + 1 + 1 + 1 := by
  have e1 := Boxed.new w 27 (.slice none 0 0)
  have e2 := Boxed.new (w.alloc (.cells #[.slice none 0 0] 27)) 3 (.int .i64 0)
  have e3 := Boxed.new ((w.alloc (.cells #[.slice none 0 0] 27)).alloc (.cells #[.int .i64 0] 3)) 32 (.int .i64 0)
  have e4 := Boxed.new (((w.alloc (.cells #[.slice none 0 0] 27)).alloc (.cells #[.int .i64 0] 3)).alloc (.cells #[.int .i64 0] 32)) 27 (.slice none 0 0)
  have e5 := Boxed.new ((((w.alloc (.cells #[.slice none 0 0] 27)).alloc (.cells #[.int .i64 0] 3)).alloc (.cells #[.int .i64 0] 32)).alloc (.cells #[.slice none 0 0] 27)) 9 (.string s)
  simp only [World.size_alloc] at e2 e3 e4 e5
  refine ⟨(((e1.alloc _).alloc _).alloc _).alloc _, ((e2.alloc _).alloc _).alloc _, (e3.alloc _).alloc _, e4.alloc _, e5, ?_, by simp⟩
  exact ((((Below.refl _ w).alloc (Nat.le_refl _) _).alloc (by simp) _).alloc (by simp; omega) _ |>.alloc (by simp; omega) _ |>.alloc (by simp; omega) _)

set_option maxRecDepth 100000 in
set_option maxHeartbeats 4000000 in
theorem tokens_in (n : Nat) (hn : 3 ≤ n) (s : ByteArray) (hs : s.size ≤ 1000) (w : World) (hG : Gl w) :
    CallsIn Fence.wide n Tryd.prog 11 #[.string s] w (TokPost s w) := by
  have h1 : 1 ≤ n := by omega
  have hdec : decide ((1000 : Int) < ↑s.size) = false := by simp; omega
  have hgn : 0 < w.heap.size := by
    obtain ⟨m, hm⟩ := hG
    exact World.block_lt_of_cell? w _ hm
  obtain ⟨i0, hi, hz0, hz1, hz2⟩ := info_parts tokInfo
  obtain ⟨b2, b3, b4, bO, bS, hB0, hsz⟩ := tok_boxes w s
  have HB := hid (And.intro b2 (And.intro b3 (And.intro b4 (And.intro bO (And.intro bS hB0)))))
  have HSZ := hid hsz
  have HG := hid hG
  clear b2 b3 b4 bO bS hB0 hsz hG
  refine callsIn_of_wp_marks Tryd.func11 rfl trivial ?_ rfl
  simp only [Tryd.ntmps11, List.size_toArray, List.length_cons, List.length_nil, Nat.reduceAdd, Nat.reduceSub, Array.replicate_succ, Array.replicate_zero, List.push_toArray, List.append_toArray, List.nil_append, List.cons_append]
  gi_wp2_with (gi_at_call 16; refine (scan_in _ _ _).mono ?_; rintro e w' ⟨rfl, rfl⟩)
  obtain ⟨W0, hW0⟩ : ∃ W0, (((((w.alloc (.cells #[.slice none 0 0] 27)).alloc (.cells #[.int .i64 0] 3)).alloc (.cells #[.int .i64 0] 32)).alloc (.cells #[.slice none 0 0] 27)).alloc (.cells #[.string s] 9)) = W0 := ⟨_, rfl⟩
  rw [hW0] at HB HSZ ⊢
  obtain ⟨b2, b3, b4, bO, bS, hB0⟩ := HB.out
  have hsz := HSZ.out
  refine wpIn_rangeFunc_ownH rfl h1 (gf := 17) (lb := #[.pointer (some ⟨w.heap.size + 1 + 1 + 1 + 1, 0, none⟩)]) rfl trivial (enters_of Tryd.func17 (by kernel_rfl) rfl)
    (scan_stops (n - 1) s hs (w.heap.size + 1 + 1 + 1 + 1) (w.heap.size + 1 + 1 + 1) W0 (by omega) (by omega) (by omega) (by rw [ptr_of_box bO]; rfl) (HG.out.below hB0) bS.cell) (fun h k => Kp.trans h k) (fun W l o o' hl h2 h3 _ => Kp.putObj (by omega) h2 h3) (Below.refl _ _) (fun _ => rfl)
    (fun (pre : List Tok) W => (∃ v, Boxed W (w.heap.size + 1 + 1 + 1) 27 v ∧ W.ownsRow w.heap.size 29 3 v pre.length (cellsT pre) ∧ True) ∧ (Boxed W w.heap.size 27 (.slice none 0 0) ∧ Boxed W (w.heap.size + 1) 3 (.int .i64 0) ∧ Boxed W (w.heap.size + 1 + 1) 32 (.int .i64 0)) ∧ (∀ x ∈ pre, x.1 ≠ 0) ∧ Below w.heap.size w W)
    (fun c (pre : List Tok) W => c = .ret ∧ ∃ (p : List Tok) (t : Tok), pre = p ++ [t] ∧ t.1 = 0 ∧ (∀ x ∈ p, x.1 ≠ 0) ∧ Boxed W w.heap.size 27 (.slice none 0 0) ∧ Boxed W (w.heap.size + 1) 3 (.int .i64 (t.2.2 : Nat)) ∧ Boxed W (w.heap.size + 1 + 1) 32 (.int .i64 90) ∧ Below w.heap.size w W)
    (OwnFrom.and (Own.from (holdsRow_own w.heap.size (w.heap.size + 1 + 1 + 1) 27 29 3 (fun pre : List Tok => pre.length) cellsT (fun _ _ => True)) _) (OwnFrom.and (fun _ _ _ _ h hg hr => ⟨box_keep h.1 hg hr, box_keep h.2.1 hg hr, box_keep h.2.2 hg hr⟩) (OwnFrom.and (ownFrom_pure _ _) (ownFrom_below (Nat.le_refl _) (by omega)))))
    (fun c s X Y row ⟨hc, p, t, he, h0, hp, c2, c3, c4, hB⟩ hg hr => ⟨hc, p, t, he, h0, hp, box_keep c2 hg hr, box_keep c3 hg hr, box_keep c4 hg hr, ownFrom_below (β := Unit) (Nat.le_refl _) (by omega) () X Y row hB hg hr⟩)
    ⟨⟨_, bO, World.ownsRow_nil _ _ _ _, trivial⟩, ⟨b2, b3, b4⟩, (fun x hx => by cases hx), hB0⟩
    (fun (x : Tok) a' W => ∃ Bx, w.heap.size + 1 + 1 + 1 < Bx ∧ W.heap[Bx]? = some (.cells #[.int .i64 (x.1 : Nat), .string ⟨x.2.1.toArray⟩, .int .i64 (x.2.2 : Nat)] 29 (0, 0)) ∧ a' = { tmps := #[.string s, undef, .pointer (some ⟨w.heap.size, 0, none⟩), .pointer (some ⟨w.heap.size + 1, 0, none⟩), .pointer (some ⟨w.heap.size + 1 + 1, 0, none⟩), .pointer (some ⟨w.heap.size + 1 + 1 + 1, 0, none⟩), .pointer (some ⟨Bx, 0, none⟩), .string s, .int .i64 ↑s.size, .bool false, .string s, .func (.func 17) #[] #[.pointer (some ⟨w.heap.size + 1 + 1 + 1 + 1, 0, none⟩)], .agg #[.int .i64 (x.1 : Nat), .string ⟨x.2.1.toArray⟩, .int .i64 (x.2.2 : Nat)], undef, undef, undef, undef, undef, undef, undef, undef, undef, undef], defers := [] })
    (fun x a' _ X Y row ⟨Bx, hBx, hx, ha⟩ hg hr => ⟨Bx, hBx, cells_keep hx hg hr, ha⟩) ?assign ?body ?done ?stop
  case assign =>
    rintro l pre x W K hI hK
    unfold encT
    gi_wp2
    obtain ⟨⟨v, hv, hrow, -⟩, ⟨c2, c3, c4⟩, hne, hB⟩ := hI
    exact hK _ _ ((KeepsOthers.alloc _ _).from _) (Kp.of_below hv.lt ((Below.refl _ W).alloc (Nat.le_refl _) _)) ⟨⟨v, hv.alloc _, hrow.alloc _, trivial⟩, ⟨c2.alloc _, c3.alloc _, c4.alloc _⟩, hne, hB.alloc hB.size _⟩ ⟨W.heap.size, hv.lt, World.alloc_heap_new W _, rfl⟩
  case body =>
    rintro l pre x a' W hl ⟨r, hr⟩ ⟨⟨v, hv, hrow, -⟩, ⟨c2, c3, c4⟩, hne, hB⟩ ⟨Bx, hBx, hx, rfl⟩ hlt
    have k0 : W.cell? ⟨Bx, 0, none⟩ = some (.int .i64 (x.1 : Nat)) := by simp [World.cell?, hx]
    have k1 : W.cell? ⟨Bx, 1, none⟩ = some (.string ⟨x.2.1.toArray⟩) := by simp [World.cell?, hx]
    have k2 : W.cell? ⟨Bx, 2, none⟩ = some (.int .i64 (x.2.2 : Nat)) := by simp [World.cell?, hx]
    have ho := hv.cell
    have fo := hv.frozen
    have q2 := c2.cell
    have q3 := c3.cell
    have q4 := c4.cell
    have f2 := c2.frozen
    have f3 := c3.frozen
    have f4 := c4.frozen
    by_cases hk : x.1 = 0
    · have e0 : ((x.1 : Int) == 0) = true := by simp; omega
      have HK := hid hk
      clear hk
      gi_wp2
      gi_region
      all_goals
        gi_wp2
        refine ⟨((((KeepsOthers.setCell _ _ _).trans (KeepsOthers.setCell _ _ _)).trans (KeepsOthers.setCell _ _ _)).trans (KeepsOthers.drew _)).from _, rfl, pre, x, rfl, HK.out, hne, ?_, ?_, ?_, ?_⟩
        · exact ((c2.set _).other (by omega) _).other (by omega) _
        · exact ((c3.other (B' := w.heap.size) (by omega) _).set _).other (by omega) _
        · exact ((c4.other (B' := w.heap.size) (by omega) _).other (B' := w.heap.size + 1) (by omega) _).set _
        · exact (((hB.setCell (p := ⟨w.heap.size, 0, none⟩) (Nat.le_refl _) _).setCell (p := ⟨w.heap.size + 1, 0, none⟩) (by simp) _).setCell (p := ⟨w.heap.size + 1 + 1, 0, none⟩) (by simp; omega) _).drew
    · have e0 : ((x.1 : Int) == 0) = false := by simp; omega
      have HK := hid hk
      clear hk
      have hpl : pre.length < 1001 := by
        have := scan_len (s.data.toList.length + 1) none 0 s.data.toList
        have e : s.data.toList.length = s.size := by simp
        unfold scanAll at hlt
        omega
      have HN := hid hne
      clear hne
      gi_wp2_with (gi_at_builtin; go_loud (refine wpListIn_append_own_at _ rfl _ _ 27 rfl w.heap.size 29 i0 (.agg #[.int .i64 0, .string ⟨#[]⟩, .int .i64 0]) 3 32 Tryd.underlying27 hi hz0 hz1 hz2 rfl (by decide) _ _ _ rfl (hrow.alloc _) ⟨W.heap.size, 0, none⟩ 1 1 [.int .i64 (x.1 : Nat), .string ⟨x.2.1.toArray⟩, .int .i64 (x.2.2 : Nat)] rfl rfl (cells_new _ _ _) (by simp [Value.oneCell']) (by unfold maxLen; omega) (by omega) (by have := hB.size; simp; omega) ?_); intro v' w1 hown' hgrow _ hat; obtain ⟨g', cap', rfl⟩ := ownsRow_succ hown'; obtain ⟨hv1, hv2, hr2, hk2, hb2⟩ := hv.appended (by decide) hrow hB.size (by omega) hown' hgrow; have hKP := hid (kp_appended hv hv1 hgrow (fun g e => by have := ownsRow_lt hown' g e; exact this) hat); have hc1 := hv1.cell; have hf1 := hv1.frozen; have HG1 := hid hgrow; clear hat hgrow)
      have d2 := hKP.out.keep _ _ _ _ c2 (by omega) (by rw [ptr_of_box hv]; exact (c2.not_row (by decide) hrow).symm)
      have d3 := hKP.out.keep _ _ _ _ c3 (by omega) (by rw [ptr_of_box hv]; exact (c3.not_row (by decide) hrow).symm)
      have d4 := hKP.out.keep _ _ _ _ c4 (by omega) (by rw [ptr_of_box hv]; exact (c4.not_row (by decide) hrow).symm)
      refine ⟨hk2.from _, hKP.out, ⟨_, hv2, ?_, trivial⟩, ⟨d2, d3, d4⟩, ?_, hB.trans hb2⟩
      · rw [List.length_append, cellsT_snoc]
        exact hr2
      · intro y hy
        rcases List.mem_append.1 hy with h | h
        · exact HN.out y h
        · rw [List.mem_singleton.1 h]
          exact HK.out
  case done =>
    rintro D ys W hD rfl ⟨⟨v, hv, hrow, -⟩, ⟨c2, c3, c4⟩, hne, hB⟩ hK
    have ho := hv.cell
    have fo := hv.frozen
    have q2 := c2.cell
    have q3 := c3.cell
    have q4 := c4.cell
    have f2 := c2.frozen
    have f3 := c3.frozen
    have f4 := c4.frozen
    obtain ⟨A, c, rfl⟩ : ∃ A c, v = .slice A (scanAll s.data.toList).length c := by
      rcases hrow.2 with ⟨rfl, h⟩ | ⟨g, cap, cur, rfl, _⟩
      · exact ⟨none, 0, by rw [h]⟩
      · exact ⟨_, _, rfl⟩
    gi_wp2
    obtain ⟨W3, hW3⟩ : ∃ W3, ((W.setCell ⟨w.heap.size, 0, none⟩ (.slice A (scanAll s.data.toList).length c)).setCell ⟨w.heap.size + 1, 0, none⟩ (.int .i64 0)).setCell ⟨w.heap.size + 1 + 1, 0, none⟩ (.int .i64 0) = W3 := ⟨_, rfl⟩
    have hK3 : W3.heap[D]? = some (.deferred (some [])) := by
      rw [← hW3]
      exact (((KeepsOthers.setCell _ _ _).trans (KeepsOthers.setCell _ _ _)).trans (KeepsOthers.setCell _ _ _)).same D _ hK rfl
    have d2 : Boxed W3 w.heap.size 27 (.slice A (scanAll s.data.toList).length c) := by rw [← hW3]; exact ((c2.set _).other (by omega) _).other (by omega) _
    have d3 : Boxed W3 (w.heap.size + 1) 3 (.int .i64 0) := by rw [← hW3]; exact ((c3.other (B' := w.heap.size) (by omega) _).set _).other (by omega) _
    have d4 : Boxed W3 (w.heap.size + 1 + 1) 32 (.int .i64 0) := by rw [← hW3]; exact ((c4.other (B' := w.heap.size) (by omega) _).other (B' := w.heap.size + 1) (by omega) _).set _
    have hrow3 : W3.ownsRow w.heap.size 29 3 (.slice A (scanAll s.data.toList).length c) (scanAll s.data.toList).length (cellsT (scanAll s.data.toList)) := by
      rw [← hW3]
      exact ((hrow.kept (grownBy_setCell' W _ _) (.inr (c2.not_row (by decide) hrow).symm)).kept (grownBy_setCell' _ _ _) (.inr (c3.not_row (by decide) hrow).symm)).kept (grownBy_setCell' _ _ _) (.inr (c4.not_row (by decide) hrow).symm)
    have hB3 : Below w.heap.size w W3 := by
      rw [← hW3]
      exact ((hB.setCell (p := ⟨w.heap.size, 0, none⟩) (Nat.le_refl _) _).setCell (p := ⟨w.heap.size + 1, 0, none⟩) (by simp) _).setCell (p := ⟨w.heap.size + 1 + 1, 0, none⟩) (by simp; omega) _
    rw [hW3]
    clear hW3
    have hput := grownBy_putObj' W3 D (.deferred none)
    have hrr : ∀ r, some D = some r → 0 ≤ r ∧ ∃ o : Obj, (W3).heap[r]? = some o ∧ o.isCells = false := fun r e => by cases e; exact ⟨Nat.zero_le _, _, hK3, rfl⟩
    have g2 := (box_keep d2 hput hrr).cell
    have g3 := (box_keep d3 hput hrr).cell
    have g4 := (box_keep d4 hput hrr).cell
    refine ⟨by simp, .inl ⟨_, _, rfl, run_takeDeferred hK3, ?_⟩⟩
    refine ⟨.tuple #[.slice A (scanAll s.data.toList).length c, .int .i64 0, .int .i64 0], by simp [results, Tryd.results11, go_sem, g2, g3, g4], ?_⟩
    have ht : tokens s.data.toList = (scanAll s.data.toList, 0, 0) := by
      unfold tokens
      rw [if_neg (by simp; omega), List.find?_eq_none.2 (fun x hx => by simpa using hne x hx)]
    refine ⟨.slice A (scanAll s.data.toList).length c, by rw [ht]; rfl, by rw [ht]; exact ownsRow_putObj hrow3 _ hK3 rfl, ?_⟩
    exact hB3.trans (belowK_b (w := w) (Nat.le_refl _) W3 D _ _ (by omega) hK3 rfl rfl)
  case stop =>
    rintro D c pre W hD hpre ⟨rfl, p, t, rfl, h0, hp, c2, c3, c4, hB⟩ hK
    gi_wp2
    have hput := grownBy_putObj' W D (.deferred none)
    have hrr : ∀ r, some D = some r → 0 ≤ r ∧ ∃ o : Obj, W.heap[r]? = some o ∧ o.isCells = false := fun r e => by cases e; exact ⟨Nat.zero_le _, _, hK, rfl⟩
    have g2 := (box_keep c2 hput hrr).cell
    have g3 := (box_keep c3 hput hrr).cell
    have g4 := (box_keep c4 hput hrr).cell
    refine ⟨by simp, .inl ⟨_, _, rfl, run_takeDeferred hK, ?_⟩⟩
    refine ⟨.tuple #[.slice none 0 0, .int .i64 (t.2.2 : Nat), .int .i64 90], by simp [results, Tryd.results11, go_sem, g2, g3, g4], ?_⟩
    have ht : tokens s.data.toList = ([], t.2.2, 90) := by
      unfold tokens
      obtain ⟨q, hq⟩ := hpre
      have hf : (scanAll s.data.toList).find? (fun t => t.1 == 0) = some t := by
        rw [← hq, List.append_assoc, List.find?_append, List.find?_eq_none.2 (fun x hx => by simpa using hp x hx)]
        simp [h0]
      rw [if_neg (by simp; omega), hf]
    refine ⟨.slice none 0 0, by rw [ht]; rfl, by rw [ht]; exact World.ownsRow_nil _ _ _ _, ?_⟩
    exact hB.trans (belowK_b (w := w) (Nat.le_refl _) W D _ _ (by omega) hK rfl rfl)

set_option maxHeartbeats 1000000 in
theorem tokens_long (s : ByteArray) (hs : 1000 < s.size) (w : World) : Calls Tryd.prog 11 #[.string s] w (TokPost s w) := by
  have hdec : decide ((1000 : Int) < ↑s.size) = true := by simp; omega
  have HT : Hid (tokens s.data.toList = ([], 1000, 90)) := hid (by unfold tokens; rw [if_pos (by simpa using hs)])
  go_enter Tryd.func11, Tryd.ntmps11
  go_wp2
  refine bodyPost_ret (v := .tuple #[.slice none 0 0, .int .i64 1000, .int .i64 90]) (by simp [results, Tryd.results11, go_sem]) rfl ?_
  refine ⟨.slice none 0 0, by rw [HT.out]; rfl, by rw [HT.out]; exact World.ownsRow_nil _ _ _ _, ?_⟩
  exact (((Below.refl _ w).alloc (Nat.le_refl _) _).alloc (by simp) _).alloc (by simp; omega) _

theorem tokens_any (s : ByteArray) (w : World) (hG : Gl w) : Calls Tryd.prog 11 #[.string s] w (TokPost s w) := by
  by_cases hs : s.size ≤ 1000
  · exact callsIn_wide.1 (tokens_in 3 (Nat.le_refl _) s hs w hG)
  · exact tokens_long s (by omega) w

end Go.Proofs.YtbgnkoecfokmaaaDoor.Lex
