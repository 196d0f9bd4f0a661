/- address.Parse. -/
import Derived.Test.YtdfjpbdfafpfgaaGreatDoorAdParseA
namespace Go.Proofs.YtdfjpbdfafpfgaaGreatDoor.Ad
open Go.RowKit Go.Lib Go.Proofs.YtdfjpbdfafpfgaaGreatDoorW.PrintWords

theorem gl_to {w w' : World} (h : Lex.Gl w) (hb : Below w.heap.size w w') : Lex.Gl w' := h.below hb

/-- The value of a row is a slice. -/
theorem own_form {W : World} {base : Nat} {e : TypeId} {v : Value} {n : Nat} {xs : List Value} (h : W.ownsRow base e 1 v n xs) : ∃ p c, v = .slice p n c := by
  rcases h.2 with ⟨rfl, rfl⟩ | ⟨g, cap, cur, hv, _⟩
  · exact ⟨_, _, rfl⟩
  · exact ⟨_, _, hv⟩

theorem split_walk (s : ByteArray) (hs : s.size ≤ 1000) (x : ByteArray) (l : List ByteArray) (hx : splitS s = x :: l) (w : World) (hG : Lex.Gl w) :
    Calls Tryz.prog 24 #[.string (pathB s), .string ⟨#[47]⟩] w fun e w' => e = .returned (.slice (some ⟨w.heap.size, 0, none⟩) (l.length + 1) (l.length + 1)) ∧ w' = w.alloc (.cells ((x :: l).map Value.string).toArray 9) := by
  obtain ⟨⟨m, hm⟩, -⟩ := hG
  have hlen := splitS_len s
  rw [hx, List.length_cons] at hlen
  have := Tryz.strings_Split (pathB s) slashB m w (by have := pathB_size s; omega) hm (by decide)
  rw [← hx]
  rw [hlen]
  exact this

theorem wrapLen {n : Nat} (h : n ≤ 1000) : IntKind.i64.wrap (n : Int) = n := by
  rw [IntKind.wrap_i64]; omega

set_option maxHeartbeats 8000000 in
set_option maxRecDepth 1000000 in
theorem parseNone (s : ByteArray) (hs : s.size ≤ 1000) (x : ByteArray) (l : List ByteArray) (hx : splitS s = x :: l) (hsz : ∀ y ∈ l, y.size ≤ 1000) (_ : l.length ≤ 1000) (w : World) (hG : Lex.Gl w) (hn : ¬ 0 ≤ numW x) :
    Calls Tryz.prog 15 #[.string s] w fun e w' => e = .returned (.tuple #[.agg #[.int .i64 0, .string ⟨#[]⟩, .int .i64 0, .string ⟨#[]⟩], .int .i64 120]) ∧ Below w.heap.size w w' := by
  have mixed : Tryz.prog.follows .mixedOrders = true := by kernel_rfl
  have HT : Aside (∀ w, Calls Tryz.prog 25 #[.string s, .string ⟨#[47]⟩] w fun e w' => e = .returned (.string (pathB s)) ∧ w' = w) := fun w => Tryz.strings_TrimPrefix s slashB w
  have HSp : Aside _ := fun w hG => split_walk s hs x l hx w hG
  have HF : Aside _ := fun lb rb w hb hr => findWord x lb rb l.length w hb hr
  have HSZ : Aside _ := hsz
  have HGl : Aside _ := hG
  clear hx hG hsz
  generalize hp : pathB s = p at *
  clear hp
  generalize numW x = n at *
  rw [formAt_eq] at HF
  have h2 : Aside _ := getOf_one (slotOf n)
  have h3 : Aside _ := putOf_one (slotOf n)
  generalize getOf (slotOf n) = v2 at *
  generalize putOf (slotOf n) = v3 at *
  generalize kindOf (slotOf n) = v0 at *
  generalize wordOf (slotOf n) = v1 at *
  generalize urgOf (slotOf n) = v4 at *
  have hdec : decide (0 ≤ n) = false := decide_eq_false hn
  rw [hdec] at HF
  clear hdec hn
  go_enter Tryz.func15, Tryz.ntmps15
  go_wp2_with (first
    | (go_at_call 25; refine (HT.out _).mono ?_; rintro e w' ⟨rfl, rfl⟩)
    | (go_at_call 24; refine (HSp.out _ (gl_to HGl.out ((Below.refl _ _).alloc (Nat.le_refl _) _))).mono ?_; rintro e w' ⟨rfl, rfl⟩)
    | (go_at_call 26; fail))
  clear HT HSp
  generalize hw1 : World.alloc (World.alloc (World.alloc w _) _) _ = w1
  have hB1 : Below w.heap.size w w1 := by rw [← hw1]; exact (((Below.refl _ w).alloc (Nat.le_refl _) _).alloc (by simp) _).alloc (by simp; omega) _
  have hs1 : w1.heap.size = w.heap.size + 1 + 1 + 1 := by rw [← hw1]; simp
  have hb1 : w1.heap[w.heap.size]? = some (.cells #[.int .i64 0, .string ⟨#[]⟩, .int .i64 0, .string ⟨#[]⟩] 23) := by
    rw [← hw1, Below.heap_alloc _ _ _ (by simp; omega), Below.heap_alloc _ _ _ (by simp)]; exact heap_alloc_new _ _
  have hr1 : w1.heap[w.heap.size + 1]? = some (.cells ((x :: l).map Value.string).toArray 9) := by
    rw [← hw1, Below.heap_alloc _ _ _ (by simp)]; exact heap_alloc2_new _ _ _
  have hl1 : w1.cell? ⟨w.heap.size + 1 + 1, 0, none⟩ = some (.slice (some ⟨w.heap.size + 1, 0, none⟩) (l.length + 1) (l.length + 1)) := by
    rw [← hw1, World.cell?_alloc_at _ _ _ _ (by simp)]; rfl
  clear hw1
  have hrow1 : ∀ (j : Nat) y, (x :: l)[j]? = some y → w1.cell? ⟨w.heap.size + 1, j, none⟩ = some (.string y) := fun j y hj => by
    rw [cell_of_row w1 _ j _ _ _ hr1, List.getElem?_toArray, List.getElem?_map, hj]; rfl
  refine (HF.out _ _ w1 hl1 (hrow1 0 x rfl)).mono ?_
  rintro e w2 ⟨rfl, hB2⟩
  have hB2' : Below w.heap.size w w2 := hB1.trans (hB2.mono (by omega))
  have hs2 : w.heap.size + 1 + 1 < w2.heap.size := by have := hB2.size; omega
  have hb2 : w2.heap[w.heap.size]? = some (.cells #[.int .i64 0, .string ⟨#[]⟩, .int .i64 0, .string ⟨#[]⟩] 23 (0, 0)) := by rw [hB2.block _ (by omega)]; exact hb1
  have hl2 := keep_cell hB2 hl1
  have hrow2 : ∀ (j : Nat) y, (x :: l)[j]? = some y → w2.cell? ⟨w.heap.size + 1, j, none⟩ = some (.string y) := fun j y hj => keep_cell hB2 (hrow1 j y hj)
  clear hB1 hs1 hb1 hr1 hl1 hrow1 hB2
  have HB2 : Aside _ := hB2'
  have HR2 : Aside _ := hrow2
  have HR0 : Aside _ := hb2
  clear hB2' hrow2 hb2 HF
  generalize hR : w.heap.size = R at *
  have sn : ∀ (a : Addr) (m : Mode) (w : World), (store a .nilFunc m).run Tryz.prog w = stored Tryz.prog w a .nilFunc m := fun a m w => run_store _ w a _ m rfl
  have s2 : ∀ (a : Addr) (m : Mode) (w : World), (store a v2 m).run Tryz.prog w = stored Tryz.prog w a v2 m := fun a m w => run_store _ w a _ m h2.out
  have s3 : ∀ (a : Addr) (m : Mode) (w : World), (store a v3 m).run Tryz.prog w = stored Tryz.prog w a v3 m := fun a m w => run_store _ w a _ m h3.out
  go_wp2
  generalize hw4 : World.alloc (World.alloc w2 _) _ = w4
  have hB24 : Below w2.heap.size w2 w4 := by rw [← hw4]; exact ((Below.refl _ w2).alloc (Nat.le_refl _) _).alloc (by simp) _
  have hB4 : Below R w w4 := HB2.out.trans (hB24.mono (by omega))
  have hs4 : w4.heap.size = w2.heap.size + 1 + 1 := by rw [← hw4]; simp
  have hf4 : w4.heap[w2.heap.size]? = some (.cells #[.int .i64 v0, .string v1, v2, v3, .int .i64 v4] 44 (0, 0)) := by
    rw [← hw4, Below.heap_alloc _ _ _ (by simp)]; exact heap_alloc_new _ _
  have ha4 : w4.heap[w2.heap.size + 1]? = some (.cells #[.int .i64 v0, .string ⟨#[]⟩, .int .i64 0, .string ⟨#[]⟩] 23 (0, 0)) := by
    rw [← hw4]; exact heap_alloc2_new _ _ _
  have hr4 : w4.heap[R]? = some (.cells #[.int .i64 0, .string ⟨#[]⟩, .int .i64 0, .string ⟨#[]⟩] 23 (0, 0)) := by rw [hB24.block _ (by omega)]; exact HR0.out
  have hl4 := keep_cell hB24 hl2
  have hrow4 : ∀ (j : Nat) y, (x :: l)[j]? = some y → w4.cell? ⟨R + 1, j, none⟩ = some (.string y) := fun j y hj => keep_cell hB24 (HR2.out j y hj)
  have hsR : R + 1 + 1 < w2.heap.size := hs2
  clear hw4 hs2 hl2
  generalize hfb : w2.heap.size = fb at *
  have HB4 : Aside _ := hB4
  have HF4 : Aside _ := hf4
  have HA4 : Aside _ := ha4
  have HRR : Aside _ := hr4
  have HRW : Aside _ := hrow4
  clear hB24 hB4 hf4 ha4 hr4 hrow4 HB2 HR2 HR0
  have e0 : w4.cell? ⟨R, 0, none⟩ = some (.int .i64 0) := by unfold World.cell?; rw [HRR.out]; rfl
  have e1 : w4.cell? ⟨R, 1, none⟩ = some (.string ⟨#[]⟩) := by unfold World.cell?; rw [HRR.out]; rfl
  have e2 : w4.cell? ⟨R, 2, none⟩ = some (.int .i64 0) := by unfold World.cell?; rw [HRR.out]; rfl
  have e3 : w4.cell? ⟨R, 3, none⟩ = some (.string ⟨#[]⟩) := by unfold World.cell?; rw [HRR.out]; rfl
  have z : ∀ i, w4.frozen? ⟨R, i, none⟩ = false := fun i => by unfold World.frozen?; rw [HRR.out]; first | rfl | simp
  have z0 := z 0; have z1 := z 1; have z2 := z 2; have z3 := z 3
  clear z
  go_quiet (fail)
  go_wp2
  have HBe : Aside (Below R w (w4.drewN nq)) := ⟨HB4.out.os, HB4.out.tape, HB4.out.output, HB4.out.size, HB4.out.block⟩
  (try simp only [Exit.inBlock, Exit.then])
  refine bodyPost_ret (v := .tuple #[.agg #[.int .i64 0, .string ⟨#[]⟩, .int .i64 0, .string ⟨#[]⟩], .int .i64 120]) ?_ rfl ⟨rfl, ?_⟩
  · rw [results_cell_tmp rfl]
    go_simp
  · rw [hR]
    repeat (first | exact HBe.out | refine Below.setCell (B := R) (p := ⟨R, _, none⟩) ?_ (Nat.le_refl _) _)

set_option maxHeartbeats 8000000 in
set_option maxRecDepth 1000000 in
theorem parseCount (s : ByteArray) (hs : s.size ≤ 1000) (x : ByteArray) (l : List ByteArray) (hx : splitS s = x :: l) (hsz : ∀ y ∈ l, y.size ≤ 1000) (hlen : l.length ≤ 1000) (w : World) (hG : Lex.Gl w) (hn : 0 ≤ numW x) (hfn : 0 ≤ numW x → slotOf (numW x) < 6) (hc : l.length ≠ partN (slotOf (numW x))) :
    Calls Tryz.prog 15 #[.string s] w fun e w' => e = .returned (.tuple #[.agg #[.int .i64 0, .string ⟨#[]⟩, .int .i64 0, .string ⟨#[]⟩], .int .i64 120]) ∧ Below w.heap.size w w' := by
  have mixed : Tryz.prog.follows .mixedOrders = true := by kernel_rfl
  have HT : Aside (∀ w, Calls Tryz.prog 25 #[.string s, .string ⟨#[47]⟩] w fun e w' => e = .returned (.string (pathB s)) ∧ w' = w) := fun w => Tryz.strings_TrimPrefix s slashB w
  have HSp : Aside _ := fun w hG => split_walk s hs x l hx w hG
  have HF : Aside _ := fun lb rb w hb hr => findWord x lb rb l.length w hb hr
  have HSZ : Aside _ := hsz
  have HGl : Aside _ := hG
  clear hx hG hsz
  generalize hp : pathB s = p at *
  clear hp
  generalize numW x = n at *
  rw [formAt_eq] at HF
  have hdec : decide (0 ≤ n) = true := decide_eq_true hn
  rw [hdec] at HF
  obtain ⟨g, hg, eg, hget⟩ := gets (slotOf n) (hfn hn)
  obtain ⟨g', hg', eg', hput⟩ := puts (slotOf n) (hfn hn)
  have HGet : ∀ (w : World) (b : Nat), w.heap.size = b → Calls Tryz.prog g #[.agg #[.int .i64 (kindOf (slotOf n)), .string ⟨#[]⟩, .int .i64 0, .string ⟨#[]⟩]] w fun e w' => (∃ p c, e = .returned (.slice p (partN (slotOf n)) c)) ∧ Below b w w' := fun w b hb => by
    refine (hget (kindOf (slotOf n)) ⟨#[]⟩ 0 ⟨#[]⟩ (by decide) w b hb).mono ?_
    rintro e w' ⟨v, rfl, hv, -, hB⟩
    obtain ⟨p, c, rfl⟩ := own_form hv
    rw [partN_eq]
    exact ⟨⟨p, c, rfl⟩, hB⟩
  have HGet : Aside _ := HGet
  rw [hg, hg'] at HF
  clear hdec hn hfn hget hg hg'
  generalize kindOf (slotOf n) = v0 at *
  generalize wordOf (slotOf n) = v1 at *
  generalize urgOf (slotOf n) = v4 at *
  clear hput eg'
  have hne : ((l.length : Int) != (partN (slotOf n) : Int)) = true := by rw [bne_iff_ne]; omega
  have hwr : IntKind.i64.wrap (l.length : Int) = (l.length : Int) := wrapLen hlen
  generalize partN (slotOf n) = k at *
  go_enter Tryz.func15, Tryz.ntmps15
  go_wp2_with (first
    | (go_at_call 25; refine (HT.out _).mono ?_; rintro e w' ⟨rfl, rfl⟩)
    | (go_at_call 24; refine (HSp.out _ (gl_to HGl.out ((Below.refl _ _).alloc (Nat.le_refl _) _))).mono ?_; rintro e w' ⟨rfl, rfl⟩)
    | (go_at_call 26; fail))
  clear HT HSp
  generalize hw1 : World.alloc (World.alloc (World.alloc w _) _) _ = w1
  have hB1 : Below w.heap.size w w1 := by rw [← hw1]; exact (((Below.refl _ w).alloc (Nat.le_refl _) _).alloc (by simp) _).alloc (by simp; omega) _
  have hs1 : w1.heap.size = w.heap.size + 1 + 1 + 1 := by rw [← hw1]; simp
  have hb1 : w1.heap[w.heap.size]? = some (.cells #[.int .i64 0, .string ⟨#[]⟩, .int .i64 0, .string ⟨#[]⟩] 23) := by
    rw [← hw1, Below.heap_alloc _ _ _ (by simp; omega), Below.heap_alloc _ _ _ (by simp)]; exact heap_alloc_new _ _
  have hr1 : w1.heap[w.heap.size + 1]? = some (.cells ((x :: l).map Value.string).toArray 9) := by
    rw [← hw1, Below.heap_alloc _ _ _ (by simp)]; exact heap_alloc2_new _ _ _
  have hl1 : w1.cell? ⟨w.heap.size + 1 + 1, 0, none⟩ = some (.slice (some ⟨w.heap.size + 1, 0, none⟩) (l.length + 1) (l.length + 1)) := by
    rw [← hw1, World.cell?_alloc_at _ _ _ _ (by simp)]; rfl
  clear hw1
  have hrow1 : ∀ (j : Nat) y, (x :: l)[j]? = some y → w1.cell? ⟨w.heap.size + 1, j, none⟩ = some (.string y) := fun j y hj => by
    rw [cell_of_row w1 _ j _ _ _ hr1, List.getElem?_toArray, List.getElem?_map, hj]; rfl
  refine (HF.out _ _ w1 hl1 (hrow1 0 x rfl)).mono ?_
  rintro e w2 ⟨rfl, hB2⟩
  have hB2' : Below w.heap.size w w2 := hB1.trans (hB2.mono (by omega))
  have hs2 : w.heap.size + 1 + 1 < w2.heap.size := by have := hB2.size; omega
  have hb2 : w2.heap[w.heap.size]? = some (.cells #[.int .i64 0, .string ⟨#[]⟩, .int .i64 0, .string ⟨#[]⟩] 23 (0, 0)) := by rw [hB2.block _ (by omega)]; exact hb1
  have hl2 := keep_cell hB2 hl1
  have hrow2 : ∀ (j : Nat) y, (x :: l)[j]? = some y → w2.cell? ⟨w.heap.size + 1, j, none⟩ = some (.string y) := fun j y hj => keep_cell hB2 (hrow1 j y hj)
  clear hB1 hs1 hb1 hr1 hl1 hrow1 hB2
  have HB2 : Aside _ := hB2'
  have HR2 : Aside _ := hrow2
  have HR0 : Aside _ := hb2
  clear hB2' hrow2 hb2 HF
  generalize hR : w.heap.size = R at *
  have sn : ∀ (a : Addr) (m : Mode) (w : World), (store a .nilFunc m).run Tryz.prog w = stored Tryz.prog w a .nilFunc m := fun a m w => run_store _ w a _ m rfl
  have s2 : ∀ (a : Addr) (m : Mode) (w : World), (store a (.func (.func g) #[] #[]) m).run Tryz.prog w = stored Tryz.prog w a (.func (.func g) #[] #[]) m := fun a m w => run_store _ w a _ m rfl
  have s3 : ∀ (a : Addr) (m : Mode) (w : World), (store a (.func (.func g') #[] #[]) m).run Tryz.prog w = stored Tryz.prog w a (.func (.func g') #[] #[]) m := fun a m w => run_store _ w a _ m rfl
  go_wp2
  generalize hw4 : World.alloc (World.alloc w2 _) _ = w4
  have hB24 : Below w2.heap.size w2 w4 := by rw [← hw4]; exact ((Below.refl _ w2).alloc (Nat.le_refl _) _).alloc (by simp) _
  have hB4 : Below R w w4 := HB2.out.trans (hB24.mono (by omega))
  have hs4 : w4.heap.size = w2.heap.size + 1 + 1 := by rw [← hw4]; simp
  have hf4 : w4.heap[w2.heap.size]? = some (.cells #[.int .i64 v0, .string v1, (.func (.func g) #[] #[]), (.func (.func g') #[] #[]), .int .i64 v4] 44 (0, 0)) := by
    rw [← hw4, Below.heap_alloc _ _ _ (by simp)]; exact heap_alloc_new _ _
  have ha4 : w4.heap[w2.heap.size + 1]? = some (.cells #[.int .i64 v0, .string ⟨#[]⟩, .int .i64 0, .string ⟨#[]⟩] 23 (0, 0)) := by
    rw [← hw4]; exact heap_alloc2_new _ _ _
  have hr4 : w4.heap[R]? = some (.cells #[.int .i64 0, .string ⟨#[]⟩, .int .i64 0, .string ⟨#[]⟩] 23 (0, 0)) := by rw [hB24.block _ (by omega)]; exact HR0.out
  have hl4 := keep_cell hB24 hl2
  have hrow4 : ∀ (j : Nat) y, (x :: l)[j]? = some y → w4.cell? ⟨R + 1, j, none⟩ = some (.string y) := fun j y hj => keep_cell hB24 (HR2.out j y hj)
  have hsR : R + 1 + 1 < w2.heap.size := hs2
  clear hw4 hs2 hl2
  generalize hfb : w2.heap.size = fb at *
  have HB4 : Aside _ := hB4
  have HF4 : Aside _ := hf4
  have HA4 : Aside _ := ha4
  have HRR : Aside _ := hr4
  have HRW : Aside _ := hrow4
  clear hB24 hB4 hf4 ha4 hr4 hrow4 HB2 HR2 HR0
  have HS4 : Aside (w4.cell? ⟨R + 1 + 1, 0, none⟩ = some (.slice (some ⟨R + 1, 0, none⟩) (l.length + 1) (l.length + 1)) ∧ w4.cell? ⟨fb, 2, none⟩ = some (.func (.func g) #[] #[]) ∧ w4.cell? ⟨fb + 1, 0, none⟩ = some (.int .i64 v0) ∧ w4.cell? ⟨fb + 1, 1, none⟩ = some (.string ⟨#[]⟩) ∧ w4.cell? ⟨fb + 1, 2, none⟩ = some (.int .i64 0) ∧ w4.cell? ⟨fb + 1, 3, none⟩ = some (.string ⟨#[]⟩)) := ⟨hl4, by unfold World.cell?; rw [HF4.out]; rfl, by unfold World.cell?; rw [HA4.out]; rfl, by unfold World.cell?; rw [HA4.out]; rfl, by unfold World.cell?; rw [HA4.out]; rfl, by unfold World.cell?; rw [HA4.out]; rfl⟩
  clear hl4
  have KeepS : Aside (∀ W W' : World, Below W.heap.size W W' → (W.cell? ⟨R + 1 + 1, 0, none⟩ = some (.slice (some ⟨R + 1, 0, none⟩) (l.length + 1) (l.length + 1)) ∧ W.cell? ⟨fb, 2, none⟩ = some (.func (.func g) #[] #[]) ∧ W.cell? ⟨fb + 1, 0, none⟩ = some (.int .i64 v0) ∧ W.cell? ⟨fb + 1, 1, none⟩ = some (.string ⟨#[]⟩) ∧ W.cell? ⟨fb + 1, 2, none⟩ = some (.int .i64 0) ∧ W.cell? ⟨fb + 1, 3, none⟩ = some (.string ⟨#[]⟩)) → (W'.cell? ⟨R + 1 + 1, 0, none⟩ = some (.slice (some ⟨R + 1, 0, none⟩) (l.length + 1) (l.length + 1)) ∧ W'.cell? ⟨fb, 2, none⟩ = some (.func (.func g) #[] #[]) ∧ W'.cell? ⟨fb + 1, 0, none⟩ = some (.int .i64 v0) ∧ W'.cell? ⟨fb + 1, 1, none⟩ = some (.string ⟨#[]⟩) ∧ W'.cell? ⟨fb + 1, 2, none⟩ = some (.int .i64 0) ∧ W'.cell? ⟨fb + 1, 3, none⟩ = some (.string ⟨#[]⟩))) := fun W W' hb ⟨x1, x2, x3, x4, x5, x6⟩ => ⟨keep_cell hb x1, keep_cell hb x2, keep_cell hb x3, keep_cell hb x4, keep_cell hb x5, keep_cell hb x6⟩
  have HB4D : Aside (Below R w w4.drew) := ⟨HB4.out.os, HB4.out.tape, HB4.out.output, HB4.out.size, HB4.out.block⟩
  have hszD : w4.drew.heap.size = fb + 1 + 1 := hs4
  have hRl : R ≤ fb + 1 + 1 := by omega
  have HZ : Aside (R ≤ w4.drew.heap.size) := by rw [hszD]; exact hRl
  clear hszD hRl
  go_region_held3 (fun W => W.cell? ⟨R + 1 + 1, 0, none⟩ = some (.slice (some ⟨R + 1, 0, none⟩) (l.length + 1) (l.length + 1)) ∧ W.cell? ⟨fb, 2, none⟩ = some (.func (.func g) #[] #[]) ∧ W.cell? ⟨fb + 1, 0, none⟩ = some (.int .i64 v0) ∧ W.cell? ⟨fb + 1, 1, none⟩ = some (.string ⟨#[]⟩) ∧ W.cell? ⟨fb + 1, 2, none⟩ = some (.int .i64 0) ∧ W.cell? ⟨fb + 1, 3, none⟩ = some (.string ⟨#[]⟩))
    (first | exact HS5.out | exact HS4.out)
    (first
    | (go_at_fn g; refine (HGet.out w4.drew _ rfl).mono ?_; rintro e w5 ⟨⟨p5, c5, rfl⟩, hb5⟩; have HS5 : Aside _ := KeepS.out _ _ hb5 HS4.out; have HB45 : Aside _ := hb5; have HB5 : Aside (Below R w w5) := HB4D.out.trans (hb5.mono HZ.out); clear hb5))
  have hr5 : w5.heap[R]? = some (.cells #[.int .i64 0, .string ⟨#[]⟩, .int .i64 0, .string ⟨#[]⟩] 23 (0, 0)) := by
    rw [HB45.out.block R (box_lt HRR.out)]; exact HRR.out
  have e0 : w5.cell? ⟨R, 0, none⟩ = some (.int .i64 0) := by unfold World.cell?; rw [hr5]; rfl
  have e1 : w5.cell? ⟨R, 1, none⟩ = some (.string ⟨#[]⟩) := by unfold World.cell?; rw [hr5]; rfl
  have e2 : w5.cell? ⟨R, 2, none⟩ = some (.int .i64 0) := by unfold World.cell?; rw [hr5]; rfl
  have e3 : w5.cell? ⟨R, 3, none⟩ = some (.string ⟨#[]⟩) := by unfold World.cell?; rw [hr5]; rfl
  have z : ∀ i, w5.frozen? ⟨R, i, none⟩ = false := fun i => by unfold World.frozen?; rw [hr5]; first | rfl | simp
  have z0 := z 0; have z1 := z 1; have z2 := z 2; have z3 := z 3
  clear z hr5
  go_wp2
  have HBe := HB5
  (try simp only [Exit.inBlock, Exit.then])
  refine bodyPost_ret (v := .tuple #[.agg #[.int .i64 0, .string ⟨#[]⟩, .int .i64 0, .string ⟨#[]⟩], .int .i64 120]) ?_ rfl ⟨rfl, ?_⟩
  · rw [results_cell_tmp rfl]
    go_simp
  · rw [hR]
    repeat (first | exact HBe.out | refine Below.setCell (B := R) (p := ⟨R, _, none⟩) ?_ (Nat.le_refl _) _)

set_option maxHeartbeats 8000000 in
set_option maxRecDepth 1000000 in
theorem parseOk (s : ByteArray) (hs : s.size ≤ 1000) (x : ByteArray) (l : List ByteArray) (hx : splitS s = x :: l) (hsz : ∀ y ∈ l, y.size ≤ 1000) (hlen : l.length ≤ 1000) (w : World) (hG : Lex.Gl w) (hn : 0 ≤ numW x) (hfn : 0 ≤ numW x → slotOf (numW x) < 6) (hc : l.length = partN (slotOf (numW x))) (FMT : (fmtB (kindOf (slotOf (numW x))) (putA (slotOf (numW x)) l).1 (putA (slotOf (numW x)) l).2.1 (putA (slotOf (numW x)) l).2.2).2 = 0 ∧ (fmtB (kindOf (slotOf (numW x))) (putA (slotOf (numW x)) l).1 (putA (slotOf (numW x)) l).2.1 (putA (slotOf (numW x)) l).2.2).1 = s) :
    Calls Tryz.prog 15 #[.string s] w fun e w' => e = .returned (.tuple #[.agg #[.int .i64 (kindOf (slotOf (numW x))), .string (putA (slotOf (numW x)) l).1, .int .i64 (putA (slotOf (numW x)) l).2.1, .string (putA (slotOf (numW x)) l).2.2], .int .i64 0]) ∧ Below w.heap.size w w' := by
  have mixed : Tryz.prog.follows .mixedOrders = true := by kernel_rfl
  have HT : Aside (∀ w, Calls Tryz.prog 25 #[.string s, .string ⟨#[47]⟩] w fun e w' => e = .returned (.string (pathB s)) ∧ w' = w) := fun w => Tryz.strings_TrimPrefix s slashB w
  have HSp : Aside _ := fun w hG => split_walk s hs x l hx w hG
  have HF : Aside _ := fun lb rb w hb hr => findWord x lb rb l.length w hb hr
  have HSZ : Aside _ := hsz
  have HGl : Aside _ := hG
  clear hx hG hsz
  generalize hp : pathB s = p at *
  clear hp
  generalize numW x = n at *
  rw [formAt_eq] at HF
  have hdec : decide (0 ≤ n) = true := decide_eq_true hn
  rw [hdec] at HF
  obtain ⟨g, hg, eg, hget⟩ := gets (slotOf n) (hfn hn)
  obtain ⟨g', hg', eg', hput⟩ := puts (slotOf n) (hfn hn)
  have HGet : ∀ (w : World) (b : Nat), w.heap.size = b → Calls Tryz.prog g #[.agg #[.int .i64 (kindOf (slotOf n)), .string ⟨#[]⟩, .int .i64 0, .string ⟨#[]⟩]] w fun e w' => (∃ p c, e = .returned (.slice p (partN (slotOf n)) c)) ∧ Below b w w' := fun w b hb => by
    refine (hget (kindOf (slotOf n)) ⟨#[]⟩ 0 ⟨#[]⟩ (by decide) w b hb).mono ?_
    rintro e w' ⟨v, rfl, hv, -, hB⟩
    obtain ⟨p, c, rfl⟩ := own_form hv
    rw [partN_eq]
    exact ⟨⟨p, c, rfl⟩, hB⟩
  have HGet : Aside _ := HGet
  rw [hg, hg'] at HF
  clear hdec hn hfn hget hg hg'
  generalize kindOf (slotOf n) = v0 at *
  generalize wordOf (slotOf n) = v1 at *
  generalize urgOf (slotOf n) = v4 at *
  have hne : ((l.length : Int) != (partN (slotOf n) : Int)) = false := by rw [bne_eq_false_iff_eq]; omega
  have hwr : IntKind.i64.wrap (l.length : Int) = (l.length : Int) := wrapLen hlen
  obtain ⟨o, ho, hif⟩ : ∃ o : Nat, (l ≠ [] → o = 1) ∧ ∀ b : Nat, (if l = [] then some ({ block := b, off := 0 } : Addr) else some { block := b, off := 1 }) = some ⟨b, o, none⟩ := by
    by_cases hl0 : l = []
    · exact ⟨0, fun h => absurd hl0 h, fun b => if_pos hl0⟩
    · exact ⟨1, fun _ => rfl, fun b => if_neg hl0⟩
  have HO : Aside _ := ho
  clear ho
  have HPut : Aside (∀ (ab rb c : Nat) (w : World), Lex.Gl w → PutAt ab rb v0 ⟨#[]⟩ 0 ⟨#[]⟩ l o w → Calls Tryz.prog g' #[.pointer (some ⟨ab, 0, none⟩), .slice (some ⟨rb, o, none⟩) l.length c] w fun e w' => e = .returned (.tuple #[]) ∧ w.grownBy w' (some ab) ∧ w'.heap[ab]? = some (.cells #[.int .i64 v0, .string (putA (slotOf n) l).1, .int .i64 (putA (slotOf n) l).2.1, .string (putA (slotOf n) l).2.2] 23 (0, 0))) := fun ab rb c w hG h => hput ab rb v0 l o c w hc HSZ.out hG h
  have HFm : Aside _ := fun w => format v0 (putA (slotOf n) l).1 (putA (slotOf n) l).2.1 (putA (slotOf n) l).2.2 w
  clear hput hc
  unfold adr at HFm
  generalize (putA (slotOf n) l).1 = a1 at *
  generalize (putA (slotOf n) l).2.1 = a2 at *
  generalize (putA (slotOf n) l).2.2 = a3 at *
  generalize partN (slotOf n) = k at *
  generalize fmtB v0 a1 a2 a3 = fm at *
  obtain ⟨t, er⟩ := fm
  simp only at HFm FMT
  obtain ⟨rfl, rfl⟩ := FMT
  go_enter Tryz.func15, Tryz.ntmps15
  go_wp2_with (first
    | (go_at_call 25; refine (HT.out _).mono ?_; rintro e w' ⟨rfl, rfl⟩)
    | (go_at_call 24; refine (HSp.out _ (gl_to HGl.out ((Below.refl _ _).alloc (Nat.le_refl _) _))).mono ?_; rintro e w' ⟨rfl, rfl⟩)
    | (go_at_call 26; fail))
  clear HT HSp
  generalize hw1 : World.alloc (World.alloc (World.alloc w _) _) _ = w1
  have hB1 : Below w.heap.size w w1 := by rw [← hw1]; exact (((Below.refl _ w).alloc (Nat.le_refl _) _).alloc (by simp) _).alloc (by simp; omega) _
  have hs1 : w1.heap.size = w.heap.size + 1 + 1 + 1 := by rw [← hw1]; simp
  have hb1 : w1.heap[w.heap.size]? = some (.cells #[.int .i64 0, .string ⟨#[]⟩, .int .i64 0, .string ⟨#[]⟩] 23) := by
    rw [← hw1, Below.heap_alloc _ _ _ (by simp; omega), Below.heap_alloc _ _ _ (by simp)]; exact heap_alloc_new _ _
  have hr1 : w1.heap[w.heap.size + 1]? = some (.cells ((x :: l).map Value.string).toArray 9) := by
    rw [← hw1, Below.heap_alloc _ _ _ (by simp)]; exact heap_alloc2_new _ _ _
  have hl1 : w1.cell? ⟨w.heap.size + 1 + 1, 0, none⟩ = some (.slice (some ⟨w.heap.size + 1, 0, none⟩) (l.length + 1) (l.length + 1)) := by
    rw [← hw1, World.cell?_alloc_at _ _ _ _ (by simp)]; rfl
  clear hw1
  have hrow1 : ∀ (j : Nat) y, (x :: l)[j]? = some y → w1.cell? ⟨w.heap.size + 1, j, none⟩ = some (.string y) := fun j y hj => by
    rw [cell_of_row w1 _ j _ _ _ hr1, List.getElem?_toArray, List.getElem?_map, hj]; rfl
  refine (HF.out _ _ w1 hl1 (hrow1 0 x rfl)).mono ?_
  rintro e w2 ⟨rfl, hB2⟩
  have hB2' : Below w.heap.size w w2 := hB1.trans (hB2.mono (by omega))
  have hs2 : w.heap.size + 1 + 1 < w2.heap.size := by have := hB2.size; omega
  have hb2 : w2.heap[w.heap.size]? = some (.cells #[.int .i64 0, .string ⟨#[]⟩, .int .i64 0, .string ⟨#[]⟩] 23 (0, 0)) := by rw [hB2.block _ (by omega)]; exact hb1
  have hl2 := keep_cell hB2 hl1
  have hrow2 : ∀ (j : Nat) y, (x :: l)[j]? = some y → w2.cell? ⟨w.heap.size + 1, j, none⟩ = some (.string y) := fun j y hj => keep_cell hB2 (hrow1 j y hj)
  clear hB1 hs1 hb1 hr1 hl1 hrow1 hB2
  have HB2 : Aside _ := hB2'
  have HR2 : Aside _ := hrow2
  have HR0 : Aside _ := hb2
  clear hB2' hrow2 hb2 HF
  generalize hR : w.heap.size = R at *
  have sn : ∀ (a : Addr) (m : Mode) (w : World), (store a .nilFunc m).run Tryz.prog w = stored Tryz.prog w a .nilFunc m := fun a m w => run_store _ w a _ m rfl
  have s2 : ∀ (a : Addr) (m : Mode) (w : World), (store a (.func (.func g) #[] #[]) m).run Tryz.prog w = stored Tryz.prog w a (.func (.func g) #[] #[]) m := fun a m w => run_store _ w a _ m rfl
  have s3 : ∀ (a : Addr) (m : Mode) (w : World), (store a (.func (.func g') #[] #[]) m).run Tryz.prog w = stored Tryz.prog w a (.func (.func g') #[] #[]) m := fun a m w => run_store _ w a _ m rfl
  go_wp2
  generalize hw4 : World.alloc (World.alloc w2 _) _ = w4
  have hB24 : Below w2.heap.size w2 w4 := by rw [← hw4]; exact ((Below.refl _ w2).alloc (Nat.le_refl _) _).alloc (by simp) _
  have hB4 : Below R w w4 := HB2.out.trans (hB24.mono (by omega))
  have hs4 : w4.heap.size = w2.heap.size + 1 + 1 := by rw [← hw4]; simp
  have hf4 : w4.heap[w2.heap.size]? = some (.cells #[.int .i64 v0, .string v1, (.func (.func g) #[] #[]), (.func (.func g') #[] #[]), .int .i64 v4] 44 (0, 0)) := by
    rw [← hw4, Below.heap_alloc _ _ _ (by simp)]; exact heap_alloc_new _ _
  have ha4 : w4.heap[w2.heap.size + 1]? = some (.cells #[.int .i64 v0, .string ⟨#[]⟩, .int .i64 0, .string ⟨#[]⟩] 23 (0, 0)) := by
    rw [← hw4]; exact heap_alloc2_new _ _ _
  have hr4 : w4.heap[R]? = some (.cells #[.int .i64 0, .string ⟨#[]⟩, .int .i64 0, .string ⟨#[]⟩] 23 (0, 0)) := by rw [hB24.block _ (by omega)]; exact HR0.out
  have hl4 := keep_cell hB24 hl2
  have hrow4 : ∀ (j : Nat) y, (x :: l)[j]? = some y → w4.cell? ⟨R + 1, j, none⟩ = some (.string y) := fun j y hj => keep_cell hB24 (HR2.out j y hj)
  have hsR : R + 1 + 1 < w2.heap.size := hs2
  clear hw4 hs2 hl2
  generalize hfb : w2.heap.size = fb at *
  have HB4 : Aside _ := hB4
  have HF4 : Aside _ := hf4
  have HA4 : Aside _ := ha4
  have HRR : Aside _ := hr4
  have HRW : Aside _ := hrow4
  clear hB24 hB4 hf4 ha4 hr4 hrow4 HB2 HR2 HR0
  have HS4 : Aside (w4.cell? ⟨R + 1 + 1, 0, none⟩ = some (.slice (some ⟨R + 1, 0, none⟩) (l.length + 1) (l.length + 1)) ∧ w4.cell? ⟨fb, 2, none⟩ = some (.func (.func g) #[] #[]) ∧ w4.cell? ⟨fb + 1, 0, none⟩ = some (.int .i64 v0) ∧ w4.cell? ⟨fb + 1, 1, none⟩ = some (.string ⟨#[]⟩) ∧ w4.cell? ⟨fb + 1, 2, none⟩ = some (.int .i64 0) ∧ w4.cell? ⟨fb + 1, 3, none⟩ = some (.string ⟨#[]⟩)) := ⟨hl4, by unfold World.cell?; rw [HF4.out]; rfl, by unfold World.cell?; rw [HA4.out]; rfl, by unfold World.cell?; rw [HA4.out]; rfl, by unfold World.cell?; rw [HA4.out]; rfl, by unfold World.cell?; rw [HA4.out]; rfl⟩
  clear hl4
  have KeepS : Aside (∀ W W' : World, Below W.heap.size W W' → (W.cell? ⟨R + 1 + 1, 0, none⟩ = some (.slice (some ⟨R + 1, 0, none⟩) (l.length + 1) (l.length + 1)) ∧ W.cell? ⟨fb, 2, none⟩ = some (.func (.func g) #[] #[]) ∧ W.cell? ⟨fb + 1, 0, none⟩ = some (.int .i64 v0) ∧ W.cell? ⟨fb + 1, 1, none⟩ = some (.string ⟨#[]⟩) ∧ W.cell? ⟨fb + 1, 2, none⟩ = some (.int .i64 0) ∧ W.cell? ⟨fb + 1, 3, none⟩ = some (.string ⟨#[]⟩)) → (W'.cell? ⟨R + 1 + 1, 0, none⟩ = some (.slice (some ⟨R + 1, 0, none⟩) (l.length + 1) (l.length + 1)) ∧ W'.cell? ⟨fb, 2, none⟩ = some (.func (.func g) #[] #[]) ∧ W'.cell? ⟨fb + 1, 0, none⟩ = some (.int .i64 v0) ∧ W'.cell? ⟨fb + 1, 1, none⟩ = some (.string ⟨#[]⟩) ∧ W'.cell? ⟨fb + 1, 2, none⟩ = some (.int .i64 0) ∧ W'.cell? ⟨fb + 1, 3, none⟩ = some (.string ⟨#[]⟩))) := fun W W' hb ⟨x1, x2, x3, x4, x5, x6⟩ => ⟨keep_cell hb x1, keep_cell hb x2, keep_cell hb x3, keep_cell hb x4, keep_cell hb x5, keep_cell hb x6⟩
  have HB4D : Aside (Below R w w4.drew) := ⟨HB4.out.os, HB4.out.tape, HB4.out.output, HB4.out.size, HB4.out.block⟩
  have hszD : w4.drew.heap.size = fb + 1 + 1 := hs4
  have hRl : R ≤ fb + 1 + 1 := by omega
  have HZ : Aside (R ≤ w4.drew.heap.size) := by rw [hszD]; exact hRl
  clear hszD hRl
  go_region_held3 (fun W => W.cell? ⟨R + 1 + 1, 0, none⟩ = some (.slice (some ⟨R + 1, 0, none⟩) (l.length + 1) (l.length + 1)) ∧ W.cell? ⟨fb, 2, none⟩ = some (.func (.func g) #[] #[]) ∧ W.cell? ⟨fb + 1, 0, none⟩ = some (.int .i64 v0) ∧ W.cell? ⟨fb + 1, 1, none⟩ = some (.string ⟨#[]⟩) ∧ W.cell? ⟨fb + 1, 2, none⟩ = some (.int .i64 0) ∧ W.cell? ⟨fb + 1, 3, none⟩ = some (.string ⟨#[]⟩))
    (first | exact HS5.out | exact HS4.out)
    (first
    | (go_at_fn g; refine (HGet.out w4.drew _ rfl).mono ?_; rintro e w5 ⟨⟨p5, c5, rfl⟩, hb5⟩; have HS5 : Aside _ := KeepS.out _ _ hb5 HS4.out; have HB45 : Aside _ := hb5; have HB5 : Aside (Below R w w5) := HB4D.out.trans (hb5.mono HZ.out); clear hb5))
  have hr5 : w5.heap[R]? = some (.cells #[.int .i64 0, .string ⟨#[]⟩, .int .i64 0, .string ⟨#[]⟩] 23 (0, 0)) := by
    rw [HB45.out.block R (box_lt HRR.out)]; exact HRR.out
  have e0 : w5.cell? ⟨R, 0, none⟩ = some (.int .i64 0) := by unfold World.cell?; rw [hr5]; rfl
  have e1 : w5.cell? ⟨R, 1, none⟩ = some (.string ⟨#[]⟩) := by unfold World.cell?; rw [hr5]; rfl
  have e2 : w5.cell? ⟨R, 2, none⟩ = some (.int .i64 0) := by unfold World.cell?; rw [hr5]; rfl
  have e3 : w5.cell? ⟨R, 3, none⟩ = some (.string ⟨#[]⟩) := by unfold World.cell?; rw [hr5]; rfl
  have z : ∀ i, w5.frozen? ⟨R, i, none⟩ = false := fun i => by unfold World.frozen?; rw [hr5]; first | rfl | simp
  have z0 := z 0; have z1 := z 1; have z2 := z 2; have z3 := z 3
  clear HRR HS4 KeepS HZ HB4D e0 e1 e2 e3 z0 z1 z2 z3 hne
  have hrow5 : ∀ (j : Nat) y, (x :: l)[j]? = some y → w5.cell? ⟨R + 1, j, none⟩ = some (.string y) := fun j y hj => keep_cell HB45.out (HRW.out j y hj)
  have ha5 : w5.heap[fb + 1]? = some (.cells #[.int .i64 v0, .string ⟨#[]⟩, .int .i64 0, .string ⟨#[]⟩] 23 (0, 0)) := by rw [HB45.out.block _ (box_lt HA4.out)]; exact HA4.out
  have hf5 : w5.heap[fb]? = some (.cells #[.int .i64 v0, .string v1, .func (.func g) #[] #[], .func (.func g') #[] #[], .int .i64 v4] 44 (0, 0)) := by rw [HB45.out.block _ (box_lt HF4.out)]; exact HF4.out
  have HP5 : Aside (PutAt (fb + 1) (R + 1) v0 ⟨#[]⟩ 0 ⟨#[]⟩ l o w5.drew) := ⟨ha5, fun j y hj => (by rw [HO.out (by rintro rfl; cases hj), Nat.add_comm 1 j]; exact hrow5 (j + 1) y hj), by omega⟩
  have HG5 : Aside (Lex.Gl w5.drew) := gl_to HGl.out (by rw [hR]; exact ⟨HB5.out.os, HB5.out.tape, HB5.out.output, HB5.out.size, HB5.out.block⟩)
  have q3 : w5.cell? ⟨fb, 3, none⟩ = some (.func (.func g') #[] #[]) := by unfold World.cell?; rw [hf5]; rfl
  have ql := HS5.out.1
  have HQ5 : Aside (w5.cell? ⟨fb, 3, none⟩ = some (.func (.func g') #[] #[]) ∧ w5.cell? ⟨R + 1 + 1, 0, none⟩ = some (.slice (some ⟨R + 1, 0, none⟩) (l.length + 1) (l.length + 1))) := ⟨q3, ql⟩
  have HR5 : Aside _ := hr5
  have hlz : (1 : Int) ≤ (l.length : Int) + 1 := by omega
  clear hrow5 ha5 hf5 q3 ql hr5 HRW HA4 HF4 HS5 HB45 HB4
  go_wp2
  go_region_held3 (fun W => W.cell? ⟨fb, 3, none⟩ = some (.func (.func g') #[] #[]) ∧ W.cell? ⟨R + 1 + 1, 0, none⟩ = some (.slice (some ⟨R + 1, 0, none⟩) (l.length + 1) (l.length + 1)))
    (first | exact HQ6.out | exact HQ5.out)
    (first
    | (go_at_fn g'; refine (HPut.out _ _ _ w5.drew HG5.out HP5.out).mono ?_; rintro e w6 ⟨rfl, hg6, ha6⟩; have HQ6 : Aside (w6.cell? ⟨fb, 3, none⟩ = some (.func (.func g') #[] #[]) ∧ w6.cell? ⟨R + 1 + 1, 0, none⟩ = some (.slice (some ⟨R + 1, 0, none⟩) (l.length + 1) (l.length + 1))) := ⟨hg6.cell HQ5.out.1 (by simp), hg6.cell HQ5.out.2 (by simp; omega)⟩; have HG6 : Aside _ := hg6; have HA6 : Aside _ := ha6; clear hg6 ha6))
  have hr6 : w6.heap[R]? = some (.cells #[.int .i64 0, .string ⟨#[]⟩, .int .i64 0, .string ⟨#[]⟩] 23 (0, 0)) := by
    rw [HG6.out.block R (box_lt HR5.out) (by simp; omega)]; exact HR5.out
  have hB6 : Below R w w6 := Below.grown (w := w5.drew) ⟨HB5.out.os, HB5.out.tape, HB5.out.output, HB5.out.size, HB5.out.block⟩ HG6.out (Nat.le_of_lt (box_lt HR5.out)) (fun k hk => by injection hk with hk; omega)
  have a0_ : w6.cell? ⟨fb + 1, 0, none⟩ = some (.int .i64 v0) := by unfold World.cell?; rw [HA6.out]; rfl
  have a1_ : w6.cell? ⟨fb + 1, 1, none⟩ = some (.string a1) := by unfold World.cell?; rw [HA6.out]; rfl
  have a2_ : w6.cell? ⟨fb + 1, 2, none⟩ = some (.int .i64 a2) := by unfold World.cell?; rw [HA6.out]; rfl
  have a3_ : w6.cell? ⟨fb + 1, 3, none⟩ = some (.string a3) := by unfold World.cell?; rw [HA6.out]; rfl
  have HR6 : Aside _ := hr6
  have HB6 : Aside _ := hB6
  clear HQ6 HQ5 HG5 HP5 HPut HB5 HG6 HR5 hr6 hB6
  go_wp2_with (go_at_call 9; refine (HFm.out _).mono ?_)
  clear HFm a0_ a1_ a2_ a3_
  rintro e w7 ⟨rfl, hB7⟩
  have hr7 : w7.heap[R]? = some (.cells #[.int .i64 0, .string ⟨#[]⟩, .int .i64 0, .string ⟨#[]⟩] 23 (0, 0)) := by
    rw [hB7.block R (box_lt HR6.out)]; exact HR6.out
  have ha7 : w7.heap[fb + 1]? = some (.cells #[.int .i64 v0, .string a1, .int .i64 a2, .string a3] 23 (0, 0)) := by
    rw [hB7.block _ (box_lt HA6.out)]; exact HA6.out
  have HB7 : Aside (Below R w w7) := HB6.out.trans (hB7.mono (Nat.le_of_lt (box_lt HR6.out)))
  have a0_ : w7.cell? ⟨fb + 1, 0, none⟩ = some (.int .i64 v0) := by unfold World.cell?; rw [ha7]; rfl
  have a1_ : w7.cell? ⟨fb + 1, 1, none⟩ = some (.string a1) := by unfold World.cell?; rw [ha7]; rfl
  have a2_ : w7.cell? ⟨fb + 1, 2, none⟩ = some (.int .i64 a2) := by unfold World.cell?; rw [ha7]; rfl
  have a3_ : w7.cell? ⟨fb + 1, 3, none⟩ = some (.string a3) := by unfold World.cell?; rw [ha7]; rfl
  have e0 : w7.cell? ⟨R, 0, none⟩ = some (.int .i64 0) := by unfold World.cell?; rw [hr7]; rfl
  have e1 : w7.cell? ⟨R, 1, none⟩ = some (.string ⟨#[]⟩) := by unfold World.cell?; rw [hr7]; rfl
  have e2 : w7.cell? ⟨R, 2, none⟩ = some (.int .i64 0) := by unfold World.cell?; rw [hr7]; rfl
  have e3 : w7.cell? ⟨R, 3, none⟩ = some (.string ⟨#[]⟩) := by unfold World.cell?; rw [hr7]; rfl
  have z : ∀ i, w7.frozen? ⟨R, i, none⟩ = false := fun i => by unfold World.frozen?; rw [hr7]; first | rfl | simp
  have z0 := z 0; have z1 := z 1; have z2 := z 2; have z3 := z 3
  clear z hr7 ha7 hB7 HR6 HA6 HB6
  have HBe := HB7
  go_wp2
  (try simp only [Exit.inBlock, Exit.then])
  refine bodyPost_ret (v := .tuple #[.agg #[.int .i64 v0, .string a1, .int .i64 a2, .string a3], .int .i64 0]) ?_ rfl ⟨rfl, ?_⟩
  · rw [results_cell_tmp rfl]
    go_simp
  · rw [hR]
    repeat (first | exact HBe.out | refine Below.setCell (B := R) (p := ⟨R, _, none⟩) ?_ (Nat.le_refl _) _)

set_option maxHeartbeats 8000000 in
set_option maxRecDepth 1000000 in
theorem parseBad (s : ByteArray) (hs : s.size ≤ 1000) (x : ByteArray) (l : List ByteArray) (hx : splitS s = x :: l) (hsz : ∀ y ∈ l, y.size ≤ 1000) (hlen : l.length ≤ 1000) (w : World) (hG : Lex.Gl w) (hn : 0 ≤ numW x) (hfn : 0 ≤ numW x → slotOf (numW x) < 6) (hc : l.length = partN (slotOf (numW x))) (FMT : (fmtB (kindOf (slotOf (numW x))) (putA (slotOf (numW x)) l).1 (putA (slotOf (numW x)) l).2.1 (putA (slotOf (numW x)) l).2.2).2 ≠ 0) :
    Calls Tryz.prog 15 #[.string s] w fun e w' => e = .returned (.tuple #[.agg #[.int .i64 0, .string ⟨#[]⟩, .int .i64 0, .string ⟨#[]⟩], .int .i64 120]) ∧ Below w.heap.size w w' := by
  have mixed : Tryz.prog.follows .mixedOrders = true := by kernel_rfl
  have HT : Aside (∀ w, Calls Tryz.prog 25 #[.string s, .string ⟨#[47]⟩] w fun e w' => e = .returned (.string (pathB s)) ∧ w' = w) := fun w => Tryz.strings_TrimPrefix s slashB w
  have HSp : Aside _ := fun w hG => split_walk s hs x l hx w hG
  have HF : Aside _ := fun lb rb w hb hr => findWord x lb rb l.length w hb hr
  have HSZ : Aside _ := hsz
  have HGl : Aside _ := hG
  clear hx hG hsz
  generalize hp : pathB s = p at *
  clear hp
  generalize numW x = n at *
  rw [formAt_eq] at HF
  have hdec : decide (0 ≤ n) = true := decide_eq_true hn
  rw [hdec] at HF
  obtain ⟨g, hg, eg, hget⟩ := gets (slotOf n) (hfn hn)
  obtain ⟨g', hg', eg', hput⟩ := puts (slotOf n) (hfn hn)
  have HGet : ∀ (w : World) (b : Nat), w.heap.size = b → Calls Tryz.prog g #[.agg #[.int .i64 (kindOf (slotOf n)), .string ⟨#[]⟩, .int .i64 0, .string ⟨#[]⟩]] w fun e w' => (∃ p c, e = .returned (.slice p (partN (slotOf n)) c)) ∧ Below b w w' := fun w b hb => by
    refine (hget (kindOf (slotOf n)) ⟨#[]⟩ 0 ⟨#[]⟩ (by decide) w b hb).mono ?_
    rintro e w' ⟨v, rfl, hv, -, hB⟩
    obtain ⟨p, c, rfl⟩ := own_form hv
    rw [partN_eq]
    exact ⟨⟨p, c, rfl⟩, hB⟩
  have HGet : Aside _ := HGet
  rw [hg, hg'] at HF
  clear hdec hn hfn hget hg hg'
  generalize kindOf (slotOf n) = v0 at *
  generalize wordOf (slotOf n) = v1 at *
  generalize urgOf (slotOf n) = v4 at *
  have hne : ((l.length : Int) != (partN (slotOf n) : Int)) = false := by rw [bne_eq_false_iff_eq]; omega
  have hwr : IntKind.i64.wrap (l.length : Int) = (l.length : Int) := wrapLen hlen
  obtain ⟨o, ho, hif⟩ : ∃ o : Nat, (l ≠ [] → o = 1) ∧ ∀ b : Nat, (if l = [] then some ({ block := b, off := 0 } : Addr) else some { block := b, off := 1 }) = some ⟨b, o, none⟩ := by
    by_cases hl0 : l = []
    · exact ⟨0, fun h => absurd hl0 h, fun b => if_pos hl0⟩
    · exact ⟨1, fun _ => rfl, fun b => if_neg hl0⟩
  have HO : Aside _ := ho
  clear ho
  have HPut : Aside (∀ (ab rb c : Nat) (w : World), Lex.Gl w → PutAt ab rb v0 ⟨#[]⟩ 0 ⟨#[]⟩ l o w → Calls Tryz.prog g' #[.pointer (some ⟨ab, 0, none⟩), .slice (some ⟨rb, o, none⟩) l.length c] w fun e w' => e = .returned (.tuple #[]) ∧ w.grownBy w' (some ab) ∧ w'.heap[ab]? = some (.cells #[.int .i64 v0, .string (putA (slotOf n) l).1, .int .i64 (putA (slotOf n) l).2.1, .string (putA (slotOf n) l).2.2] 23 (0, 0))) := fun ab rb c w hG h => hput ab rb v0 l o c w hc HSZ.out hG h
  have HFm : Aside _ := fun w => format v0 (putA (slotOf n) l).1 (putA (slotOf n) l).2.1 (putA (slotOf n) l).2.2 w
  clear hput hc
  unfold adr at HFm
  generalize (putA (slotOf n) l).1 = a1 at *
  generalize (putA (slotOf n) l).2.1 = a2 at *
  generalize (putA (slotOf n) l).2.2 = a3 at *
  generalize partN (slotOf n) = k at *
  generalize fmtB v0 a1 a2 a3 = fm at *
  obtain ⟨t, er⟩ := fm
  simp only at HFm FMT
  have hre : (er != 0) = true := by rw [bne_iff_ne]; exact FMT
  go_enter Tryz.func15, Tryz.ntmps15
  go_wp2_with (first
    | (go_at_call 25; refine (HT.out _).mono ?_; rintro e w' ⟨rfl, rfl⟩)
    | (go_at_call 24; refine (HSp.out _ (gl_to HGl.out ((Below.refl _ _).alloc (Nat.le_refl _) _))).mono ?_; rintro e w' ⟨rfl, rfl⟩)
    | (go_at_call 26; fail))
  clear HT HSp
  generalize hw1 : World.alloc (World.alloc (World.alloc w _) _) _ = w1
  have hB1 : Below w.heap.size w w1 := by rw [← hw1]; exact (((Below.refl _ w).alloc (Nat.le_refl _) _).alloc (by simp) _).alloc (by simp; omega) _
  have hs1 : w1.heap.size = w.heap.size + 1 + 1 + 1 := by rw [← hw1]; simp
  have hb1 : w1.heap[w.heap.size]? = some (.cells #[.int .i64 0, .string ⟨#[]⟩, .int .i64 0, .string ⟨#[]⟩] 23) := by
    rw [← hw1, Below.heap_alloc _ _ _ (by simp; omega), Below.heap_alloc _ _ _ (by simp)]; exact heap_alloc_new _ _
  have hr1 : w1.heap[w.heap.size + 1]? = some (.cells ((x :: l).map Value.string).toArray 9) := by
    rw [← hw1, Below.heap_alloc _ _ _ (by simp)]; exact heap_alloc2_new _ _ _
  have hl1 : w1.cell? ⟨w.heap.size + 1 + 1, 0, none⟩ = some (.slice (some ⟨w.heap.size + 1, 0, none⟩) (l.length + 1) (l.length + 1)) := by
    rw [← hw1, World.cell?_alloc_at _ _ _ _ (by simp)]; rfl
  clear hw1
  have hrow1 : ∀ (j : Nat) y, (x :: l)[j]? = some y → w1.cell? ⟨w.heap.size + 1, j, none⟩ = some (.string y) := fun j y hj => by
    rw [cell_of_row w1 _ j _ _ _ hr1, List.getElem?_toArray, List.getElem?_map, hj]; rfl
  refine (HF.out _ _ w1 hl1 (hrow1 0 x rfl)).mono ?_
  rintro e w2 ⟨rfl, hB2⟩
  have hB2' : Below w.heap.size w w2 := hB1.trans (hB2.mono (by omega))
  have hs2 : w.heap.size + 1 + 1 < w2.heap.size := by have := hB2.size; omega
  have hb2 : w2.heap[w.heap.size]? = some (.cells #[.int .i64 0, .string ⟨#[]⟩, .int .i64 0, .string ⟨#[]⟩] 23 (0, 0)) := by rw [hB2.block _ (by omega)]; exact hb1
  have hl2 := keep_cell hB2 hl1
  have hrow2 : ∀ (j : Nat) y, (x :: l)[j]? = some y → w2.cell? ⟨w.heap.size + 1, j, none⟩ = some (.string y) := fun j y hj => keep_cell hB2 (hrow1 j y hj)
  clear hB1 hs1 hb1 hr1 hl1 hrow1 hB2
  have HB2 : Aside _ := hB2'
  have HR2 : Aside _ := hrow2
  have HR0 : Aside _ := hb2
  clear hB2' hrow2 hb2 HF
  generalize hR : w.heap.size = R at *
  have sn : ∀ (a : Addr) (m : Mode) (w : World), (store a .nilFunc m).run Tryz.prog w = stored Tryz.prog w a .nilFunc m := fun a m w => run_store _ w a _ m rfl
  have s2 : ∀ (a : Addr) (m : Mode) (w : World), (store a (.func (.func g) #[] #[]) m).run Tryz.prog w = stored Tryz.prog w a (.func (.func g) #[] #[]) m := fun a m w => run_store _ w a _ m rfl
  have s3 : ∀ (a : Addr) (m : Mode) (w : World), (store a (.func (.func g') #[] #[]) m).run Tryz.prog w = stored Tryz.prog w a (.func (.func g') #[] #[]) m := fun a m w => run_store _ w a _ m rfl
  go_wp2
  generalize hw4 : World.alloc (World.alloc w2 _) _ = w4
  have hB24 : Below w2.heap.size w2 w4 := by rw [← hw4]; exact ((Below.refl _ w2).alloc (Nat.le_refl _) _).alloc (by simp) _
  have hB4 : Below R w w4 := HB2.out.trans (hB24.mono (by omega))
  have hs4 : w4.heap.size = w2.heap.size + 1 + 1 := by rw [← hw4]; simp
  have hf4 : w4.heap[w2.heap.size]? = some (.cells #[.int .i64 v0, .string v1, (.func (.func g) #[] #[]), (.func (.func g') #[] #[]), .int .i64 v4] 44 (0, 0)) := by
    rw [← hw4, Below.heap_alloc _ _ _ (by simp)]; exact heap_alloc_new _ _
  have ha4 : w4.heap[w2.heap.size + 1]? = some (.cells #[.int .i64 v0, .string ⟨#[]⟩, .int .i64 0, .string ⟨#[]⟩] 23 (0, 0)) := by
    rw [← hw4]; exact heap_alloc2_new _ _ _
  have hr4 : w4.heap[R]? = some (.cells #[.int .i64 0, .string ⟨#[]⟩, .int .i64 0, .string ⟨#[]⟩] 23 (0, 0)) := by rw [hB24.block _ (by omega)]; exact HR0.out
  have hl4 := keep_cell hB24 hl2
  have hrow4 : ∀ (j : Nat) y, (x :: l)[j]? = some y → w4.cell? ⟨R + 1, j, none⟩ = some (.string y) := fun j y hj => keep_cell hB24 (HR2.out j y hj)
  have hsR : R + 1 + 1 < w2.heap.size := hs2
  clear hw4 hs2 hl2
  generalize hfb : w2.heap.size = fb at *
  have HB4 : Aside _ := hB4
  have HF4 : Aside _ := hf4
  have HA4 : Aside _ := ha4
  have HRR : Aside _ := hr4
  have HRW : Aside _ := hrow4
  clear hB24 hB4 hf4 ha4 hr4 hrow4 HB2 HR2 HR0
  have HS4 : Aside (w4.cell? ⟨R + 1 + 1, 0, none⟩ = some (.slice (some ⟨R + 1, 0, none⟩) (l.length + 1) (l.length + 1)) ∧ w4.cell? ⟨fb, 2, none⟩ = some (.func (.func g) #[] #[]) ∧ w4.cell? ⟨fb + 1, 0, none⟩ = some (.int .i64 v0) ∧ w4.cell? ⟨fb + 1, 1, none⟩ = some (.string ⟨#[]⟩) ∧ w4.cell? ⟨fb + 1, 2, none⟩ = some (.int .i64 0) ∧ w4.cell? ⟨fb + 1, 3, none⟩ = some (.string ⟨#[]⟩)) := ⟨hl4, by unfold World.cell?; rw [HF4.out]; rfl, by unfold World.cell?; rw [HA4.out]; rfl, by unfold World.cell?; rw [HA4.out]; rfl, by unfold World.cell?; rw [HA4.out]; rfl, by unfold World.cell?; rw [HA4.out]; rfl⟩
  clear hl4
  have KeepS : Aside (∀ W W' : World, Below W.heap.size W W' → (W.cell? ⟨R + 1 + 1, 0, none⟩ = some (.slice (some ⟨R + 1, 0, none⟩) (l.length + 1) (l.length + 1)) ∧ W.cell? ⟨fb, 2, none⟩ = some (.func (.func g) #[] #[]) ∧ W.cell? ⟨fb + 1, 0, none⟩ = some (.int .i64 v0) ∧ W.cell? ⟨fb + 1, 1, none⟩ = some (.string ⟨#[]⟩) ∧ W.cell? ⟨fb + 1, 2, none⟩ = some (.int .i64 0) ∧ W.cell? ⟨fb + 1, 3, none⟩ = some (.string ⟨#[]⟩)) → (W'.cell? ⟨R + 1 + 1, 0, none⟩ = some (.slice (some ⟨R + 1, 0, none⟩) (l.length + 1) (l.length + 1)) ∧ W'.cell? ⟨fb, 2, none⟩ = some (.func (.func g) #[] #[]) ∧ W'.cell? ⟨fb + 1, 0, none⟩ = some (.int .i64 v0) ∧ W'.cell? ⟨fb + 1, 1, none⟩ = some (.string ⟨#[]⟩) ∧ W'.cell? ⟨fb + 1, 2, none⟩ = some (.int .i64 0) ∧ W'.cell? ⟨fb + 1, 3, none⟩ = some (.string ⟨#[]⟩))) := fun W W' hb ⟨x1, x2, x3, x4, x5, x6⟩ => ⟨keep_cell hb x1, keep_cell hb x2, keep_cell hb x3, keep_cell hb x4, keep_cell hb x5, keep_cell hb x6⟩
  have HB4D : Aside (Below R w w4.drew) := ⟨HB4.out.os, HB4.out.tape, HB4.out.output, HB4.out.size, HB4.out.block⟩
  have hszD : w4.drew.heap.size = fb + 1 + 1 := hs4
  have hRl : R ≤ fb + 1 + 1 := by omega
  have HZ : Aside (R ≤ w4.drew.heap.size) := by rw [hszD]; exact hRl
  clear hszD hRl
  go_region_held3 (fun W => W.cell? ⟨R + 1 + 1, 0, none⟩ = some (.slice (some ⟨R + 1, 0, none⟩) (l.length + 1) (l.length + 1)) ∧ W.cell? ⟨fb, 2, none⟩ = some (.func (.func g) #[] #[]) ∧ W.cell? ⟨fb + 1, 0, none⟩ = some (.int .i64 v0) ∧ W.cell? ⟨fb + 1, 1, none⟩ = some (.string ⟨#[]⟩) ∧ W.cell? ⟨fb + 1, 2, none⟩ = some (.int .i64 0) ∧ W.cell? ⟨fb + 1, 3, none⟩ = some (.string ⟨#[]⟩))
    (first | exact HS5.out | exact HS4.out)
    (first
    | (go_at_fn g; refine (HGet.out w4.drew _ rfl).mono ?_; rintro e w5 ⟨⟨p5, c5, rfl⟩, hb5⟩; have HS5 : Aside _ := KeepS.out _ _ hb5 HS4.out; have HB45 : Aside _ := hb5; have HB5 : Aside (Below R w w5) := HB4D.out.trans (hb5.mono HZ.out); clear hb5))
  have hr5 : w5.heap[R]? = some (.cells #[.int .i64 0, .string ⟨#[]⟩, .int .i64 0, .string ⟨#[]⟩] 23 (0, 0)) := by
    rw [HB45.out.block R (box_lt HRR.out)]; exact HRR.out
  have e0 : w5.cell? ⟨R, 0, none⟩ = some (.int .i64 0) := by unfold World.cell?; rw [hr5]; rfl
  have e1 : w5.cell? ⟨R, 1, none⟩ = some (.string ⟨#[]⟩) := by unfold World.cell?; rw [hr5]; rfl
  have e2 : w5.cell? ⟨R, 2, none⟩ = some (.int .i64 0) := by unfold World.cell?; rw [hr5]; rfl
  have e3 : w5.cell? ⟨R, 3, none⟩ = some (.string ⟨#[]⟩) := by unfold World.cell?; rw [hr5]; rfl
  have z : ∀ i, w5.frozen? ⟨R, i, none⟩ = false := fun i => by unfold World.frozen?; rw [hr5]; first | rfl | simp
  have z0 := z 0; have z1 := z 1; have z2 := z 2; have z3 := z 3
  clear HRR HS4 KeepS HZ HB4D e0 e1 e2 e3 z0 z1 z2 z3 hne
  have hrow5 : ∀ (j : Nat) y, (x :: l)[j]? = some y → w5.cell? ⟨R + 1, j, none⟩ = some (.string y) := fun j y hj => keep_cell HB45.out (HRW.out j y hj)
  have ha5 : w5.heap[fb + 1]? = some (.cells #[.int .i64 v0, .string ⟨#[]⟩, .int .i64 0, .string ⟨#[]⟩] 23 (0, 0)) := by rw [HB45.out.block _ (box_lt HA4.out)]; exact HA4.out
  have hf5 : w5.heap[fb]? = some (.cells #[.int .i64 v0, .string v1, .func (.func g) #[] #[], .func (.func g') #[] #[], .int .i64 v4] 44 (0, 0)) := by rw [HB45.out.block _ (box_lt HF4.out)]; exact HF4.out
  have HP5 : Aside (PutAt (fb + 1) (R + 1) v0 ⟨#[]⟩ 0 ⟨#[]⟩ l o w5.drew) := ⟨ha5, fun j y hj => (by rw [HO.out (by rintro rfl; cases hj), Nat.add_comm 1 j]; exact hrow5 (j + 1) y hj), by omega⟩
  have HG5 : Aside (Lex.Gl w5.drew) := gl_to HGl.out (by rw [hR]; exact ⟨HB5.out.os, HB5.out.tape, HB5.out.output, HB5.out.size, HB5.out.block⟩)
  have q3 : w5.cell? ⟨fb, 3, none⟩ = some (.func (.func g') #[] #[]) := by unfold World.cell?; rw [hf5]; rfl
  have ql := HS5.out.1
  have HQ5 : Aside (w5.cell? ⟨fb, 3, none⟩ = some (.func (.func g') #[] #[]) ∧ w5.cell? ⟨R + 1 + 1, 0, none⟩ = some (.slice (some ⟨R + 1, 0, none⟩) (l.length + 1) (l.length + 1))) := ⟨q3, ql⟩
  have HR5 : Aside _ := hr5
  have hlz : (1 : Int) ≤ (l.length : Int) + 1 := by omega
  clear hrow5 ha5 hf5 q3 ql hr5 HRW HA4 HF4 HS5 HB45 HB4
  go_wp2
  go_region_held3 (fun W => W.cell? ⟨fb, 3, none⟩ = some (.func (.func g') #[] #[]) ∧ W.cell? ⟨R + 1 + 1, 0, none⟩ = some (.slice (some ⟨R + 1, 0, none⟩) (l.length + 1) (l.length + 1)))
    (first | exact HQ6.out | exact HQ5.out)
    (first
    | (go_at_fn g'; refine (HPut.out _ _ _ w5.drew HG5.out HP5.out).mono ?_; rintro e w6 ⟨rfl, hg6, ha6⟩; have HQ6 : Aside (w6.cell? ⟨fb, 3, none⟩ = some (.func (.func g') #[] #[]) ∧ w6.cell? ⟨R + 1 + 1, 0, none⟩ = some (.slice (some ⟨R + 1, 0, none⟩) (l.length + 1) (l.length + 1))) := ⟨hg6.cell HQ5.out.1 (by simp), hg6.cell HQ5.out.2 (by simp; omega)⟩; have HG6 : Aside _ := hg6; have HA6 : Aside _ := ha6; clear hg6 ha6))
  have hr6 : w6.heap[R]? = some (.cells #[.int .i64 0, .string ⟨#[]⟩, .int .i64 0, .string ⟨#[]⟩] 23 (0, 0)) := by
    rw [HG6.out.block R (box_lt HR5.out) (by simp; omega)]; exact HR5.out
  have hB6 : Below R w w6 := Below.grown (w := w5.drew) ⟨HB5.out.os, HB5.out.tape, HB5.out.output, HB5.out.size, HB5.out.block⟩ HG6.out (Nat.le_of_lt (box_lt HR5.out)) (fun k hk => by injection hk with hk; omega)
  have a0_ : w6.cell? ⟨fb + 1, 0, none⟩ = some (.int .i64 v0) := by unfold World.cell?; rw [HA6.out]; rfl
  have a1_ : w6.cell? ⟨fb + 1, 1, none⟩ = some (.string a1) := by unfold World.cell?; rw [HA6.out]; rfl
  have a2_ : w6.cell? ⟨fb + 1, 2, none⟩ = some (.int .i64 a2) := by unfold World.cell?; rw [HA6.out]; rfl
  have a3_ : w6.cell? ⟨fb + 1, 3, none⟩ = some (.string a3) := by unfold World.cell?; rw [HA6.out]; rfl
  have HR6 : Aside _ := hr6
  have HB6 : Aside _ := hB6
  clear HQ6 HQ5 HG5 HP5 HPut HB5 HG6 HR5 hr6 hB6
  go_wp2_with (go_at_call 9; refine (HFm.out _).mono ?_)
  clear HFm a0_ a1_ a2_ a3_
  rintro e w7 ⟨rfl, hB7⟩
  have hr7 : w7.heap[R]? = some (.cells #[.int .i64 0, .string ⟨#[]⟩, .int .i64 0, .string ⟨#[]⟩] 23 (0, 0)) := by
    rw [hB7.block R (box_lt HR6.out)]; exact HR6.out
  have ha7 : w7.heap[fb + 1]? = some (.cells #[.int .i64 v0, .string a1, .int .i64 a2, .string a3] 23 (0, 0)) := by
    rw [hB7.block _ (box_lt HA6.out)]; exact HA6.out
  have HB7 : Aside (Below R w w7) := HB6.out.trans (hB7.mono (Nat.le_of_lt (box_lt HR6.out)))
  have a0_ : w7.cell? ⟨fb + 1, 0, none⟩ = some (.int .i64 v0) := by unfold World.cell?; rw [ha7]; rfl
  have a1_ : w7.cell? ⟨fb + 1, 1, none⟩ = some (.string a1) := by unfold World.cell?; rw [ha7]; rfl
  have a2_ : w7.cell? ⟨fb + 1, 2, none⟩ = some (.int .i64 a2) := by unfold World.cell?; rw [ha7]; rfl
  have a3_ : w7.cell? ⟨fb + 1, 3, none⟩ = some (.string a3) := by unfold World.cell?; rw [ha7]; rfl
  have e0 : w7.cell? ⟨R, 0, none⟩ = some (.int .i64 0) := by unfold World.cell?; rw [hr7]; rfl
  have e1 : w7.cell? ⟨R, 1, none⟩ = some (.string ⟨#[]⟩) := by unfold World.cell?; rw [hr7]; rfl
  have e2 : w7.cell? ⟨R, 2, none⟩ = some (.int .i64 0) := by unfold World.cell?; rw [hr7]; rfl
  have e3 : w7.cell? ⟨R, 3, none⟩ = some (.string ⟨#[]⟩) := by unfold World.cell?; rw [hr7]; rfl
  have z : ∀ i, w7.frozen? ⟨R, i, none⟩ = false := fun i => by unfold World.frozen?; rw [hr7]; first | rfl | simp
  have z0 := z 0; have z1 := z 1; have z2 := z 2; have z3 := z 3
  clear z hr7 ha7 hB7 HR6 HA6 HB6
  have HBe := HB7
  go_wp2
  (try simp only [Exit.inBlock, Exit.then])
  refine bodyPost_ret (v := .tuple #[.agg #[.int .i64 0, .string ⟨#[]⟩, .int .i64 0, .string ⟨#[]⟩], .int .i64 120]) ?_ rfl ⟨rfl, ?_⟩
  · rw [results_cell_tmp rfl]
    go_simp
  · rw [hR]
    repeat (first | exact HBe.out | refine Below.setCell (B := R) (p := ⟨R, _, none⟩) ?_ (Nat.le_refl _) _)

set_option maxHeartbeats 8000000 in
set_option maxRecDepth 1000000 in
theorem parseOther (s : ByteArray) (hs : s.size ≤ 1000) (x : ByteArray) (l : List ByteArray) (hx : splitS s = x :: l) (hsz : ∀ y ∈ l, y.size ≤ 1000) (hlen : l.length ≤ 1000) (w : World) (hG : Lex.Gl w) (hn : 0 ≤ numW x) (hfn : 0 ≤ numW x → slotOf (numW x) < 6) (hc : l.length = partN (slotOf (numW x))) (FMT : (fmtB (kindOf (slotOf (numW x))) (putA (slotOf (numW x)) l).1 (putA (slotOf (numW x)) l).2.1 (putA (slotOf (numW x)) l).2.2).2 = 0 ∧ ¬ (fmtB (kindOf (slotOf (numW x))) (putA (slotOf (numW x)) l).1 (putA (slotOf (numW x)) l).2.1 (putA (slotOf (numW x)) l).2.2).1.toList = s.toList) :
    Calls Tryz.prog 15 #[.string s] w fun e w' => e = .returned (.tuple #[.agg #[.int .i64 0, .string ⟨#[]⟩, .int .i64 0, .string ⟨#[]⟩], .int .i64 120]) ∧ Below w.heap.size w w' := by
  have mixed : Tryz.prog.follows .mixedOrders = true := by kernel_rfl
  have HT : Aside (∀ w, Calls Tryz.prog 25 #[.string s, .string ⟨#[47]⟩] w fun e w' => e = .returned (.string (pathB s)) ∧ w' = w) := fun w => Tryz.strings_TrimPrefix s slashB w
  have HSp : Aside _ := fun w hG => split_walk s hs x l hx w hG
  have HF : Aside _ := fun lb rb w hb hr => findWord x lb rb l.length w hb hr
  have HSZ : Aside _ := hsz
  have HGl : Aside _ := hG
  clear hx hG hsz
  generalize hp : pathB s = p at *
  clear hp
  generalize numW x = n at *
  rw [formAt_eq] at HF
  have hdec : decide (0 ≤ n) = true := decide_eq_true hn
  rw [hdec] at HF
  obtain ⟨g, hg, eg, hget⟩ := gets (slotOf n) (hfn hn)
  obtain ⟨g', hg', eg', hput⟩ := puts (slotOf n) (hfn hn)
  have HGet : ∀ (w : World) (b : Nat), w.heap.size = b → Calls Tryz.prog g #[.agg #[.int .i64 (kindOf (slotOf n)), .string ⟨#[]⟩, .int .i64 0, .string ⟨#[]⟩]] w fun e w' => (∃ p c, e = .returned (.slice p (partN (slotOf n)) c)) ∧ Below b w w' := fun w b hb => by
    refine (hget (kindOf (slotOf n)) ⟨#[]⟩ 0 ⟨#[]⟩ (by decide) w b hb).mono ?_
    rintro e w' ⟨v, rfl, hv, -, hB⟩
    obtain ⟨p, c, rfl⟩ := own_form hv
    rw [partN_eq]
    exact ⟨⟨p, c, rfl⟩, hB⟩
  have HGet : Aside _ := HGet
  rw [hg, hg'] at HF
  clear hdec hn hfn hget hg hg'
  generalize kindOf (slotOf n) = v0 at *
  generalize wordOf (slotOf n) = v1 at *
  generalize urgOf (slotOf n) = v4 at *
  have hne : ((l.length : Int) != (partN (slotOf n) : Int)) = false := by rw [bne_eq_false_iff_eq]; omega
  have hwr : IntKind.i64.wrap (l.length : Int) = (l.length : Int) := wrapLen hlen
  obtain ⟨o, ho, hif⟩ : ∃ o : Nat, (l ≠ [] → o = 1) ∧ ∀ b : Nat, (if l = [] then some ({ block := b, off := 0 } : Addr) else some { block := b, off := 1 }) = some ⟨b, o, none⟩ := by
    by_cases hl0 : l = []
    · exact ⟨0, fun h => absurd hl0 h, fun b => if_pos hl0⟩
    · exact ⟨1, fun _ => rfl, fun b => if_neg hl0⟩
  have HO : Aside _ := ho
  clear ho
  have HPut : Aside (∀ (ab rb c : Nat) (w : World), Lex.Gl w → PutAt ab rb v0 ⟨#[]⟩ 0 ⟨#[]⟩ l o w → Calls Tryz.prog g' #[.pointer (some ⟨ab, 0, none⟩), .slice (some ⟨rb, o, none⟩) l.length c] w fun e w' => e = .returned (.tuple #[]) ∧ w.grownBy w' (some ab) ∧ w'.heap[ab]? = some (.cells #[.int .i64 v0, .string (putA (slotOf n) l).1, .int .i64 (putA (slotOf n) l).2.1, .string (putA (slotOf n) l).2.2] 23 (0, 0))) := fun ab rb c w hG h => hput ab rb v0 l o c w hc HSZ.out hG h
  have HFm : Aside _ := fun w => format v0 (putA (slotOf n) l).1 (putA (slotOf n) l).2.1 (putA (slotOf n) l).2.2 w
  clear hput hc
  unfold adr at HFm
  generalize (putA (slotOf n) l).1 = a1 at *
  generalize (putA (slotOf n) l).2.1 = a2 at *
  generalize (putA (slotOf n) l).2.2 = a3 at *
  generalize partN (slotOf n) = k at *
  generalize fmtB v0 a1 a2 a3 = fm at *
  obtain ⟨t, er⟩ := fm
  simp only at HFm FMT
  obtain ⟨rfl, hts'⟩ := FMT
  have hts : (t.toList == s.toList) = false := by rw [beq_eq_false_iff_ne]; exact hts'
  go_enter Tryz.func15, Tryz.ntmps15
  go_wp2_with (first
    | (go_at_call 25; refine (HT.out _).mono ?_; rintro e w' ⟨rfl, rfl⟩)
    | (go_at_call 24; refine (HSp.out _ (gl_to HGl.out ((Below.refl _ _).alloc (Nat.le_refl _) _))).mono ?_; rintro e w' ⟨rfl, rfl⟩)
    | (go_at_call 26; fail))
  clear HT HSp
  generalize hw1 : World.alloc (World.alloc (World.alloc w _) _) _ = w1
  have hB1 : Below w.heap.size w w1 := by rw [← hw1]; exact (((Below.refl _ w).alloc (Nat.le_refl _) _).alloc (by simp) _).alloc (by simp; omega) _
  have hs1 : w1.heap.size = w.heap.size + 1 + 1 + 1 := by rw [← hw1]; simp
  have hb1 : w1.heap[w.heap.size]? = some (.cells #[.int .i64 0, .string ⟨#[]⟩, .int .i64 0, .string ⟨#[]⟩] 23) := by
    rw [← hw1, Below.heap_alloc _ _ _ (by simp; omega), Below.heap_alloc _ _ _ (by simp)]; exact heap_alloc_new _ _
  have hr1 : w1.heap[w.heap.size + 1]? = some (.cells ((x :: l).map Value.string).toArray 9) := by
    rw [← hw1, Below.heap_alloc _ _ _ (by simp)]; exact heap_alloc2_new _ _ _
  have hl1 : w1.cell? ⟨w.heap.size + 1 + 1, 0, none⟩ = some (.slice (some ⟨w.heap.size + 1, 0, none⟩) (l.length + 1) (l.length + 1)) := by
    rw [← hw1, World.cell?_alloc_at _ _ _ _ (by simp)]; rfl
  clear hw1
  have hrow1 : ∀ (j : Nat) y, (x :: l)[j]? = some y → w1.cell? ⟨w.heap.size + 1, j, none⟩ = some (.string y) := fun j y hj => by
    rw [cell_of_row w1 _ j _ _ _ hr1, List.getElem?_toArray, List.getElem?_map, hj]; rfl
  refine (HF.out _ _ w1 hl1 (hrow1 0 x rfl)).mono ?_
  rintro e w2 ⟨rfl, hB2⟩
  have hB2' : Below w.heap.size w w2 := hB1.trans (hB2.mono (by omega))
  have hs2 : w.heap.size + 1 + 1 < w2.heap.size := by have := hB2.size; omega
  have hb2 : w2.heap[w.heap.size]? = some (.cells #[.int .i64 0, .string ⟨#[]⟩, .int .i64 0, .string ⟨#[]⟩] 23 (0, 0)) := by rw [hB2.block _ (by omega)]; exact hb1
  have hl2 := keep_cell hB2 hl1
  have hrow2 : ∀ (j : Nat) y, (x :: l)[j]? = some y → w2.cell? ⟨w.heap.size + 1, j, none⟩ = some (.string y) := fun j y hj => keep_cell hB2 (hrow1 j y hj)
  clear hB1 hs1 hb1 hr1 hl1 hrow1 hB2
  have HB2 : Aside _ := hB2'
  have HR2 : Aside _ := hrow2
  have HR0 : Aside _ := hb2
  clear hB2' hrow2 hb2 HF
  generalize hR : w.heap.size = R at *
  have sn : ∀ (a : Addr) (m : Mode) (w : World), (store a .nilFunc m).run Tryz.prog w = stored Tryz.prog w a .nilFunc m := fun a m w => run_store _ w a _ m rfl
  have s2 : ∀ (a : Addr) (m : Mode) (w : World), (store a (.func (.func g) #[] #[]) m).run Tryz.prog w = stored Tryz.prog w a (.func (.func g) #[] #[]) m := fun a m w => run_store _ w a _ m rfl
  have s3 : ∀ (a : Addr) (m : Mode) (w : World), (store a (.func (.func g') #[] #[]) m).run Tryz.prog w = stored Tryz.prog w a (.func (.func g') #[] #[]) m := fun a m w => run_store _ w a _ m rfl
  go_wp2
  generalize hw4 : World.alloc (World.alloc w2 _) _ = w4
  have hB24 : Below w2.heap.size w2 w4 := by rw [← hw4]; exact ((Below.refl _ w2).alloc (Nat.le_refl _) _).alloc (by simp) _
  have hB4 : Below R w w4 := HB2.out.trans (hB24.mono (by omega))
  have hs4 : w4.heap.size = w2.heap.size + 1 + 1 := by rw [← hw4]; simp
  have hf4 : w4.heap[w2.heap.size]? = some (.cells #[.int .i64 v0, .string v1, (.func (.func g) #[] #[]), (.func (.func g') #[] #[]), .int .i64 v4] 44 (0, 0)) := by
    rw [← hw4, Below.heap_alloc _ _ _ (by simp)]; exact heap_alloc_new _ _
  have ha4 : w4.heap[w2.heap.size + 1]? = some (.cells #[.int .i64 v0, .string ⟨#[]⟩, .int .i64 0, .string ⟨#[]⟩] 23 (0, 0)) := by
    rw [← hw4]; exact heap_alloc2_new _ _ _
  have hr4 : w4.heap[R]? = some (.cells #[.int .i64 0, .string ⟨#[]⟩, .int .i64 0, .string ⟨#[]⟩] 23 (0, 0)) := by rw [hB24.block _ (by omega)]; exact HR0.out
  have hl4 := keep_cell hB24 hl2
  have hrow4 : ∀ (j : Nat) y, (x :: l)[j]? = some y → w4.cell? ⟨R + 1, j, none⟩ = some (.string y) := fun j y hj => keep_cell hB24 (HR2.out j y hj)
  have hsR : R + 1 + 1 < w2.heap.size := hs2
  clear hw4 hs2 hl2
  generalize hfb : w2.heap.size = fb at *
  have HB4 : Aside _ := hB4
  have HF4 : Aside _ := hf4
  have HA4 : Aside _ := ha4
  have HRR : Aside _ := hr4
  have HRW : Aside _ := hrow4
  clear hB24 hB4 hf4 ha4 hr4 hrow4 HB2 HR2 HR0
  have HS4 : Aside (w4.cell? ⟨R + 1 + 1, 0, none⟩ = some (.slice (some ⟨R + 1, 0, none⟩) (l.length + 1) (l.length + 1)) ∧ w4.cell? ⟨fb, 2, none⟩ = some (.func (.func g) #[] #[]) ∧ w4.cell? ⟨fb + 1, 0, none⟩ = some (.int .i64 v0) ∧ w4.cell? ⟨fb + 1, 1, none⟩ = some (.string ⟨#[]⟩) ∧ w4.cell? ⟨fb + 1, 2, none⟩ = some (.int .i64 0) ∧ w4.cell? ⟨fb + 1, 3, none⟩ = some (.string ⟨#[]⟩)) := ⟨hl4, by unfold World.cell?; rw [HF4.out]; rfl, by unfold World.cell?; rw [HA4.out]; rfl, by unfold World.cell?; rw [HA4.out]; rfl, by unfold World.cell?; rw [HA4.out]; rfl, by unfold World.cell?; rw [HA4.out]; rfl⟩
  clear hl4
  have KeepS : Aside (∀ W W' : World, Below W.heap.size W W' → (W.cell? ⟨R + 1 + 1, 0, none⟩ = some (.slice (some ⟨R + 1, 0, none⟩) (l.length + 1) (l.length + 1)) ∧ W.cell? ⟨fb, 2, none⟩ = some (.func (.func g) #[] #[]) ∧ W.cell? ⟨fb + 1, 0, none⟩ = some (.int .i64 v0) ∧ W.cell? ⟨fb + 1, 1, none⟩ = some (.string ⟨#[]⟩) ∧ W.cell? ⟨fb + 1, 2, none⟩ = some (.int .i64 0) ∧ W.cell? ⟨fb + 1, 3, none⟩ = some (.string ⟨#[]⟩)) → (W'.cell? ⟨R + 1 + 1, 0, none⟩ = some (.slice (some ⟨R + 1, 0, none⟩) (l.length + 1) (l.length + 1)) ∧ W'.cell? ⟨fb, 2, none⟩ = some (.func (.func g) #[] #[]) ∧ W'.cell? ⟨fb + 1, 0, none⟩ = some (.int .i64 v0) ∧ W'.cell? ⟨fb + 1, 1, none⟩ = some (.string ⟨#[]⟩) ∧ W'.cell? ⟨fb + 1, 2, none⟩ = some (.int .i64 0) ∧ W'.cell? ⟨fb + 1, 3, none⟩ = some (.string ⟨#[]⟩))) := fun W W' hb ⟨x1, x2, x3, x4, x5, x6⟩ => ⟨keep_cell hb x1, keep_cell hb x2, keep_cell hb x3, keep_cell hb x4, keep_cell hb x5, keep_cell hb x6⟩
  have HB4D : Aside (Below R w w4.drew) := ⟨HB4.out.os, HB4.out.tape, HB4.out.output, HB4.out.size, HB4.out.block⟩
  have hszD : w4.drew.heap.size = fb + 1 + 1 := hs4
  have hRl : R ≤ fb + 1 + 1 := by omega
  have HZ : Aside (R ≤ w4.drew.heap.size) := by rw [hszD]; exact hRl
  clear hszD hRl
  go_region_held3 (fun W => W.cell? ⟨R + 1 + 1, 0, none⟩ = some (.slice (some ⟨R + 1, 0, none⟩) (l.length + 1) (l.length + 1)) ∧ W.cell? ⟨fb, 2, none⟩ = some (.func (.func g) #[] #[]) ∧ W.cell? ⟨fb + 1, 0, none⟩ = some (.int .i64 v0) ∧ W.cell? ⟨fb + 1, 1, none⟩ = some (.string ⟨#[]⟩) ∧ W.cell? ⟨fb + 1, 2, none⟩ = some (.int .i64 0) ∧ W.cell? ⟨fb + 1, 3, none⟩ = some (.string ⟨#[]⟩))
    (first | exact HS5.out | exact HS4.out)
    (first
    | (go_at_fn g; refine (HGet.out w4.drew _ rfl).mono ?_; rintro e w5 ⟨⟨p5, c5, rfl⟩, hb5⟩; have HS5 : Aside _ := KeepS.out _ _ hb5 HS4.out; have HB45 : Aside _ := hb5; have HB5 : Aside (Below R w w5) := HB4D.out.trans (hb5.mono HZ.out); clear hb5))
  have hr5 : w5.heap[R]? = some (.cells #[.int .i64 0, .string ⟨#[]⟩, .int .i64 0, .string ⟨#[]⟩] 23 (0, 0)) := by
    rw [HB45.out.block R (box_lt HRR.out)]; exact HRR.out
  have e0 : w5.cell? ⟨R, 0, none⟩ = some (.int .i64 0) := by unfold World.cell?; rw [hr5]; rfl
  have e1 : w5.cell? ⟨R, 1, none⟩ = some (.string ⟨#[]⟩) := by unfold World.cell?; rw [hr5]; rfl
  have e2 : w5.cell? ⟨R, 2, none⟩ = some (.int .i64 0) := by unfold World.cell?; rw [hr5]; rfl
  have e3 : w5.cell? ⟨R, 3, none⟩ = some (.string ⟨#[]⟩) := by unfold World.cell?; rw [hr5]; rfl
  have z : ∀ i, w5.frozen? ⟨R, i, none⟩ = false := fun i => by unfold World.frozen?; rw [hr5]; first | rfl | simp
  have z0 := z 0; have z1 := z 1; have z2 := z 2; have z3 := z 3
  clear HRR HS4 KeepS HZ HB4D e0 e1 e2 e3 z0 z1 z2 z3 hne
  have hrow5 : ∀ (j : Nat) y, (x :: l)[j]? = some y → w5.cell? ⟨R + 1, j, none⟩ = some (.string y) := fun j y hj => keep_cell HB45.out (HRW.out j y hj)
  have ha5 : w5.heap[fb + 1]? = some (.cells #[.int .i64 v0, .string ⟨#[]⟩, .int .i64 0, .string ⟨#[]⟩] 23 (0, 0)) := by rw [HB45.out.block _ (box_lt HA4.out)]; exact HA4.out
  have hf5 : w5.heap[fb]? = some (.cells #[.int .i64 v0, .string v1, .func (.func g) #[] #[], .func (.func g') #[] #[], .int .i64 v4] 44 (0, 0)) := by rw [HB45.out.block _ (box_lt HF4.out)]; exact HF4.out
  have HP5 : Aside (PutAt (fb + 1) (R + 1) v0 ⟨#[]⟩ 0 ⟨#[]⟩ l o w5.drew) := ⟨ha5, fun j y hj => (by rw [HO.out (by rintro rfl; cases hj), Nat.add_comm 1 j]; exact hrow5 (j + 1) y hj), by omega⟩
  have HG5 : Aside (Lex.Gl w5.drew) := gl_to HGl.out (by rw [hR]; exact ⟨HB5.out.os, HB5.out.tape, HB5.out.output, HB5.out.size, HB5.out.block⟩)
  have q3 : w5.cell? ⟨fb, 3, none⟩ = some (.func (.func g') #[] #[]) := by unfold World.cell?; rw [hf5]; rfl
  have ql := HS5.out.1
  have HQ5 : Aside (w5.cell? ⟨fb, 3, none⟩ = some (.func (.func g') #[] #[]) ∧ w5.cell? ⟨R + 1 + 1, 0, none⟩ = some (.slice (some ⟨R + 1, 0, none⟩) (l.length + 1) (l.length + 1))) := ⟨q3, ql⟩
  have HR5 : Aside _ := hr5
  have hlz : (1 : Int) ≤ (l.length : Int) + 1 := by omega
  clear hrow5 ha5 hf5 q3 ql hr5 HRW HA4 HF4 HS5 HB45 HB4
  go_wp2
  go_region_held3 (fun W => W.cell? ⟨fb, 3, none⟩ = some (.func (.func g') #[] #[]) ∧ W.cell? ⟨R + 1 + 1, 0, none⟩ = some (.slice (some ⟨R + 1, 0, none⟩) (l.length + 1) (l.length + 1)))
    (first | exact HQ6.out | exact HQ5.out)
    (first
    | (go_at_fn g'; refine (HPut.out _ _ _ w5.drew HG5.out HP5.out).mono ?_; rintro e w6 ⟨rfl, hg6, ha6⟩; have HQ6 : Aside (w6.cell? ⟨fb, 3, none⟩ = some (.func (.func g') #[] #[]) ∧ w6.cell? ⟨R + 1 + 1, 0, none⟩ = some (.slice (some ⟨R + 1, 0, none⟩) (l.length + 1) (l.length + 1))) := ⟨hg6.cell HQ5.out.1 (by simp), hg6.cell HQ5.out.2 (by simp; omega)⟩; have HG6 : Aside _ := hg6; have HA6 : Aside _ := ha6; clear hg6 ha6))
  have hr6 : w6.heap[R]? = some (.cells #[.int .i64 0, .string ⟨#[]⟩, .int .i64 0, .string ⟨#[]⟩] 23 (0, 0)) := by
    rw [HG6.out.block R (box_lt HR5.out) (by simp; omega)]; exact HR5.out
  have hB6 : Below R w w6 := Below.grown (w := w5.drew) ⟨HB5.out.os, HB5.out.tape, HB5.out.output, HB5.out.size, HB5.out.block⟩ HG6.out (Nat.le_of_lt (box_lt HR5.out)) (fun k hk => by injection hk with hk; omega)
  have a0_ : w6.cell? ⟨fb + 1, 0, none⟩ = some (.int .i64 v0) := by unfold World.cell?; rw [HA6.out]; rfl
  have a1_ : w6.cell? ⟨fb + 1, 1, none⟩ = some (.string a1) := by unfold World.cell?; rw [HA6.out]; rfl
  have a2_ : w6.cell? ⟨fb + 1, 2, none⟩ = some (.int .i64 a2) := by unfold World.cell?; rw [HA6.out]; rfl
  have a3_ : w6.cell? ⟨fb + 1, 3, none⟩ = some (.string a3) := by unfold World.cell?; rw [HA6.out]; rfl
  have HR6 : Aside _ := hr6
  have HB6 : Aside _ := hB6
  clear HQ6 HQ5 HG5 HP5 HPut HB5 HG6 HR5 hr6 hB6
  go_wp2_with (go_at_call 9; refine (HFm.out _).mono ?_)
  clear HFm a0_ a1_ a2_ a3_
  rintro e w7 ⟨rfl, hB7⟩
  have hr7 : w7.heap[R]? = some (.cells #[.int .i64 0, .string ⟨#[]⟩, .int .i64 0, .string ⟨#[]⟩] 23 (0, 0)) := by
    rw [hB7.block R (box_lt HR6.out)]; exact HR6.out
  have ha7 : w7.heap[fb + 1]? = some (.cells #[.int .i64 v0, .string a1, .int .i64 a2, .string a3] 23 (0, 0)) := by
    rw [hB7.block _ (box_lt HA6.out)]; exact HA6.out
  have HB7 : Aside (Below R w w7) := HB6.out.trans (hB7.mono (Nat.le_of_lt (box_lt HR6.out)))
  have a0_ : w7.cell? ⟨fb + 1, 0, none⟩ = some (.int .i64 v0) := by unfold World.cell?; rw [ha7]; rfl
  have a1_ : w7.cell? ⟨fb + 1, 1, none⟩ = some (.string a1) := by unfold World.cell?; rw [ha7]; rfl
  have a2_ : w7.cell? ⟨fb + 1, 2, none⟩ = some (.int .i64 a2) := by unfold World.cell?; rw [ha7]; rfl
  have a3_ : w7.cell? ⟨fb + 1, 3, none⟩ = some (.string a3) := by unfold World.cell?; rw [ha7]; rfl
  have e0 : w7.cell? ⟨R, 0, none⟩ = some (.int .i64 0) := by unfold World.cell?; rw [hr7]; rfl
  have e1 : w7.cell? ⟨R, 1, none⟩ = some (.string ⟨#[]⟩) := by unfold World.cell?; rw [hr7]; rfl
  have e2 : w7.cell? ⟨R, 2, none⟩ = some (.int .i64 0) := by unfold World.cell?; rw [hr7]; rfl
  have e3 : w7.cell? ⟨R, 3, none⟩ = some (.string ⟨#[]⟩) := by unfold World.cell?; rw [hr7]; rfl
  have z : ∀ i, w7.frozen? ⟨R, i, none⟩ = false := fun i => by unfold World.frozen?; rw [hr7]; first | rfl | simp
  have z0 := z 0; have z1 := z 1; have z2 := z 2; have z3 := z 3
  clear z hr7 ha7 hB7 HR6 HA6 HB6
  have HBe := HB7
  go_wp2
  (try simp only [Exit.inBlock, Exit.then])
  refine bodyPost_ret (v := .tuple #[.agg #[.int .i64 0, .string ⟨#[]⟩, .int .i64 0, .string ⟨#[]⟩], .int .i64 120]) ?_ rfl ⟨rfl, ?_⟩
  · rw [results_cell_tmp rfl]
    go_simp
  · rw [hR]
    repeat (first | exact HBe.out | refine Below.setCell (B := R) (p := ⟨R, _, none⟩) ?_ (Nat.le_refl _) _)

theorem parse (s : ByteArray) (hs : s.size ≤ 1000) (w : World) (hG : Lex.Gl w) :
    Calls Tryz.prog 15 #[.string s] w fun e w' => e = .returned (.tuple #[adr (parseB s).1 (parseB s).2.1 (parseB s).2.2.1 (parseB s).2.2.2.1, .int .i64 (parseB s).2.2.2.2]) ∧ Below w.heap.size w w' := by
  obtain ⟨x, l, hx⟩ : ∃ x l, splitS s = x :: l := by
    have := splitS_len s
    cases h : splitS s with
    | nil => rw [h] at this; simp at this
    | cons x l => exact ⟨x, l, rfl⟩
  have hlen : l.length ≤ 1000 := by
    have h1 := splitS_len s
    have h2 := Lib.countB_le slashB (by decide) _ (pathB s) (Nat.le_refl _)
    have h3 := pathB_size s
    rw [hx, List.length_cons] at h1
    omega
  have hsz : ∀ y ∈ l, y.size ≤ 1000 := fun y hy => by
    have h1 : y ∈ splitS s := by rw [hx]; exact List.mem_cons_of_mem _ hy
    have h2 := splitB_sizes _ _ _ y h1
    have h3 := pathB_size s
    omega
  have hcand : candB s = if 0 ≤ numW x ∧ l.length = partN (slotOf (numW x)) then some (kindOf (slotOf (numW x)), putA (slotOf (numW x)) l) else none := by
    unfold candB; rw [hx]
  have hfn : 0 ≤ numW x → slotOf (numW x) < 6 := fun h => by
    rcases pick_range (fun j => (wordOf j).toList == x.toList) with hk | ⟨k, hk, he, -⟩
    · have : numW x = -1 := hk
      omega
    · have : numW x = k := he
      rw [this]; unfold slotOf; rw [if_neg (by omega)]; simpa using hk
  unfold adr parseB
  rw [hcand]
  by_cases hn : 0 ≤ numW x
  · by_cases hc : l.length = partN (slotOf (numW x))
    · rw [if_pos ⟨hn, hc⟩]
      simp only
      by_cases hf : (fmtB (kindOf (slotOf (numW x))) (putA (slotOf (numW x)) l).1 (putA (slotOf (numW x)) l).2.1 (putA (slotOf (numW x)) l).2.2).2 = 0
      · by_cases ht : (fmtB (kindOf (slotOf (numW x))) (putA (slotOf (numW x)) l).1 (putA (slotOf (numW x)) l).2.1 (putA (slotOf (numW x)) l).2.2).1.toList = s.toList
        · rw [if_pos ⟨hf, ht⟩]
          refine parseOk s hs x l hx hsz hlen w hG hn hfn hc ⟨hf, ?_⟩
          rw [ByteArray.toList_eq, ByteArray.toList_eq] at ht
          exact ByteArray.ext (Array.ext' ht)
        · rw [if_neg (fun h => ht h.2)]
          exact parseOther s hs x l hx hsz hlen w hG hn hfn hc ⟨hf, ht⟩
      · rw [if_neg (fun h => hf h.1)]
        exact parseBad s hs x l hx hsz hlen w hG hn hfn hc hf
    · rw [if_neg (fun h => hc h.2)]
      exact parseCount s hs x l hx hsz hlen w hG hn hfn hc
  · rw [if_neg (fun h => hn h.1)]
    exact parseNone s hs x l hx hsz hlen w hG hn

end Go.Proofs.YtdfjpbdfafpfgaaGreatDoor.Ad
