/- address.All of the state without stories: the front page and the map. -/
import Derived.Test.YtdfjpbdfafpfgaaGreatDoorAdSet
import Derived.Test.YtdfjpbdfafpfgaaGreatDoorRange
import Derived.Maps.AppendAt
import Derived.Maps.OwnIn
import Derived.RegionIn
import Derived.Deep.AppendLies
import Derived.Sort.Row
import Derived.Sort.Grow
namespace Go.Proofs.YtdfjpbdfafpfgaaGreatDoor.Ad
open Go.RowKit Go.Shelf Go.Maps Go.Proofs.YtdfjpbdfafpfgaaGreatDoor.Kp Go.Proofs.YtdfjpbdfafpfgaaGreatDoorW.PrintWords

attribute [local go_sem] Oper.semAt_some wide_fn wide_depth

def noBox : Obj := .cells #[.slice none 0 0, .slice none 0 0] 40
def kindK : Bool → Int | false => 1 | true => 6
def txtK : Bool → ByteArray | false => ⟨#[47]⟩ | true => ⟨#[47, 109, 97, 112]⟩
def encK (k : Bool) : Array Value := #[.agg #[.int .i64 (kindK k), .string ⟨#[]⟩, .int .i64 0, .string ⟨#[]⟩]]
theorem fmtK (k : Bool) : fmtB (kindK k) ⟨#[]⟩ 0 ⟨#[]⟩ = (txtK k, 0) := by
  have e0 : (⟨#[]⟩ : ByteArray).toList = [] := by rw [ByteArray.toList_eq]
  have hv : validB (kindK k) ⟨#[]⟩ 0 ⟨#[]⟩ = true := by
    unfold validB
    rw [e0]
    cases k <;> decide
  unfold fmtB
  rw [if_pos hv]
  cases k <;> decide +kernel

set_option maxRecDepth 100000 in
set_option maxHeartbeats 4000000 in
theorem arte0 (n l b : Nat) (J : List Bool → World → Prop) (W : World) (hbox : ∀ pre W, J pre W → W.heap[b]? = some noBox) (hbel : ∀ pre W W', J pre W → Below W.heap.size W W' → J pre W')
    (hY : ∀ pre x W1, J pre W1 → pre.length < 2 → YieldAt Fence.wide (n - 1) Tryz.prog l (encK x) W1 fun e W' => e = .returned (.bool true) ∧ J (pre ++ [x]) W') (h0 : J [] W) :
    CallsIn Fence.wide n Tryz.prog 42 #[.func (.yield l) #[] #[], .pointer (some ⟨b, 0, none⟩)] W fun e W' => (∃ v, e = .returned v) ∧ ∃ xs, xs = [false, true] ∧ J xs W' := by
  have HBX : Aside _ := hbox
  have HBL : Aside _ := hbel
  have HT : Aside _ := topics0
  have HAu : Aside _ := authors0
  unfold noState at HT HAu
  clear hbox hbel
  obtain ⟨fn, tmps, assign, body, hy, hR⟩ := hY [] false W h0 (by decide)
  have hy' : (Instr.yield l #[.agg #[.int .i64 1, .string ⟨#[]⟩, .int .i64 0, .string ⟨#[]⟩]]).run Tryz.prog W = .ok (.round l fn tmps assign body) W := hy
  clear hy
  have HY : Aside _ := hY
  clear hY h0
  refine callsIn_of_wp Tryz.func42 rfl trivial ?_ rfl
  simp only [Tryz.ntmps42, List.size_toArray, List.length_cons, List.length_nil, Nat.reduceAdd, Nat.reduceSub, Array.replicate_succ, Array.replicate_zero, List.push_toArray, List.append_toArray, List.nil_append, List.cons_append]
  gi_wp2
  refine wpIn_scope_wide ?_
  gi_wp2
  refine hR.mono ?_
  rintro e W3 ⟨rfl, hJ3⟩
  obtain ⟨fn2, tmps2, assign2, body2, hy2, hR2⟩ := HY.out _ true W3 hJ3 (by decide)
  have hy2' : (Instr.yield l #[.agg #[.int .i64 6, .string ⟨#[]⟩, .int .i64 0, .string ⟨#[]⟩]]).run Tryz.prog W3 = .ok (.round l fn2 tmps2 assign2 body2) W3 := hy2
  clear hy2 hJ3 HY hy' hR
  gi_wp2
  refine hR2.mono ?_
  rintro e W4 ⟨rfl, hJ4⟩
  clear hy2' hR2
  have hb4 := HBX.out _ _ hJ4
  have q0 : W4.cell? ⟨b, 0, none⟩ = some (.slice none 0 0) := by unfold World.cell?; rw [hb4]; rfl
  have q1 : W4.cell? ⟨b, 1, none⟩ = some (.slice none 0 0) := by unfold World.cell?; rw [hb4]; rfl
  have HJ4 : Aside _ := hJ4
  clear hJ4 hb4
  gi_wp2
  refine wpIn_label ?_
  gi_wp2
  gi_loopw [26] (fun i wr => i = .int .i64 0 ∧ wr = W4) (fun _ _ => 0)
  case atStart => exact ⟨rfl, rfl⟩
  case round =>
    obtain ⟨rfl, rfl⟩ := hrel
    gi_wp2_with (gi_at_call 43; refine (callsIn_wide.2 (HT.out _)).mono ?_)
    rintro e W5 ⟨rfl, hb5⟩
    have HJ5 : Aside _ := HBL.out _ _ _ HJ4.out hb5
    have r0 := keep_cell hb5 q0
    have r1 := keep_cell hb5 q1
    clear q0 q1 hb5 HJ4
    gi_wp2
    gi_loopw [54] (fun i wr => i = .int .i64 0 ∧ wr = W5) (fun _ _ => 0)
    case atStart => exact ⟨rfl, rfl⟩
    case round =>
      obtain ⟨rfl, rfl⟩ := hrel
      gi_wp2_with (gi_at_call 45; refine (callsIn_wide.2 (HAu.out _)).mono ?_)
      rintro e W6 ⟨rfl, hb6⟩
      have HJ6 : Aside _ := HBL.out _ _ _ HJ5.out hb6
      clear r0 r1 hb6 HJ5
      gi_wp2
      gi_loopw [89] (fun i wr => i = .int .i64 0 ∧ wr = W6) (fun _ _ => 0)
      case atStart => exact ⟨rfl, rfl⟩
      case round =>
        obtain ⟨rfl, rfl⟩ := hrel
        gi_wp2
        (try rw [Exit.noGoto_normal])
        refine bodyPost_end (results_none rfl _ _ _) rfl ?_
        exact ⟨⟨_, rfl⟩, _, rfl, HJ6.out⟩

theorem arte (n : Nat) (w : World) :
    CallsIn Fence.wide n Tryz.prog 31 #[noState] w fun e w' => e = .returned (.func (.func 42) #[] #[.pointer (some ⟨w.heap.size, 0, none⟩)]) ∧ w' = w.alloc noBox := by
  unfold noState noBox
  refine callsIn_of_wp Tryz.func31 rfl trivial ?_ rfl
  simp only [Tryz.ntmps31, List.size_toArray, List.length_cons, List.length_nil, Nat.reduceAdd, Nat.reduceSub, Array.replicate_succ, Array.replicate_zero, List.push_toArray, List.append_toArray, List.nil_append, List.cons_append]
  gi_wp2
  go_ret
  exact ⟨rfl, rfl⟩

/-- What All keeps between two rounds. -/
structure AllI (w : World) (pre : List Bool) (W : World) : Prop where
  box : ∃ v, W.heap[w.heap.size + 1]? = some (.cells #[v] 35 (0, 0)) ∧ W.ownsRow w.heap.size 9 1 v pre.length (pre.map fun k => .string (txtK k))
  st : W.heap[w.heap.size + 1 + 1]? = some noBox
  below : Below w.heap.size w W

theorem AllI.belowI {w : World} {pre : List Bool} {W W' : World} (h : AllI w pre W) (hb : Below W.heap.size W W') : AllI w pre W' := by
  obtain ⟨⟨v, hv, hr⟩, hs, hB⟩ := h
  exact ⟨⟨v, (hb.block _ (box_lt hv)).trans hv, keep_own hb hr⟩, (hb.block _ (box_lt hs)).trans hs, hB.trans (hb.mono hB.size)⟩

theorem AllI.putI {w : World} {pre : List Bool} {W : World} {l : Nat} {o o' : Obj} (h : AllI w pre W) (hl : w.heap.size ≤ l) (ho : W.heap[l]? = some o) (hc : o.isCells = false) : AllI w pre (W.putObj l o') := by
  obtain ⟨⟨v, hv, hr⟩, hs, hB⟩ := h
  have ne : ∀ {k : Nat} {cs : Array Value} {t : TypeId} {f : Nat × Nat}, W.heap[k]? = some (.cells cs t f) → k ≠ l := fun hk e => by
    rw [e, ho] at hk
    injection hk with hk
    rw [hk] at hc
    cases hc
  refine ⟨⟨v, (World.putObj_heap_other (ne hv)).trans hv, ?_⟩, (World.putObj_heap_other (ne hs)).trans hs, hB.grown (grownBy_putObj' W l o') hB.size (fun k e => by injection e with e; omega)⟩
  refine ⟨hr.1, ?_⟩
  rcases hr.2 with hn | ⟨g, cap, cur, h1, h2, hh, rest⟩
  · exact .inl hn
  · exact .inr ⟨g, cap, cur, h1, h2, (World.putObj_heap_other (ne hh)).trans hh, rest⟩

theorem own_ne {W : World} {base : Nat} {e : TypeId} {v : Value} {n : Nat} {xs : List Value} (h : W.ownsRow base e 1 v n xs) {k : Nat} {o : Obj} (hk : W.heap[k]? = some o) (hno : ∀ cs, o ≠ .cells cs e (0, 0)) : some k ≠ v.ownBlock := by
  rcases h.2 with ⟨rfl, _⟩ | ⟨g, cap, cur, rfl, _, hh, _⟩
  · simp [Value.ownBlock]
  · intro he
    have : k = g := by simpa [Value.ownBlock] using he
    subst this
    rw [hk] at hh
    injection hh with hh
    exact hno _ hh
theorem own_block_base {W : World} {base : Nat} {e : TypeId} {v : Value} {n : Nat} {xs : List Value} (h : W.ownsRow base e 1 v n xs) (k : Nat) (hk : v.ownBlock = some k) : base ≤ k := by
  rcases h.2 with ⟨rfl, _⟩ | ⟨g, cap, cur, rfl, hb, _⟩
  · simp [Value.ownBlock] at hk
  · have : g = k := by simpa [Value.ownBlock] using hk
    omega

/-- The two addresses, as the library's sort takes them. -/
def two : List (List UInt8) := [[47], [47, 109, 97, 112]]
theorem two_holds {W : World} {g c n : Nat} {base : Nat} (h : W.ownsRow base 9 1 (.slice (some ⟨g, 0, none⟩) n c) n [.string (txtK false), .string (txtK true)]) : Sort.Holds encStr W g 0 two.toArray := by
  rcases h.2 with ⟨h1, _⟩ | ⟨g', cap, cur, hv, _, hh, _, _, _, ht⟩
  · cases h1
  · injection hv with h1 h2 h3
    injection h1 with h1
    injection h1 with h1
    subst h1
    have hc := own_cells h
    have hf : ∀ j, W.frozen? ⟨g, j, none⟩ = false := fun j => by unfold World.frozen?; rw [hh]; first | rfl | simp
    have hadd : ∀ j, (⟨g, 0, none⟩ : Addr).add j = ⟨g, j, none⟩ := fun j => by unfold Addr.add; split <;> simp_all
    intro j hj
    refine ⟨?_, hf _⟩
    rw [Nat.zero_add]
    match j, hj with
    | 0, _ => have := hc 0 _ rfl; rw [hadd] at this; exact this
    | 1, _ => have := hc 1 _ rfl; rw [hadd] at this; exact this

theorem below_aheadGrow (W : World) (n : Nat) (os : Array Obj) : Below W.heap.size W (Sort.grow (Sort.ahead W n) os) :=
  ⟨rfl, rfl, rfl, by show W.heap.size ≤ (W.heap ++ os).size; rw [Array.size_append]; omega, fun _ hj => Sort.heap_grow_old (Sort.ahead W n) os hj⟩

theorem sort2 (g c : Nat) (W : World) (hH : Sort.Holds encStr W g 0 two.toArray) (hg : g < W.heap.size) :
    Calls Tryz.prog 32 #[.slice (some ⟨g, 0, none⟩) 2 c] W fun e w' => e = .returned (.tuple #[]) ∧ Below W.heap.size W w' := by
  refine (Tryz.slices_Sort_string g 0 c two W hH hg (by decide)).mono ?_
  rintro e w' ⟨rfl, n, os, rfl⟩
  refine ⟨rfl, ?_⟩
  have hm : (two.mergeSort fun x y => decide (x ≤ y)) = two := List.mergeSort_of_pairwise (by decide)
  rw [hm, Sort.putRow_ahead, Sort.putRow_self _ _ _ _ _ hH]
  exact below_aheadGrow W n os

theorem compact2 (g c : Nat) (W : World) (hH : Sort.Holds encStr W g 0 two.toArray) (hc : 2 ≤ c) :
    Calls Tryz.prog 33 #[.slice (some ⟨g, 0, none⟩) 2 c] W fun e w' => e = .returned (.slice (some ⟨g, 0, none⟩) 2 c) ∧ Below W.heap.size W w' := by
  refine (Tryz.slices_Compact_string g 0 c two W hH (by decide) hc).mono ?_
  rintro e w' ⟨rfl, q, rfl⟩
  have hm : Lib.compact two = two := by decide +kernel
  refine ⟨by rw [hm]; rfl, ?_⟩
  rw [hm, show two ++ List.replicate (two.length - two.length) [] = two from by simp, Sort.putRow_ahead, Sort.putRow_self _ _ _ _ _ hH]
  exact ⟨rfl, rfl, rfl, Nat.le_refl _, fun _ _ => rfl⟩

set_option maxRecDepth 100000 in
set_option maxHeartbeats 4000000 in
theorem all_in (w : World) : CallsIn Fence.wide 6 Tryz.prog 17 #[noState] w fun e w' =>
    (∃ b c, e = .returned (.slice (some ⟨b, 0, none⟩) 2 c) ∧ w'.cell? ⟨b, 0, none⟩ = some (.string ⟨#[47]⟩) ∧ w'.cell? ⟨b, 1, none⟩ = some (.string ⟨#[47, 109, 97, 112]⟩)) ∧ Below w.heap.size w w' := by
  obtain ⟨i0, hi, hz0, hz1, hz2⟩ := info_parts infoStr
  have HA : Aside _ := fun n w => arte n w
  unfold noState at *
  refine callsIn_of_wp_marks Tryz.func17 rfl trivial ?_ rfl
  simp only [Tryz.ntmps17, List.size_toArray, List.length_cons, List.length_nil, Nat.reduceAdd, Nat.reduceSub, Array.replicate_succ, Array.replicate_zero, List.push_toArray, List.append_toArray, List.nil_append, List.cons_append]
  gi_wp2_with (gi_at_call 31; refine (HA.out _ _).mono ?_; rintro e w' ⟨rfl, rfl⟩)
  generalize hW : World.alloc (World.alloc (World.alloc w _) _) noBox = W0
  have hsz : W0.heap.size = w.heap.size + 1 + 1 + 1 := by rw [← hW]; simp
  have hB : Below w.heap.size w W0 := by
    rw [← hW]
    exact (((Below.refl _ w).alloc (Nat.le_refl _) _).alloc (by simp) _).alloc (by simp; omega) _
  have hI0 : AllI w [] W0 := ⟨⟨.slice none 0 0, by rw [← hW]; exact old_at (new_at (by simp)), ⟨rfl, .inl ⟨rfl, rfl⟩⟩⟩, by rw [← hW]; exact new_at (by simp), hB⟩
  clear hW hB
  refine range_gives 6 (by decide) (gf := 42) (lb := #[.pointer (some ⟨w.heap.size + 1 + 1, 0, none⟩)]) rfl (enters_of Tryz.func42 (by kernel_rfl) rfl) (encs := encK) (fun _ => rfl)
    (AllI w) (fun pre W l o o' h hl ho hc => h.putI (by omega) ho hc) (fun pre W W' h hb => h.belowI hb) hI0 (fun xs => xs = [false, true]) 2
    (fun l J W hJI hJB hY h0 => arte0 _ l _ J W (fun pre W h => (hJI pre W h).st) hJB hY h0)
    (fun (x : Bool) a' W => ∃ Bx, w.heap.size + 1 + 1 < Bx ∧ W.heap[Bx]? = some (.cells #[.int .i64 (kindK x), .string ⟨#[]⟩, .int .i64 0, .string ⟨#[]⟩] 23 (0, 0)) ∧ a' = { tmps := #[.agg #[.slice none 0 0, .slice none 0 0], .pointer (some ⟨w.heap.size, 0, none⟩), .slice none 0 0, .pointer (some ⟨w.heap.size + 1, 0, none⟩), .pointer (some ⟨Bx, 0, none⟩), undef, undef, .agg #[.slice none 0 0, .slice none 0 0], .func (.func 42) #[] #[.pointer (some ⟨w.heap.size + 1 + 1, 0, none⟩)], .agg #[.int .i64 (kindK x), .string ⟨#[]⟩, .int .i64 0, .string ⟨#[]⟩], undef, undef, undef, undef, undef, undef, undef, undef, undef, undef, undef, undef, undef, undef, undef], defers := [] })
    (fun x a' W l o o' ⟨Bx, hBx, hx, ha⟩ hl ho hc => ⟨Bx, hBx, (World.putObj_heap_other (fun e => by rw [e, ho] at hx; injection hx with hx; rw [hx] at hc; cases hc)).trans hx, ha⟩) ?assign ?body ?done
  case assign =>
    rintro l pre x W K hI hK
    unfold encK
    gi_wp2
    exact hK _ _ ((Below.refl _ W).alloc (Nat.le_refl _) _) ⟨W.heap.size, box_lt hI.st, heap_alloc_new _ _, rfl⟩
  case body =>
    rintro l pre x a' W hl hI ⟨Bx, hBx, hx, rfl⟩ hlen
    have HF : Aside _ := fun w => format (kindK x) ⟨#[]⟩ 0 ⟨#[]⟩ w
    rw [fmtK] at HF
    unfold adr at HF
    have k0 : W.cell? ⟨Bx, 0, none⟩ = some (.int .i64 (kindK x)) := by simp [World.cell?, hx]
    have k1 : W.cell? ⟨Bx, 1, none⟩ = some (.string ⟨#[]⟩) := by simp [World.cell?, hx]
    have k2 : W.cell? ⟨Bx, 2, none⟩ = some (.int .i64 0) := by simp [World.cell?, hx]
    have k3 : W.cell? ⟨Bx, 3, none⟩ = some (.string ⟨#[]⟩) := by simp [World.cell?, hx]
    have HI : Aside _ := hI
    clear hI hx
    generalize kindK x = kx at *
    gi_wp2_with (first
      | (gi_at_call 9; refine (CallsIn.inRound l (callsIn_wide.2 (HF.out _))).mono ?_; rintro e W1 ⟨rfl, hb1⟩; obtain ⟨⟨v, hv, hr⟩, hs, hB⟩ := HI.out.belowI hb1; have ho : W1.cell? ⟨w.heap.size + 1, 0, none⟩ = some v := (by unfold World.cell?; rw [hv]; rfl); have HV : Aside _ := hv; have HS : Aside _ := hs; have HB : Aside _ := hB; have Hb1 : Aside _ := hb1; clear hv hs hB hb1 k0 k1 k2 k3)
      | (gi_at_builtin; go_loud (refine wpListIn_append_own_at _ rfl _ _ 35 rfl w.heap.size 9 i0 (.string ByteArray.empty) 1 16 Tryz.underlying35 hi hz0 hz1 hz2 rfl (by decide) _ _ _ rfl (alloc_own hr) ⟨W1.heap.size, 0, none⟩ 1 1 [.string (txtK x)] rfl rfl (World.news_of_block (heap_alloc_new _ _)) (by simp [Value.oneCell']) (by unfold maxLen; omega) (by omega) (by have := HB.out.size; simp; omega) ?_); intro v' w2 hown' hgrow _ hat; have HO : Aside _ := hown'; have HG : Aside _ := hgrow; have hv2 : w2.heap[w.heap.size + 1]? = some (.cells #[v] 35 (0, 0)) := (hgrow.block _ (by have := box_lt HV.out; simp; omega) (own_ne hr HV.out (fun cs e => by injection e with _ e; cases e))).trans (old_at HV.out); have HV2 : Aside _ := hv2; have o2 : w2.cell? ⟨w.heap.size + 1, 0, none⟩ = some v := (by unfold World.cell?; rw [hv2]; rfl); have f2 : w2.frozen? ⟨w.heap.size + 1, 0, none⟩ = false := (by unfold World.frozen?; rw [hv2]; first | rfl | simp); obtain ⟨g', cap', rfl, -, -⟩ := hown'.form (by omega); clear hv2 hown' hgrow))
    have hgs := HG.out.size
    have hW1 := Hb1.out.size
    have hbl : ∀ {k : Nat} {o : Obj}, W1.heap[k]? = some o → (∀ cs, o ≠ .cells cs 9 (0, 0)) → w2.heap[k]? = some o := fun hk hno =>
      (HG.out.block _ (by have := box_lt hk; simp; omega) (own_ne hr hk hno)).trans (old_at hk)
    have hne : w.heap.size + 1 ≠ g' := fun e => own_ne HO.out HV2.out (fun cs e => by injection e with _ e; cases e) (by rw [e]; rfl)
    have hB2 : Below w.heap.size w w2 := (HB.out.alloc HB.out.size _).grown HG.out (by have := HB.out.size; simp; omega) (fun k hk => own_block_base hr k hk)
    refine ⟨⟨?_, fun k o hk ho hc => ?_⟩, ⟨⟨_, blk_put HV2.out 0 _ rfl, ?_⟩, ?_, hB2.setCell (p := ⟨w.heap.size + 1, 0, none⟩) (by simp) _⟩⟩
    · have : (w2.setCell ⟨w.heap.size + 1, 0, none⟩ (.slice (some ⟨g', 0, none⟩) (pre.length + 1) cap')).heap.size = w2.heap.size := by simp [World.setCell]
      rw [this]
      simp at hgs
      omega
    · have h1 : W1.heap[k]? = some o := (Hb1.out.block k (box_lt ho)).trans ho
      have h2 := hbl h1 (fun cs e => by rw [e] at hc; cases hc)
      exact (KeepsOthers.setCell w2 _ _).same k o h2 hc
    · have h1 : (w2.setCell ⟨w.heap.size + 1, 0, none⟩ (.slice (some ⟨g', 0, none⟩) (pre.length + 1) cap')).ownsRow w.heap.size 9 1 (.slice (some ⟨g', 0, none⟩) (pre.length + 1) cap') (pre.length + 1) (pre.map (fun k => .string (txtK k)) ++ [.string (txtK x)]) :=
        World.ownsRow.kept (show w2.ownsRow w.heap.size 9 1 (.slice (some ⟨g', 0, none⟩) (pre.length + 1) cap') (pre.length + 1) (pre.map (fun k => .string (txtK k)) ++ [.string (txtK x)]) from HO.out) (grow_set (w := w2) (ab := w.heap.size + 1) (i := 0)) (.inr (by simpa [Value.ownBlock] using fun e => hne e.symm))
      simpa using h1
    · exact (Below.heap_setCell w2 ⟨w.heap.size + 1, 0, none⟩ _ _ (by simp)).trans (hbl HS.out (fun cs e => by injection e with _ e; cases e))
  case done =>
    rintro D xs W hD rfl hI hK
    obtain ⟨⟨v, hv, hr⟩, hs, hB⟩ := hI
    have ho : W.cell? ⟨w.heap.size + 1, 0, none⟩ = some v := by unfold World.cell?; rw [hv]; rfl
    obtain ⟨g', cap', rfl, hg1, hg2⟩ := hr.form (by decide)
    have HH := two_holds hr
    have hcap := (own_size hr).2
    have HR : Aside _ := hr
    have HV : Aside _ := hv
    have HB : Aside _ := hB
    have HK : Aside _ := hK
    clear hr hv hs hB hK
    gi_wp2_with (first
      | (gi_at_call 32; refine (callsIn_wide.2 (sort2 g' cap' _ HH hg2)).mono ?_; rintro e W2 ⟨rfl, hb2⟩; have o2 := keep_cell hb2 ho; have HH2 := two_holds (keep_own hb2 HR.out); have HB2 : Aside _ := hb2; clear HH ho hb2)
      | (gi_at_call 33; refine (callsIn_wide.2 (compact2 g' cap' _ HH2 hcap)).mono ?_; rintro e W3 ⟨rfl, hb3⟩; have HB3 : Aside _ := hb3; clear HH2 o2 hb3))
    have h1 : W.ownsRow w.heap.size 9 1 (.slice (some ⟨g', 0, none⟩) 2 cap') 2 [.string (txtK false), .string (txtK true)] := HR.out
    have h2 := keep_own HB3.out (keep_own HB2.out h1)
    have hK3 : W3.heap[D]? = some (.deferred (some [])) := by
      rw [HB3.out.block D (by have := HB2.out.size; have := box_lt HK.out; omega), HB2.out.block D (box_lt HK.out)]
      exact HK.out
    have hBw : Below w.heap.size w W3 := (HB.out.trans (HB2.out.mono HB.out.size)).trans (HB3.out.mono (Nat.le_trans HB.out.size HB2.out.size))
    refine ⟨by simp, .inl ⟨_, _, rfl, run_takeDeferred hK3, ?_⟩⟩
    refine ⟨.slice (some ⟨g', 0, none⟩) 2 cap', by simp [results, Tryz.results17, go_sem], ⟨g', cap', rfl, ?_, ?_⟩, ?_⟩
    · have h3 := own_cells h2 0 _ rfl
      have ne : g' ≠ D := fun e => by
        rcases h2.2 with ⟨h, _⟩ | ⟨g, cap, cur, hv, _, hh, _⟩
        · cases h
        · injection hv with hv
          injection hv with hv
          injection hv with hv
          rw [← hv, e, hK3] at hh
          cases hh
      have hadd : (⟨g', 0, none⟩ : Addr).add 0 = ⟨g', 0, none⟩ := by unfold Addr.add; split <;> simp_all
      rw [hadd] at h3
      unfold World.cell? at h3 ⊢
      rw [show (W3.putObj D (.deferred none)).heap[g']? = W3.heap[g']? from World.putObj_heap_other ne]
      exact h3
    · have h3 := own_cells h2 1 _ rfl
      have ne : g' ≠ D := fun e => by
        rcases h2.2 with ⟨h, _⟩ | ⟨g, cap, cur, hv, _, hh, _⟩
        · cases h
        · injection hv with hv
          injection hv with hv
          injection hv with hv
          rw [← hv, e, hK3] at hh
          cases hh
      have hadd : (⟨g', 0, none⟩ : Addr).add 1 = ⟨g', 1, none⟩ := by unfold Addr.add; split <;> simp_all
      rw [hadd] at h3
      unfold World.cell? at h3 ⊢
      rw [show (W3.putObj D (.deferred none)).heap[g']? = W3.heap[g']? from World.putObj_heap_other ne]
      exact h3
    · exact hBw.trans (belowK_b (w := w) (Nat.le_refl _) W3 D _ _ (by omega) hK3 rfl rfl)

theorem all0 (w : World) : Calls Tryz.prog 17 #[noState] w fun e w' =>
    (∃ b c, e = .returned (.slice (some ⟨b, 0, none⟩) 2 c) ∧ w'.cell? ⟨b, 0, none⟩ = some (.string ⟨#[47]⟩) ∧ w'.cell? ⟨b, 1, none⟩ = some (.string ⟨#[47, 109, 97, 112]⟩)) ∧ Below w.heap.size w w' :=
  callsIn_wide.1 (all_in w)

end Go.Proofs.YtdfjpbdfafpfgaaGreatDoor.Ad
