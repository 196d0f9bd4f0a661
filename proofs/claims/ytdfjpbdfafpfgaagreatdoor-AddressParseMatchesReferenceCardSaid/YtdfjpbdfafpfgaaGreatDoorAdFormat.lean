/- address.Format. -/
import Derived.Test.YtdfjpbdfafpfgaaGreatDoorAdGets
import Derived.Test.YtdfjpbdfafpfgaaGreatDoorPXx4
import Derived.Deep.AppendLies
import Derived.Deep.RegionLaw
import Derived.Deep.RegionHeld3
import Derived.Laws.AppendOwnNone
import Derived.Laws.Rows
import Derived.BigRegion
namespace Go.Proofs.YtdfjpbdfafpfgaaGreatDoor.Ad
open Go.RowKit Go.Lib

def numB (n : Int) : Bool := decide (1 ≤ n) && decide (n ≤ 64)
/-- Is an address valid? -/
def validB (kind : Int) (name : ByteArray) (n : Int) (lang : ByteArray) : Bool :=
  if kind = 2 then numB n && (nameB lang && (name.toList == []))
  else if kind = 3 then numB n && (nameB name && (lang.toList == []))
  else if kind = 4 ∨ kind = 5 then nameB name && (n == 0 && (lang.toList == []))
  else if kind = 1 ∨ kind = 6 then name.toList == [] && (n == 0 && lang.toList == [])
  else false

theorem isNumber_f (n : Int) : PX.address_isNumber.f n = some (numB n) := by
  unfold PX.address_isNumber.f numB
  by_cases h : n ≥ 1
  · rw [if_pos h, decide_eq_true (show 1 ≤ n from h), Bool.true_and]
  · rw [if_neg h, decide_eq_false (show ¬ 1 ≤ n from h), Bool.false_and]

theorem valid_f (kind : Int) (name : ByteArray) (n : Int) (lang : ByteArray) : PX.address_Valid.f 1 kind name n lang = some (validB kind name n lang) := by
  have e0 : (⟨#[]⟩ : ByteArray).toList = [] := by rw [ByteArray.toList_eq]
  unfold PX.address_Valid.f validB PX.address_Valid.j0
  simp only [isNumber_f, PX.address_isName.f, Option.bind_some, e0, beq_self_eq_true, Bool.true_and, if_true]
  by_cases h2 : kind = 2
  · rw [if_pos h2, if_pos h2]
    cases numB n <;> cases nameB lang <;> simp
  rw [if_neg h2, if_neg h2]
  by_cases h3 : kind = 3
  · rw [if_pos h3, if_pos h3]
    cases numB n <;> cases nameB name <;> simp
  rw [if_neg h3, if_neg h3]
  by_cases h4 : kind = 4
  · subst h4
    cases nameB name <;> simp
  rw [if_neg h4]
  by_cases h5 : kind = 5
  · subst h5
    cases nameB name <;> simp
  by_cases h1 : kind = 1
  · subst h1; simp
  by_cases h6 : kind = 6
  · subst h6; simp
  simp [h4, h5, h1, h6]

theorem valid (kind : Int) (name : ByteArray) (n : Int) (lang : ByteArray) (w : World) :
    Calls Tryz.prog 11 #[adr kind name n lang] w fun e w' => e = .returned (.bool (validB kind name n lang)) ∧ Below w.heap.size w w' :=
  PX.address_Valid.calls 1 kind name n lang _ w (valid_f kind name n lang)

/-- The list of what is joined. -/
def piecesOf (j : Nat) (name : ByteArray) (n : Nat) (lang : ByteArray) : List ByteArray := wordOf j :: partsOf j name n lang
def joinB (l : List ByteArray) : ByteArray := ⟨(Lib.join (l.map (·.data.toList)) [47]).toArray⟩
/-- The string of an address, and the error. -/
def fmtB (kind : Int) (name : ByteArray) (n : Int) (lang : ByteArray) : ByteArray × Int :=
  if validB kind name n lang = true then ((⟨#[47]⟩ : ByteArray) ++ joinB (piecesOf (slotOf (numOf kind)) name n.toNat lang), 0) else (⟨#[]⟩, 120)

theorem numOf_known (k : Int) (h : k = 1 ∨ k = 2 ∨ k = 3 ∨ k = 4 ∨ k = 5 ∨ k = 6) : slotOf (numOf k) < 6 := by
  rcases h with rfl | rfl | rfl | rfl | rfl | rfl <;> decide

theorem valid_kind {kind : Int} {name : ByteArray} {n : Int} {lang : ByteArray} (h : validB kind name n lang = true) : kind = 1 ∨ kind = 2 ∨ kind = 3 ∨ kind = 4 ∨ kind = 5 ∨ kind = 6 := by
  unfold validB at h
  split at h
  · omega
  split at h
  · omega
  split at h
  · omega
  split at h
  · omega
  · cases h

theorem valid_num {kind : Int} {name : ByteArray} {n : Int} {lang : ByteArray} (h : validB kind name n lang = true) : ∃ m : Nat, n = m ∧ m < 100 := by
  have : 0 ≤ n ∧ n ≤ 64 := by
    unfold validB numB at h
    split at h
    · simp at h; omega
    split at h
    · simp at h; omega
    split at h
    · simp at h; omega
    split at h
    · simp at h; omega
    · cases h
  exact ⟨n.toNat, by omega, by omega⟩

theorem valid_sizes {kind : Int} {name : ByteArray} {n : Int} {lang : ByteArray} (h : validB kind name n lang = true) : name.size ≤ 20 ∧ lang.size ≤ 20 := by
  have e : ∀ s : ByteArray, s.toList = [] → s.size = 0 := fun s hs => by
    rw [ByteArray.toList_eq] at hs
    show s.data.size = 0
    rw [← Array.length_toList, hs]; rfl
  have hn : ∀ s : ByteArray, nameB s = true → s.size ≤ 20 := fun s hs => by
    unfold nameB at hs
    simp only [Bool.and_eq_true, decide_eq_true_eq] at hs
    exact hs.2
  unfold validB at h
  split at h
  · simp only [Bool.and_eq_true, beq_iff_eq] at h
    exact ⟨by rw [e _ h.2.2]; omega, hn _ h.2.1⟩
  split at h
  · simp only [Bool.and_eq_true, beq_iff_eq] at h
    exact ⟨hn _ h.2.1, by rw [e _ h.2.2]; omega⟩
  split at h
  · simp only [Bool.and_eq_true, beq_iff_eq] at h
    exact ⟨hn _ h.1, by rw [e _ h.2.2]; omega⟩
  split at h
  · simp only [Bool.and_eq_true, beq_iff_eq] at h
    exact ⟨by rw [e _ h.1]; omega, by rw [e _ h.2.2]; omega⟩
  · cases h

theorem itoa_small (n : Nat) (h : n < 100) : (itoaB n).size ≤ 2 := by
  have : (List.range 100).all (fun n => decide ((itoaB n).size ≤ 2)) = true := by decide +kernel
  rw [List.all_eq_true] at this
  simpa using this n (by simpa using h)

theorem pieces_short (j : Nat) (name : ByteArray) (n : Nat) (lang : ByteArray) (hn : n < 100) (h1 : name.size ≤ 20) (h2 : lang.size ≤ 20) :
    (Lib.join ((piecesOf j name n lang).map (·.data.toList)) [47]).length ≤ 1000 := by
  have hi := itoa_small n hn
  have e1 : name.data.toList.length = name.size := by simp
  have e2 : lang.data.toList.length = lang.size := by simp
  have e3 : (itoaB n).data.toList.length = (itoaB n).size := by simp
  have hw : (wordOf j).data.toList.length ≤ 6 := by unfold wordOf; split <;> decide
  unfold piecesOf partsOf Lib.join
  split <;> simp only [List.map_cons, List.map_nil, List.intercalate, List.intersperse, List.flatten_cons, List.flatten_nil, List.length_append, List.length_cons, List.length_nil] <;> omega

theorem keep_cell {W W' : World} {a : Addr} {v : Value} (hb : Below W.heap.size W W') (h : W.cell? a = some v) : W'.cell? a = some v :=
  (hb.cell (World.block_lt_of_cell? W a h)).trans h
theorem alloc_cell {W : World} {o : Obj} {a : Addr} {v : Value} (h : W.cell? a = some v) : (W.alloc o).cell? a = some v :=
  keep_cell ((Below.refl _ W).alloc (Nat.le_refl _) o) h
theorem keep_own {W W' : World} {base : Nat} {e : TypeId} {v : Value} {n : Nat} {xs : List Value} (hb : Below W.heap.size W W') (h : W.ownsRow base e 1 v n xs) : W'.ownsRow base e 1 v n xs := by
  refine ⟨h.1, ?_⟩
  rcases h.2 with hn | ⟨g, cap, cur, hv, hg, hh, rest⟩
  · exact .inl hn
  · exact .inr ⟨g, cap, cur, hv, hg, (hb.block g (by rcases Nat.lt_or_ge g W.heap.size with h' | h'; exact h'; rw [Array.getElem?_eq_none h'] at hh; cases hh)).trans hh, rest⟩
theorem alloc_own {W : World} {o : Obj} {base : Nat} {e : TypeId} {v : Value} {n : Nat} {xs : List Value} (h : W.ownsRow base e 1 v n xs) : (W.alloc o).ownsRow base e 1 v n xs :=
  keep_own ((Below.refl _ W).alloc (Nat.le_refl _) o) h
theorem own_lower {W : World} {base base' : Nat} {e : TypeId} {v : Value} {n : Nat} {xs : List Value} (h : W.ownsRow base e 1 v n xs) (hb : base' ≤ base) : W.ownsRow base' e 1 v n xs := by
  refine ⟨h.1, ?_⟩
  rcases h.2 with hn | ⟨g, cap, cur, hv, hg, rest⟩
  · exact .inl hn
  · exact .inr ⟨g, cap, cur, hv, Nat.le_trans hb hg, rest⟩
theorem own_cells {W : World} {base : Nat} {e : TypeId} {ad : Addr} {n c : Nat} {xs : List Value} (h : W.ownsRow base e 1 (.slice (some ad) n c) n xs) : ∀ j u, xs[j]? = some u → W.cell? (ad.add j) = some u := by
  rcases h.2 with ⟨h1, _⟩ | ⟨g, cap, cur, hv, _, hh, hnc, _, hsz, ht⟩
  · cases h1
  · injection hv with h1 h2 h3
    injection h1 with h1
    subst h1
    intro j u hu
    have hadd : (⟨g, 0, none⟩ : Addr).add j = ⟨g, j, none⟩ := by unfold Addr.add; split <;> simp_all
    rw [hadd, cell_of_row W g j cur e (0, 0) hh]
    have hj : j < xs.length := (List.getElem?_eq_some_iff.1 hu).1
    rw [← ht, List.getElem?_take] at hu
    split at hu
    · simpa using hu
    · cases hu
theorem own_size {W : World} {base : Nat} {e : TypeId} {g : Nat} {n c : Nat} {xs : List Value} (h : W.ownsRow base e 1 (.slice (some ⟨g, 0, none⟩) n c) n xs) : g < W.heap.size ∧ n ≤ c := by
  rcases h.2 with ⟨h1, _⟩ | ⟨g', cap, cur, hv, _, hh, hnc, _⟩
  · cases h1
  · injection hv with h1 h2 h3
    injection h1 with h1
    injection h1 with h1
    subst h1 h3
    refine ⟨?_, hnc⟩
    rcases Nat.lt_or_ge g W.heap.size with h' | h'
    · exact h'
    · rw [Array.getElem?_eq_none h'] at hh; cases hh

theorem joinC (xs : List ByteArray) (hlen : (Lib.join (xs.map (·.data.toList)) [47]).length ≤ 1000) (hx : xs.length ≤ 1000) (W : World) (base g n c : Nat) (hn : n = xs.length)
    (h : W.ownsRow base 9 1 (.slice (some ⟨g, 0, none⟩) n c) n (xs.map .string)) :
    Calls Tryz.prog 19 #[.slice (some ⟨g, 0, none⟩) n c, .string ⟨#[47]⟩] W fun e w' => e = .returned (.string (joinB xs)) ∧ Below W.heap.size W w' := by
  subst hn
  obtain ⟨h1, h2⟩ := own_size h
  have hc := own_cells h
  refine Tryz.strings_Join g 0 c xs ⟨#[47]⟩ W (fun j x hj => ?_) h1 (by omega) h2 (Nat.le_trans hlen (by decide))
  have := hc j (.string x) (by rw [List.getElem?_map, hj]; rfl)
  have hadd : (⟨g, 0, none⟩ : Addr).add j = ⟨g, j, none⟩ := by unfold Addr.add; split <;> simp_all
  rw [hadd] at this
  rw [Nat.zero_add]
  exact this

theorem step_append_none {P : Program} {w : World} {ops : Array Oper} {o : Oper} {a : Act} {K : Act → World → Prop} {Q : Exit → Act → World → Prop} {E : Prop} (hgd : o.guard = none) (s x : Operand) (t : TypeId)
    (ho : o.op = .call { callee := .builtin .append, args := #[s, x], argTypes := #[t, t] })
    (base : Nat) (e : TypeId) (i : TypeInfo) (size : Nat) (ht : P.underlying t = some (.slice e)) (hi : P.info? e = some i)
    (v : Value) (n : Nat) (xs : List Value) (hs : a.eval s = v) (hown : w.ownsRow base e size v n xs) (hx : a.eval x = .slice none 0 0)
    (h : K (a.put o.dst v) w) : if Region.wanted o (yielded ops a.tmps) = true then Oper.wp P o a w K Q else E := by
  have hw : Region.wanted o (yielded ops a.tmps) = true := by simp [Region.wanted, hgd]
  rw [if_pos hw]
  have hrun := run_append_owned_none (P := P) (w := w) base t o.type e i size ht hi v n xs hown
  unfold Oper.wp
  simp [execOp, ho, resolve, invoke, builtin, hs, hx, hrun, Result.andThen]
  exact h

theorem below_next {ab i : Nat} {w W W' : World} {v : Value} (h : Below ab w W) (hb : Below W.heap.size W W') (hc : W.cell? ⟨ab, i, none⟩ = some v) : Below ab w W' :=
  h.trans (hb.mono (Nat.le_of_lt (World.block_lt_of_cell? W _ hc)))
theorem below_alloc {ab i : Nat} {w W : World} {o : Obj} {v : Value} (h : Below ab w W) (hc : W.cell? ⟨ab, i, none⟩ = some v) : Below ab w (W.alloc o) :=
  h.alloc (Nat.le_of_lt (World.block_lt_of_cell? W _ hc)) o
theorem fresh_own {ab i : Nat} {W : World} {v : Value} {e : TypeId} (l : List Value) (hc : W.cell? ⟨ab, i, none⟩ = some v) (hl : l.length ≤ 1000) :
    (W.alloc (.cells l.toArray e)).ownsRow ab e 1 (.slice (some ⟨W.heap.size, 0, none⟩) l.length l.length) l.length l :=
  ownsRow_fresh l (Nat.le_of_lt (World.block_lt_of_cell? W _ hc)) (Nat.le_trans hl (by unfold maxLen; omega))

theorem grown_below {ab i r : Nat} {w W W' : World} {v : Value} (h : Below ab w W) (hg : W.grownBy W' (some r)) (hc : W.cell? ⟨ab, i, none⟩ = some v) (hr : ab ≤ r) : Below ab w W' :=
  h.grown hg (Nat.le_of_lt (World.block_lt_of_cell? W _ hc)) (fun k hk => by injection hk with hk; rw [← hk]; exact hr)

theorem infoStr : (Tryz.prog.info? 9).map (fun i => (i.zero, i.size, i.bytes)) = some (some (.string ByteArray.empty), 1, 16) := by kernel_rfl

set_option maxHeartbeats 4000000 in
set_option maxRecDepth 1000000 in
theorem format (kind : Int) (name : ByteArray) (n : Int) (lang : ByteArray) (w : World) :
    Calls Tryz.prog 9 #[adr kind name n lang] w fun e w' => e = .returned (.tuple #[.string (fmtB kind name n lang).1, .int .i64 (fmtB kind name n lang).2]) ∧ Below w.heap.size w w' := by
  have mixed : Tryz.prog.follows .mixedOrders = true := by kernel_rfl
  have HV := fun w => valid kind name n lang w
  have HV : Aside _ := HV
  unfold fmtB
  cases hv : validB kind name n lang with
  | false =>
    rw [hv] at HV
    rw [if_neg (by decide)]
    unfold adr at *
    go_enter Tryz.func9, Tryz.ntmps9
    go_wp2_with (go_at_call 11; refine (HV.out _).mono ?_)
    generalize hw1 : World.alloc w _ = w1
    have hB1 : Below w.heap.size w w1 := by rw [← hw1]; exact (Below.refl _ w).alloc (Nat.le_refl _) _
    clear hw1
    rintro e w2 ⟨rfl, hB2⟩
    go_wp2
    go_ret2
    exact ⟨rfl, hB1.trans (hB2.mono hB1.size)⟩
  | true =>
    rw [hv] at HV
    rw [if_pos rfl]
    obtain ⟨m, rfl, hm⟩ := valid_num hv
    have hj := numOf_known kind (valid_kind hv)
    obtain ⟨hl1, hl2⟩ := valid_sizes hv
    have hlen := pieces_short (slotOf (numOf kind)) name m lang hm hl1 hl2
    obtain ⟨g, hg, eg, hget⟩ := gets (slotOf (numOf kind)) hj
    have HK := fun w => ofKind kind w
    rw [formAt_eq, hg] at HK
    simp only [Int.toNat_natCast]
    have HK : Aside _ := HK
    have HG := fun w b hb => hget kind name m lang hm w b hb
    have HG : Aside _ := HG
    have hp3 := putOf_one (slotOf (numOf kind))
    have hcount : (partsOf (slotOf (numOf kind)) name m lang).length ≤ 900 := by unfold partsOf; split <;> simp
    clear hget hg hj hl1 hl2 hv
    unfold piecesOf at *
    generalize partsOf (slotOf (numOf kind)) name m lang = parts at *
    generalize wordOf (slotOf (numOf kind)) = word at *
    generalize putOf (slotOf (numOf kind)) = v3 at *
    generalize kindOf (slotOf (numOf kind)) = v0 at *
    generalize urgOf (slotOf (numOf kind)) = v4 at *
    have sn : ∀ (a : Addr) (m : Mode) (w : World), (store a .nilFunc m).run Tryz.prog w = stored Tryz.prog w a .nilFunc m := fun a m w => run_store _ w a _ m rfl
    have s2 : ∀ (a : Addr) (m : Mode) (w : World), (store a (.func (.func g) #[] #[]) m).run Tryz.prog w = stored Tryz.prog w a (.func (.func g) #[] #[]) m := fun a m w => run_store _ w a _ m rfl
    have s3 : ∀ (a : Addr) (m : Mode) (w : World), (store a v3 m).run Tryz.prog w = stored Tryz.prog w a v3 m := fun a m w => run_store _ w a _ m hp3
    clear hp3
    unfold adr at *
    go_enter Tryz.func9, Tryz.ntmps9
    go_wp2_with (go_at_call 11; refine (HV.out _).mono ?_)
    generalize hw1 : World.alloc w _ = w1
    have hB1 : Below w.heap.size w w1 := by rw [← hw1]; exact (Below.refl _ w).alloc (Nat.le_refl _) _
    have hs1 : w1.heap.size = w.heap.size + 1 := by rw [← hw1]; simp
    have hb1 : w1.heap[w.heap.size]? = some (.cells #[.int .i64 kind, .string name, .int .i64 m, .string lang] 23) := by rw [← hw1]; exact heap_alloc_new _ _
    clear hw1
    rintro e w2 ⟨rfl, hB2⟩
    have hB2' : Below w.heap.size w w2 := hB1.trans (hB2.mono hB1.size)
    have hs2 : w.heap.size < w2.heap.size := by have := hB2.size; omega
    have hb2 : w2.heap[w.heap.size]? = some (.cells #[.int .i64 kind, .string name, .int .i64 m, .string lang] 23) := by rw [hB2.block _ (by omega)]; exact hb1
    have q0 : w2.cell? ⟨w.heap.size, 0, none⟩ = some (.int .i64 kind) := by unfold World.cell?; rw [hb2]; rfl
    have Hb2 : Aside _ := hb2
    have HB2 : Aside _ := hB2'
    clear hB1 hs1 hb1 hB2 hb2 hB2'
    go_wp2_with (go_at_call 18; refine (HK.out _).mono ?_)
    clear q0
    rintro e w3 ⟨rfl, hB3⟩
    have hB3' : Below w.heap.size w w3 := HB2.out.trans (hB3.mono HB2.out.size)
    have hs3 : w.heap.size < w3.heap.size := by have := hB3.size; omega
    have hb3 : w3.heap[w.heap.size]? = some (.cells #[.int .i64 kind, .string name, .int .i64 m, .string lang] 23) := by rw [hB3.block _ hs2]; exact Hb2.out
    have Hb3 : Aside _ := hb3
    have HB3 : Aside _ := hB3'
    clear hB3 hb3 hB3' Hb2 HB2 hs2
    go_wp2
    generalize hw4 : World.alloc w3 _ = w4
    have hb4 : w4.heap[w3.heap.size]? = some (.cells #[.int .i64 v0, .string word, .func (.func g) #[] #[], v3, .int .i64 v4] 44) := by rw [← hw4]; exact heap_alloc_new _ _
    have hc4 : w4.heap[w.heap.size]? = some (.cells #[.int .i64 kind, .string name, .int .i64 m, .string lang] 23) := by rw [← hw4, Below.heap_alloc _ _ _ hs3]; exact Hb3.out
    have hs4 : w4.heap.size = w3.heap.size + 1 := by rw [← hw4]; simp
    have hB4 : Below w.heap.size w w4 := by rw [← hw4]; exact HB3.out.alloc (Nat.le_of_lt hs3) _
    clear hw4 Hb3 HB3
    have c1 : w4.cell? ⟨w3.heap.size, 1, none⟩ = some (.string word) := by unfold World.cell?; rw [hb4]; rfl
    have c2 : w4.cell? ⟨w3.heap.size, 2, none⟩ = some (.func (.func g) #[] #[]) := by unfold World.cell?; rw [hb4]; rfl
    have d0 : w4.cell? ⟨w.heap.size, 0, none⟩ = some (.int .i64 kind) := by unfold World.cell?; rw [hc4]; rfl
    have d1 : w4.cell? ⟨w.heap.size, 1, none⟩ = some (.string name) := by unfold World.cell?; rw [hc4]; rfl
    have d2 : w4.cell? ⟨w.heap.size, 2, none⟩ = some (.int .i64 m) := by unfold World.cell?; rw [hc4]; rfl
    have d3 : w4.cell? ⟨w.heap.size, 3, none⟩ = some (.string lang) := by unfold World.cell?; rw [hc4]; rfl
    have Hb4 : Aside _ := hb4
    have Hc4 : Aside _ := hc4
    have HB4 : Aside _ := hB4
    clear hb4 hc4 hB4
    generalize hfb : w3.heap.size = fb at *
    generalize hab : w.heap.size = ab at *
    obtain ⟨i0, hi, hz0, hz1, hz2⟩ := info_parts infoStr
    have r4 : (w4.alloc (.cells #[.string word] 9)).ownsRow ab 9 1 (.slice (some ⟨fb + 1, 0, none⟩) 1 1) 1 [.string word] := by
      have := fresh_own (e := 9) [.string word] d1 (by simp)
      rw [hs4] at this
      exact this
    have hjs : ¬ 9223372036854775807 < 1 + (joinB (word :: parts)).size := by
      have : (joinB (word :: parts)).size = (Lib.join ((word :: parts).map (·.data.toList)) [47]).length := by simp [joinB, ByteArray.size]
      omega
    have keepS : ∀ W W' : World, Below W.heap.size W W' → (W.cell? ⟨fb, 1, none⟩ = some (.string word) ∧ W.cell? ⟨fb, 2, none⟩ = some (.func (.func g) #[] #[]) ∧ W.cell? ⟨ab, 0, none⟩ = some (.int .i64 kind) ∧ W.cell? ⟨ab, 1, none⟩ = some (.string name) ∧ W.cell? ⟨ab, 2, none⟩ = some (.int .i64 m) ∧ W.cell? ⟨ab, 3, none⟩ = some (.string lang)) → (W'.cell? ⟨fb, 1, none⟩ = some (.string word) ∧ W'.cell? ⟨fb, 2, none⟩ = some (.func (.func g) #[] #[]) ∧ W'.cell? ⟨ab, 0, none⟩ = some (.int .i64 kind) ∧ W'.cell? ⟨ab, 1, none⟩ = some (.string name) ∧ W'.cell? ⟨ab, 2, none⟩ = some (.int .i64 m) ∧ W'.cell? ⟨ab, 3, none⟩ = some (.string lang)) :=
      fun W W' hb ⟨x1, x2, x3, x4, x5, x6⟩ => ⟨keep_cell hb x1, keep_cell hb x2, keep_cell hb x3, keep_cell hb x4, keep_cell hb x5, keep_cell hb x6⟩
    have keepG : ∀ (W W' : World) (r : Nat), W.grownBy W' (some r) → fb ≠ r → ab ≠ r → (W.cell? ⟨fb, 1, none⟩ = some (.string word) ∧ W.cell? ⟨fb, 2, none⟩ = some (.func (.func g) #[] #[]) ∧ W.cell? ⟨ab, 0, none⟩ = some (.int .i64 kind) ∧ W.cell? ⟨ab, 1, none⟩ = some (.string name) ∧ W.cell? ⟨ab, 2, none⟩ = some (.int .i64 m) ∧ W.cell? ⟨ab, 3, none⟩ = some (.string lang)) → (W'.cell? ⟨fb, 1, none⟩ = some (.string word) ∧ W'.cell? ⟨fb, 2, none⟩ = some (.func (.func g) #[] #[]) ∧ W'.cell? ⟨ab, 0, none⟩ = some (.int .i64 kind) ∧ W'.cell? ⟨ab, 1, none⟩ = some (.string name) ∧ W'.cell? ⟨ab, 2, none⟩ = some (.int .i64 m) ∧ W'.cell? ⟨ab, 3, none⟩ = some (.string lang)) :=
      fun W W' r hg n1 n2 ⟨x1, x2, x3, x4, x5, x6⟩ => ⟨hg.cell x1 (by simpa using n1), hg.cell x2 (by simpa using n1), hg.cell x3 (by simpa using n2), hg.cell x4 (by simpa using n2), hg.cell x5 (by simpa using n2), hg.cell x6 (by simpa using n2)⟩
    have KeepG : Aside _ := keepG
    clear keepG
    have KeepS : Aside _ := keepS
    clear keepS
    have AllocS := fun W o => KeepS.out W (W.alloc o) ((Below.refl _ W).alloc (Nat.le_refl _) o)
    have AllocS : Aside _ := AllocS
    have HS4 : Aside _ := And.intro c1 (And.intro c2 (And.intro d0 (And.intro d1 (And.intro d2 d3))))
    clear c1 c2 d0 d1 d2 d3
    cases parts with
    | nil =>
      go_region_held3 (fun W => W.cell? ⟨fb, 1, none⟩ = some (.string word) ∧ W.cell? ⟨fb, 2, none⟩ = some (.func (.func g) #[] #[]) ∧ W.cell? ⟨ab, 0, none⟩ = some (.int .i64 kind) ∧ W.cell? ⟨ab, 1, none⟩ = some (.string name) ∧ W.cell? ⟨ab, 2, none⟩ = some (.int .i64 m) ∧ W.cell? ⟨ab, 3, none⟩ = some (.string lang))
        (first | exact HS7.out | exact HS5.out | exact AllocS.out _ _ HS5.out | exact HS4.out | exact AllocS.out _ _ HS4.out)
        (first
        | (go_at_fn g; refine (HG.out _ _ rfl).mono ?_; rintro e w5 ⟨v, rfl, hv, hnil, hb5⟩; obtain rfl := hnil rfl; have HS5 : Aside _ := KeepS.out _ _ hb5 (by first | exact HS4.out | exact AllocS.out _ _ HS4.out); have HB5 : Aside (Below ab w w5) := below_next (i := 1) (v := .string name) (by first | exact HB4.out | exact HB4.out.drew | exact below_alloc HB4.out HS4.out.2.2.2.1 | exact (below_alloc HB4.out HS4.out.2.2.2.1).drew) hb5 (by first | exact HS4.out.2.2.2.1 | exact alloc_cell HS4.out.2.2.2.1); (try have r5 := keep_own hb5 r4); clear hb5)
        | (go_at_call 19; refine (joinC [word] hlen (by simp) _ ab _ 1 1 rfl (by first | exact r5 | exact fresh_own [.string word] HS5.out.2.2.2.1 (by simp))).mono ?_; rintro e w7 ⟨rfl, hb7⟩; have HS7 : Aside _ := KeepS.out _ _ hb7 (by first | exact HS5.out | exact AllocS.out _ _ HS5.out); have HB7 : Aside (Below ab w w7) := below_next (i := 1) (v := .string name) (by first | exact HB5.out | exact below_alloc HB5.out HS5.out.2.2.2.1) hb7 (by first | exact HS5.out.2.2.2.1 | exact alloc_cell HS5.out.2.2.2.1); clear hb7))
      all_goals
        go_wp2
        go_ret2
        exact ⟨rfl, by rw [hab]; exact HB7.out⟩
    | cons p0 ps =>
      have hL : 0 < (p0 :: ps).length := Nat.succ_pos _
      have hL2 : (p0 :: ps).length ≤ 900 := hcount
      have hnews1 : ∀ u ∈ (p0 :: ps).map Value.string, u.oneCell' = true := fun u hu => by
        obtain ⟨x, _, rfl⟩ := List.mem_map.1 hu
        rfl
      have HN1 : Aside _ := hnews1
      have hxs : (word :: p0 :: ps).map Value.string = [.string word] ++ (p0 :: ps).map Value.string := rfl
      have hlenL : ((p0 :: ps).map Value.string).length = (p0 :: ps).length * 1 := by simp
      have HX : Aside _ := hxs
      have HL1 : Aside _ := hlenL
      have hn1 : 1 + (p0 :: ps).length = (word :: p0 :: ps).length := by simp; omega
      have HLn : Aside _ := hn1
      have JC := fun W r n c (hn : n = (word :: p0 :: ps).length) h => joinC (word :: p0 :: ps) hlen (by simp only [List.length_cons] at hL2 ⊢; omega) W ab r n c hn h
      have JC : Aside _ := JC
      clear hnews1 hxs hlenL hn1 hlen
      generalize hK : (p0 :: ps).length = L at *
      generalize hM : (p0 :: ps).map Value.string = news at *
      go_region_held3 (fun W => W.cell? ⟨fb, 1, none⟩ = some (.string word) ∧ W.cell? ⟨fb, 2, none⟩ = some (.func (.func g) #[] #[]) ∧ W.cell? ⟨ab, 0, none⟩ = some (.int .i64 kind) ∧ W.cell? ⟨ab, 1, none⟩ = some (.string name) ∧ W.cell? ⟨ab, 2, none⟩ = some (.int .i64 m) ∧ W.cell? ⟨ab, 3, none⟩ = some (.string lang))
        (first | exact HS7.out | exact HS6.out | exact HS5.out | exact AllocS.out _ _ HS5.out | exact HS4.out | exact AllocS.out _ _ HS4.out)
        (first
        | (go_at_fn g; refine (HG.out _ _ rfl).mono ?_; rintro e w5 ⟨v, rfl, hv, -, hb5⟩; obtain ⟨g2, cap2, rfl, -, -⟩ := hv.form hL; have HS5 : Aside _ := KeepS.out _ _ hb5 (by first | exact HS4.out | exact AllocS.out _ _ HS4.out); have HB5 : Aside (Below ab w w5) := below_next (i := 1) (v := .string name) (by first | exact HB4.out | exact HB4.out.drew | exact below_alloc HB4.out HS4.out.2.2.2.1 | exact (below_alloc HB4.out HS4.out.2.2.2.1).drew) hb5 (by first | exact HS4.out.2.2.2.1 | exact alloc_cell HS4.out.2.2.2.1); (try have r5 := keep_own hb5 r4); clear hb5)
        | (go_at_call 19; refine (JC.out _ _ _ _ HLn.out HO.out).mono ?_; rintro e w7 ⟨rfl, hb7⟩; have HS7 : Aside _ := KeepS.out _ _ hb7 HS6.out; have HB7 : Aside (Below ab w w7) := below_next (i := 1) (v := .string name) HB6.out hb7 HS6.out.2.2.2.1; clear hb7)
        | (refine step_append_lies _ rfl (.tmp 13) (.tmp 17) 35 rfl ab 9 i0 (.string ByteArray.empty) 1 16 Tryz.underlying35 hi hz0 hz1 hz2 rfl (by decide) _ 1 [.string word] rfl (by first | exact r5 | exact fresh_own [.string word] HS5.out.2.2.2.1 (by simp)) ⟨g2, 0, none⟩ L cap2 news (by simp [Act.eval]) HL1.out (by first | exact own_cells hv | exact own_cells (alloc_own hv)) HN1.out hL (by unfold maxLen; omega) (by omega) (by first | exact Nat.le_of_lt (World.block_lt_of_cell? _ _ HS5.out.2.2.2.1) | exact Nat.le_of_lt (World.block_lt_of_cell? _ _ (alloc_cell HS5.out.2.2.2.1))) _ rfl ?_; intro g3 cap3 w6 hown hgrow hat hlt; have HS6 : Aside _ := KeepG.out _ _ _ hgrow (by first | exact Nat.ne_of_lt (Nat.lt_succ_self fb) | exact Nat.ne_of_lt (World.block_lt_of_cell? _ _ HS5.out.1)) (by first | exact Nat.ne_of_lt (Nat.lt_succ_of_lt hs3) | exact Nat.ne_of_lt (World.block_lt_of_cell? _ _ HS5.out.2.2.2.1)) (by first | exact HS5.out | exact AllocS.out _ _ HS5.out); have HB6 : Aside (Below ab w w6) := grown_below (i := 1) (v := .string name) (by first | exact HB5.out | exact below_alloc HB5.out HS5.out.2.2.2.1) hgrow (by first | exact HS5.out.2.2.2.1 | exact alloc_cell HS5.out.2.2.2.1) (by first | exact Nat.le_succ_of_le (Nat.le_of_lt hs3) | exact Nat.le_of_lt (World.block_lt_of_cell? _ _ HS5.out.2.2.2.1)); have HO : Aside (w6.ownsRow ab 9 1 (.slice (some ⟨g3, 0, none⟩) (1 + L) cap3) (1 + L) ((word :: p0 :: ps).map Value.string)) := (by rw [HX.out]; exact hown); clear hown hgrow hat hlt))
      all_goals
        go_wp2
        go_ret2
        exact ⟨rfl, by rw [hab]; exact HB7.out⟩

end Go.Proofs.YtdfjpbdfafpfgaaGreatDoor.Ad
