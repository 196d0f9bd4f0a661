/- What the iterator of the lexer hands to its caller, round by round: exactly the tokens that the plain function gives. -/
import Derived.RangeFuncNested
import Derived.RangeFuncBound
import Derived.RangeFuncCalls
import Derived.RangeFuncLeaves
import Derived.Shelf.Abstract
import Derived.Shelf.RegionOpen
import Derived.OwnWalkIn
import Derived.TacticsInMore
import Derived.LoopNIn
import Derived.LoopIn
import Derived.WalkMore
import Derived.Test.YtbgnkoecfokmaaaDoorLexWalkD
import Derived.Test.YtbgnkoecfokmaaaDoorShelf
import Derived.Test.YtbgnkoecfokmaaaDoorKp
import Derived.Test.YtbgnkoecfokmaaaDoorGl
namespace Go.Proofs.YtbgnkoecfokmaaaDoor.Lex
open Go.RowKit Go.Shelf Go.Proofs.YtbgnkoecfokmaaaDoor.Kp

theorem wide_fn (f : FuncId) : Fence.wide.fn f = True := rfl
theorem wide_depth : Fence.wide.depth = none := rfl
attribute [local go_sem] Oper.semAt_some wide_fn wide_depth

theorem wpIn_scope_wide {n : Nat} {P : Program} {c : Code} {Q : Exit → Act → World → Prop} {a : Act} {w : World} (h : c.wpIn Fence.wide n P (Exit.noGoto Q) a w) : (Code.scope c).wpIn Fence.wide n P Q a w :=
  wpIn_wide.2 (wp_scope_straight (wpIn_wide.1 h))

theorem replace_any (s : ByteArray) (w : World) (hG : Gl w) (hs : s.size ≤ 1000) : Calls Tryd.prog 19 #[.string s, .string ⟨#[123, 123]⟩, .string ⟨#[123]⟩] w fun e w' => e = .returned (.string ⟨(unesc s.data.toList).toArray⟩) ∧ Below w.heap.size w w' := by
  obtain ⟨m, hm⟩ := hG
  have hc : Lib.countB s ⟨#[123, 123]⟩ ≤ s.size := Lib.countB_le _ (by decide) s.size s (Nat.le_refl _)
  have h := Tryd.strings_ReplaceAll s ⟨#[123, 123]⟩ ⟨#[123]⟩ m w (by omega) hm (by decide) (by
    have : (⟨#[123]⟩ : ByteArray).size = 1 := rfl
    rw [this]; omega)
  rw [show (⟨#[123, 123]⟩ : ByteArray).data.toList = [123, 123] from rfl, show (⟨#[123]⟩ : ByteArray).data.toList = [123] from rfl, replaceAll_unesc] at h
  exact h

theorem grown_of_below' {w w1 : World} (h : Below w.heap.size w w1) : w.grownBy w1 none := ⟨h.os, h.tape, h.output, h.size, fun i hi _ => h.block i hi⟩

/-- What a new block holds is there behind the round. -/
theorem kp_tokCell {O : Nat} {W wr W4 W5 : World} {v : Value} {cs : List Value} {T : TypeId} (h : Kp O (W4.alloc (.cells (v :: cs).toArray T)) W5) (hb : Below wr.heap.size wr (W4.alloc (.cells (v :: cs).toArray T))) (hz : wr.heap.size ≤ W4.heap.size) (hp : ptr O W = none) (hk : Kp O W wr) (hO : O < wr.heap.size) : W5.cell? ⟨W4.heap.size, 0, none⟩ = some v := by
  refine h.cell (by simp) ?_ ?_
  · show W4.heap.size ≠ O
    omega
  · intro e
    have e' : ptr O (W4.alloc (.cells (v :: cs).toArray T)) = some W4.heap.size := e
    rw [ptr_same (hb.block O hO)] at e'
    have := hk.new hp e'
    omega

/-- A token as the program holds it. -/
def encT (x : Tok) : Array Value := #[.agg #[.int .i64 (x.1 : Nat), .string ⟨x.2.1.toArray⟩, .int .i64 (x.2.2 : Nat)]]

set_option maxRecDepth 100000 in
set_option maxHeartbeats 8000000 in
theorem scan1_in (n : Nat) (s : ByteArray) (hs : s.size ≤ 1000) (l Bn O : Nat) (J Jx : List Tok → World → Prop) (W : World) (hO : O < W.heap.size) (hBO : Bn ≠ O) (hGO : 0 ≠ O) (hp : ptr O W = none) (hG : Gl W)
    (hc : W.cell? ⟨Bn, 0, none⟩ = some (.string s)) (hJ : AbidesFrom W.heap.size J)
    (hY : ∀ pre x W1, J pre W1 → pre.length < (scanAll s.data.toList).length → YieldAt Fence.wide (n - 1) Tryd.prog l (encT x) W1 fun e W' =>
      (e = .returned (.bool true) ∧ J (pre ++ [x]) W' ∧ Kp O W1 W') ∨ (e = .returned (.bool false) ∧ Jx (pre ++ [x]) W'))
    (h0 : J [] W) :
    CallsIn Fence.wide n Tryd.prog 17 #[.func (.yield l) #[] #[], .pointer (some ⟨Bn, 0, none⟩)] W fun e W' => (∃ v, e = .returned v) ∧
      ((∃ ys, ys = scanAll s.data.toList ∧ J ys W') ∨ (∃ pre, pre <+: scanAll s.data.toList ∧ Jx pre W')) := by
  have HG := hid hG
  have HO := hid hO
  have HP := hid hp
  have HBO := hid hBO
  have HGO := hid hGO
  have HC := hid hc
  clear hG hO hp hBO hGO hc
  have CELL : Hid (∀ wr, Kp O W wr → wr.cell? ⟨Bn, 0, none⟩ = some (.string s)) := hid fun wr h => h.cell HC.out HBO.out (by rw [HP.out]; simp)
  have GLOB : Hid (∀ wr, Kp O W wr → Gl wr) := hid fun wr h => by
    obtain ⟨m, hm⟩ := HG.out
    exact ⟨m, h.cell hm HGO.out (by rw [HP.out]; simp)⟩
  have OLT : Hid (∀ wr, Kp O W wr → O < wr.heap.size) := hid fun wr h => Nat.lt_of_lt_of_le HO.out h.size
  refine callsIn_of_wp Tryd.func17 rfl trivial ?_ rfl
  simp only [Tryd.ntmps17, List.size_toArray, List.length_cons, List.length_nil, Nat.reduceAdd, Nat.reduceSub, Array.replicate_succ, Array.replicate_zero, List.push_toArray, List.append_toArray, List.nil_append, List.cons_append]
  gi_wp2
  refine wpIn_scope_wide ?_
  gi_wp2
  refine wpIn_label ?_
  gi_wp2
  gi_loopw [3] (fun i wr => ∃ (a k : Nat) (pre : List Tok), i = .int .i64 a ∧ a ≤ s.size ∧ Hid (s.size - a < k ∧ scanAll s.data.toList = pre ++ scan k none a (s.data.toList.drop a)) ∧ Hid (J pre wr) ∧ Hid (Kp O W wr)) (fun i wr => s.size - (intOf i).toNat)
  case atStart => exact ⟨0, s.size + 1, [], rfl, Nat.zero_le _, ⟨by omega, by simp [scanAll]⟩, h0, Kp.refl _ _⟩
  case round =>
    obtain ⟨a, k, pre, rfl, ha, hA, hj, hB⟩ := hrel
    have hcell := CELL.out _ hB.out
    by_cases hlt : a < s.size
    · have hne := hid (show s.data.toList.drop a ≠ [] by rw [drop_cons s a hlt]; simp)
      have T := text_any (s.extract a s.size) wr (by simp; omega)
      rw [Lib.extract_to_end] at T
      have hnl := textL_le (s.data.toList.drop a)
      have hgl := spanL_le okB ((s.data.toList.drop a).take (textL (s.data.toList.drop a)))
      rw [List.length_drop, show s.data.toList.length = s.size by simp] at hnl
      rw [List.length_take] at hgl
      obtain ⟨n', hn⟩ : ∃ n', n' = textL (s.data.toList.drop a) := ⟨_, rfl⟩
      rw [← hn] at T hnl hgl
      obtain ⟨g, hg⟩ : ∃ g, g = spanL okB ((s.data.toList.drop a).take n') := ⟨_, rfl⟩
      rw [← hg] at T hgl
      have HT := hid T
      clear T
      have Hn := hid hn
      have Hg := hid hg
      clear hn hg
      have hgn : g ≤ n' := by omega
      by_cases hb : g < n'
      · have HX := hid (show scanAll s.data.toList = pre ++ [(0, [], a + g)] by
          rw [hA.out.2, scan_bad (by have := hA.out.1; omega) hne.out Hn.out Hg.out hb])
        obtain ⟨fn, tmps, assign, body, hy, hR⟩ := hY pre (0, [], a + g) wr hj.out (by rw [HX.out]; simp)
        have hy' : (Instr.yield l #[.agg #[.int .i64 0, .string ⟨#[]⟩, .int .i64 (↑a + ↑g)]]).run Tryd.prog wr = .ok (.round l fn tmps assign body) wr := by simpa [encT] using hy
        clear hy
        gi_wp2_with (gi_at_call 18; refine (callsIn_wide.2 HT.out).mono ?_; rintro e w' ⟨rfl, rfl⟩)
        refine hR.mono ?_
        rintro e W3 (⟨rfl, hJ3, hk3⟩ | ⟨rfl, hJx3⟩)
        · gi_wp2
          try rw [Exit.noGoto_ret]
          refine bodyPost_ret (results_none rfl _ _ _) rfl ?_
          exact ⟨⟨_, rfl⟩, .inl ⟨_, HX.out.symm, hJ3⟩⟩
        · gi_wp2
          try rw [Exit.noGoto_ret]
          refine bodyPost_ret (results_none rfl _ _ _) rfl ?_
          exact ⟨⟨_, rfl⟩, .inr ⟨_, by rw [HX.out]; exact List.prefix_refl _, hJx3⟩⟩
      · by_cases h1 : 0 < n'
        · obtain ⟨k, rfl⟩ : ∃ m, k = m + 1 := ⟨k - 1, by have := hA.out.1; omega⟩
          have HX := hid (show scanAll s.data.toList = pre ++ [(1, unesc ((s.data.toList.drop a).take n'), a)] ++ scan k none (a + n') (s.data.toList.drop (a + n')) by
            rw [hA.out.2, scan_text hne.out Hn.out Hg.out hb h1, List.drop_drop]; simp)
          have HR := hid (show ∀ w1, Gl w1 → Calls Tryd.prog 19 #[.string (s.extract a (a + n')), .string ⟨#[123, 123]⟩, .string ⟨#[123]⟩] w1 fun e w' => e = .returned (.string ⟨(unesc ((s.data.toList.drop a).take n')).toArray⟩) ∧ Below w1.heap.size w1 w' from fun w1 h1 => by
            have h := replace_any (s.extract a (a + n')) w1 h1 (by simp; omega)
            rw [Lib.extract_data, show a + n' - a = n' by omega] at h
            exact h)
          have HGw := hid (GLOB.out _ hB.out)
          have hnb : (n' : Int) > 0 := by omega
          gi_wp2_with (first | (gi_at_call 18; refine (callsIn_wide.2 HT.out).mono ?_; rintro e w' ⟨rfl, rfl⟩) | (gi_at_call 19; refine (callsIn_wide.2 (HR.out _ HGw.out)).mono ?_; rintro e W2 ⟨rfl, hb2⟩; obtain ⟨fn, tmps, assign, body, hy, hR⟩ := hY pre (1, unesc ((s.data.toList.drop a).take n'), a) W2 (hJ _ _ _ none hj.out (grown_of_below' hb2) (fun r e => by cases e)) (by rw [HX.out]; simp); have hy' := (show (Instr.yield l #[.agg #[.int .i64 1, .string ⟨(unesc ((s.data.toList.drop a).take n')).toArray⟩, .int .i64 ↑a]]).run Tryd.prog W2 = .ok (.round l fn tmps assign body) W2 by simpa [encT] using hy); clear hy))
          refine hR.mono ?_
          rintro e W3 (⟨rfl, hJ3, hk3⟩ | ⟨rfl, hJx3⟩)
          · gi_wp2
            go_roundw
            case rel => exact ⟨a + n', k, _, by go_num, by omega, ⟨by have := hA.out.1; omega, HX.out⟩, hJ3, (hB.out.trans (Kp.of_below (OLT.out _ hB.out) hb2)).trans hk3⟩
            case measure => simp [intOf]; omega
          · gi_wp2
            try rw [Exit.noGoto_ret]
            refine bodyPost_ret (results_none rfl _ _ _) rfl ?_
            exact ⟨⟨_, rfl⟩, .inr ⟨_, ⟨_, HX.out.symm⟩, hJx3⟩⟩
        · obtain ⟨k, rfl⟩ : ∃ m, k = m + 1 := ⟨k - 1, by have := hA.out.1; omega⟩
          have HX := hid (show scanAll s.data.toList = pre ++ [(6, [123], a)] ++ scan k (some a) (a + 1) (s.data.toList.drop (a + 1)) by
            rw [hA.out.2, scan_open hne.out Hn.out Hg.out hb h1, List.drop_drop]; simp)
          obtain ⟨fn, tmps, assign, body, hy, hR⟩ := hY pre (6, [123], a) wr hj.out (by rw [HX.out]; simp)
          have hy' : (Instr.yield l #[.agg #[.int .i64 6, .string ⟨#[123]⟩, .int .i64 ↑a]]).run Tryd.prog wr = .ok (.round l fn tmps assign body) wr := by simpa [encT] using hy
          clear hy
          have hnb : ¬ (n' : Int) > 0 := by omega
          gi_wp2_with (gi_at_call 18; refine (callsIn_wide.2 HT.out).mono ?_; rintro e w' ⟨rfl, rfl⟩)
          refine hR.mono ?_
          rintro e W3 (⟨rfl, hJ3, hk3⟩ | ⟨rfl, hJx3⟩)
          · gi_wp2
            have hB3 := hid (hB.out.trans hk3)
            clear hB hk3
            have hJ3' := hid hJ3
            clear hJ3 hj
            gi_loopw [3] (fun i wr2 => ∃ (b k2 : Nat) (pre2 : List Tok), i = .int .i64 b ∧ a < b ∧ b ≤ s.size ∧ Hid (s.size - b < k2 ∧ scanAll s.data.toList = pre2 ++ scan k2 (some a) b (s.data.toList.drop b)) ∧ Hid (J pre2 wr2) ∧ Hid (Kp O W wr2)) (fun i wr2 => s.size - (intOf i).toNat)
            case atStart => exact ⟨a + 1, k, _, by go_num, by omega, by omega, ⟨by have := hA.out.1; omega, HX.out⟩, hJ3'.out, hB3.out⟩
            case round =>
              clear hcell HX hA hB3 hJ3' HT Hn Hg hne hy' hR
              obtain ⟨b, k2, pre2, rfl, hab, hbs, hA2, hj2, hB2⟩ := hrel
              have hcell := CELL.out _ hB2.out
              have hO2 := hid (OLT.out _ hB2.out)
              by_cases hlt2 : b < s.size
              · have hd := hid (drop_cons s b hlt2)
                obtain ⟨k2, rfl⟩ : ∃ m, k2 = m + 1 := ⟨k2 - 1, by have := hA2.out.1; omega⟩
                by_cases hbl : s[b].toNat = 32 ∨ s[b].toNat = 10
                · have HX := hid (show scanAll s.data.toList = pre2 ++ scan k2 (some a) (b + 1) (s.data.toList.drop (b + 1)) by
                    rw [hA2.out.2, hd.out, tag_blank]
                    rcases hbl with e | e
                    · exact .inl (UInt8.toNat_inj.1 e)
                    · exact .inr (UInt8.toNat_inj.1 e))
                  by_cases h32 : s[b].toNat = 32
                  · have e32 : ((s[b].toNat : Int) == 32) = true := by simp; omega
                    clear hbl h32
                    gi_wp2
                    go_roundw
                    case rel => exact ⟨b + 1, k2, pre2, by go_num, by omega, by omega, ⟨by have := hA2.out.1; omega, HX.out⟩, hj2.out, hB2.out⟩
                    case measure => simp [intOf]; omega
                  · have e32 : ((s[b].toNat : Int) == 32) = false := by simp; omega
                    have e10 : ((s[b].toNat : Int) == 10) = true := by simp; omega
                    clear hbl h32
                    gi_wp2
                    go_roundw
                    case rel => exact ⟨b + 1, k2, pre2, by go_num, by omega, by omega, ⟨by have := hA2.out.1; omega, HX.out⟩, hj2.out, hB2.out⟩
                    case measure => simp [intOf]; omega
                · have e32 : ((s[b].toNat : Int) == 32) = false := by simp; omega
                  have e10 : ((s[b].toNat : Int) == 10) = false := by simp; omega
                  have HNB := hid (show ¬ (s[b] = 32 ∨ s[b] = 10) by
                    rintro (e | e)
                    · exact hbl (.inl (by rw [e]; rfl))
                    · exact hbl (.inr (by rw [e]; rfl)))
                  clear hbl
                  have T := token_any (s.extract b s.size) wr (by simp; omega) (by simp; omega)
                  rw [Lib.extract_to_end] at T
                  have hln := tokenL_le (s.data.toList.drop b)
                  rw [List.length_drop, show s.data.toList.length = s.size by simp] at hln
                  obtain ⟨kd, tx, ln, ht⟩ : ∃ kd tx ln, tokenL (s.data.toList.drop b) = (kd, tx, ln) := ⟨_, _, _, rfl⟩
                  rw [ht] at T hln
                  have hln' : ln ≤ s.size - b := hln
                  clear hln
                  have HT2 := hid ht
                  clear ht
                  simp only [tokV] at T
                  have HT := hid T
                  clear T
                  by_cases h0 : ln = 0
                  · have hz := tokenL_zero (s.data.toList.drop b) (by rw [HT2.out]; exact h0)
                    rw [HT2.out] at hz
                    obtain ⟨rfl, rfl, rfl⟩ : kd = 0 ∧ tx = [] ∧ ln = 0 := by
                      injection hz with h1 h2
                      injection h2 with h2 h3
                      exact ⟨h1, h2, h3⟩
                    clear hz h0
                    have HX := hid (show scanAll s.data.toList = pre2 ++ [(0, [], b)] by
                      rw [hA2.out.2, hd.out, tag_bad (by omega) HNB.out (by rw [← hd.out, HT2.out])])
                    gi_wp2_with (gi_at_call 20; refine (callsIn_wide.2 HT.out).mono ?_; rintro e W4 ⟨rfl, hb4⟩; have hb5 := hb4.alloc hb4.size (.cells #[.int .i64 0, .string ⟨#[]⟩, .int .i64 ↑b] 29); obtain ⟨fn, tmps, assign, body, hy, hR⟩ := hY pre2 (0, [], b) _ (hJ _ _ _ none hj2.out (grown_of_below' hb5) (fun r e => by cases e)) (by rw [HX.out]; simp); have hy' := (show (Instr.yield l #[.agg #[.int .i64 0, .string ⟨#[]⟩, .int .i64 ↑b]]).run Tryd.prog (W4.alloc (.cells #[.int .i64 0, .string ⟨#[]⟩, .int .i64 ↑b] 29)) = .ok (.round l fn tmps assign body) (W4.alloc (.cells #[.int .i64 0, .string ⟨#[]⟩, .int .i64 ↑b] 29)) by simpa [encT] using hy); clear hy hb4 hb5)
                    refine hR.mono ?_
                    rintro e W5 (⟨rfl, hJ5, hk5⟩ | ⟨rfl, hJx5⟩)
                    · clear hk5
                      gi_wp2
                      try rw [Exit.noGoto_ret]
                      refine bodyPost_ret (results_none rfl _ _ _) rfl ?_
                      exact ⟨⟨_, rfl⟩, .inl ⟨_, HX.out.symm, hJ5⟩⟩
                    · gi_wp2
                      try rw [Exit.noGoto_ret]
                      refine bodyPost_ret (results_none rfl _ _ _) rfl ?_
                      exact ⟨⟨_, rfl⟩, .inr ⟨_, by rw [HX.out]; exact List.prefix_refl _, hJx5⟩⟩
                  · have e0 : ((ln : Int) == 0) = false := by simp; omega
                    have HX := hid (show scanAll s.data.toList = pre2 ++ [(kd, tx, b)] ++ scan k2 (if kd = 7 then none else some a) (b + ln) (s.data.toList.drop (b + ln)) by
                      rw [hA2.out.2, hd.out, tag_tok HNB.out (by rw [← hd.out, HT2.out]; exact h0), ← hd.out, HT2.out, List.drop_drop]
                      simp)
                    by_cases h7 : kd = 7
                    · have e7 : ((kd : Int) == 7) = true := by simp; omega
                      have HX2 := hid (show scanAll s.data.toList = pre2 ++ [(kd, tx, b)] ++ scan k2 none (b + ln) (s.data.toList.drop (b + ln)) by
                        rw [HX.out, if_pos h7])
                      clear h7
                      gi_wp2_with (gi_at_call 20; refine (callsIn_wide.2 HT.out).mono ?_; rintro e W4 ⟨rfl, hb4⟩; have hb5 := hb4.alloc hb4.size (.cells #[.int .i64 ↑kd, .string ⟨tx.toArray⟩, .int .i64 ↑b] 29); obtain ⟨fn, tmps, assign, body, hy, hR⟩ := hY pre2 (kd, tx, b) _ (hJ _ _ _ none hj2.out (grown_of_below' hb5) (fun r e => by cases e)) (by rw [HX2.out]; simp); have hy' := (show (Instr.yield l #[.agg #[.int .i64 ↑kd, .string ⟨tx.toArray⟩, .int .i64 ↑b]]).run Tryd.prog (W4.alloc (.cells #[.int .i64 ↑kd, .string ⟨tx.toArray⟩, .int .i64 ↑b] 29)) = .ok (.round l fn tmps assign body) (W4.alloc (.cells #[.int .i64 ↑kd, .string ⟨tx.toArray⟩, .int .i64 ↑b] 29)) by simpa [encT] using hy); clear hy; have HB5 := hid hb5; have hz4 := hb4.size; clear hb4 hb5)
                      refine hR.mono ?_
                      rintro e W5 (⟨rfl, hJ5, hk5⟩ | ⟨rfl, hJx5⟩)
                      · have HK5 := hid hk5
                        clear hk5
                        have hkc := kp_tokCell (cs := [_, _]) HK5.out HB5.out hz4 HP.out hB2.out hO2.out
                        have HKP := hid ((hB2.out.trans (Kp.of_below hO2.out HB5.out)).trans HK5.out)
                        gi_wp2
                        go_roundw
                        case rel => exact ⟨b + ln, k2, _, by go_num, by omega, ⟨by have := hA2.out.1; omega, HX2.out⟩, hJ5, HKP.out⟩
                        case measure => simp [intOf]; omega
                      · gi_wp2
                        try rw [Exit.noGoto_ret]
                        refine bodyPost_ret (results_none rfl _ _ _) rfl ?_
                        exact ⟨⟨_, rfl⟩, .inr ⟨_, ⟨_, HX2.out.symm⟩, hJx5⟩⟩
                    · have e7 : ((kd : Int) == 7) = false := by simp; omega
                      have HX2 := hid (show scanAll s.data.toList = pre2 ++ [(kd, tx, b)] ++ scan k2 (some a) (b + ln) (s.data.toList.drop (b + ln)) by
                        rw [HX.out, if_neg h7])
                      clear h7
                      gi_wp2_with (gi_at_call 20; refine (callsIn_wide.2 HT.out).mono ?_; rintro e W4 ⟨rfl, hb4⟩; have hb5 := hb4.alloc hb4.size (.cells #[.int .i64 ↑kd, .string ⟨tx.toArray⟩, .int .i64 ↑b] 29); obtain ⟨fn, tmps, assign, body, hy, hR⟩ := hY pre2 (kd, tx, b) _ (hJ _ _ _ none hj2.out (grown_of_below' hb5) (fun r e => by cases e)) (by rw [HX2.out]; simp); have hy' := (show (Instr.yield l #[.agg #[.int .i64 ↑kd, .string ⟨tx.toArray⟩, .int .i64 ↑b]]).run Tryd.prog (W4.alloc (.cells #[.int .i64 ↑kd, .string ⟨tx.toArray⟩, .int .i64 ↑b] 29)) = .ok (.round l fn tmps assign body) (W4.alloc (.cells #[.int .i64 ↑kd, .string ⟨tx.toArray⟩, .int .i64 ↑b] 29)) by simpa [encT] using hy); clear hy; have HB5 := hid hb5; have hz4 := hb4.size; clear hb4 hb5)
                      refine hR.mono ?_
                      rintro e W5 (⟨rfl, hJ5, hk5⟩ | ⟨rfl, hJx5⟩)
                      · have HK5 := hid hk5
                        clear hk5
                        have hkc := kp_tokCell (cs := [_, _]) HK5.out HB5.out hz4 HP.out hB2.out hO2.out
                        have HKP := hid ((hB2.out.trans (Kp.of_below hO2.out HB5.out)).trans HK5.out)
                        gi_wp2
                        go_roundw
                        case rel => exact ⟨b + ln, k2, _, by go_num, by omega, by omega, ⟨by have := hA2.out.1; omega, HX2.out⟩, hJ5, HKP.out⟩
                        case measure => simp [intOf]; omega
                      · gi_wp2
                        try rw [Exit.noGoto_ret]
                        refine bodyPost_ret (results_none rfl _ _ _) rfl ?_
                        exact ⟨⟨_, rfl⟩, .inr ⟨_, ⟨_, HX2.out.symm⟩, hJx5⟩⟩
              · have HX := hid (show scanAll s.data.toList = pre2 ++ [(0, [], a)] by
                  rw [hA2.out.2, drop_size s b (by omega), tag_end (by have := hA2.out.1; omega)])
                obtain ⟨fn, tmps, assign, body, hy, hR⟩ := hY pre2 (0, [], a) wr hj2.out (by rw [HX.out]; simp)
                have hy' : (Instr.yield l #[.agg #[.int .i64 0, .string ⟨#[]⟩, .int .i64 ↑a]]).run Tryd.prog wr = .ok (.round l fn tmps assign body) wr := by simpa [encT] using hy
                clear hy
                gi_wp2
                refine hR.mono ?_
                rintro e W3 (⟨rfl, hJ3, hk3⟩ | ⟨rfl, hJx3⟩)
                · gi_wp2
                  try rw [Exit.noGoto_ret]
                  refine bodyPost_ret (results_none rfl _ _ _) rfl ?_
                  exact ⟨⟨_, rfl⟩, .inl ⟨_, HX.out.symm, hJ3⟩⟩
                · gi_wp2
                  try rw [Exit.noGoto_ret]
                  refine bodyPost_ret (results_none rfl _ _ _) rfl ?_
                  exact ⟨⟨_, rfl⟩, .inr ⟨_, by rw [HX.out]; exact List.prefix_refl _, hJx3⟩⟩
          · gi_wp2
            try rw [Exit.noGoto_ret]
            refine bodyPost_ret (results_none rfl _ _ _) rfl ?_
            exact ⟨⟨_, rfl⟩, .inr ⟨_, ⟨_, HX.out.symm⟩, hJx3⟩⟩
    · have HX := hid (show scanAll s.data.toList = pre by
        rw [hA.out.2, drop_size s a (by omega), scan_end (by have := hA.out.1; omega)]; simp)
      gi_wp2
      rw [Exit.noGoto_normal]
      go_end0
      exact ⟨⟨_, rfl⟩, .inl ⟨pre, HX.out.symm, hj.out⟩⟩

end Go.Proofs.YtbgnkoecfokmaaaDoor.Lex
