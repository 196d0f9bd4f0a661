/- address.forms: the row of the six forms, and the form that passes a test. -/
import Derived.Test.YtdfjpbdfafpfgaaGreatDoorProg
import Derived.WalkKit
import Derived.KernelRfl
import Derived.Deep.LoopGhost
import Derived.Laws.ResultCell
import Derived.Shelf.SlicesQ.IndexFunc
namespace Go.Proofs.YtdfjpbdfafpfgaaGreatDoor.Ad
open Go.RowKit Go.Lib

/-- The forms' five cells each: the kind, the word, how the parts are made, how they are put in, the urgency. -/
def fcells (k : Nat) : List Value := match k with
  | 0 => [.int .i64 2, .string ⟨#[115, 116, 111, 114, 121]⟩, .func (.func 54) #[] #[], .func (.func 57) #[] #[], .int .i64 0]
  | 1 => [.int .i64 1, .string ⟨#[]⟩, .func (.func 59) #[] #[], .func (.func 60) #[] #[], .int .i64 1]
  | 2 => [.int .i64 5, .string ⟨#[102, 101, 101, 100]⟩, .func (.func 61) #[] #[], .func (.func 62) #[] #[], .int .i64 2]
  | 3 => [.int .i64 3, .string ⟨#[116, 111, 112, 105, 99]⟩, .func (.func 56) #[] #[], .func (.func 63) #[] #[], .int .i64 3]
  | 4 => [.int .i64 4, .string ⟨#[97, 117, 116, 104, 111, 114]⟩, .func (.func 61) #[] #[], .func (.func 62) #[] #[], .int .i64 4]
  | 5 => [.int .i64 6, .string ⟨#[109, 97, 112]⟩, .func (.func 59) #[] #[], .func (.func 60) #[] #[], .int .i64 5]
  | _ => [.int .i64 0, .string ⟨#[]⟩, .nilFunc, .nilFunc, .int .i64 0]

set_option maxHeartbeats 4000000 in
set_option maxRecDepth 1000000 in
theorem forms (w : World) :
    Calls Tryz.prog 40 #[] w fun e w' => e = .returned (.slice (some ⟨w.heap.size, 0, none⟩) 6 6) ∧ w' = w.alloc (.cells (fcells 0 ++ fcells 1 ++ fcells 2 ++ fcells 3 ++ fcells 4 ++ fcells 5).toArray 44) := by
  have mixed : Tryz.prog.follows .mixedOrders = true := by kernel_rfl
  go_enter Tryz.func40, Tryz.ntmps40
  go_wp2
  go_ret
  exact ⟨rfl, rfl⟩

/-- The number of the first form that passes a test, or -1. -/
def pick (p : Nat → Bool) : Int := match (List.range 6).find? p with | some k => k | none => -1

theorem pick_hit (p : Nat → Bool) (k : Nat) (hk : k < 6) (hp : p k = true) (hb : ∀ j, j < k → p j = false) : pick p = k := by
  have e : (List.range 6).find? p = some k := by
    rw [List.find?_range_eq_some]
    exact ⟨hp, by simpa using hk, fun j hj => by rw [hb j hj]; rfl⟩
  unfold pick; rw [e]
theorem pick_miss (p : Nat → Bool) (hb : ∀ j, j < 6 → p j = false) : pick p = -1 := by
  have e : (List.range 6).find? p = none := by
    rw [List.find?_range_eq_none]
    exact fun j hj => by rw [hb j hj]; rfl
  unfold pick; rw [e]

theorem flen (k : Nat) : (fcells k).length = 5 := by
  unfold fcells; split <;> rfl

theorem five {α : Type} {l : List α} (h : l.length = 5) : ∃ v0 v1 v2 v3 v4, l = [v0, v1, v2, v3, v4] := by
  match l, h with
  | [a, b, c, d, e], _ => exact ⟨a, b, c, d, e, rfl⟩

set_option maxHeartbeats 4000000 in
set_option maxRecDepth 1000000 in
theorem indexForms (p : Nat → Bool) (g : Nat) (lb : Array Value) (eg : ∀ args w, (callFunc g args).run Tryz.prog w = .ok (.enter g args) w) (b : Nat) (w : World) (hb : b < w.heap.size)
    (hc : ∀ j, j < 6 → ∀ i v, (fcells j)[i]? = some v → w.cell? ⟨b, 0 + j * 5 + i, none⟩ = some v)
    (hp : ∀ (W : World) (j : Nat), j < 6 → Below w.heap.size w W → Calls Tryz.prog g (#[.agg (fcells j).toArray] ++ lb) W fun e w' => e = .returned (.bool (p j)) ∧ Below w.heap.size w w') :
    Calls Tryz.prog 41 #[.slice (some ⟨b, 0, none⟩) 6 6, .func (.func g) #[] lb] w fun e w' => e = .returned (.int .i64 (pick p)) ∧ Below w.heap.size w w' := by
  have mixed : Tryz.prog.follows .mixedOrders = true := by kernel_rfl
  have hrow : ∀ (W : World), Below w.heap.size w W → ∀ j, j < 6 → ∀ i v, (fcells j)[i]? = some v → W.cell? ⟨b, j * 5 + i, none⟩ = some v := fun W hW j hj i v hi => by
    rw [hW.cell (p := ⟨b, j * 5 + i, none⟩) hb]
    have := hc j hj i v hi
    rw [Nat.zero_add] at this
    exact this
  clear hc
  go_enter Tryz.func41, Tryz.ntmps41
  go_wp2
  go_loopg [5, 8] 6 (fun gg _ s8 wr => ∃ kk : Nat, kk ≤ 6 ∧ 6 - kk ≤ gg ∧ s8 = .int .i64 kk ∧ Aside (Below w.heap.size w wr) ∧ Aside (∀ j, j < kk → p j = false))
  case atStart => exact ⟨0, Nat.zero_le _, by omega, rfl, Below.refl _ w, fun j hj => absurd hj (Nat.not_lt_zero _)⟩
  case round =>
    obtain ⟨kk, hkk, hg, rfl, BW, A⟩ := hrel
    by_cases hlt : kk < 6
    · have hltz : (kk : Int) < 6 := by omega
      have l2 := hrow wr BW.out kk (by omega)
      have hcall := hp wr kk (by omega) BW.out
      clear hrow hp
      obtain ⟨v0, v1, v2, v3, v4, hy⟩ : ∃ v0 v1 v2 v3 v4, fcells kk = [v0, v1, v2, v3, v4] := five (flen kk)
      rw [hy] at l2 hcall
      have m0 : wr.cell? ⟨b, kk * 5, none⟩ = some v0 := l2 0 v0 rfl
      have m1 : wr.cell? ⟨b, kk * 5 + 1, none⟩ = some v1 := l2 1 v1 rfl
      have m2 : wr.cell? ⟨b, kk * 5 + 2, none⟩ = some v2 := l2 2 v2 rfl
      have m3 : wr.cell? ⟨b, kk * 5 + 3, none⟩ = some v3 := l2 3 v3 rfl
      have m4 : wr.cell? ⟨b, kk * 5 + 4, none⟩ = some v4 := l2 4 v4 rfl
      clear hy l2
      cases hq : p kk with
      | true =>
        rw [hq] at hcall
        go_wp2_with (go_at_fn g; refine hcall.mono ?_; rintro e w' ⟨rfl, hb'⟩)
        go_ret
        refine ⟨?_, hb'⟩
        rw [pick_hit p kk hlt hq A.out]
        rfl
      | false =>
        rw [hq] at hcall
        go_wp2_with (go_at_fn g; refine hcall.mono ?_; rintro e w' ⟨rfl, hb'⟩)
        go_roundg (6 - (kk + 1))
        case measure => omega
        case rel =>
          refine ⟨kk + 1, by omega, by omega, by go_num, hb', (show Aside _ from fun j hj => ?_)⟩
          by_cases e : j = kk
          · subst e
            exact hq
          · exact A.out j (by omega)
    · have hltz : ¬ (kk : Int) < 6 := by omega
      have : kk = 6 := by omega
      subst this
      go_wp2
      go_ret
      refine ⟨?_, BW.out⟩
      rw [pick_miss p A.out]
      rfl

/-- The form of a number; of -1 the zero value. -/
def formAt (k : Int) : Value := .agg (fcells (if k < 0 then 6 else k.toNat)).toArray

theorem pick_range (p : Nat → Bool) : pick p = -1 ∨ ∃ k : Nat, k < 6 ∧ pick p = k ∧ p k = true := by
  unfold pick
  cases e : (List.range 6).find? p with
  | none => exact .inl rfl
  | some k =>
    rw [List.find?_range_eq_some] at e
    exact .inr ⟨k, by simpa using e.2.1, rfl, e.1⟩

set_option maxHeartbeats 4000000 in
set_option maxRecDepth 1000000 in
theorem find (p : Nat → Bool) (g : Nat) (lb : Array Value) (eg : ∀ args w, (callFunc g args).run Tryz.prog w = .ok (.enter g args) w) (w : World)
    (hp : ∀ (W : World) (j : Nat), j < 6 → Below w.heap.size w W → Calls Tryz.prog g (#[.agg (fcells j).toArray] ++ lb) W fun e w' => e = .returned (.bool (p j)) ∧ Below W.heap.size W w') :
    Calls Tryz.prog 26 #[.func (.func g) #[] lb] w fun e w' => e = .returned (.tuple #[formAt (pick p), .bool (decide (0 ≤ pick p))]) ∧ Below w.heap.size w w' := by
  have mixed : Tryz.prog.follows .mixedOrders = true := by kernel_rfl
  have hpr := pick_range p
  generalize hn : pick p = n at hpr ⊢
  have HN : Aside (pick p = n) := hn
  clear hn
  have hlen : (fcells 0 ++ fcells 1 ++ fcells 2 ++ fcells 3 ++ fcells 4 ++ fcells 5).length = 30 := by simp [flen]
  have hall : ∀ j, j < 6 → ∀ i v, (fcells j)[i]? = some v → (fcells 0 ++ fcells 1 ++ fcells 2 ++ fcells 3 ++ fcells 4 ++ fcells 5)[j * 5 + i]? = some v := by
    intro j hj i v h
    have hi : i < 5 := by have := (List.getElem?_eq_some_iff.1 h).1; rw [flen] at this; exact this
    match j, hj, i, hi, h with
    | 0, _, i, hi, h => match i, hi, h with | 0, _, h => exact h | 1, _, h => exact h | 2, _, h => exact h | 3, _, h => exact h | 4, _, h => exact h
    | 1, _, i, hi, h => match i, hi, h with | 0, _, h => exact h | 1, _, h => exact h | 2, _, h => exact h | 3, _, h => exact h | 4, _, h => exact h
    | 2, _, i, hi, h => match i, hi, h with | 0, _, h => exact h | 1, _, h => exact h | 2, _, h => exact h | 3, _, h => exact h | 4, _, h => exact h
    | 3, _, i, hi, h => match i, hi, h with | 0, _, h => exact h | 1, _, h => exact h | 2, _, h => exact h | 3, _, h => exact h | 4, _, h => exact h
    | 4, _, i, hi, h => match i, hi, h with | 0, _, h => exact h | 1, _, h => exact h | 2, _, h => exact h | 3, _, h => exact h | 4, _, h => exact h
    | 5, _, i, hi, h => match i, hi, h with | 0, _, h => exact h | 1, _, h => exact h | 2, _, h => exact h | 3, _, h => exact h | 4, _, h => exact h
  generalize hL : fcells 0 ++ fcells 1 ++ fcells 2 ++ fcells 3 ++ fcells 4 ++ fcells 5 = L at hlen hall
  have hF : ∀ w : World, Calls Tryz.prog 40 #[] w fun e w' => e = .returned (.slice (some ⟨w.heap.size, 0, none⟩) 6 6) ∧ w' = w.alloc (.cells L.toArray 44) := fun w => by
    have := forms w
    rw [hL] at this
    exact this
  clear hL
  go_enter Tryz.func26, Tryz.ntmps26
  go_wp2_with (go_at_call 40; refine (hF _).mono ?_; rintro e w' ⟨rfl, rfl⟩)
  generalize hw1 : w.alloc _ = w1
  have hsz : w1.heap.size = w.heap.size + 1 := by rw [← hw1]; simp
  have hB1 : Below w.heap.size w w1 := by rw [← hw1]; exact (Below.refl _ w).alloc (Nat.le_refl _) _
  have hb1 : w1.heap[w.heap.size]? = some (.cells #[.int .i64 0, .string ⟨#[]⟩, .nilFunc, .nilFunc, .int .i64 0] 44) := by rw [← hw1]; exact Array.getElem?_push_size
  rw [← hsz]
  generalize hw2 : w1.alloc _ = w2
  have hsz2 : w2.heap.size = w1.heap.size + 1 := by rw [← hw2]; simp
  have hB2 : Below w.heap.size w w2 := by rw [← hw2]; exact hB1.alloc (by omega) _
  have hB12 : Below w1.heap.size w1 w2 := by rw [← hw2]; exact (Below.refl _ w1).alloc (Nat.le_refl _) _
  have hc2 : ∀ j, j < 6 → ∀ i v, (fcells j)[i]? = some v → w2.cell? ⟨w1.heap.size, 0 + j * 5 + i, none⟩ = some v := by
    intro j hj i v h
    rw [← hw2, World.cell?_alloc_new, Nat.zero_add]
    have := hall j hj i v h
    simpa using this
  have hcall := indexForms p g lb eg w1.heap.size w2 (by omega) hc2 (fun W j hj hW => (hp W j hj (hB2.trans (hW.mono (by omega)))).mono fun e w' ⟨he, hb⟩ => ⟨he, hW.trans (hb.mono hW.size)⟩)
  rw [HN.out] at hcall
  refine hcall.mono ?_
  rintro e w3 ⟨rfl, hB3⟩
  have hB3' : Below w.heap.size w w3 := hB2.trans (hB3.mono (by omega))
  have hb3 : w3.heap[w.heap.size]? = some (.cells #[.int .i64 0, .string ⟨#[]⟩, .nilFunc, .nilFunc, .int .i64 0] 44) := by
    rw [hB3.block _ (by omega), hB12.block _ (by omega)]; exact hb1
  have hc3 : ∀ j, j < 6 → ∀ i v, (fcells j)[i]? = some v → w3.cell? ⟨w1.heap.size, j * 5 + i, none⟩ = some v := by
    intro j hj i v h
    rw [hB3.cell (p := ⟨w1.heap.size, j * 5 + i, none⟩) (by show w1.heap.size < _; omega)]
    have := hc2 j hj i v h
    rw [Nat.zero_add] at this
    exact this
  clear hc2 hcall hp hall hF hw1 hw2 hB12
  have q0 : w3.cell? ⟨w.heap.size, 0, none⟩ = some (.int .i64 0) := by unfold World.cell?; rw [hb3]; rfl
  have q1 : w3.cell? ⟨w.heap.size, 1, none⟩ = some (.string ⟨#[]⟩) := by unfold World.cell?; rw [hb3]; rfl
  have q2 : w3.cell? ⟨w.heap.size, 2, none⟩ = some .nilFunc := by unfold World.cell?; rw [hb3]; rfl
  have q3 : w3.cell? ⟨w.heap.size, 3, none⟩ = some .nilFunc := by unfold World.cell?; rw [hb3]; rfl
  have q4 : w3.cell? ⟨w.heap.size, 4, none⟩ = some (.int .i64 0) := by unfold World.cell?; rw [hb3]; rfl
  have z : ∀ i, w3.frozen? ⟨w.heap.size, i, none⟩ = false := fun i => by unfold World.frozen?; rw [hb3]; first | rfl | simp
  have z0 := z 0; have z1 := z 1; have z2 := z 2; have z3 := z 3; have z4 := z 4
  clear z
  have hne : w1.heap.size ≠ w.heap.size := by omega
  have HS : Aside (w1.heap.size = w.heap.size + 1) := hsz
  clear hsz hsz2 hb1
  generalize w1.heap.size = b2 at *
  have sn : ∀ (a : Addr) (m : Mode) (w : World), (store a .nilFunc m).run Tryz.prog w = stored Tryz.prog w a .nilFunc m := fun a m w => run_store _ w a _ m rfl
  have sf : ∀ (f : Fn) (x y : Array Value) (a : Addr) (m : Mode) (w : World), (store a (.func f x y) m).run Tryz.prog w = stored Tryz.prog w a (.func f x y) m := fun _ _ _ a m w => run_store _ w a _ m rfl
  rcases hpr with hk | ⟨k, hk6, hk, -⟩
  · subst hk
    go_wp2
    (try simp only [Exit.inBlock, Exit.then])
    refine bodyPost_ret (v := .tuple #[formAt (-1), .bool (decide ((0 : Int) ≤ -1))]) ?_ rfl ⟨rfl, ?_⟩
    · rw [results_cell_tmp rfl]
      go_simp
      rfl
    · repeat (first | exact hB3' | refine Below.setCell (B := w.heap.size) (p := ⟨w.heap.size, _, none⟩) ?_ (Nat.le_refl _) _)
  · subst hk
    have l2 := hc3 k hk6
    clear hc3
    rcases (by omega : k = 0 ∨ k = 1 ∨ k = 2 ∨ k = 3 ∨ k = 4 ∨ k = 5) with rfl | rfl | rfl | rfl | rfl | rfl
    all_goals
      have m0 := l2 0 _ rfl
      have m1 := l2 1 _ rfl
      have m2 := l2 2 _ rfl
      have m3 := l2 3 _ rfl
      have m4 := l2 4 _ rfl
      simp only [Nat.reduceMul, Nat.reduceAdd, Nat.zero_mul, Nat.zero_add, Nat.add_zero] at m0 m1 m2 m3 m4
      clear l2 hk6
      go_wp2
      (try simp only [Exit.inBlock, Exit.then])
      refine bodyPost_ret (v := .tuple #[formAt _, .bool (decide ((0 : Int) ≤ _))]) ?_ rfl ⟨rfl, ?_⟩
      · rw [results_cell_tmp rfl]
        go_simp
        rfl
      · repeat (first | exact hB3' | refine Below.setCell (B := w.heap.size) (p := ⟨w.heap.size, _, none⟩) ?_ (Nat.le_refl _) _)

end Go.Proofs.YtdfjpbdfafpfgaaGreatDoor.Ad
