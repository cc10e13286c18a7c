/-
  Law 06: Wants, a step done with the document's netlist.
-/
import Derived.Test.YtdmcdhkkbkgnbaaGreatP33
import Derived.Test.YtdmcdhkkbkgnbaaGreatP14
import Derived.Deep.RegionHeld3
namespace Go.Proofs.YtdmcdhkkbkgnbaaGreat
open Go.ChangeShapes Go.WideShapes Go.ChangeAt Go.RowKit
open Go.Maps (Keyed)
open Go.WideMaps
set_option linter.unusedVariables false
set_option linter.unusedSimpArgs false

variable {w w' : World} {p q n : Nat} {F R S : List Nat} {g : Gr} {N : Nt}
def WantPost (N' : Nt) (w : World) (n : Nat) (F R : List Nat) (e : Ending) (w' : World) : Prop := ∃ F' R' a c k z, e = .returned (.tuple #[.slice a k c, .int .i64 z]) ∧ RNetAt w' n F' R' N' ∧ NStep w w' F R F' R'
def NtSmall (N : Nt) : Prop := N.g.nodes.length ≤ 50000 ∧ N.inb.length ≤ 10000 ∧ N.regs.length ≤ 10000 ∧ N.outb.length ≤ 10000
set_option maxHeartbeats 3200000 in
set_option maxRecDepth 100000 in
theorem wants_0 (s : NStp) (la : Option Addr) (lc : Nat) (h : RNetAt w n F R N) (hok : NtSmall N) (hs : s.ok) (h0 : s.what = 0) :
    Calls Tryz.prog 35 #[.pointer (some ⟨n, 0, none⟩), stepV s la lc] w (WantPost (addIn N s.name s.n).1 w n F R) := by
  have H := Lib.hid (addin06 (h.kept0 ((Kept.refl [] w).alloc (.cells (stepCells6 s la lc) 89))) ⟨hok.1, by have := hok.2.1; omega⟩ s.name hs.nm s.n hs.n1 hs.n2)
  have HK := Lib.hid ((Kept.refl [] w).alloc (.cells (stepCells6 s la lc) 89))
  generalize addIn N s.name s.n = res at *
  obtain ⟨what, nm, sn, a, b, c, lits⟩ := s
  simp only [stepV, stepCells6] at *
  subst h0
  clear hs h
  go_enter Tryz.func35, Tryz.ntmps35; (try simp only [List.append])
  go_wp2_with fail
  refine H.out.mono ?_
  rintro e w1 ⟨F', R', a', c', k', rfl, hn, hst⟩
  have HN := Lib.hid hn
  have HS := Lib.hid hst
  clear hn hst
  go_wp2_with fail
  go_ret2
  exact ⟨F', R', a', c', k', _, rfl, HN.out, ((NStep.refl w F R).keep HK.out).trans HS.out⟩
set_option maxHeartbeats 3200000 in
set_option maxRecDepth 100000 in
theorem wants_1 (s : NStp) (la : Option Addr) (lc : Nat) (h : RNetAt w n F R N) (hok : NtSmall N) (hs : s.ok) (h0 : s.what = 1) :
    Calls Tryz.prog 35 #[.pointer (some ⟨n, 0, none⟩), stepV s la lc] w (WantPost (addReg N (decide (s.n % 2 ≠ 0))).1 w n F R) := by
  have H := Lib.hid (fun b => addreg06 (h.kept0 ((Kept.refl [] w).alloc (.cells (stepCells6 s la lc) 89))) ⟨hok.1, hok.2.2.1⟩ b)
  have HK := Lib.hid ((Kept.refl [] w).alloc (.cells (stepCells6 s la lc) 89))
  have hrm := rem_spell s.n hs.n1 hs.n2
  have b1 := hs.n1
  have b2 := hs.n2
  generalize decide (s.n % 2 ≠ 0) = rb at *
  have H2 := Lib.hid (H.out rb)
  clear H
  generalize addReg N rb = res at *
  obtain ⟨N', y⟩ := res
  obtain ⟨what, nm, sn, a, b, c, lits⟩ := s
  simp only [stepV, stepCells6] at *
  subst h0
  clear hs h
  go_enter Tryz.func35, Tryz.ntmps35; (try simp only [List.append])
  go_wp2_with fail
  refine H2.out.mono ?_
  rintro e w1 ⟨F', rfl, hn, hst⟩
  have HN := Lib.hid hn
  have HS := Lib.hid (((NStep.refl w F R).keep HK.out).trans hst)
  clear hn hst
  go_wp2_with fail
  go_ret2
  exact ⟨F', R, _, _, _, _, rfl, HN.out.kept0 ((Kept.refl [] w1).alloc _), HS.out.keep ((Kept.refl [] w1).alloc _)⟩
set_option maxHeartbeats 3200000 in
set_option maxRecDepth 100000 in
theorem wants_2 (s : NStp) (la : Option Addr) (lc : Nat) (h : RNetAt w n F R N) (hok : NtSmall N) (hs : s.ok) (h0 : s.what = 2) :
    Calls Tryz.prog 35 #[.pointer (some ⟨n, 0, none⟩), stepV s la lc] w (WantPost (setReg N s.a s.b s.c).1 w n F R) := by
  have H := Lib.hid (setreg06 (h.kept0 ((Kept.refl [] w).alloc (.cells (stepCells6 s la lc) 89))) ⟨hok.1, hok.2.2.1⟩ s.a s.b s.c hs.a hs.b hs.c)
  have HK := Lib.hid ((Kept.refl [] w).alloc (.cells (stepCells6 s la lc) 89))
  generalize setReg N s.a s.b s.c = res at *
  obtain ⟨N', y⟩ := res
  obtain ⟨what, nm, sn, a, b, c, lits⟩ := s
  simp only [stepV, stepCells6] at *
  subst h0
  clear hs h
  go_enter Tryz.func35, Tryz.ntmps35; (try simp only [List.append])
  go_wp2_with fail
  refine H.out.mono ?_
  rintro e w1 ⟨F', R', rfl, hn, hst⟩
  have HN := Lib.hid hn
  have HS := Lib.hid (((NStep.refl w F R).keep HK.out).trans hst)
  clear hn hst
  go_wp2_with fail
  go_ret2
  exact ⟨F', R', none, 0, 0, _, rfl, HN.out, HS.out⟩
set_option maxHeartbeats 3200000 in
set_option maxRecDepth 100000 in
theorem wants_8 (s : NStp) (la : Option Addr) (lc : Nat) (h : RNetAt w n F R N) (hok : NtSmall N) (hs : s.ok) (h0 : s.what = 8) :
    Calls Tryz.prog 35 #[.pointer (some ⟨n, 0, none⟩), stepV s la lc] w (WantPost { N with g := (inputG N.g).1 } w n F R) := by
  have HK := Lib.hid ((Kept.refl [] w).alloc (.cells (stepCells6 s la lc) 89))
  obtain ⟨p, G, ia, ic, ra, rc, oa, oc, ri, ro, rfl, rfl, hc⟩ := h
  have HC := Lib.hid (hc.kept HK.out (by simp) (by simp))
  have H := Lib.hid (ref_input HC.out.gr (show N.g.nodes.length ≤ 100000 by have := hok.1; omega))
  generalize inputG N.g = res at *
  obtain ⟨g', y⟩ := res
  have c0 := HC.out.c0
  obtain ⟨what, nm, sn, a, b, c, lits⟩ := s
  simp only [stepV, stepCells6] at *
  subst h0
  clear hs hc hok
  go_enter Tryz.func35, Tryz.ntmps35; (try simp only [List.append])
  go_wp2_with fail
  refine H.out.mono ?_
  rintro e w1 ⟨G', rfl, hg, hst⟩
  have HN := Lib.hid (HC.out.graph hg hst)
  have HS := Lib.hid (((NStep.refl w _ _).keep HK.out).trans (RNetC.graph_step (n := n) (ia := ia) (ra := ra) (oa := oa) (ri := ri) (ro := ro) hst))
  clear hg hst c0
  go_wp2_with fail
  go_ret2
  exact ⟨_, _, _, _, _, _, rfl, (show RNetAt _ n _ _ _ from ⟨p, G', ia, ic, ra, rc, oa, oc, ri, ro, rfl, rfl, HN.out⟩).kept0 ((Kept.refl [] w1).alloc _), HS.out.keep ((Kept.refl [] w1).alloc _)⟩
set_option maxHeartbeats 3200000 in
set_option maxRecDepth 100000 in
theorem wants_9 (s : NStp) (la : Option Addr) (lc : Nat) (h : RNetAt w n F R N) (hok : NtSmall N) (hs : s.ok) (h0 : s.what < 0 ∨ 8 < s.what) :
    Calls Tryz.prog 35 #[.pointer (some ⟨n, 0, none⟩), stepV s la lc] w (WantPost N w n F R) := by
  have HPO := Lib.hid (show WantPost N w n F R (.returned (.tuple #[.slice none 0 0, .int .i64 0])) (w.alloc (.cells (stepCells6 s la lc) 89)) from ⟨F, R, none, 0, 0, 0, rfl, h.kept0 ((Kept.refl [] w).alloc (.cells (stepCells6 s la lc) 89)), (NStep.refl w F R).keep ((Kept.refl [] w).alloc (.cells (stepCells6 s la lc) 89))⟩)
  obtain ⟨what, nm, sn, a, b, c, lits⟩ := s
  simp only [stepV, stepCells6] at *
  have e0 : (what == 0) = false := by rw [beq_eq_false_iff_ne]; omega
  have e1 : (what == 1) = false := by rw [beq_eq_false_iff_ne]; omega
  have e2 : (what == 2) = false := by rw [beq_eq_false_iff_ne]; omega
  have e3 : (what == 3) = false := by rw [beq_eq_false_iff_ne]; omega
  have e4 : (what == 4) = false := by rw [beq_eq_false_iff_ne]; omega
  have e5 : (what == 5) = false := by rw [beq_eq_false_iff_ne]; omega
  have e6 : (what == 6) = false := by rw [beq_eq_false_iff_ne]; omega
  have e7 : (what == 7) = false := by rw [beq_eq_false_iff_ne]; omega
  have e8 : (what == 8) = false := by rw [beq_eq_false_iff_ne]; omega
  clear h0 h
  go_enter Tryz.func35, Tryz.ntmps35; (try simp only [List.append])
  go_wp2_with fail
  go_ret2
  exact HPO.out
theorem TwoPost.kept {g : Gr} {r : Gr × Nat} {bad : Bool} {e : Ending} (h : TwoPost g r bad w q R e w') : Kept R w w' := by
  unfold TwoPost at h
  split at h
  · exact h.2.more (by simp)
  · obtain ⟨R', _, _, h3⟩ := h; exact h3.kept
theorem TwoPost.two {g : Gr} {r : Gr × Nat} {bad : Bool} {e : Ending} (h : TwoPost g r bad w q R e w') (hg : RefAt w q R g) : ∃ (R' : List Nat) (x z : Nat), e = .returned (.tuple #[.int .u32 (x : Int), .int .i64 (z : Int)]) ∧ RefAt w' q R' (if bad then g else r.1) ∧ Stepped w w' R R' := by
  unfold TwoPost at h
  cases bad
  · rw [if_neg (by simp)] at h
    obtain ⟨R', h1, h2, h3⟩ := h
    exact ⟨R', r.2, 0, h1, by simpa using h2, h3⟩
  · rw [if_pos rfl] at h
    exact ⟨R, 0, 1, h.1, by simpa using hg.kept0 h.2, ⟨h.2.more (by simp), fun b hb => .inl hb⟩⟩
set_option maxHeartbeats 3200000 in
set_option maxRecDepth 100000 in
theorem wants_4 (s : NStp) (la : Option Addr) (lc : Nat) (h : RNetAt w n F R N) (hok : NtSmall N) (hs : s.ok) (h0 : s.what = 4) :
    Calls Tryz.prog 35 #[.pointer (some ⟨n, 0, none⟩), stepV s la lc] w (WantPost (gateN N andG s.b s.c).1 w n F R) := by
  have HK0 := ((Kept.refl [] w).alloc (.cells (stepCells6 s la lc) 89))
  have HK := Lib.hid HK0
  obtain ⟨p, G, ia, ic, ra, rc, oa, oc, ri, ro, rfl, rfl, hc⟩ := h
  have HC := Lib.hid (hc.kept HK0 (by simp) (by simp))
  have hqG : w.heap.size ∉ G := fun hx => Nat.lt_irrefl _ (hc.gr.lt _ hx)
  have hnG := hc.apart.1
  have HB := Lib.hid (fun i => box_cell s la lc w i)
  have hgn : (gateN N andG s.b s.c).1 = { N with g := if gone N.g [s.b, s.c] then N.g else (andG N.g s.b s.c).1 } := by unfold gateN; split <;> rfl
  rw [hgn]
  have hb32 := hs.b
  have hc32 := hs.c
  have HA := Lib.hid (fun (W : World) (hk : Kept [] (w.alloc (.cells (stepCells6 s la lc) 89)) W) (b0 : Nat) (hm : Mine W G b0 (.cells #[.int .u32 (s.b : Int), .int .u32 (s.c : Int)] 46 (0, 0))) => many_two 1 andG s.b s.c (by omega) (HC.out.gr.kept0 hk) (by have := hok.1; omega) b0 (sln_blk (T := 46) hm.heap) hb32 hc32 (fun W' h1 h2 h3 => ref_two1 h1 (by have := hok.1; omega) h2 h3))
  generalize gone N.g [s.b, s.c] = bad at *
  generalize andG N.g s.b s.c = res at *
  obtain ⟨g', hg'⟩ : ∃ g', g' = if bad then N.g else res.1 := ⟨_, rfl⟩
  rw [← hg']
  have HGP := Lib.hid hg'
  clear hg'
  obtain ⟨what, nm, sn, a, b, c, lits⟩ := s
  obtain ⟨ln, hln⟩ : ∃ k, k = lits.length := ⟨_, rfl⟩
  simp only [stepV, stepCells6] at *
  rw [← hln] at HK HC HB HA ⊢
  subst h0
  clear hs hc hok hln HK0 hgn
  go_enter Tryz.func35, Tryz.ntmps35; (try simp only [List.append])
  go_wp2_with fail
  obtain ⟨q, hq⟩ : ∃ q, q = w.heap.size := ⟨_, rfl⟩
  obtain ⟨w0, hw0⟩ : ∃ w0, w0 = w.alloc (.cells #[.int .i64 4, .string nm, .int .i64 sn, .int .u32 (a : Int), .int .u32 (b : Int), .int .u32 (c : Int), .slice la ln lc] 89) := ⟨_, rfl⟩
  rw [← hq, ← hw0] at HB
  rw [← hw0] at HK HC HA
  rw [← hq] at hqG
  rw [← hq, ← hw0]
  have GL := Lib.hid (fun x hx => HC.out.gr.lt x hx)
  have d0 : w0.cell? ⟨n, 0, none⟩ = some (.pointer (some ⟨p, 0, none⟩)) := HC.out.c0
  have d4 : w0.cell? ⟨q, 4, none⟩ = some (.int .u32 (b : Int)) := HB.out 4
  have d5 : w0.cell? ⟨q, 5, none⟩ = some (.int .u32 (c : Int)) := HB.out 5
  clear hq hw0 HB
  go_region_held3 (fun w' => w'.cell? ⟨n, 0, none⟩ = some (.pointer (some ⟨p, 0, none⟩)) ∧ w'.cell? ⟨q, 4, none⟩ = some (.int .u32 (b : Int)) ∧ w'.cell? ⟨q, 5, none⟩ = some (.int .u32 (c : Int)))
    (first | exact ⟨Kept.cell (F := G) (w := w0) (by (repeat (first | with_reducible exact Kept.refl _ _ | with_reducible apply Kept.drew | with_reducible apply Kept.drewN | with_reducible apply Kept.alloc | refine Kept.trans ?_ k5))) d0 hnG, Kept.cell (F := G) (w := w0) (by (repeat (first | with_reducible exact Kept.refl _ _ | with_reducible apply Kept.drew | with_reducible apply Kept.drewN | with_reducible apply Kept.alloc | refine Kept.trans ?_ k5))) d4 hqG, Kept.cell (F := G) (w := w0) (by (repeat (first | with_reducible exact Kept.refl _ _ | with_reducible apply Kept.drew | with_reducible apply Kept.drewN | with_reducible apply Kept.alloc | refine Kept.trans ?_ k5))) d5 hqG⟩ | go_keep)
    (first
      | (go_at_call 99; (with_reducible refine (HA.out _ ?kk1 _ ?kk2).mono ?_); (case kk1 => ((repeat (first | with_reducible exact Kept.refl _ _ | with_reducible apply Kept.drew | with_reducible apply Kept.drewN | with_reducible apply Kept.alloc)))); (case kk2 => (repeat (first | (with_reducible refine Mine.new ?_ (fun x hx => Nat.lt_of_lt_of_le (GL.out x hx) (Kept.size (F := []) (by (repeat (first | with_reducible exact Kept.refl _ _ | with_reducible apply Kept.drew | with_reducible apply Kept.drewN | with_reducible apply Kept.alloc))))); focus (first | rfl | (simp; done))) | with_reducible apply Mine.drew | with_reducible apply Mine.alloc))); intro e w5 hx5; have k5 := hx5.kept; obtain ⟨G5, x5, z5, rfl, hg5, hst5⟩ := hx5.two (HC.out.gr.kept0 (by (repeat (first | with_reducible exact Kept.refl _ _ | with_reducible apply Kept.drew | with_reducible apply Kept.drewN | with_reducible apply Kept.alloc))))))
  all_goals
    have st5 : Stepped w0 w5 G G5 := (⟨show Kept G w0 _ from by (repeat (first | with_reducible exact Kept.refl _ _ | with_reducible apply Kept.drew | with_reducible apply Kept.drewN | with_reducible apply Kept.alloc)), fun b hb => .inl hb⟩ : Stepped w0 _ G G).trans hst5
    have HS5 := Lib.hid (((NStep.refl w _ _).keep HK.out).trans (RNetC.graph_step (n := n) (ia := ia) (ra := ra) (oa := oa) (ri := ri) (ro := ro) st5))
    rw [← HGP.out] at hg5
    have HN5 := Lib.hid (HC.out.graph hg5 st5)
    clear k5 d0 d4 d5 st5 hst5 hg5
    go_wp2_with fail
    go_ret2
    exact ⟨_, _, _, _, _, _, rfl, (show RNetAt _ n _ _ _ from ⟨p, G5, ia, ic, ra, rc, oa, oc, ri, ro, rfl, rfl, HN5.out⟩).kept0 ((Kept.refl [] w5).alloc _), HS5.out.keep ((Kept.refl [] w5).alloc _)⟩
set_option maxHeartbeats 3200000 in
set_option maxRecDepth 100000 in
theorem wants_5 (s : NStp) (la : Option Addr) (lc : Nat) (h : RNetAt w n F R N) (hok : NtSmall N) (hs : s.ok) (h0 : s.what = 5) :
    Calls Tryz.prog 35 #[.pointer (some ⟨n, 0, none⟩), stepV s la lc] w (WantPost (gateN N andG s.b s.c).1 w n F R) := by
  have HK0 := ((Kept.refl [] w).alloc (.cells (stepCells6 s la lc) 89))
  have HK := Lib.hid HK0
  obtain ⟨p, G, ia, ic, ra, rc, oa, oc, ri, ro, rfl, rfl, hc⟩ := h
  have HC := Lib.hid (hc.kept HK0 (by simp) (by simp))
  have hqG : w.heap.size ∉ G := fun hx => Nat.lt_irrefl _ (hc.gr.lt _ hx)
  have hnG := hc.apart.1
  have HB := Lib.hid (fun i => box_cell s la lc w i)
  have hgn : (gateN N andG s.b s.c).1 = { N with g := if gone N.g [s.b, s.c] then N.g else (andG N.g s.b s.c).1 } := by unfold gateN; split <;> rfl
  rw [hgn]
  have hb32 := hs.b
  have hc32 := hs.c
  have HA := Lib.hid (fun (W : World) (hk : Kept [] (w.alloc (.cells (stepCells6 s la lc) 89)) W) (b0 : Nat) (hm : Mine W G b0 (.cells #[.int .u32 (s.b : Int), .int .u32 (s.c : Int)] 46 (0, 0))) => many_two 1 andG s.b s.c (by omega) (HC.out.gr.kept0 hk) (by have := hok.1; omega) b0 (sln_blk (T := 46) hm.heap) hb32 hc32 (fun W' h1 h2 h3 => ref_two1 h1 (by have := hok.1; omega) h2 h3))
  generalize gone N.g [s.b, s.c] = bad at *
  generalize andG N.g s.b s.c = res at *
  obtain ⟨g', hg'⟩ : ∃ g', g' = if bad then N.g else res.1 := ⟨_, rfl⟩
  rw [← hg']
  have HGP := Lib.hid hg'
  clear hg'
  obtain ⟨what, nm, sn, a, b, c, lits⟩ := s
  obtain ⟨ln, hln⟩ : ∃ k, k = lits.length := ⟨_, rfl⟩
  simp only [stepV, stepCells6] at *
  rw [← hln] at HK HC HB HA ⊢
  subst h0
  clear hs hc hok hln HK0 hgn
  go_enter Tryz.func35, Tryz.ntmps35; (try simp only [List.append])
  go_wp2_with fail
  obtain ⟨q, hq⟩ : ∃ q, q = w.heap.size := ⟨_, rfl⟩
  obtain ⟨w0, hw0⟩ : ∃ w0, w0 = w.alloc (.cells #[.int .i64 5, .string nm, .int .i64 sn, .int .u32 (a : Int), .int .u32 (b : Int), .int .u32 (c : Int), .slice la ln lc] 89) := ⟨_, rfl⟩
  rw [← hq, ← hw0] at HB
  rw [← hw0] at HK HC HA
  rw [← hq] at hqG
  rw [← hq, ← hw0]
  have GL := Lib.hid (fun x hx => HC.out.gr.lt x hx)
  have d0 : w0.cell? ⟨n, 0, none⟩ = some (.pointer (some ⟨p, 0, none⟩)) := HC.out.c0
  have d4 : w0.cell? ⟨q, 4, none⟩ = some (.int .u32 (b : Int)) := HB.out 4
  have d5 : w0.cell? ⟨q, 5, none⟩ = some (.int .u32 (c : Int)) := HB.out 5
  clear hq hw0 HB
  go_region_held3 (fun w' => w'.cell? ⟨n, 0, none⟩ = some (.pointer (some ⟨p, 0, none⟩)) ∧ w'.cell? ⟨q, 4, none⟩ = some (.int .u32 (b : Int)) ∧ w'.cell? ⟨q, 5, none⟩ = some (.int .u32 (c : Int)))
    (first | exact ⟨Kept.cell (F := G) (w := w0) (by (repeat (first | with_reducible exact Kept.refl _ _ | with_reducible apply Kept.drew | with_reducible apply Kept.drewN | with_reducible apply Kept.alloc | refine Kept.trans ?_ k5))) d0 hnG, Kept.cell (F := G) (w := w0) (by (repeat (first | with_reducible exact Kept.refl _ _ | with_reducible apply Kept.drew | with_reducible apply Kept.drewN | with_reducible apply Kept.alloc | refine Kept.trans ?_ k5))) d4 hqG, Kept.cell (F := G) (w := w0) (by (repeat (first | with_reducible exact Kept.refl _ _ | with_reducible apply Kept.drew | with_reducible apply Kept.drewN | with_reducible apply Kept.alloc | refine Kept.trans ?_ k5))) d5 hqG⟩ | go_keep)
    (first
      | (go_at_call 99; (with_reducible refine (HA.out _ ?kk1 _ ?kk2).mono ?_); (case kk1 => ((repeat (first | with_reducible exact Kept.refl _ _ | with_reducible apply Kept.drew | with_reducible apply Kept.drewN | with_reducible apply Kept.alloc)))); (case kk2 => (repeat (first | (with_reducible refine Mine.new ?_ (fun x hx => Nat.lt_of_lt_of_le (GL.out x hx) (Kept.size (F := []) (by (repeat (first | with_reducible exact Kept.refl _ _ | with_reducible apply Kept.drew | with_reducible apply Kept.drewN | with_reducible apply Kept.alloc))))); focus (first | rfl | (simp; done))) | with_reducible apply Mine.drew | with_reducible apply Mine.alloc))); intro e w5 hx5; have k5 := hx5.kept; obtain ⟨G5, x5, z5, rfl, hg5, hst5⟩ := hx5.two (HC.out.gr.kept0 (by (repeat (first | with_reducible exact Kept.refl _ _ | with_reducible apply Kept.drew | with_reducible apply Kept.drewN | with_reducible apply Kept.alloc))))))
  all_goals
    have st5 : Stepped w0 w5 G G5 := (⟨show Kept G w0 _ from by (repeat (first | with_reducible exact Kept.refl _ _ | with_reducible apply Kept.drew | with_reducible apply Kept.drewN | with_reducible apply Kept.alloc)), fun b hb => .inl hb⟩ : Stepped w0 _ G G).trans hst5
    have HS5 := Lib.hid (((NStep.refl w _ _).keep HK.out).trans (RNetC.graph_step (n := n) (ia := ia) (ra := ra) (oa := oa) (ri := ri) (ro := ro) st5))
    rw [← HGP.out] at hg5
    have HN5 := Lib.hid (HC.out.graph hg5 st5)
    clear k5 d0 d4 d5 st5 hst5 hg5
    go_wp2_with fail
    go_ret2
    exact ⟨_, _, _, _, _, _, rfl, (show RNetAt _ n _ _ _ from ⟨p, G5, ia, ic, ra, rc, oa, oc, ri, ro, rfl, rfl, HN5.out⟩).kept0 ((Kept.refl [] w5).alloc _), HS5.out.keep ((Kept.refl [] w5).alloc _)⟩
set_option maxHeartbeats 3200000 in
set_option maxRecDepth 100000 in
theorem wants_6 (s : NStp) (la : Option Addr) (lc : Nat) (h : RNetAt w n F R N) (hok : NtSmall N) (hs : s.ok) (h0 : s.what = 6) :
    Calls Tryz.prog 35 #[.pointer (some ⟨n, 0, none⟩), stepV s la lc] w (WantPost (gateN N andG s.b s.c).1 w n F R) := by
  have HK0 := ((Kept.refl [] w).alloc (.cells (stepCells6 s la lc) 89))
  have HK := Lib.hid HK0
  obtain ⟨p, G, ia, ic, ra, rc, oa, oc, ri, ro, rfl, rfl, hc⟩ := h
  have HC := Lib.hid (hc.kept HK0 (by simp) (by simp))
  have hqG : w.heap.size ∉ G := fun hx => Nat.lt_irrefl _ (hc.gr.lt _ hx)
  have hnG := hc.apart.1
  have HB := Lib.hid (fun i => box_cell s la lc w i)
  have hgn : (gateN N andG s.b s.c).1 = { N with g := if gone N.g [s.b, s.c] then N.g else (andG N.g s.b s.c).1 } := by unfold gateN; split <;> rfl
  rw [hgn]
  have hb32 := hs.b
  have hc32 := hs.c
  have HA := Lib.hid (fun (W : World) (hk : Kept [] (w.alloc (.cells (stepCells6 s la lc) 89)) W) (b0 : Nat) (hm : Mine W G b0 (.cells #[.int .u32 (s.b : Int), .int .u32 (s.c : Int)] 46 (0, 0))) => many_two 1 andG s.b s.c (by omega) (HC.out.gr.kept0 hk) (by have := hok.1; omega) b0 (sln_blk (T := 46) hm.heap) hb32 hc32 (fun W' h1 h2 h3 => ref_two1 h1 (by have := hok.1; omega) h2 h3))
  generalize gone N.g [s.b, s.c] = bad at *
  generalize andG N.g s.b s.c = res at *
  obtain ⟨g', hg'⟩ : ∃ g', g' = if bad then N.g else res.1 := ⟨_, rfl⟩
  rw [← hg']
  have HGP := Lib.hid hg'
  clear hg'
  obtain ⟨what, nm, sn, a, b, c, lits⟩ := s
  obtain ⟨ln, hln⟩ : ∃ k, k = lits.length := ⟨_, rfl⟩
  simp only [stepV, stepCells6] at *
  rw [← hln] at HK HC HB HA ⊢
  subst h0
  clear hs hc hok hln HK0 hgn
  go_enter Tryz.func35, Tryz.ntmps35; (try simp only [List.append])
  go_wp2_with fail
  obtain ⟨q, hq⟩ : ∃ q, q = w.heap.size := ⟨_, rfl⟩
  obtain ⟨w0, hw0⟩ : ∃ w0, w0 = w.alloc (.cells #[.int .i64 6, .string nm, .int .i64 sn, .int .u32 (a : Int), .int .u32 (b : Int), .int .u32 (c : Int), .slice la ln lc] 89) := ⟨_, rfl⟩
  rw [← hq, ← hw0] at HB
  rw [← hw0] at HK HC HA
  rw [← hq] at hqG
  rw [← hq, ← hw0]
  have GL := Lib.hid (fun x hx => HC.out.gr.lt x hx)
  have d0 : w0.cell? ⟨n, 0, none⟩ = some (.pointer (some ⟨p, 0, none⟩)) := HC.out.c0
  have d4 : w0.cell? ⟨q, 4, none⟩ = some (.int .u32 (b : Int)) := HB.out 4
  have d5 : w0.cell? ⟨q, 5, none⟩ = some (.int .u32 (c : Int)) := HB.out 5
  clear hq hw0 HB
  go_region_held3 (fun w' => w'.cell? ⟨n, 0, none⟩ = some (.pointer (some ⟨p, 0, none⟩)) ∧ w'.cell? ⟨q, 4, none⟩ = some (.int .u32 (b : Int)) ∧ w'.cell? ⟨q, 5, none⟩ = some (.int .u32 (c : Int)))
    (first | exact ⟨Kept.cell (F := G) (w := w0) (by (repeat (first | with_reducible exact Kept.refl _ _ | with_reducible apply Kept.drew | with_reducible apply Kept.drewN | with_reducible apply Kept.alloc | refine Kept.trans ?_ k5))) d0 hnG, Kept.cell (F := G) (w := w0) (by (repeat (first | with_reducible exact Kept.refl _ _ | with_reducible apply Kept.drew | with_reducible apply Kept.drewN | with_reducible apply Kept.alloc | refine Kept.trans ?_ k5))) d4 hqG, Kept.cell (F := G) (w := w0) (by (repeat (first | with_reducible exact Kept.refl _ _ | with_reducible apply Kept.drew | with_reducible apply Kept.drewN | with_reducible apply Kept.alloc | refine Kept.trans ?_ k5))) d5 hqG⟩ | go_keep)
    (first
      | (go_at_call 99; (with_reducible refine (HA.out _ ?kk1 _ ?kk2).mono ?_); (case kk1 => ((repeat (first | with_reducible exact Kept.refl _ _ | with_reducible apply Kept.drew | with_reducible apply Kept.drewN | with_reducible apply Kept.alloc)))); (case kk2 => (repeat (first | (with_reducible refine Mine.new ?_ (fun x hx => Nat.lt_of_lt_of_le (GL.out x hx) (Kept.size (F := []) (by (repeat (first | with_reducible exact Kept.refl _ _ | with_reducible apply Kept.drew | with_reducible apply Kept.drewN | with_reducible apply Kept.alloc))))); focus (first | rfl | (simp; done))) | with_reducible apply Mine.drew | with_reducible apply Mine.alloc))); intro e w5 hx5; have k5 := hx5.kept; obtain ⟨G5, x5, z5, rfl, hg5, hst5⟩ := hx5.two (HC.out.gr.kept0 (by (repeat (first | with_reducible exact Kept.refl _ _ | with_reducible apply Kept.drew | with_reducible apply Kept.drewN | with_reducible apply Kept.alloc))))))
  all_goals
    have st5 : Stepped w0 w5 G G5 := (⟨show Kept G w0 _ from by (repeat (first | with_reducible exact Kept.refl _ _ | with_reducible apply Kept.drew | with_reducible apply Kept.drewN | with_reducible apply Kept.alloc)), fun b hb => .inl hb⟩ : Stepped w0 _ G G).trans hst5
    have HS5 := Lib.hid (((NStep.refl w _ _).keep HK.out).trans (RNetC.graph_step (n := n) (ia := ia) (ra := ra) (oa := oa) (ri := ri) (ro := ro) st5))
    rw [← HGP.out] at hg5
    have HN5 := Lib.hid (HC.out.graph hg5 st5)
    clear k5 d0 d4 d5 st5 hst5 hg5
    go_wp2_with fail
    go_ret2
    exact ⟨_, _, _, _, _, _, rfl, (show RNetAt _ n _ _ _ from ⟨p, G5, ia, ic, ra, rc, oa, oc, ri, ro, rfl, rfl, HN5.out⟩).kept0 ((Kept.refl [] w5).alloc _), HS5.out.keep ((Kept.refl [] w5).alloc _)⟩
set_option maxHeartbeats 3200000 in
set_option maxRecDepth 100000 in
theorem wants_7 (s : NStp) (la : Option Addr) (lc : Nat) (h : RNetAt w n F R N) (hok : NtSmall N) (hs : s.ok) (h0 : s.what = 7) :
    Calls Tryz.prog 35 #[.pointer (some ⟨n, 0, none⟩), stepV s la lc] w (WantPost (gateN N xorG s.b s.c).1 w n F R) := by
  have HK0 := ((Kept.refl [] w).alloc (.cells (stepCells6 s la lc) 89))
  have HK := Lib.hid HK0
  obtain ⟨p, G, ia, ic, ra, rc, oa, oc, ri, ro, rfl, rfl, hc⟩ := h
  have HC := Lib.hid (hc.kept HK0 (by simp) (by simp))
  have hqG : w.heap.size ∉ G := fun hx => Nat.lt_irrefl _ (hc.gr.lt _ hx)
  have hnG := hc.apart.1
  have HB := Lib.hid (fun i => box_cell s la lc w i)
  have hgn : (gateN N xorG s.b s.c).1 = { N with g := if gone N.g [s.b, s.c] then N.g else (xorG N.g s.b s.c).1 } := by unfold gateN; split <;> rfl
  rw [hgn]
  have hb32 := hs.b
  have hc32 := hs.c
  have HA := Lib.hid (fun (W : World) (hk : Kept [] (w.alloc (.cells (stepCells6 s la lc) 89)) W) (b0 : Nat) (hm : Mine W G b0 (.cells #[.int .u32 (s.b : Int), .int .u32 (s.c : Int)] 46 (0, 0))) => many_two 3 xorG s.b s.c (by omega) (HC.out.gr.kept0 hk) (by have := hok.1; omega) b0 (sln_blk (T := 46) hm.heap) hb32 hc32 (fun W' h1 h2 h3 => ref_two3 h1 (by have := hok.1; omega) h2 h3))
  generalize gone N.g [s.b, s.c] = bad at *
  generalize xorG N.g s.b s.c = res at *
  obtain ⟨g', hg'⟩ : ∃ g', g' = if bad then N.g else res.1 := ⟨_, rfl⟩
  rw [← hg']
  have HGP := Lib.hid hg'
  clear hg'
  obtain ⟨what, nm, sn, a, b, c, lits⟩ := s
  obtain ⟨ln, hln⟩ : ∃ k, k = lits.length := ⟨_, rfl⟩
  simp only [stepV, stepCells6] at *
  rw [← hln] at HK HC HB HA ⊢
  subst h0
  clear hs hc hok hln HK0 hgn
  go_enter Tryz.func35, Tryz.ntmps35; (try simp only [List.append])
  go_wp2_with fail
  obtain ⟨q, hq⟩ : ∃ q, q = w.heap.size := ⟨_, rfl⟩
  obtain ⟨w0, hw0⟩ : ∃ w0, w0 = w.alloc (.cells #[.int .i64 7, .string nm, .int .i64 sn, .int .u32 (a : Int), .int .u32 (b : Int), .int .u32 (c : Int), .slice la ln lc] 89) := ⟨_, rfl⟩
  rw [← hq, ← hw0] at HB
  rw [← hw0] at HK HC HA
  rw [← hq] at hqG
  rw [← hq, ← hw0]
  have GL := Lib.hid (fun x hx => HC.out.gr.lt x hx)
  have d0 : w0.cell? ⟨n, 0, none⟩ = some (.pointer (some ⟨p, 0, none⟩)) := HC.out.c0
  have d4 : w0.cell? ⟨q, 4, none⟩ = some (.int .u32 (b : Int)) := HB.out 4
  have d5 : w0.cell? ⟨q, 5, none⟩ = some (.int .u32 (c : Int)) := HB.out 5
  clear hq hw0 HB
  go_region_held3 (fun w' => w'.cell? ⟨n, 0, none⟩ = some (.pointer (some ⟨p, 0, none⟩)) ∧ w'.cell? ⟨q, 4, none⟩ = some (.int .u32 (b : Int)) ∧ w'.cell? ⟨q, 5, none⟩ = some (.int .u32 (c : Int)))
    (first | exact ⟨Kept.cell (F := G) (w := w0) (by (repeat (first | with_reducible exact Kept.refl _ _ | with_reducible apply Kept.drew | with_reducible apply Kept.drewN | with_reducible apply Kept.alloc | refine Kept.trans ?_ k5))) d0 hnG, Kept.cell (F := G) (w := w0) (by (repeat (first | with_reducible exact Kept.refl _ _ | with_reducible apply Kept.drew | with_reducible apply Kept.drewN | with_reducible apply Kept.alloc | refine Kept.trans ?_ k5))) d4 hqG, Kept.cell (F := G) (w := w0) (by (repeat (first | with_reducible exact Kept.refl _ _ | with_reducible apply Kept.drew | with_reducible apply Kept.drewN | with_reducible apply Kept.alloc | refine Kept.trans ?_ k5))) d5 hqG⟩ | go_keep)
    (first
      | (go_at_call 99; (with_reducible refine (HA.out _ ?kk1 _ ?kk2).mono ?_); (case kk1 => ((repeat (first | with_reducible exact Kept.refl _ _ | with_reducible apply Kept.drew | with_reducible apply Kept.drewN | with_reducible apply Kept.alloc)))); (case kk2 => (repeat (first | (with_reducible refine Mine.new ?_ (fun x hx => Nat.lt_of_lt_of_le (GL.out x hx) (Kept.size (F := []) (by (repeat (first | with_reducible exact Kept.refl _ _ | with_reducible apply Kept.drew | with_reducible apply Kept.drewN | with_reducible apply Kept.alloc))))); focus (first | rfl | (simp; done))) | with_reducible apply Mine.drew | with_reducible apply Mine.alloc))); intro e w5 hx5; have k5 := hx5.kept; obtain ⟨G5, x5, z5, rfl, hg5, hst5⟩ := hx5.two (HC.out.gr.kept0 (by (repeat (first | with_reducible exact Kept.refl _ _ | with_reducible apply Kept.drew | with_reducible apply Kept.drewN | with_reducible apply Kept.alloc))))))
  all_goals
    have st5 : Stepped w0 w5 G G5 := (⟨show Kept G w0 _ from by (repeat (first | with_reducible exact Kept.refl _ _ | with_reducible apply Kept.drew | with_reducible apply Kept.drewN | with_reducible apply Kept.alloc)), fun b hb => .inl hb⟩ : Stepped w0 _ G G).trans hst5
    have HS5 := Lib.hid (((NStep.refl w _ _).keep HK.out).trans (RNetC.graph_step (n := n) (ia := ia) (ra := ra) (oa := oa) (ri := ri) (ro := ro) st5))
    rw [← HGP.out] at hg5
    have HN5 := Lib.hid (HC.out.graph hg5 st5)
    clear k5 d0 d4 d5 st5 hst5 hg5
    go_wp2_with fail
    go_ret2
    exact ⟨_, _, _, _, _, _, rfl, (show RNetAt _ n _ _ _ from ⟨p, G5, ia, ic, ra, rc, oa, oc, ri, ro, rfl, rfl, HN5.out⟩).kept0 ((Kept.refl [] w5).alloc _), HS5.out.keep ((Kept.refl [] w5).alloc _)⟩
end Go.Proofs.YtdmcdhkkbkgnbaaGreat
