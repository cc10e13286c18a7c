/-
  Law 06: Does, the steps whose statements draw their order.
-/
import Derived.Test.YtdmcdhkkbkgnbaaGreatP14
namespace Go.Proofs.YtdmcdhkkbkgnbaaGreat
open Go.ChangeShapes Go.WideShapes Go.ChangeAt Go.RowKit
open Go.Maps (Keyed)
open Go.WideMaps
set_option linter.unusedVariables false
set_option linter.unusedSimpArgs false

variable {w w' : World} {p n : Nat} {F R S : List Nat} {g : Gr} {N : Nt}
set_option maxHeartbeats 3200000 in
set_option maxRecDepth 100000 in
theorem does_5 (s : NStp) (la : Option Addr) (lc : Nat) (h : NetAt w n F R N) (hok : N.g.nodes.length ≤ 50000 ∧ N.inb.length ≤ 10000 ∧ N.regs.length ≤ 10000 ∧ N.outb.length ≤ 10000) (hs : s.ok) (h0 : s.what = 5) :
    Calls Tryz.prog 34 #[.pointer (some ⟨n, 0, none⟩), stepV s la lc] w (AddInPost (gateN N andG s.b s.c) w n F R) := by
  have HK0 := (Kept.refl [] w).alloc (.cells (stepCells6 s la lc) 89)
  have HK := Lib.hid HK0
  obtain ⟨p, G, ia, ic, ra, rc, oa, oc, ri, ro, rfl, rfl, hc⟩ := h
  have HC := Lib.hid (hc.kept HK0 (by simp) (by simp))
  have hqG : w.heap.size ∉ G := fun hx => Nat.lt_irrefl _ (hc.gr.lt _ hx)
  have hnG := hc.apart.1
  have LR := Lib.hid (show Lits [s.b, s.c] from by intro x hx; simp at hx; rcases hx with rfl | rfl; exact hs.b; exact hs.c)
  have HB := Lib.hid (fun i => box_cell s la lc w i)
  have HGN := Lib.hid (show gateN N andG s.b s.c = if gone N.g [s.b, s.c] then (N, [0], 1) else ({ N with g := (andG N.g s.b s.c).1 }, [(andG N.g s.b s.c).2], 0) from rfl)
  have HOKS := Lib.hid (fun (hg : gone N.g [s.b, s.c] = false) => gone_false.1 hg)
  have glen := hok.1
  obtain ⟨what, nm, sn, a, b, c, lits⟩ := s
  obtain ⟨ln, hln⟩ : ∃ k, k = lits.length := ⟨_, rfl⟩
  simp only [stepV, stepCells6] at *
  rw [← hln] at HK HC HB ⊢
  subst h0
  clear hs hc hok hln HK0
  rw [HGN.out]
  clear HGN
  cases hgn : gone N.g [b, c] with
  | true =>
    simp only [if_true]
    have HA := Lib.hid (fun (W : World) (hk : Kept [] (w.alloc (.cells #[.int .i64 5, .string nm, .int .i64 sn, .int .u32 (a : Int), .int .u32 (b : Int), .int .u32 (c : Int), .slice la ln lc] 89)) W) (b0 : Nat) (hm : Mine W G b0 (.cells #[.int .u32 (b : Int), .int .u32 (c : Int)] 61 (0, 0))) => and_gone (HC.out.gr.kept0 hk) (show N.g.nodes.length ≤ 200000 by omega) (some ⟨b0, 0, none⟩) 2 2 [b, c] rfl (by omega) (sln_blk (T := 61) hm.heap) LR.out hgn)
    clear hgn HOKS
    go_enter Tryz.func34, Tryz.ntmps34; (try simp only [List.append])
    go_wp2_with fail
    obtain ⟨q, hq⟩ : ∃ q, q = w.heap.size := ⟨_, rfl⟩
    obtain ⟨w0, hw0⟩ : ∃ w0, w0 = w.alloc (.cells #[.int .i64 5, .string nm, .int .i64 sn, .int .u32 (a : Int), .int .u32 (b : Int), .int .u32 (c : Int), .slice la ln lc] 89) := ⟨_, rfl⟩
    rw [← hq, ← hw0] at HB
    rw [← hw0] at HK HC HA
    rw [← hq] at hqG
    rw [← hq, ← hw0]
    have GL := Lib.hid (fun x hx => HC.out.gr.lt x hx)
    have d0 : w0.cell? ⟨n, 0, none⟩ = some (.pointer (some ⟨p, 0, none⟩)) := HC.out.c0
    have d4 : w0.cell? ⟨q, 4, none⟩ = some (.int .u32 (b : Int)) := HB.out 4
    have d5 : w0.cell? ⟨q, 5, none⟩ = some (.int .u32 (c : Int)) := HB.out 5
    clear hq hw0 HB
    go_region_held3 (fun w' => w'.cell? ⟨n, 0, none⟩ = some (.pointer (some ⟨p, 0, none⟩)) ∧ w'.cell? ⟨q, 4, none⟩ = some (.int .u32 (b : Int)) ∧ w'.cell? ⟨q, 5, none⟩ = some (.int .u32 (c : Int)))
      (first | exact ⟨Kept.cell (F := []) (w := w0) (by (repeat (first | with_reducible exact Kept.refl _ _ | with_reducible apply Kept.drew | with_reducible apply Kept.drewN | with_reducible apply Kept.alloc | refine Kept.trans ?_ k5))) d0 (by simp), Kept.cell (F := []) (w := w0) (by (repeat (first | with_reducible exact Kept.refl _ _ | with_reducible apply Kept.drew | with_reducible apply Kept.drewN | with_reducible apply Kept.alloc | refine Kept.trans ?_ k5))) d4 (by simp), Kept.cell (F := []) (w := w0) (by (repeat (first | with_reducible exact Kept.refl _ _ | with_reducible apply Kept.drew | with_reducible apply Kept.drewN | with_reducible apply Kept.alloc | refine Kept.trans ?_ k5))) d5 (by simp)⟩ | exact ⟨Kept.cell (F := []) (w := w0) (by (repeat (first | with_reducible exact Kept.refl _ _ | with_reducible apply Kept.drew | with_reducible apply Kept.drewN | with_reducible apply Kept.alloc))) d0 (by simp), Kept.cell (F := []) (w := w0) (by (repeat (first | with_reducible exact Kept.refl _ _ | with_reducible apply Kept.drew | with_reducible apply Kept.drewN | with_reducible apply Kept.alloc))) d4 (by simp), Kept.cell (F := []) (w := w0) (by (repeat (first | with_reducible exact Kept.refl _ _ | with_reducible apply Kept.drew | with_reducible apply Kept.drewN | with_reducible apply Kept.alloc))) d5 (by simp)⟩ | go_keep)
      (first
        | (go_at_call 96; (with_reducible refine (HA.out _ ?kk1 _ ?kk2).mono ?_); (case kk1 => ((repeat (first | with_reducible exact Kept.refl _ _ | with_reducible apply Kept.drew | with_reducible apply Kept.drewN | with_reducible apply Kept.alloc)))); (case kk2 => (repeat (first | (with_reducible refine Mine.new ?_ (fun x hx => Nat.lt_of_lt_of_le (GL.out x hx) (Kept.size (F := []) (by (repeat (first | with_reducible exact Kept.refl _ _ | with_reducible apply Kept.drew | with_reducible apply Kept.drewN | with_reducible apply Kept.alloc))))); focus (first | rfl | (simp; done))) | with_reducible apply Mine.drew | with_reducible apply Mine.alloc))); rintro e w5 ⟨rfl, k5⟩)
        | (go_at_call 90; (with_reducible refine (one_c _ _ _).mono ?_); rintro e w6 ⟨rfl, rfl⟩))
    all_goals
      have HS5 := Lib.hid ((NStep.refl w (n :: (G ++ (ft ia ++ (ft ra ++ ft oa)))) (rowsOf ri ++ rowsOf ro)).keep (HK.out.trans (show Kept [] w0 w5 from by (repeat (first | with_reducible exact Kept.refl _ _ | with_reducible apply Kept.drew | with_reducible apply Kept.drewN | with_reducible apply Kept.alloc | refine Kept.trans ?_ k5)))))
      have HN5 := Lib.hid (HC.out.kept (show Kept [] w0 w5 from by (repeat (first | with_reducible exact Kept.refl _ _ | with_reducible apply Kept.drew | with_reducible apply Kept.drewN | with_reducible apply Kept.alloc | refine Kept.trans ?_ k5))) (by simp) (by simp))
      clear k5 d0 d4 d5
      go_wp2_with fail
      go_ret2
      exact one_row ⟨p, G, ia, ic, ra, rc, oa, oc, ri, ro, rfl, rfl, HN5.out⟩ HS5.out
  | false =>
    simp only [Bool.false_eq_true, if_false]
    have hok2 := HOKS.out hgn
    have HA := Lib.hid (fun (W : World) (hk : Kept [] (w.alloc (.cells #[.int .i64 5, .string nm, .int .i64 sn, .int .u32 (a : Int), .int .u32 (b : Int), .int .u32 (c : Int), .slice la ln lc] 89)) W) (b0 : Nat) (hm : Mine W G b0 (.cells #[.int .u32 (b : Int), .int .u32 (c : Int)] 61 (0, 0))) => show Calls Tryz.prog 96 #[.pointer (some ⟨p, 0, none⟩), .slice (some ⟨b0, 0, none⟩) 2 2] W (Twos (andG N.g b c) W p G) from aig_And_ (HC.out.gr.kept0 hk) (some ⟨b0, 0, none⟩) 2 2 [b, c] rfl (by omega) (sln_blk (T := 61) hm.heap) hok2 (by intro x hx; rw [mem_ft] at hx; subst hx; exact hm.out))
    clear hgn HOKS hok2
    generalize andG N.g b c = res at *
    obtain ⟨g', y⟩ := res
    go_enter Tryz.func34, Tryz.ntmps34; (try simp only [List.append])
    go_wp2_with fail
    obtain ⟨q, hq⟩ : ∃ q, q = w.heap.size := ⟨_, rfl⟩
    obtain ⟨w0, hw0⟩ : ∃ w0, w0 = w.alloc (.cells #[.int .i64 5, .string nm, .int .i64 sn, .int .u32 (a : Int), .int .u32 (b : Int), .int .u32 (c : Int), .slice la ln lc] 89) := ⟨_, rfl⟩
    rw [← hq, ← hw0] at HB
    rw [← hw0] at HK HC HA
    rw [← hq] at hqG
    rw [← hq, ← hw0]
    have GL := Lib.hid (fun x hx => HC.out.gr.lt x hx)
    have d0 : w0.cell? ⟨n, 0, none⟩ = some (.pointer (some ⟨p, 0, none⟩)) := HC.out.c0
    have d4 : w0.cell? ⟨q, 4, none⟩ = some (.int .u32 (b : Int)) := HB.out 4
    have d5 : w0.cell? ⟨q, 5, none⟩ = some (.int .u32 (c : Int)) := HB.out 5
    clear hq hw0 HB
    go_region_held3 (fun w' => w'.cell? ⟨n, 0, none⟩ = some (.pointer (some ⟨p, 0, none⟩)) ∧ w'.cell? ⟨q, 4, none⟩ = some (.int .u32 (b : Int)) ∧ w'.cell? ⟨q, 5, none⟩ = some (.int .u32 (c : Int)))
      (first | exact ⟨Kept.cell (F := G) (w := w0) (by (repeat (first | with_reducible exact Kept.refl _ _ | with_reducible apply Kept.drew | with_reducible apply Kept.drewN | with_reducible apply Kept.alloc | refine Kept.trans ?_ k5))) d0 hnG, Kept.cell (F := G) (w := w0) (by (repeat (first | with_reducible exact Kept.refl _ _ | with_reducible apply Kept.drew | with_reducible apply Kept.drewN | with_reducible apply Kept.alloc | refine Kept.trans ?_ k5))) d4 hqG, Kept.cell (F := G) (w := w0) (by (repeat (first | with_reducible exact Kept.refl _ _ | with_reducible apply Kept.drew | with_reducible apply Kept.drewN | with_reducible apply Kept.alloc | refine Kept.trans ?_ k5))) d5 hqG⟩ | exact ⟨Kept.cell (F := []) (w := w0) (by (repeat (first | with_reducible exact Kept.refl _ _ | with_reducible apply Kept.drew | with_reducible apply Kept.drewN | with_reducible apply Kept.alloc))) d0 (by simp), Kept.cell (F := []) (w := w0) (by (repeat (first | with_reducible exact Kept.refl _ _ | with_reducible apply Kept.drew | with_reducible apply Kept.drewN | with_reducible apply Kept.alloc))) d4 (by simp), Kept.cell (F := []) (w := w0) (by (repeat (first | with_reducible exact Kept.refl _ _ | with_reducible apply Kept.drew | with_reducible apply Kept.drewN | with_reducible apply Kept.alloc))) d5 (by simp)⟩ | go_keep)
      (first
        | (go_at_call 96; (with_reducible refine (HA.out _ ?kk1 _ ?kk2).mono ?_); (case kk1 => ((repeat (first | with_reducible exact Kept.refl _ _ | with_reducible apply Kept.drew | with_reducible apply Kept.drewN | with_reducible apply Kept.alloc)))); (case kk2 => (repeat (first | (with_reducible refine Mine.new ?_ (fun x hx => Nat.lt_of_lt_of_le (GL.out x hx) (Kept.size (F := []) (by (repeat (first | with_reducible exact Kept.refl _ _ | with_reducible apply Kept.drew | with_reducible apply Kept.drewN | with_reducible apply Kept.alloc))))); focus (first | rfl | (simp; done))) | with_reducible apply Mine.drew | with_reducible apply Mine.alloc))); rintro e w5 ⟨G5, rfl, hg5, hst5⟩; have k5 := hst5.kept)
        | (go_at_call 90; (with_reducible refine (one_c _ _ _).mono ?_); rintro e w6 ⟨rfl, rfl⟩))
    all_goals
      have st5 : Stepped w0 w5 G G5 := (⟨show Kept G w0 _ from by (repeat (first | with_reducible exact Kept.refl _ _ | with_reducible apply Kept.drew | with_reducible apply Kept.drewN | with_reducible apply Kept.alloc)), fun b hb => .inl hb⟩ : Stepped w0 _ G G).trans hst5
      have HS5 := Lib.hid (((NStep.refl w _ _).keep HK.out).trans (NetC.graph_step (n := n) (ia := ia) (ra := ra) (oa := oa) (ri := ri) (ro := ro) st5))
      have HN5 := Lib.hid (HC.out.graph hg5 st5)
      clear k5 d0 d4 d5 st5 hst5 hg5
      go_wp2_with fail
      go_ret2
      exact one_row ⟨p, G5, ia, ic, ra, rc, oa, oc, ri, ro, rfl, rfl, HN5.out⟩ HS5.out
set_option maxHeartbeats 3200000 in
set_option maxRecDepth 100000 in
theorem does_6 (s : NStp) (la : Option Addr) (lc : Nat) (h : NetAt w n F R N) (hok : N.g.nodes.length ≤ 50000 ∧ N.inb.length ≤ 10000 ∧ N.regs.length ≤ 10000 ∧ N.outb.length ≤ 10000) (hs : s.ok) (h0 : s.what = 6) :
    Calls Tryz.prog 34 #[.pointer (some ⟨n, 0, none⟩), stepV s la lc] w (AddInPost (gateN N andG s.b s.c) w n F R) := by
  have HK0 := (Kept.refl [] w).alloc (.cells (stepCells6 s la lc) 89)
  have HK := Lib.hid HK0
  obtain ⟨p, G, ia, ic, ra, rc, oa, oc, ri, ro, rfl, rfl, hc⟩ := h
  have HC := Lib.hid (hc.kept HK0 (by simp) (by simp))
  have hqG : w.heap.size ∉ G := fun hx => Nat.lt_irrefl _ (hc.gr.lt _ hx)
  have hnG := hc.apart.1
  have LR := Lib.hid (show Lits [s.b, s.c] from by intro x hx; simp at hx; rcases hx with rfl | rfl; exact hs.b; exact hs.c)
  have HB := Lib.hid (fun i => box_cell s la lc w i)
  have HGN := Lib.hid (show gateN N andG s.b s.c = if gone N.g [s.b, s.c] then (N, [0], 1) else ({ N with g := (andG N.g s.b s.c).1 }, [(andG N.g s.b s.c).2], 0) from rfl)
  have HOKS := Lib.hid (fun (hg : gone N.g [s.b, s.c] = false) => gone_false.1 hg)
  have glen := hok.1
  obtain ⟨what, nm, sn, a, b, c, lits⟩ := s
  obtain ⟨ln, hln⟩ : ∃ k, k = lits.length := ⟨_, rfl⟩
  simp only [stepV, stepCells6] at *
  rw [← hln] at HK HC HB ⊢
  subst h0
  clear hs hc hok hln HK0
  rw [HGN.out]
  clear HGN
  cases hgn : gone N.g [b, c] with
  | true =>
    simp only [if_true]
    have HA := Lib.hid (fun (W : World) (hk : Kept [] (w.alloc (.cells #[.int .i64 6, .string nm, .int .i64 sn, .int .u32 (a : Int), .int .u32 (b : Int), .int .u32 (c : Int), .slice la ln lc] 89)) W) (b0 : Nat) (hm : Mine W G b0 (.cells #[.int .u32 (b : Int), .int .u32 (c : Int)] 61 (0, 0))) => and_gone (HC.out.gr.kept0 hk) (show N.g.nodes.length ≤ 200000 by omega) (some ⟨b0, 0, none⟩) 2 2 [b, c] rfl (by omega) (sln_blk (T := 61) hm.heap) LR.out hgn)
    clear hgn HOKS
    go_enter Tryz.func34, Tryz.ntmps34; (try simp only [List.append])
    go_wp2_with fail
    obtain ⟨q, hq⟩ : ∃ q, q = w.heap.size := ⟨_, rfl⟩
    obtain ⟨w0, hw0⟩ : ∃ w0, w0 = w.alloc (.cells #[.int .i64 6, .string nm, .int .i64 sn, .int .u32 (a : Int), .int .u32 (b : Int), .int .u32 (c : Int), .slice la ln lc] 89) := ⟨_, rfl⟩
    rw [← hq, ← hw0] at HB
    rw [← hw0] at HK HC HA
    rw [← hq] at hqG
    rw [← hq, ← hw0]
    have GL := Lib.hid (fun x hx => HC.out.gr.lt x hx)
    have d0 : w0.cell? ⟨n, 0, none⟩ = some (.pointer (some ⟨p, 0, none⟩)) := HC.out.c0
    have d4 : w0.cell? ⟨q, 4, none⟩ = some (.int .u32 (b : Int)) := HB.out 4
    have d5 : w0.cell? ⟨q, 5, none⟩ = some (.int .u32 (c : Int)) := HB.out 5
    clear hq hw0 HB
    go_region_held3 (fun w' => w'.cell? ⟨n, 0, none⟩ = some (.pointer (some ⟨p, 0, none⟩)) ∧ w'.cell? ⟨q, 4, none⟩ = some (.int .u32 (b : Int)) ∧ w'.cell? ⟨q, 5, none⟩ = some (.int .u32 (c : Int)))
      (first | exact ⟨Kept.cell (F := []) (w := w0) (by (repeat (first | with_reducible exact Kept.refl _ _ | with_reducible apply Kept.drew | with_reducible apply Kept.drewN | with_reducible apply Kept.alloc | refine Kept.trans ?_ k5))) d0 (by simp), Kept.cell (F := []) (w := w0) (by (repeat (first | with_reducible exact Kept.refl _ _ | with_reducible apply Kept.drew | with_reducible apply Kept.drewN | with_reducible apply Kept.alloc | refine Kept.trans ?_ k5))) d4 (by simp), Kept.cell (F := []) (w := w0) (by (repeat (first | with_reducible exact Kept.refl _ _ | with_reducible apply Kept.drew | with_reducible apply Kept.drewN | with_reducible apply Kept.alloc | refine Kept.trans ?_ k5))) d5 (by simp)⟩ | exact ⟨Kept.cell (F := []) (w := w0) (by (repeat (first | with_reducible exact Kept.refl _ _ | with_reducible apply Kept.drew | with_reducible apply Kept.drewN | with_reducible apply Kept.alloc))) d0 (by simp), Kept.cell (F := []) (w := w0) (by (repeat (first | with_reducible exact Kept.refl _ _ | with_reducible apply Kept.drew | with_reducible apply Kept.drewN | with_reducible apply Kept.alloc))) d4 (by simp), Kept.cell (F := []) (w := w0) (by (repeat (first | with_reducible exact Kept.refl _ _ | with_reducible apply Kept.drew | with_reducible apply Kept.drewN | with_reducible apply Kept.alloc))) d5 (by simp)⟩ | go_keep)
      (first
        | (go_at_call 96; (with_reducible refine (HA.out _ ?kk1 _ ?kk2).mono ?_); (case kk1 => ((repeat (first | with_reducible exact Kept.refl _ _ | with_reducible apply Kept.drew | with_reducible apply Kept.drewN | with_reducible apply Kept.alloc)))); (case kk2 => (repeat (first | (with_reducible refine Mine.new ?_ (fun x hx => Nat.lt_of_lt_of_le (GL.out x hx) (Kept.size (F := []) (by (repeat (first | with_reducible exact Kept.refl _ _ | with_reducible apply Kept.drew | with_reducible apply Kept.drewN | with_reducible apply Kept.alloc))))); focus (first | rfl | (simp; done))) | with_reducible apply Mine.drew | with_reducible apply Mine.alloc))); rintro e w5 ⟨rfl, k5⟩)
        | (go_at_call 90; (with_reducible refine (one_c _ _ _).mono ?_); rintro e w6 ⟨rfl, rfl⟩))
    all_goals
      have HS5 := Lib.hid ((NStep.refl w (n :: (G ++ (ft ia ++ (ft ra ++ ft oa)))) (rowsOf ri ++ rowsOf ro)).keep (HK.out.trans (show Kept [] w0 w5 from by (repeat (first | with_reducible exact Kept.refl _ _ | with_reducible apply Kept.drew | with_reducible apply Kept.drewN | with_reducible apply Kept.alloc | refine Kept.trans ?_ k5)))))
      have HN5 := Lib.hid (HC.out.kept (show Kept [] w0 w5 from by (repeat (first | with_reducible exact Kept.refl _ _ | with_reducible apply Kept.drew | with_reducible apply Kept.drewN | with_reducible apply Kept.alloc | refine Kept.trans ?_ k5))) (by simp) (by simp))
      clear k5 d0 d4 d5
      go_wp2_with fail
      go_ret2
      exact one_row ⟨p, G, ia, ic, ra, rc, oa, oc, ri, ro, rfl, rfl, HN5.out⟩ HS5.out
  | false =>
    simp only [Bool.false_eq_true, if_false]
    have hok2 := HOKS.out hgn
    have HA := Lib.hid (fun (W : World) (hk : Kept [] (w.alloc (.cells #[.int .i64 6, .string nm, .int .i64 sn, .int .u32 (a : Int), .int .u32 (b : Int), .int .u32 (c : Int), .slice la ln lc] 89)) W) (b0 : Nat) (hm : Mine W G b0 (.cells #[.int .u32 (b : Int), .int .u32 (c : Int)] 61 (0, 0))) => show Calls Tryz.prog 96 #[.pointer (some ⟨p, 0, none⟩), .slice (some ⟨b0, 0, none⟩) 2 2] W (Twos (andG N.g b c) W p G) from aig_And_ (HC.out.gr.kept0 hk) (some ⟨b0, 0, none⟩) 2 2 [b, c] rfl (by omega) (sln_blk (T := 61) hm.heap) hok2 (by intro x hx; rw [mem_ft] at hx; subst hx; exact hm.out))
    clear hgn HOKS hok2
    generalize andG N.g b c = res at *
    obtain ⟨g', y⟩ := res
    go_enter Tryz.func34, Tryz.ntmps34; (try simp only [List.append])
    go_wp2_with fail
    obtain ⟨q, hq⟩ : ∃ q, q = w.heap.size := ⟨_, rfl⟩
    obtain ⟨w0, hw0⟩ : ∃ w0, w0 = w.alloc (.cells #[.int .i64 6, .string nm, .int .i64 sn, .int .u32 (a : Int), .int .u32 (b : Int), .int .u32 (c : Int), .slice la ln lc] 89) := ⟨_, rfl⟩
    rw [← hq, ← hw0] at HB
    rw [← hw0] at HK HC HA
    rw [← hq] at hqG
    rw [← hq, ← hw0]
    have GL := Lib.hid (fun x hx => HC.out.gr.lt x hx)
    have d0 : w0.cell? ⟨n, 0, none⟩ = some (.pointer (some ⟨p, 0, none⟩)) := HC.out.c0
    have d4 : w0.cell? ⟨q, 4, none⟩ = some (.int .u32 (b : Int)) := HB.out 4
    have d5 : w0.cell? ⟨q, 5, none⟩ = some (.int .u32 (c : Int)) := HB.out 5
    clear hq hw0 HB
    go_region_held3 (fun w' => w'.cell? ⟨n, 0, none⟩ = some (.pointer (some ⟨p, 0, none⟩)) ∧ w'.cell? ⟨q, 4, none⟩ = some (.int .u32 (b : Int)) ∧ w'.cell? ⟨q, 5, none⟩ = some (.int .u32 (c : Int)))
      (first | exact ⟨Kept.cell (F := G) (w := w0) (by (repeat (first | with_reducible exact Kept.refl _ _ | with_reducible apply Kept.drew | with_reducible apply Kept.drewN | with_reducible apply Kept.alloc | refine Kept.trans ?_ k5))) d0 hnG, Kept.cell (F := G) (w := w0) (by (repeat (first | with_reducible exact Kept.refl _ _ | with_reducible apply Kept.drew | with_reducible apply Kept.drewN | with_reducible apply Kept.alloc | refine Kept.trans ?_ k5))) d4 hqG, Kept.cell (F := G) (w := w0) (by (repeat (first | with_reducible exact Kept.refl _ _ | with_reducible apply Kept.drew | with_reducible apply Kept.drewN | with_reducible apply Kept.alloc | refine Kept.trans ?_ k5))) d5 hqG⟩ | exact ⟨Kept.cell (F := []) (w := w0) (by (repeat (first | with_reducible exact Kept.refl _ _ | with_reducible apply Kept.drew | with_reducible apply Kept.drewN | with_reducible apply Kept.alloc))) d0 (by simp), Kept.cell (F := []) (w := w0) (by (repeat (first | with_reducible exact Kept.refl _ _ | with_reducible apply Kept.drew | with_reducible apply Kept.drewN | with_reducible apply Kept.alloc))) d4 (by simp), Kept.cell (F := []) (w := w0) (by (repeat (first | with_reducible exact Kept.refl _ _ | with_reducible apply Kept.drew | with_reducible apply Kept.drewN | with_reducible apply Kept.alloc))) d5 (by simp)⟩ | go_keep)
      (first
        | (go_at_call 96; (with_reducible refine (HA.out _ ?kk1 _ ?kk2).mono ?_); (case kk1 => ((repeat (first | with_reducible exact Kept.refl _ _ | with_reducible apply Kept.drew | with_reducible apply Kept.drewN | with_reducible apply Kept.alloc)))); (case kk2 => (repeat (first | (with_reducible refine Mine.new ?_ (fun x hx => Nat.lt_of_lt_of_le (GL.out x hx) (Kept.size (F := []) (by (repeat (first | with_reducible exact Kept.refl _ _ | with_reducible apply Kept.drew | with_reducible apply Kept.drewN | with_reducible apply Kept.alloc))))); focus (first | rfl | (simp; done))) | with_reducible apply Mine.drew | with_reducible apply Mine.alloc))); rintro e w5 ⟨G5, rfl, hg5, hst5⟩; have k5 := hst5.kept)
        | (go_at_call 90; (with_reducible refine (one_c _ _ _).mono ?_); rintro e w6 ⟨rfl, rfl⟩))
    all_goals
      have st5 : Stepped w0 w5 G G5 := (⟨show Kept G w0 _ from by (repeat (first | with_reducible exact Kept.refl _ _ | with_reducible apply Kept.drew | with_reducible apply Kept.drewN | with_reducible apply Kept.alloc)), fun b hb => .inl hb⟩ : Stepped w0 _ G G).trans hst5
      have HS5 := Lib.hid (((NStep.refl w _ _).keep HK.out).trans (NetC.graph_step (n := n) (ia := ia) (ra := ra) (oa := oa) (ri := ri) (ro := ro) st5))
      have HN5 := Lib.hid (HC.out.graph hg5 st5)
      clear k5 d0 d4 d5 st5 hst5 hg5
      go_wp2_with fail
      go_ret2
      exact one_row ⟨p, G5, ia, ic, ra, rc, oa, oc, ri, ro, rfl, rfl, HN5.out⟩ HS5.out
set_option maxHeartbeats 3200000 in
set_option maxRecDepth 100000 in
theorem does_7 (s : NStp) (la : Option Addr) (lc : Nat) (h : NetAt w n F R N) (hok : N.g.nodes.length ≤ 50000 ∧ N.inb.length ≤ 10000 ∧ N.regs.length ≤ 10000 ∧ N.outb.length ≤ 10000) (hs : s.ok) (h0 : s.what = 7) :
    Calls Tryz.prog 34 #[.pointer (some ⟨n, 0, none⟩), stepV s la lc] w (AddInPost (gateN N xorG s.b s.c) w n F R) := by
  have HK0 := (Kept.refl [] w).alloc (.cells (stepCells6 s la lc) 89)
  have HK := Lib.hid HK0
  obtain ⟨p, G, ia, ic, ra, rc, oa, oc, ri, ro, rfl, rfl, hc⟩ := h
  have HC := Lib.hid (hc.kept HK0 (by simp) (by simp))
  have hqG : w.heap.size ∉ G := fun hx => Nat.lt_irrefl _ (hc.gr.lt _ hx)
  have hnG := hc.apart.1
  have LR := Lib.hid (show Lits [s.b, s.c] from by intro x hx; simp at hx; rcases hx with rfl | rfl; exact hs.b; exact hs.c)
  have HB := Lib.hid (fun i => box_cell s la lc w i)
  have HGN := Lib.hid (show gateN N xorG s.b s.c = if gone N.g [s.b, s.c] then (N, [0], 1) else ({ N with g := (xorG N.g s.b s.c).1 }, [(xorG N.g s.b s.c).2], 0) from rfl)
  have HOKS := Lib.hid (fun (hg : gone N.g [s.b, s.c] = false) => gone_false.1 hg)
  have glen := hok.1
  obtain ⟨what, nm, sn, a, b, c, lits⟩ := s
  obtain ⟨ln, hln⟩ : ∃ k, k = lits.length := ⟨_, rfl⟩
  simp only [stepV, stepCells6] at *
  rw [← hln] at HK HC HB ⊢
  subst h0
  clear hs hc hok hln HK0
  rw [HGN.out]
  clear HGN
  cases hgn : gone N.g [b, c] with
  | true =>
    simp only [if_true]
    have HA := Lib.hid (fun (W : World) (hk : Kept [] (w.alloc (.cells #[.int .i64 7, .string nm, .int .i64 sn, .int .u32 (a : Int), .int .u32 (b : Int), .int .u32 (c : Int), .slice la ln lc] 89)) W) (b0 : Nat) (hm : Mine W G b0 (.cells #[.int .u32 (b : Int), .int .u32 (c : Int)] 61 (0, 0))) => xor_gone (HC.out.gr.kept0 hk) (show N.g.nodes.length ≤ 200000 by omega) (some ⟨b0, 0, none⟩) 2 2 [b, c] rfl (by omega) (sln_blk (T := 61) hm.heap) LR.out hgn)
    clear hgn HOKS
    go_enter Tryz.func34, Tryz.ntmps34; (try simp only [List.append])
    go_wp2_with fail
    obtain ⟨q, hq⟩ : ∃ q, q = w.heap.size := ⟨_, rfl⟩
    obtain ⟨w0, hw0⟩ : ∃ w0, w0 = w.alloc (.cells #[.int .i64 7, .string nm, .int .i64 sn, .int .u32 (a : Int), .int .u32 (b : Int), .int .u32 (c : Int), .slice la ln lc] 89) := ⟨_, rfl⟩
    rw [← hq, ← hw0] at HB
    rw [← hw0] at HK HC HA
    rw [← hq] at hqG
    rw [← hq, ← hw0]
    have GL := Lib.hid (fun x hx => HC.out.gr.lt x hx)
    have d0 : w0.cell? ⟨n, 0, none⟩ = some (.pointer (some ⟨p, 0, none⟩)) := HC.out.c0
    have d4 : w0.cell? ⟨q, 4, none⟩ = some (.int .u32 (b : Int)) := HB.out 4
    have d5 : w0.cell? ⟨q, 5, none⟩ = some (.int .u32 (c : Int)) := HB.out 5
    clear hq hw0 HB
    go_region_held3 (fun w' => w'.cell? ⟨n, 0, none⟩ = some (.pointer (some ⟨p, 0, none⟩)) ∧ w'.cell? ⟨q, 4, none⟩ = some (.int .u32 (b : Int)) ∧ w'.cell? ⟨q, 5, none⟩ = some (.int .u32 (c : Int)))
      (first | exact ⟨Kept.cell (F := []) (w := w0) (by (repeat (first | with_reducible exact Kept.refl _ _ | with_reducible apply Kept.drew | with_reducible apply Kept.drewN | with_reducible apply Kept.alloc | refine Kept.trans ?_ k5))) d0 (by simp), Kept.cell (F := []) (w := w0) (by (repeat (first | with_reducible exact Kept.refl _ _ | with_reducible apply Kept.drew | with_reducible apply Kept.drewN | with_reducible apply Kept.alloc | refine Kept.trans ?_ k5))) d4 (by simp), Kept.cell (F := []) (w := w0) (by (repeat (first | with_reducible exact Kept.refl _ _ | with_reducible apply Kept.drew | with_reducible apply Kept.drewN | with_reducible apply Kept.alloc | refine Kept.trans ?_ k5))) d5 (by simp)⟩ | exact ⟨Kept.cell (F := []) (w := w0) (by (repeat (first | with_reducible exact Kept.refl _ _ | with_reducible apply Kept.drew | with_reducible apply Kept.drewN | with_reducible apply Kept.alloc))) d0 (by simp), Kept.cell (F := []) (w := w0) (by (repeat (first | with_reducible exact Kept.refl _ _ | with_reducible apply Kept.drew | with_reducible apply Kept.drewN | with_reducible apply Kept.alloc))) d4 (by simp), Kept.cell (F := []) (w := w0) (by (repeat (first | with_reducible exact Kept.refl _ _ | with_reducible apply Kept.drew | with_reducible apply Kept.drewN | with_reducible apply Kept.alloc))) d5 (by simp)⟩ | go_keep)
      (first
        | (go_at_call 97; (with_reducible refine (HA.out _ ?kk1 _ ?kk2).mono ?_); (case kk1 => ((repeat (first | with_reducible exact Kept.refl _ _ | with_reducible apply Kept.drew | with_reducible apply Kept.drewN | with_reducible apply Kept.alloc)))); (case kk2 => (repeat (first | (with_reducible refine Mine.new ?_ (fun x hx => Nat.lt_of_lt_of_le (GL.out x hx) (Kept.size (F := []) (by (repeat (first | with_reducible exact Kept.refl _ _ | with_reducible apply Kept.drew | with_reducible apply Kept.drewN | with_reducible apply Kept.alloc))))); focus (first | rfl | (simp; done))) | with_reducible apply Mine.drew | with_reducible apply Mine.alloc))); rintro e w5 ⟨rfl, k5⟩)
        | (go_at_call 90; (with_reducible refine (one_c _ _ _).mono ?_); rintro e w6 ⟨rfl, rfl⟩))
    all_goals
      have HS5 := Lib.hid ((NStep.refl w (n :: (G ++ (ft ia ++ (ft ra ++ ft oa)))) (rowsOf ri ++ rowsOf ro)).keep (HK.out.trans (show Kept [] w0 w5 from by (repeat (first | with_reducible exact Kept.refl _ _ | with_reducible apply Kept.drew | with_reducible apply Kept.drewN | with_reducible apply Kept.alloc | refine Kept.trans ?_ k5)))))
      have HN5 := Lib.hid (HC.out.kept (show Kept [] w0 w5 from by (repeat (first | with_reducible exact Kept.refl _ _ | with_reducible apply Kept.drew | with_reducible apply Kept.drewN | with_reducible apply Kept.alloc | refine Kept.trans ?_ k5))) (by simp) (by simp))
      clear k5 d0 d4 d5
      go_wp2_with fail
      go_ret2
      exact one_row ⟨p, G, ia, ic, ra, rc, oa, oc, ri, ro, rfl, rfl, HN5.out⟩ HS5.out
  | false =>
    simp only [Bool.false_eq_true, if_false]
    have hok2 := HOKS.out hgn
    have HA := Lib.hid (fun (W : World) (hk : Kept [] (w.alloc (.cells #[.int .i64 7, .string nm, .int .i64 sn, .int .u32 (a : Int), .int .u32 (b : Int), .int .u32 (c : Int), .slice la ln lc] 89)) W) (b0 : Nat) (hm : Mine W G b0 (.cells #[.int .u32 (b : Int), .int .u32 (c : Int)] 61 (0, 0))) => show Calls Tryz.prog 97 #[.pointer (some ⟨p, 0, none⟩), .slice (some ⟨b0, 0, none⟩) 2 2] W (Twos (xorG N.g b c) W p G) from aig_Xor_ (HC.out.gr.kept0 hk) (some ⟨b0, 0, none⟩) 2 2 [b, c] rfl (by omega) (sln_blk (T := 61) hm.heap) hok2 (by intro x hx; rw [mem_ft] at hx; subst hx; exact hm.out))
    clear hgn HOKS hok2
    generalize xorG N.g b c = res at *
    obtain ⟨g', y⟩ := res
    go_enter Tryz.func34, Tryz.ntmps34; (try simp only [List.append])
    go_wp2_with fail
    obtain ⟨q, hq⟩ : ∃ q, q = w.heap.size := ⟨_, rfl⟩
    obtain ⟨w0, hw0⟩ : ∃ w0, w0 = w.alloc (.cells #[.int .i64 7, .string nm, .int .i64 sn, .int .u32 (a : Int), .int .u32 (b : Int), .int .u32 (c : Int), .slice la ln lc] 89) := ⟨_, rfl⟩
    rw [← hq, ← hw0] at HB
    rw [← hw0] at HK HC HA
    rw [← hq] at hqG
    rw [← hq, ← hw0]
    have GL := Lib.hid (fun x hx => HC.out.gr.lt x hx)
    have d0 : w0.cell? ⟨n, 0, none⟩ = some (.pointer (some ⟨p, 0, none⟩)) := HC.out.c0
    have d4 : w0.cell? ⟨q, 4, none⟩ = some (.int .u32 (b : Int)) := HB.out 4
    have d5 : w0.cell? ⟨q, 5, none⟩ = some (.int .u32 (c : Int)) := HB.out 5
    clear hq hw0 HB
    go_region_held3 (fun w' => w'.cell? ⟨n, 0, none⟩ = some (.pointer (some ⟨p, 0, none⟩)) ∧ w'.cell? ⟨q, 4, none⟩ = some (.int .u32 (b : Int)) ∧ w'.cell? ⟨q, 5, none⟩ = some (.int .u32 (c : Int)))
      (first | exact ⟨Kept.cell (F := G) (w := w0) (by (repeat (first | with_reducible exact Kept.refl _ _ | with_reducible apply Kept.drew | with_reducible apply Kept.drewN | with_reducible apply Kept.alloc | refine Kept.trans ?_ k5))) d0 hnG, Kept.cell (F := G) (w := w0) (by (repeat (first | with_reducible exact Kept.refl _ _ | with_reducible apply Kept.drew | with_reducible apply Kept.drewN | with_reducible apply Kept.alloc | refine Kept.trans ?_ k5))) d4 hqG, Kept.cell (F := G) (w := w0) (by (repeat (first | with_reducible exact Kept.refl _ _ | with_reducible apply Kept.drew | with_reducible apply Kept.drewN | with_reducible apply Kept.alloc | refine Kept.trans ?_ k5))) d5 hqG⟩ | exact ⟨Kept.cell (F := []) (w := w0) (by (repeat (first | with_reducible exact Kept.refl _ _ | with_reducible apply Kept.drew | with_reducible apply Kept.drewN | with_reducible apply Kept.alloc))) d0 (by simp), Kept.cell (F := []) (w := w0) (by (repeat (first | with_reducible exact Kept.refl _ _ | with_reducible apply Kept.drew | with_reducible apply Kept.drewN | with_reducible apply Kept.alloc))) d4 (by simp), Kept.cell (F := []) (w := w0) (by (repeat (first | with_reducible exact Kept.refl _ _ | with_reducible apply Kept.drew | with_reducible apply Kept.drewN | with_reducible apply Kept.alloc))) d5 (by simp)⟩ | go_keep)
      (first
        | (go_at_call 97; (with_reducible refine (HA.out _ ?kk1 _ ?kk2).mono ?_); (case kk1 => ((repeat (first | with_reducible exact Kept.refl _ _ | with_reducible apply Kept.drew | with_reducible apply Kept.drewN | with_reducible apply Kept.alloc)))); (case kk2 => (repeat (first | (with_reducible refine Mine.new ?_ (fun x hx => Nat.lt_of_lt_of_le (GL.out x hx) (Kept.size (F := []) (by (repeat (first | with_reducible exact Kept.refl _ _ | with_reducible apply Kept.drew | with_reducible apply Kept.drewN | with_reducible apply Kept.alloc))))); focus (first | rfl | (simp; done))) | with_reducible apply Mine.drew | with_reducible apply Mine.alloc))); rintro e w5 ⟨G5, rfl, hg5, hst5⟩; have k5 := hst5.kept)
        | (go_at_call 90; (with_reducible refine (one_c _ _ _).mono ?_); rintro e w6 ⟨rfl, rfl⟩))
    all_goals
      have st5 : Stepped w0 w5 G G5 := (⟨show Kept G w0 _ from by (repeat (first | with_reducible exact Kept.refl _ _ | with_reducible apply Kept.drew | with_reducible apply Kept.drewN | with_reducible apply Kept.alloc)), fun b hb => .inl hb⟩ : Stepped w0 _ G G).trans hst5
      have HS5 := Lib.hid (((NStep.refl w _ _).keep HK.out).trans (NetC.graph_step (n := n) (ia := ia) (ra := ra) (oa := oa) (ri := ri) (ro := ro) st5))
      have HN5 := Lib.hid (HC.out.graph hg5 st5)
      clear k5 d0 d4 d5 st5 hst5 hg5
      go_wp2_with fail
      go_ret2
      exact one_row ⟨p, G5, ia, ic, ra, rc, oa, oc, ri, ro, rfl, rfl, HN5.out⟩ HS5.out
end Go.Proofs.YtdmcdhkkbkgnbaaGreat
