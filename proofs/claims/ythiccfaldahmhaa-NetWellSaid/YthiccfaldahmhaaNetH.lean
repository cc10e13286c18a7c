/-
  Law 06: Does, a step done with a netlist.
-/
import Derived.Test.YthiccfaldahmhaaNetG
namespace Go.Proofs.Ythiccfaldahmhaa
open Go.ChangeShapes Go.WideShapes Go.ChangeAt Go.RowKit
open Go.Maps (Keyed)
open Go.WideMaps
set_option linter.unusedVariables false
set_option linter.unusedSimpArgs false

variable {w w' : World} {p n : Nat} {F R S : List Nat} {g : Gr} {N : Nt}
def stepV (s : NStp) (la : Option Addr) (lc : Nat) : Value := .agg (stepCells6 s la lc)
theorem box_cell (s : NStp) (la : Option Addr) (lc : Nat) (w : World) (i : Nat) : (w.alloc (.cells (stepCells6 s la lc) 39)).cell? ⟨w.heap.size, i, none⟩ = (stepCells6 s la lc)[i]? := blk_cell (heap_alloc_new w _) i
set_option maxHeartbeats 3200000 in
set_option maxRecDepth 100000 in
theorem does_0 (s : NStp) (la : Option Addr) (lc : Nat) (h : NetAt w n F R N) (hok : N.g.nodes.length ≤ 50000 ∧ N.inb.length ≤ 10000 ∧ N.regs.length ≤ 10000 ∧ N.outb.length ≤ 10000) (hs : s.ok) (h0 : s.what = 0) :
    Calls Try.prog 8 #[.pointer (some ⟨n, 0, none⟩), stepV s la lc] w (AddInPost (addIn N s.name s.n) w n F R) := by
  have H := Lib.hid (addin_c (h.kept0 ((Kept.refl [] w).alloc (.cells (stepCells6 s la lc) 39))) (by omega) s.name hs.nm s.n hs.n1 hs.n2)
  have HK := Lib.hid ((Kept.refl [] w).alloc (.cells (stepCells6 s la lc) 39))
  generalize addIn N s.name s.n = res at *
  obtain ⟨what, nm, sn, a, b, c, lits⟩ := s
  simp only [stepV, stepCells6] at *
  subst h0
  clear hs h
  go_enter Try.func8, Try.ntmps8; (try simp only [List.append])
  go_wp2_with fail
  refine H.out.mono ?_
  rintro e w1 ⟨F', R', a', c', k', rfl, hn, hst, ho, hf⟩
  have HN := Lib.hid hn
  have HS := Lib.hid hst
  have HO := Lib.hid ho
  have HF := Lib.hid hf
  clear hn hst ho hf
  go_wp2_with fail
  go_ret2
  exact ⟨F', R', a', c', k', rfl, HN.out, ((NStep.refl w F R).keep HK.out).trans HS.out, HO.out, fun b hb => ⟨Nat.le_trans HK.out.size (HF.out b hb).1, (HF.out b hb).2⟩⟩
theorem rem_spell (n : Int) (h1 : -9223372036854775808 ≤ n) (h2 : n ≤ 9223372036854775807) : (n.tmod 2 != 0) = decide (n % 2 ≠ 0) := by
  rw [Bool.eq_iff_iff, bne_iff_ne, decide_eq_true_eq]
  have : n.tmod 2 = 0 ↔ n % 2 = 0 := by
    constructor
    · intro h; have := Int.dvd_of_tmod_eq_zero h; omega
    · intro h; exact Int.tmod_eq_zero_of_dvd (by omega)
  rw [ne_eq, ne_eq, this]
set_option maxHeartbeats 3200000 in
set_option maxRecDepth 100000 in
theorem does_1 (s : NStp) (la : Option Addr) (lc : Nat) (h : NetAt w n F R N) (hok : N.g.nodes.length ≤ 50000 ∧ N.inb.length ≤ 10000 ∧ N.regs.length ≤ 10000 ∧ N.outb.length ≤ 10000) (hs : s.ok) (h0 : s.what = 1) :
    Calls Try.prog 8 #[.pointer (some ⟨n, 0, none⟩), stepV s la lc] w (AddInPost ((addReg N (decide (s.n % 2 ≠ 0))).1, [(addReg N (decide (s.n % 2 ≠ 0))).2], 0) w n F R) := by
  have H := Lib.hid (fun b => addreg_c (h.kept0 ((Kept.refl [] w).alloc (.cells (stepCells6 s la lc) 39))) (by omega) b)
  have HK := Lib.hid ((Kept.refl [] w).alloc (.cells (stepCells6 s la lc) 39))
  have hrm := rem_spell s.n hs.n1 hs.n2
  have b1 := hs.n1
  have b2 := hs.n2
  generalize decide (s.n % 2 ≠ 0) = rb at *
  have H2 := Lib.hid (H.out rb)
  clear H
  generalize addReg N rb = res at *
  obtain ⟨N', y⟩ := res
  obtain ⟨what, nm, sn, a, b, c, lits⟩ := s
  simp only [stepV, stepCells6] at *
  subst h0
  clear hs h
  go_enter Try.func8, Try.ntmps8; (try simp only [List.append])
  go_wp2_with fail
  refine H2.out.mono ?_
  rintro e w1 ⟨F', rfl, hn, hst⟩
  have HN := Lib.hid hn
  have HS := Lib.hid (((NStep.refl w F R).keep HK.out).trans hst)
  clear hn hst
  go_wp2_with fail
  refine (one_c _ _ _).mono ?_
  rintro e w2 ⟨rfl, rfl⟩
  go_wp2_with fail
  go_ret2
  exact one_row HN.out HS.out
set_option maxHeartbeats 3200000 in
set_option maxRecDepth 100000 in
theorem does_2 (s : NStp) (la : Option Addr) (lc : Nat) (h : NetAt w n F R N) (hok : N.g.nodes.length ≤ 50000 ∧ N.inb.length ≤ 10000 ∧ N.regs.length ≤ 10000 ∧ N.outb.length ≤ 10000) (hs : s.ok) (h0 : s.what = 2) :
    Calls Try.prog 8 #[.pointer (some ⟨n, 0, none⟩), stepV s la lc] w (AddInPost ((setReg N s.a s.b s.c).1, [], (setReg N s.a s.b s.c).2) w n F R) := by
  have H := Lib.hid (setreg_c (h.kept0 ((Kept.refl [] w).alloc (.cells (stepCells6 s la lc) 39))) (by omega) s.a s.b s.c hs.a hs.b hs.c)
  have HK := Lib.hid ((Kept.refl [] w).alloc (.cells (stepCells6 s la lc) 39))
  generalize setReg N s.a s.b s.c = res at *
  obtain ⟨N', y⟩ := res
  obtain ⟨what, nm, sn, a, b, c, lits⟩ := s
  simp only [stepV, stepCells6] at *
  subst h0
  clear hs h
  go_enter Try.func8, Try.ntmps8; (try simp only [List.append])
  go_wp2_with fail
  refine H.out.mono ?_
  rintro e w1 ⟨F', R', rfl, hn, hst⟩
  have HN := Lib.hid hn
  have HS := Lib.hid (((NStep.refl w F R).keep HK.out).trans hst)
  clear hn hst
  go_wp2_with fail
  go_ret2
  exact ⟨F', R', none, 0, 0, rfl, HN.out, HS.out, Own.nil _ _, by simp [ft]⟩
set_option maxHeartbeats 3200000 in
set_option maxRecDepth 100000 in
theorem does_8 (s : NStp) (la : Option Addr) (lc : Nat) (h : NetAt w n F R N) (hok : N.g.nodes.length ≤ 50000 ∧ N.inb.length ≤ 10000 ∧ N.regs.length ≤ 10000 ∧ N.outb.length ≤ 10000) (hs : s.ok) (h0 : s.what = 8) :
    Calls Try.prog 8 #[.pointer (some ⟨n, 0, none⟩), stepV s la lc] w (AddInPost ({ N with g := (inputG N.g).1 }, [2 * N.g.nodes.length], 0) w n F R) := by
  have HK := Lib.hid ((Kept.refl [] w).alloc (.cells (stepCells6 s la lc) 39))
  obtain ⟨p, G, ia, ic, ra, rc, oa, oc, ri, ro, rfl, rfl, hc⟩ := h
  have HC := Lib.hid (hc.kept HK.out (by simp) (by simp))
  have H := Lib.hid (aig_input HC.out.gr (show N.g.nodes.length ≤ 199000 by omega))
  have HV := Lib.hid (show (inputG N.g).2 = 2 * N.g.nodes.length from rfl)
  generalize inputG N.g = res at *
  obtain ⟨g', y⟩ := res
  simp only at HV
  rw [← HV.out]
  have c0 := HC.out.c0
  obtain ⟨what, nm, sn, a, b, c, lits⟩ := s
  simp only [stepV, stepCells6] at *
  subst h0
  clear hs hc
  go_enter Try.func8, Try.ntmps8; (try simp only [List.append])
  go_wp2_with fail
  refine H.out.mono ?_
  rintro e w1 ⟨G', rfl, hg, hst⟩
  have HN := Lib.hid (HC.out.graph hg hst)
  have HS := Lib.hid (((NStep.refl w _ _).keep HK.out).trans (NetC.graph_step (n := n) (ia := ia) (ra := ra) (oa := oa) (ri := ri) (ro := ro) hst))
  clear hg hst c0
  go_wp2_with fail
  refine (one_c _ _ _).mono ?_
  rintro e w2 ⟨rfl, rfl⟩
  go_wp2_with fail
  go_ret2
  exact one_row ⟨p, G', ia, ic, ra, rc, oa, oc, ri, ro, rfl, rfl, HN.out⟩ HS.out
set_option maxHeartbeats 3200000 in
set_option maxRecDepth 100000 in
theorem does_9 (s : NStp) (la : Option Addr) (lc : Nat) (h : NetAt w n F R N) (h0 : s.what < 0 ∨ 8 < s.what) :
    Calls Try.prog 8 #[.pointer (some ⟨n, 0, none⟩), stepV s la lc] w (AddInPost (N, [], 0) w n F R) := by
  have HPO := Lib.hid (AddInPost.no (k := 0) h ((Kept.refl [] w).alloc (.cells (stepCells6 s la lc) 39)))
  generalize ((N, [], 0) : Nt × List Nat × Nat) = res at *
  obtain ⟨what, nm, sn, a, b, c, lits⟩ := s
  simp only [stepV, stepCells6] at *
  have e0 : (what == 0) = false := by rw [beq_eq_false_iff_ne]; omega
  have e1 : (what == 1) = false := by rw [beq_eq_false_iff_ne]; omega
  have e2 : (what == 2) = false := by rw [beq_eq_false_iff_ne]; omega
  have e3 : (what == 3) = false := by rw [beq_eq_false_iff_ne]; omega
  have e4 : (what == 4) = false := by rw [beq_eq_false_iff_ne]; omega
  have e5 : (what == 5) = false := by rw [beq_eq_false_iff_ne]; omega
  have e6 : (what == 6) = false := by rw [beq_eq_false_iff_ne]; omega
  have e7 : (what == 7) = false := by rw [beq_eq_false_iff_ne]; omega
  have e8 : (what == 8) = false := by rw [beq_eq_false_iff_ne]; omega
  clear h0 h
  go_enter Try.func8, Try.ntmps8; (try simp only [List.append])
  go_wp2_with fail
  go_ret2
  exact HPO.out
end Go.Proofs.Ythiccfaldahmhaa
