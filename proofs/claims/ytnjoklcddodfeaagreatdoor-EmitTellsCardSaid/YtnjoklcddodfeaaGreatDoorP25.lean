/-
  Law 06: Does, a step done with a netlist.
  Law 06: what a step does with a netlist.
-/
import Derived.Test.YtnjoklcddodfeaaGreatDoorP22
namespace Go.Proofs.YtnjoklcddodfeaaGreatDoor
open Go.ChangeShapes Go.WideShapes Go.ChangeAt Go.RowKit
open Go.Maps (Keyed)
open Go.WideMaps
set_option linter.unusedVariables false
set_option linter.unusedSimpArgs false

variable {w w' : World} {p n : Nat} {F R S : List Nat} {g : Gr} {N : Nt}
def RowNew (l : List Nat) (n : Nat) (w : World) (e : Ending) (w' : World) : Prop := ∃ a c, e = .returned (.slice a n c) ∧ Own w' 39 a n c (nats .u32 l) ∧ Stepped w w' [] (ft a)
set_option maxHeartbeats 800000 in
theorem of_c (a : Option Addr) (c n : Nat) (l : List Nat) (w : World) (hl : l.length = n) (hn : n ≤ 140737488351232) (hs : SlN w .u32 a l) :
    Calls Tryz.prog 65 #[.slice a n c] w (RowNew (l.take 70) (min n 70) w) := by
  have HL := Lib.hid hl
  clear hl
  go_enter Tryz.func65, Tryz.ntmps65
  go_wp2_with fail
  go_loopw [3, 4] (fun v i wr => ∃ (k : Nat) (a' : Option Addr) (c' : Nat), k ≤ n ∧ k ≤ 70 ∧ i = .int .i64 k ∧ v = .slice a' k c' ∧ Own wr 39 a' k c' (nats .u32 (l.take k)) ∧ Stepped w wr [] (ft a')) (fun _ i _ => 70 - (intOf i).toNat)
  case atStart => exact ⟨0, none, 0, Nat.zero_le _, by omega, rfl, rfl, Own.nil _ _, .refl _ _⟩
  case round =>
    obtain ⟨k, a', c', hk, h70, rfl, rfl, hown, hst⟩ := hrel
    by_cases hlt : k < n ∧ k < 70
    · obtain ⟨h1, h2⟩ := hlt
      have hkl : k < l.length := by rw [HL.out]; exact h1
      obtain ⟨ad, rfl, hcx⟩ := (hs.kept0 hst.kept) k hkl
      have HT := Lib.hid (take_snoc l k hkl)
      generalize l[k] = x at *
      go_wp2_with (at_builtin; refine wpList_push rfl rfl Tryz.underlying71 lit_info' rfl rfl rfl hown rfl (by unfold maxLen; omega) (by omega) ?_; intro a1 c1 w5 hown5 hst5)
      go_roundw
      case rel => exact ⟨k + 1, a1, c1, by omega, by omega, by go_num, rfl, by rw [HT.out, ← nats_append]; exact hown5, hst.trans hst5⟩
      case measure => simp [intOf]; omega
    · have HE := Lib.hid (show l.take k = l.take 70 from by
        have := HL.out
        by_cases h : k < 70
        · rw [List.take_of_length_le (by omega), List.take_of_length_le (by omega)]
        · rw [show k = 70 by omega])
      have HK := Lib.hid (show k = min n 70 from by omega)
      rw [HE.out] at hown
      have HO := Lib.hid hown
      have HS := Lib.hid hst
      clear hown hst HE
      by_cases h1 : k < n
      · have h2 : ¬ k < 70 := by omega
        clear hlt
        go_wp2_with fail
        go_ret
        exact ⟨a', c', by rw [← HK.out]; rfl, by rw [← HK.out]; exact HO.out, HS.out⟩
      · clear hlt
        go_wp2_with fail
        go_ret
        exact ⟨a', c', by rw [← HK.out]; rfl, by rw [← HK.out]; exact HO.out, HS.out⟩
def NoGate (w : World) (e : Ending) (w' : World) : Prop := e = .returned (.tuple #[.int .u32 0, .int .i64 1]) ∧ Kept [] w w'
theorem asksE_gone {l : List Nat} (h : gone g l = true) : asksE g l = 1 := by
  have : bad g.nodes.length l = true := h
  unfold asksE; rw [this]; rfl
theorem and_gone (hg : GraphAt w p F g) (hm : g.nodes.length ≤ 200000) (a : Option Addr) (c len : Nat) (l : List Nat) (hl : l.length = len) (hlm : len ≤ 1000000) (hs : SlN w .u32 a l) (hr : Lits l) (hb : gone g l = true) :
    Calls Tryz.prog 66 #[.pointer (some ⟨p, 0, none⟩), .slice a len c] w (NoGate w) := by
  have HA := Lib.hid (aig_asks hg hm a c len l hl hlm hs hr)
  rw [asksE_gone hb] at HA
  have HM := Lib.hid (fun (v f : Value) => show Calls Tryz.prog 107 #[.pointer (some ⟨p, 0, none⟩), v, f, .slice a len c] w (NoGate w) from by
    go_enter Tryz.func107, Tryz.ntmps107
    go_wp2_with fail
    refine HA.out.mono ?_
    rintro e w1 ⟨rfl, hk1⟩
    have K1 := Lib.hid hk1
    clear hk1
    go_wp2_with fail
    go_ret2
    exact ⟨rfl, K1.out⟩)
  clear hg hl hs hr hb HA
  go_enter Tryz.func66, Tryz.ntmps66
  go_wp2_with fail
  refine (HM.out _ _).mono ?_
  rintro e w1 ⟨rfl, hk1⟩
  have K1 := Lib.hid hk1
  clear hk1
  go_wp2_with fail
  go_ret2
  exact ⟨rfl, K1.out⟩
theorem xor_gone (hg : GraphAt w p F g) (hm : g.nodes.length ≤ 200000) (a : Option Addr) (c len : Nat) (l : List Nat) (hl : l.length = len) (hlm : len ≤ 1000000) (hs : SlN w .u32 a l) (hr : Lits l) (hb : gone g l = true) :
    Calls Tryz.prog 67 #[.pointer (some ⟨p, 0, none⟩), .slice a len c] w (NoGate w) := by
  have HA := Lib.hid (aig_asks hg hm a c len l hl hlm hs hr)
  rw [asksE_gone hb] at HA
  have HM := Lib.hid (fun (v f : Value) => show Calls Tryz.prog 107 #[.pointer (some ⟨p, 0, none⟩), v, f, .slice a len c] w (NoGate w) from by
    go_enter Tryz.func107, Tryz.ntmps107
    go_wp2_with fail
    refine HA.out.mono ?_
    rintro e w1 ⟨rfl, hk1⟩
    have K1 := Lib.hid hk1
    clear hk1
    go_wp2_with fail
    go_ret2
    exact ⟨rfl, K1.out⟩)
  clear hg hl hs hr hb HA
  go_enter Tryz.func67, Tryz.ntmps67
  go_wp2_with fail
  refine (HM.out _ _).mono ?_
  rintro e w1 ⟨rfl, hk1⟩
  have K1 := Lib.hid hk1
  clear hk1
  go_wp2_with fail
  go_ret2
  exact ⟨rfl, K1.out⟩
theorem one_c (x : Int) (k : Int) (w : World) : Calls Tryz.prog 60 #[.int .u32 x, .int .i64 k] w fun e w' => e = .returned (.tuple #[.slice (some ⟨w.heap.size, 0, none⟩) 1 1, .int .i64 k]) ∧ w' = w.alloc (.cells #[.int .u32 x] 39) := by
  go_enter Tryz.func60, Tryz.ntmps60
  go_wp2
  go_ret2
  exact ⟨rfl, rfl⟩
/-- a call of a gate on a netlist's graph -/
def GatePostN (r : Nt × List Nat × Nat) (x : Nat) (w : World) (n : Nat) (F R : List Nat) (e : Ending) (w' : World) : Prop :=
  ∃ F' x, e = .returned (.tuple #[.int .u32 (x : Nat), .int .i64 (r.2.2 : Nat)]) ∧ NetAt w' n F' R r.1 ∧ NStep w w' F R F' R ∧ r.2.1 = [x]
def stepCells6 (s : NStp) (la : Option Addr) (lc : Nat) : Array Value := #[.int .i64 s.what, .string s.name, .int .i64 s.n, .int .u32 (s.a : Int), .int .u32 (s.b : Int), .int .u32 (s.c : Int), .slice la s.lits.length lc]
structure NStp.ok (s : NStp) : Prop where
  nm : s.name.size ≤ 140737488351232
  n1 : -9223372036854775808 ≤ s.n
  n2 : s.n ≤ 9223372036854775807
  a : s.a < 4294967296
  b : s.b < 4294967296
  c : s.c < 4294967296
  l : ∀ x ∈ s.lits, x < 4294967296
  ll : s.lits.length ≤ 140737488351232
theorem whole_row {e : TypeId} {gb n : Nat} {xs : List Value} (h : w.heap[gb]? = some (.cells xs.toArray e (0, 0))) (hl : xs.length = n) (hn : n ≤ maxLen) : Own w e (some ⟨gb, 0, none⟩) n n xs :=
  ⟨by rw [hl, Nat.mul_one], .inr ⟨gb, n, xs.toArray, rfl, Nat.zero_le _, h, Nat.le_refl _, hn, by simp [hl], by simp [← hl]⟩⟩
/-- a new row of one literal -/
theorem one_row {W : World} {x k : Nat} {F' R' : List Nat} (hn : NetAt W n F' R' N) (hst : NStep w W F R F' R') :
    ∃ F' R' a c k', Ending.returned (.tuple #[.slice (some ⟨W.heap.size, 0, none⟩) 1 1, .int .i64 (k : Nat)]) = .returned (.tuple #[.slice a k' c, .int .i64 (k : Nat)]) ∧ NetAt (W.alloc (.cells #[.int .u32 (x : Int)] 39)) n F' R' N ∧ NStep w (W.alloc (.cells #[.int .u32 (x : Int)] 39)) F R F' R' ∧ Own (W.alloc (.cells #[.int .u32 (x : Int)] 39)) 39 a k' c (nats .u32 [x]) ∧ ∀ b ∈ ft a, w.heap.size ≤ b ∧ b ∉ F' ∧ b ∉ R' := by
  have hk : Kept [] W (W.alloc (.cells #[.int .u32 (x : Int)] 39)) := (Kept.refl [] W).alloc _
  refine ⟨F', R', some ⟨W.heap.size, 0, none⟩, 1, 1, rfl, hn.kept0 hk, hst.keep hk, whole_row (heap_alloc_new W _) rfl (by unfold maxLen; omega), fun b hb => ?_⟩
  rw [mem_ft] at hb
  subst hb
  exact ⟨hst.st.kept.size, fun h => Nat.lt_irrefl _ (hn.lt.1 _ h), fun h => Nat.lt_irrefl _ (hn.lt.2 _ h)⟩
end Go.Proofs.YtnjoklcddodfeaaGreatDoor

namespace Go.Proofs.YtnjoklcddodfeaaGreatDoor
open Go.ChangeShapes Go.WideShapes Go.ChangeAt Go.RowKit
open Go.Maps (Keyed)
open Go.WideMaps
set_option linter.unusedVariables false
set_option linter.unusedSimpArgs false

variable {w w' : World} {p n : Nat} {F R S : List Nat} {g : Gr} {N : Nt}
def stepV (s : NStp) (la : Option Addr) (lc : Nat) : Value := .agg (stepCells6 s la lc)
theorem box_cell (s : NStp) (la : Option Addr) (lc : Nat) (w : World) (i : Nat) : (w.alloc (.cells (stepCells6 s la lc) 86)).cell? ⟨w.heap.size, i, none⟩ = (stepCells6 s la lc)[i]? := blk_cell (heap_alloc_new w _) i
set_option maxHeartbeats 3200000 in
set_option maxRecDepth 100000 in
theorem does_0 (s : NStp) (la : Option Addr) (lc : Nat) (h : NetAt w n F R N) (hok : N.g.nodes.length ≤ 50000 ∧ N.inb.length ≤ 10000 ∧ N.regs.length ≤ 10000 ∧ N.outb.length ≤ 10000) (hs : s.ok) (h0 : s.what = 0) :
    Calls Tryz.prog 27 #[.pointer (some ⟨n, 0, none⟩), stepV s la lc] w (AddInPost (addIn N s.name s.n) w n F R) := by
  have H := Lib.hid (addin_c (h.kept0 ((Kept.refl [] w).alloc (.cells (stepCells6 s la lc) 86))) (by omega) s.name hs.nm s.n hs.n1 hs.n2)
  have HK := Lib.hid ((Kept.refl [] w).alloc (.cells (stepCells6 s la lc) 86))
  generalize addIn N s.name s.n = res at *
  obtain ⟨what, nm, sn, a, b, c, lits⟩ := s
  simp only [stepV, stepCells6] at *
  subst h0
  clear hs h
  go_enter Tryz.func27, Tryz.ntmps27; (try simp only [List.append])
  go_wp2_with fail
  refine H.out.mono ?_
  rintro e w1 ⟨F', R', a', c', k', rfl, hn, hst, ho, hf⟩
  have HN := Lib.hid hn
  have HS := Lib.hid hst
  have HO := Lib.hid ho
  have HF := Lib.hid hf
  clear hn hst ho hf
  go_wp2_with fail
  go_ret2
  exact ⟨F', R', a', c', k', rfl, HN.out, ((NStep.refl w F R).keep HK.out).trans HS.out, HO.out, fun b hb => ⟨Nat.le_trans HK.out.size (HF.out b hb).1, (HF.out b hb).2⟩⟩
theorem rem_spell (n : Int) (h1 : -9223372036854775808 ≤ n) (h2 : n ≤ 9223372036854775807) : (n.tmod 2 != 0) = decide (n % 2 ≠ 0) := by
  rw [Bool.eq_iff_iff, bne_iff_ne, decide_eq_true_eq]
  have : n.tmod 2 = 0 ↔ n % 2 = 0 := by
    constructor
    · intro h; have := Int.dvd_of_tmod_eq_zero h; omega
    · intro h; exact Int.tmod_eq_zero_of_dvd (by omega)
  rw [ne_eq, ne_eq, this]
set_option maxHeartbeats 3200000 in
set_option maxRecDepth 100000 in
theorem does_1 (s : NStp) (la : Option Addr) (lc : Nat) (h : NetAt w n F R N) (hok : N.g.nodes.length ≤ 50000 ∧ N.inb.length ≤ 10000 ∧ N.regs.length ≤ 10000 ∧ N.outb.length ≤ 10000) (hs : s.ok) (h0 : s.what = 1) :
    Calls Tryz.prog 27 #[.pointer (some ⟨n, 0, none⟩), stepV s la lc] w (AddInPost ((addReg N (decide (s.n % 2 ≠ 0))).1, [(addReg N (decide (s.n % 2 ≠ 0))).2], 0) w n F R) := by
  have H := Lib.hid (fun b => addreg_c (h.kept0 ((Kept.refl [] w).alloc (.cells (stepCells6 s la lc) 86))) (by omega) b)
  have HK := Lib.hid ((Kept.refl [] w).alloc (.cells (stepCells6 s la lc) 86))
  have hrm := rem_spell s.n hs.n1 hs.n2
  have b1 := hs.n1
  have b2 := hs.n2
  generalize decide (s.n % 2 ≠ 0) = rb at *
  have H2 := Lib.hid (H.out rb)
  clear H
  generalize addReg N rb = res at *
  obtain ⟨N', y⟩ := res
  obtain ⟨what, nm, sn, a, b, c, lits⟩ := s
  simp only [stepV, stepCells6] at *
  subst h0
  clear hs h
  go_enter Tryz.func27, Tryz.ntmps27; (try simp only [List.append])
  go_wp2_with fail
  refine H2.out.mono ?_
  rintro e w1 ⟨F', rfl, hn, hst⟩
  have HN := Lib.hid hn
  have HS := Lib.hid (((NStep.refl w F R).keep HK.out).trans hst)
  clear hn hst
  go_wp2_with fail
  refine (one_c _ _ _).mono ?_
  rintro e w2 ⟨rfl, rfl⟩
  go_wp2_with fail
  go_ret2
  exact one_row HN.out HS.out
set_option maxHeartbeats 3200000 in
set_option maxRecDepth 100000 in
theorem does_2 (s : NStp) (la : Option Addr) (lc : Nat) (h : NetAt w n F R N) (hok : N.g.nodes.length ≤ 50000 ∧ N.inb.length ≤ 10000 ∧ N.regs.length ≤ 10000 ∧ N.outb.length ≤ 10000) (hs : s.ok) (h0 : s.what = 2) :
    Calls Tryz.prog 27 #[.pointer (some ⟨n, 0, none⟩), stepV s la lc] w (AddInPost ((setReg N s.a s.b s.c).1, [], (setReg N s.a s.b s.c).2) w n F R) := by
  have H := Lib.hid (setreg_c (h.kept0 ((Kept.refl [] w).alloc (.cells (stepCells6 s la lc) 86))) (by omega) s.a s.b s.c hs.a hs.b hs.c)
  have HK := Lib.hid ((Kept.refl [] w).alloc (.cells (stepCells6 s la lc) 86))
  generalize setReg N s.a s.b s.c = res at *
  obtain ⟨N', y⟩ := res
  obtain ⟨what, nm, sn, a, b, c, lits⟩ := s
  simp only [stepV, stepCells6] at *
  subst h0
  clear hs h
  go_enter Tryz.func27, Tryz.ntmps27; (try simp only [List.append])
  go_wp2_with fail
  refine H.out.mono ?_
  rintro e w1 ⟨F', R', rfl, hn, hst⟩
  have HN := Lib.hid hn
  have HS := Lib.hid (((NStep.refl w F R).keep HK.out).trans hst)
  clear hn hst
  go_wp2_with fail
  go_ret2
  exact ⟨F', R', none, 0, 0, rfl, HN.out, HS.out, Own.nil _ _, by simp [ft]⟩
set_option maxHeartbeats 3200000 in
set_option maxRecDepth 100000 in
theorem does_8 (s : NStp) (la : Option Addr) (lc : Nat) (h : NetAt w n F R N) (hok : N.g.nodes.length ≤ 50000 ∧ N.inb.length ≤ 10000 ∧ N.regs.length ≤ 10000 ∧ N.outb.length ≤ 10000) (hs : s.ok) (h0 : s.what = 8) :
    Calls Tryz.prog 27 #[.pointer (some ⟨n, 0, none⟩), stepV s la lc] w (AddInPost ({ N with g := (inputG N.g).1 }, [2 * N.g.nodes.length], 0) w n F R) := by
  have HK := Lib.hid ((Kept.refl [] w).alloc (.cells (stepCells6 s la lc) 86))
  obtain ⟨p, G, ia, ic, ra, rc, oa, oc, ri, ro, rfl, rfl, hc⟩ := h
  have HC := Lib.hid (hc.kept HK.out (by simp) (by simp))
  have H := Lib.hid (aig_input HC.out.gr (show N.g.nodes.length ≤ 199000 by omega))
  have HV := Lib.hid (show (inputG N.g).2 = 2 * N.g.nodes.length from rfl)
  generalize inputG N.g = res at *
  obtain ⟨g', y⟩ := res
  simp only at HV
  rw [← HV.out]
  have c0 := HC.out.c0
  obtain ⟨what, nm, sn, a, b, c, lits⟩ := s
  simp only [stepV, stepCells6] at *
  subst h0
  clear hs hc
  go_enter Tryz.func27, Tryz.ntmps27; (try simp only [List.append])
  go_wp2_with fail
  refine H.out.mono ?_
  rintro e w1 ⟨G', rfl, hg, hst⟩
  have HN := Lib.hid (HC.out.graph hg hst)
  have HS := Lib.hid (((NStep.refl w _ _).keep HK.out).trans (NetC.graph_step (n := n) (ia := ia) (ra := ra) (oa := oa) (ri := ri) (ro := ro) hst))
  clear hg hst c0
  go_wp2_with fail
  refine (one_c _ _ _).mono ?_
  rintro e w2 ⟨rfl, rfl⟩
  go_wp2_with fail
  go_ret2
  exact one_row ⟨p, G', ia, ic, ra, rc, oa, oc, ri, ro, rfl, rfl, HN.out⟩ HS.out
set_option maxHeartbeats 3200000 in
set_option maxRecDepth 100000 in
theorem does_9 (s : NStp) (la : Option Addr) (lc : Nat) (h : NetAt w n F R N) (h0 : s.what < 0 ∨ 8 < s.what) :
    Calls Tryz.prog 27 #[.pointer (some ⟨n, 0, none⟩), stepV s la lc] w (AddInPost (N, [], 0) w n F R) := by
  have HPO := Lib.hid (AddInPost.no (k := 0) h ((Kept.refl [] w).alloc (.cells (stepCells6 s la lc) 86)))
  generalize ((N, [], 0) : Nt × List Nat × Nat) = res at *
  obtain ⟨what, nm, sn, a, b, c, lits⟩ := s
  simp only [stepV, stepCells6] at *
  have e0 : (what == 0) = false := by rw [beq_eq_false_iff_ne]; omega
  have e1 : (what == 1) = false := by rw [beq_eq_false_iff_ne]; omega
  have e2 : (what == 2) = false := by rw [beq_eq_false_iff_ne]; omega
  have e3 : (what == 3) = false := by rw [beq_eq_false_iff_ne]; omega
  have e4 : (what == 4) = false := by rw [beq_eq_false_iff_ne]; omega
  have e5 : (what == 5) = false := by rw [beq_eq_false_iff_ne]; omega
  have e6 : (what == 6) = false := by rw [beq_eq_false_iff_ne]; omega
  have e7 : (what == 7) = false := by rw [beq_eq_false_iff_ne]; omega
  have e8 : (what == 8) = false := by rw [beq_eq_false_iff_ne]; omega
  clear h0 h
  go_enter Tryz.func27, Tryz.ntmps27; (try simp only [List.append])
  go_wp2_with fail
  go_ret2
  exact HPO.out
end Go.Proofs.YtnjoklcddodfeaaGreatDoor
