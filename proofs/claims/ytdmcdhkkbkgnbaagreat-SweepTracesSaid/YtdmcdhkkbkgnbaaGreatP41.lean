/-
  Law 30: the chapter's rows.
  Law 30: the chapter's two netlists.
-/
import Derived.Test.YtdmcdhkkbkgnbaaGreatP35
import Derived.Test.YtdmcdhkkbkgnbaaGreatP40
namespace Go.Proofs.YtdmcdhkkbkgnbaaGreat
open Go.ChangeShapes Go.WideShapes Go.ChangeAt Go.RowKit
open Go.Maps (Keyed)
open Go.WideMaps
set_option linter.unusedVariables false
set_option linter.unusedSimpArgs false

variable {w w' W w0 : World} {p n k m a b : Nat} {F R F' R' Fa Ra Fb Rb Fa' Ra' Fb' Rb' : List Nat} {N M A B A' B' : Nt}
structure TwoN (w0 w : World) (a : Nat) (Fa Ra : List Nat) (A : Nt) (b : Nat) (Fb Rb : List Nat) (B : Nt) : Prop where
  na : NetAt w a Fa Ra A
  nb : NetAt w b Fb Rb B
  ap : ∀ x, x ∈ Fb ∨ x ∈ Rb → x ∉ Fa
  aq : ∀ x, x ∈ Fa ∨ x ∈ Ra → x ∉ Fb
  kept : Kept [] w0 w
  nw : ∀ x, x ∈ Fa ∨ x ∈ Fb → w0.heap.size ≤ x
theorem TwoN.stepA (h : TwoN w0 w a Fa Ra A b Fb Rb B) (hn : NetAt w' a Fa' Ra' A') (hs : NStep w w' Fa Ra Fa' Ra') : TwoN w0 w' a Fa' Ra' A' b Fb Rb B := by
  have lt := h.nb.lt
  refine ⟨hn, h.nb.kept hs.st.kept (fun x hx => h.ap x (.inl hx)) (fun x hx => h.ap x (.inr hx)), fun x hx hx' => ?_, fun x hx hx' => ?_, kept_up h.kept hs.st.kept (fun x hx => h.nw x (.inl hx)), fun x hx => ?_⟩
  · rcases hs.st.fresh x hx' with h1 | h1
    · exact h.ap x hx h1
    · rcases hx with hx | hx
      · have := lt.1 x hx; omega
      · have := lt.2 x hx; omega
  · rcases hx with hx | hx
    · rcases hs.st.fresh x hx with h1 | h1
      · exact h.aq x (.inl h1) hx'
      · have := lt.1 x hx'; omega
    · rcases hs.rows x hx with h1 | h1
      · exact h.aq x (.inr h1) hx'
      · have := lt.1 x hx'; omega
  · rcases hx with hx | hx
    · rcases hs.st.fresh x hx with h1 | h1
      · exact h.nw x (.inl h1)
      · exact Nat.le_trans h.kept.size h1
    · exact h.nw x (.inr hx)
theorem TwoN.swap (h : TwoN w0 w a Fa Ra A b Fb Rb B) : TwoN w0 w b Fb Rb B a Fa Ra A := ⟨h.nb, h.na, h.aq, h.ap, h.kept, fun x hx => h.nw x hx.symm⟩
theorem TwoN.stepB (h : TwoN w0 w a Fa Ra A b Fb Rb B) (hn : NetAt w' b Fb' Rb' B') (hs : NStep w w' Fb Rb Fb' Rb') : TwoN w0 w' a Fa Ra A b Fb' Rb' B' := (h.swap.stepA hn hs).swap
theorem TwoN.kept0 (h : TwoN w0 w a Fa Ra A b Fb Rb B) (hk : Kept [] w w') : TwoN w0 w' a Fa Ra A b Fb Rb B := h.stepA (h.na.kept0 hk) ((NStep.refl w Fa Ra).keep hk)
def uA0 : Nt := newN ⟨#[97]⟩ false false
def uA1 : Nt := (addReg uA0 true).1
def uA2 : Nt := (setReg uA1 2 2 1).1
def uA3 : Nt := (gateN uA2 andG 2 2).1
def uA4 : Nt := (addOut uA3 ⟨#[120]⟩ [2]).1
def uB0 : Nt := newN ⟨#[98]⟩ false false
def uB1 : Nt := (addIn uB0 ⟨#[105, 110]⟩ 1).1
def uB2 : Nt := (addReg uB1 false).1
def uB3 : Nt := (addReg uB2 false).1
def uB4 : Nt := (setReg uB3 4 2 1).1
def uB5 : Nt := (setReg uB4 6 4 1).1
def uB6 : Nt := (addOut uB5 ⟨#[111, 117, 116]⟩ [2]).1
set_option maxRecDepth 10000 in
theorem uA_facts : mayB ⟨#[97]⟩ = true ∧ (addReg uA0 true).2 = 2 ∧ (setReg uA1 2 2 1).2 = 0 ∧ (addOut uA3 ⟨#[120]⟩ [2]).2 = 0 ∧ checkN uA4 = 0 := by
  refine ⟨?_, ?_, ?_, ?_, ?_⟩ <;> decide
set_option maxRecDepth 10000 in
theorem uB_facts : mayB ⟨#[98]⟩ = true ∧ (addIn uB0 ⟨#[105, 110]⟩ 1).2 = ([2], 0) ∧ (addReg uB1 false).2 = 4 ∧ (addReg uB2 false).2 = 6 ∧ (setReg uB3 4 2 1).2 = 0 ∧ (setReg uB4 6 4 1).2 = 0 ∧ (addOut uB5 ⟨#[111, 117, 116]⟩ [2]).2 = 0 ∧ checkN uB6 = 0 := by
  refine ⟨?_, ?_, ?_, ?_, ?_, ?_, ?_, ?_⟩ <;> decide
theorem uA_fine : NtFine 4 uA4 := addOut_fine (gateN_fine (setReg_fine (addReg_fine (newN_fine _ false false uA_facts.1) _) _ _ _) _ two_and _ _) _ _
theorem uB_fine : NtFine 6 uB6 := addOut_fine (setReg_fine (setReg_fine (addReg_fine (addReg_fine (addIn_fine (newN_fine _ false false uB_facts.1) _ _) _) _) _ _ _) _ _ _) _ _
set_option maxRecDepth 100000 in
theorem uA_swept : (sweptN uA4).regs.length = 0 ∧ gatesX (sweptN uA4) = 0 ∧ (sweptN uA4).outb.map (·.lits) = [[1]] := by
  refine ⟨?_, ?_, ?_⟩ <;> kernel_rfl
set_option maxRecDepth 100000 in
theorem uB_swept : (sweptN uB6).regs.length = 0 ∧ (sweptN uB6).inb.length = 1 ∧ (sweptN uB6).outb.length = 1 := by
  refine ⟨?_, ?_, ?_⟩ <;> kernel_rfl
def TwoNPost (w : World) (e : Ending) (w' : World) : Prop := ∃ a Fa Ra b Fb Rb, e = .returned (.tuple #[.pointer (some ⟨a, 0, none⟩), .pointer (some ⟨b, 0, none⟩)]) ∧ TwoN w w' a Fa Ra uA4 b Fb Rb uB6
theorem own_apart2 {a0 : Option Addr} {c l : Nat} {xs : List Value} {e : TypeId} (ho : Own w e a0 l c xs) (hs : NStep w w' F R F' R') (hf : ∀ b ∈ ft a0, b ∉ F) : Own w' e a0 l c xs ∧ ∀ b ∈ ft a0, b ∉ F' :=
  ⟨ho.kept hs.st.kept hf, fun b hb hx => (hs.st.fresh b hx).elim (hf b hb) (fun h => by have := ho.lt b hb; omega)⟩
set_option maxHeartbeats 3200000 in
set_option maxRecDepth 100000 in
theorem two30 (w : World) : Calls Tryz.prog 63 #[] w (TwoNPost w) := by
  have AF := Lib.hid uA_facts
  have BF := Lib.hid uB_facts
  have b0 := Lib.hid (show uA0.g.nodes.length ≤ 100 ∧ uA0.regs.length ≤ 100 from by decide)
  have b1 := Lib.hid (show uA1.g.nodes.length ≤ 100 ∧ uA1.regs.length ≤ 100 from by decide)
  have b2 := Lib.hid (show uA2.g.nodes.length ≤ 100 ∧ gone uA2.g [2, 2] = false from by decide)
  have b3 := Lib.hid (show uA3.g.nodes.length ≤ 100 ∧ uA3.outb.length ≤ 100 from by decide)
  have q0 := Lib.hid (show uB0.g.nodes.length ≤ 100 ∧ uB0.inb.length ≤ 100 from by decide)
  have q1 := Lib.hid (show uB1.g.nodes.length ≤ 100 ∧ uB1.regs.length ≤ 100 from by decide)
  have q2 := Lib.hid (show uB2.g.nodes.length ≤ 100 ∧ uB2.regs.length ≤ 100 from by decide)
  have q3 := Lib.hid (show uB3.g.nodes.length ≤ 100 ∧ uB3.regs.length ≤ 100 from by decide)
  have q4 := Lib.hid (show uB4.g.nodes.length ≤ 100 ∧ uB4.regs.length ≤ 100 from by decide)
  have q5 := Lib.hid (show uB5.g.nodes.length ≤ 100 ∧ uB5.outb.length ≤ 100 from by decide)
  have E3 := Lib.hid (show uA3 = { uA2 with g := (andG uA2.g 2 2).1 } from by unfold uA3 gateN; rw [b2.out.2]; rfl)
  go_enter Tryz.func63, Tryz.ntmps63; (try simp only [List.append])
  go_wp2_with fail
  refine (new_net ⟨#[97]⟩ false false _ (by decide) AF.out.1).mono ?_
  rintro e w1 ⟨a, Fa, rfl, hn, hk, hf⟩
  have N1 := Lib.hid (show NetAt w1 a Fa [] uA0 from hn)
  have K1 := Lib.hid (And.intro hk hf)
  clear hn hk hf
  go_wp2_with fail
  refine (new_net ⟨#[98]⟩ false false _ (by decide) BF.out.1).mono ?_
  rintro e w2 ⟨b, Fb, rfl, hn, hk, hf⟩
  have T2 := Lib.hid (show TwoN w w2 a Fa [] uA0 b Fb [] uB0 from by
    refine ⟨N1.out.kept0 hk, hn, fun x hx hx' => ?_, fun x hx hx' => ?_, K1.out.1.trans hk, fun x hx => ?_⟩
    · rcases hx with hx | hx
      · have h1 := hf x hx
        have h2 := N1.out.lt.1 x hx'
        omega
      · simp at hx
    · rcases hx with hx | hx
      · have h1 := hf x hx'
        have h2 := N1.out.lt.1 x hx
        omega
      · simp at hx
    · rcases hx with hx | hx
      · exact K1.out.2 x hx
      · exact Nat.le_trans K1.out.1.size (hf x hx))
  obtain ⟨pa, hca⟩ := T2.out.na.graphC
  obtain ⟨pb, hcb⟩ := T2.out.nb.graphC
  clear hn hk hf N1 K1
  go_wp2_with fail
  refine (addreg_c T2.out.na (by have := b0.out; omega) true).mono ?_
  intro e w3 hx
  obtain ⟨Fa3, he, hn, hst⟩ := hx
  rw [AF.out.2.1] at he
  subst he
  have T3 := Lib.hid (T2.out.stepA (A' := uA1) hn hst)
  clear hn hst hca hcb T2
  go_wp2_with fail
  refine (setreg_c T3.out.na (by have := b1.out; omega) 2 2 1 (by omega) (by omega) (by omega)).mono ?_
  intro e w4 hx
  obtain ⟨Fa4, Ra4, he, hn, hst⟩ := hx
  rw [AF.out.2.2.1] at he
  subst he
  have T4 := Lib.hid (T3.out.stepA (A' := uA2) hn hst)
  clear hn hst T3
  obtain ⟨p, G, ia, ic, ra, rc, oa, oc, ri, ro, hF4, hR4, hc⟩ := T4.out.na
  have HC4 := Lib.hid hc
  have HF4 := Lib.hid hF4
  have HR4 := Lib.hid hR4
  have c0 := hc.c0
  clear hc hF4 hR4
  go_wp2_with fail
  have hlt4 := HC4.out.gr.lt
  refine (aig_And_ (HC4.out.gr.kept0 ((Kept.refl [] w4).alloc _)) (some ⟨w4.heap.size, 0, none⟩) 2 2 [2, 2] rfl (by have := b2.out; omega) (row_new w4 [2, 2] 61) (gone_false.1 b2.out.2) (by intro b hb hx; rw [mem_ft] at hb; subst hb; exact Nat.lt_irrefl _ (hlt4 _ hx))).mono ?_
  intro e w5 hx
  obtain ⟨G5, he, hg5, hst5⟩ := hx
  subst he
  have st5 : Stepped w4 w5 G G5 := (⟨(Kept.refl [] w4).alloc _ |>.more (by simp), fun b hb => .inl hb⟩ : Stepped w4 _ G G).trans hst5
  have hgr5 : GraphAt w5 p G5 (andG uA2.g 2 2).1 := hg5
  have hc5 := HC4.out.graph hgr5 st5
  have hs5 : NStep w4 w5 Fa4 Ra4 (a :: (G5 ++ (ft ia ++ (ft ra ++ ft oa)))) Ra4 := by
    have h := NetC.graph_step (n := a) (ia := ia) (ra := ra) (oa := oa) (ri := ri) (ro := ro) st5
    rw [HF4.out, HR4.out]; exact h
  have T5 := Lib.hid (T4.out.stepA (A' := uA3) (by
    rw [E3.out]
    exact ⟨p, G5, ia, ic, ra, rc, oa, oc, ri, ro, rfl, HR4.out, hc5⟩) hs5)
  generalize (a :: (G5 ++ (ft ia ++ (ft ra ++ ft oa)))) = Fa5 at *
  clear hg5 hst5 st5 hgr5 hc5 hs5 HC4 HF4 HR4 c0 hlt4 T4
  go_wp2_with fail
  refine (addout_c (T5.out.na.kept0 ((Kept.refl [] w5).alloc _)) (by have := b3.out; omega) ⟨#[120]⟩ (by decide) (some ⟨w5.heap.size, 0, none⟩) 1 1 [2] rfl (by omega) (row_new w5 [2] 61) (by simp)).mono ?_
  intro e w6 hx
  obtain ⟨Fa6, Ra6, he, hn, hst0⟩ := hx
  rw [AF.out.2.2.2.1] at he
  subst he
  have hst : NStep w5 w6 Fa5 Ra4 Fa6 Ra6 := ((NStep.refl w5 Fa5 Ra4).keep ((Kept.refl [] w5).alloc _)).trans hst0
  have T6 := Lib.hid (T5.out.stepA (A' := uA4) hn hst)
  clear hn hst hst0 T5
  go_wp2_with fail
  refine (addin_c T6.out.nb (by have := q0.out; omega) ⟨#[105, 110]⟩ (by decide) 1 (by omega) (by omega)).mono ?_
  intro e w7 hx
  obtain ⟨Fb7, Rb7, a7, c7, k7, he, hn, hst, ho, hfr⟩ := hx
  rw [BF.out.2.1] at he ho
  have hk7 : k7 = 1 := by have := ho.len; simpa [nats] using this.symm
  subst hk7
  subst he
  have T7 := Lib.hid (T6.out.stepB (B' := uB1) hn hst)
  have O7 := Lib.hid (And.intro ho (fun b hb => (hfr b hb).2.1))
  clear hn hst ho hfr T6
  go_wp2_with fail
  refine (addreg_c T7.out.nb (by have := q1.out; omega) false).mono ?_
  intro e w8 hx
  obtain ⟨Fb8, he, hn, hst⟩ := hx
  rw [BF.out.2.2.1] at he
  subst he
  have T8 := Lib.hid (T7.out.stepB (B' := uB2) hn hst)
  have O8 := Lib.hid (own_apart2 O7.out.1 hst O7.out.2)
  clear hn hst T7 O7
  go_wp2_with fail
  refine (addreg_c T8.out.nb (by have := q2.out; omega) false).mono ?_
  intro e w9 hx
  obtain ⟨Fb9, he, hn, hst⟩ := hx
  rw [BF.out.2.2.2.1] at he
  subst he
  have T9 := Lib.hid (T8.out.stepB (B' := uB3) hn hst)
  have O9 := Lib.hid (own_apart2 O8.out.1 hst O8.out.2)
  clear hn hst T8 O8
  go_wp2_with fail
  refine (setreg_c T9.out.nb (by have := q3.out; omega) 4 2 1 (by omega) (by omega) (by omega)).mono ?_
  intro e w10 hx
  obtain ⟨Fb10, Rb10, he, hn, hst⟩ := hx
  rw [BF.out.2.2.2.2.1] at he
  subst he
  have T10 := Lib.hid (T9.out.stepB (B' := uB4) hn hst)
  have O10 := Lib.hid (own_apart2 O9.out.1 hst O9.out.2)
  clear hn hst T9 O9
  go_wp2_with fail
  refine (setreg_c T10.out.nb (by have := q4.out; omega) 6 4 1 (by omega) (by omega) (by omega)).mono ?_
  intro e w11 hx
  obtain ⟨Fb11, Rb11, he, hn, hst⟩ := hx
  rw [BF.out.2.2.2.2.2.1] at he
  subst he
  have T11 := Lib.hid (T10.out.stepB (B' := uB5) hn hst)
  have O11 := Lib.hid (own_apart2 O10.out.1 hst O10.out.2)
  clear hn hst T10 O10
  go_wp2_with fail
  refine (addout_c T11.out.nb (by have := q5.out; omega) ⟨#[111, 117, 116]⟩ (by decide) a7 c7 1 [2] rfl (by omega) O11.out.1.sln (by simp)).mono ?_
  intro e w12 hx
  obtain ⟨Fb12, Rb12, he, hn, hst⟩ := hx
  rw [BF.out.2.2.2.2.2.2.1] at he
  subst he
  have T12 := Lib.hid (T11.out.stepB (B' := uB6) hn hst)
  clear hn hst T11 O11
  go_wp2_with fail
  go_ret2
  exact ⟨a, Fa6, Ra6, b, Fb12, Rb12, rfl, T12.out⟩
theorem nbits_c (h : NetAt w n F R N) : Calls Tryz.prog 22 #[.pointer (some ⟨n, 0, none⟩)] w (IntIs (N.regs.length : Nat) w) := by
  obtain ⟨p, G, ia, ic, ra, rc, oa, oc, ri, ro, rfl, rfl, hc⟩ := h
  have c3 := hc.c3
  clear hc
  generalize N.regs.length = nR at *
  go_enter Tryz.func22, Tryz.ntmps22
  go_wp2
  go_ret
  exact ⟨rfl, .refl _ _⟩
end Go.Proofs.YtdmcdhkkbkgnbaaGreat

namespace Go.Proofs.YtdmcdhkkbkgnbaaGreat
open Go.ChangeShapes Go.WideShapes Go.ChangeAt Go.RowKit
open Go.Maps (Keyed)
open Go.WideMaps
set_option linter.unusedVariables false
set_option linter.unusedSimpArgs false

variable {w w' W w0 : World} {p n k m a b : Nat} {F R F' R' Fa Ra Fb Rb Fa' Ra' Fb' Rb' : List Nat} {N M A B A' B' : Nt}
theorem add_nil (ad : Addr) : ad.add 0 = ad := by unfold Addr.add; rfl
/-- what the law looks at -/
structure LookN (w : World) (n : Nat) (p : Nat) (ia : Option Addr) (ic : Nat) (oa : Option Addr) (oc : Nat) (mi mo : Nat) : Prop where
  c0 : w.cell? ⟨n, 0, none⟩ = some (.pointer (some ⟨p, 0, none⟩))
  c2 : w.cell? ⟨n, 2, none⟩ = some (.slice ia mi ic)
  c4 : w.cell? ⟨n, 4, none⟩ = some (.slice oa mo oc)
theorem LookN.kept0 {p ic oc mi mo : Nat} {ia oa : Option Addr} (h : LookN w n p ia ic oa oc mi mo) (hk : Kept [] w w') : LookN w' n p ia ic oa oc mi mo := ⟨hk.cell h.c0 (by simp), hk.cell h.c2 (by simp), hk.cell h.c4 (by simp)⟩
set_option maxHeartbeats 3200000 in
set_option maxRecDepth 100000 in
theorem tells30 (w : World) : Calls Tryz.prog 16 #[] w fun e w' => e = .returned (.bool true) ∧ Kept [] w w' := by
  have TW := Lib.hid (two30 w)
  go_enter Tryz.func16, Tryz.ntmps16; (try simp only [List.append])
  go_wp2_with fail
  refine TW.out.mono ?_
  rintro e w1 ⟨a, Fa, Ra, b, Fb, Rb, rfl, t1⟩
  have T1 := Lib.hid t1
  have ha := All_c t1.na uA_fine (by omega)
  rw [if_pos uA_facts.2.2.2.2] at ha
  have HA := Lib.hid ha
  clear t1 ha
  go_wp2_with fail
  refine HA.out.mono ?_
  rintro e w2 ⟨x, Fx, Rx, rfl, hx, kx, fx⟩
  have X2 := Lib.hid hx
  have K2 := Lib.hid (T1.out.kept.trans kx)
  have hb := All_c (T1.out.nb.kept0 kx) uB_fine (by omega)
  rw [if_pos uB_facts.2.2.2.2.2.2.2] at hb
  have HB := Lib.hid hb
  clear hx kx fx hb
  go_wp2_with fail
  refine HB.out.mono ?_
  rintro e w3 ⟨y, Fy, Ry, rfl, hy, ky, fy⟩
  have X3 := Lib.hid (X2.out.kept0 ky)
  have Y3 := Lib.hid hy
  have K3 := Lib.hid (K2.out.trans ky)
  clear hy ky fy
  obtain ⟨p, G, ia, ic, ra, rc, oa, oc, ri, ro, hF, hR, hc⟩ := X3.out
  have HGX := Lib.hid hc.gr
  have hoL : (sweptN uA4).outb.length = 1 := by have h := congrArg List.length uA_swept.2.2; simpa using h
  have hro : ro.length = 1 := by rw [← hoL, ← hc.ob.is, List.length_map]
  have LX := Lib.hid (show LookN w3 x p ia ic oa oc (sweptN uA4).inb.length 1 from ⟨hc.c0, hc.c2, by have h := hc.c4; rw [hoL] at h; exact h⟩)
  obtain ⟨gb, rfl, x0, x1⟩ := hc.ob.slb 0 (by omega)
  have hlits : (ro[0]'(by omega)).b.lits = [1] := by
    have h1 := uA_swept.2.2
    rw [← hc.ob.is, List.map_map] at h1
    have h2 := congrArg (fun l => l[0]?) h1
    simpa [List.getElem?_eq_getElem (show 0 < ro.length by omega)] using h2
  have hrow := (hc.ob.rows _ (List.getElem_mem (show 0 < ro.length by omega))).1
  rw [hlits] at x1 hrow
  obtain ⟨ad, had, hcx⟩ := hrow 0 (by simp)
  rw [add_nil] at hcx
  rw [had] at x1
  simp only [Nat.zero_mul, Nat.zero_add, List.length_cons, List.length_nil, List.getElem_cons_zero] at x1 hcx
  have HX1 := Lib.hid x1
  have HCX := Lib.hid hcx
  generalize ro[0].c = rcc at *
  clear hF hR hc hoL hro x0 hlits hrow had x1 hcx
  obtain ⟨p2, G2, ia2, ic2, ra2, rc2, oa2, oc2, ri2, ro2, hF2, hR2, hc2⟩ := Y3.out
  have LY := Lib.hid (show LookN w3 y p2 ia2 ic2 oa2 oc2 1 1 from ⟨hc2.c0, by have h := hc2.c2; rw [uB_swept.2.1] at h; exact h, by have h := hc2.c4; rw [uB_swept.2.2] at h; exact h⟩)
  clear hF2 hR2 hc2
  have bx := nbits_c X3.out
  rw [uA_swept.1] at bx
  have HBX := Lib.hid bx
  have HGT := Lib.hid (fun (V : World) (hV : Kept [] w3 V) => aig_gates (HGX.out.kept0 hV) (by have h := (swept_ind uA_fine (fun _ => True) trivial (fun _ _ _ _ => trivial)).2.1.ok.len; omega))
  rw [gatesN_X (swept_ind uA_fine (fun _ => True) trivial (fun _ _ _ _ => trivial)).2.1, uA_swept.2.1] at HGT
  have HBY := Lib.hid (fun (V : World) (hV : Kept [] w3 V) => nbits_c (Y3.out.kept0 hV))
  rw [uB_swept.1] at HBY
  clear bx
  have e0 := LX.out.c0
  have f0 := LY.out.c0
  go_wp2_with fail
  refine HBX.out.mono ?_
  rintro e w4 ⟨rfl, k4⟩
  have K4 := Lib.hid k4
  have e0' := (LX.out.kept0 k4).c0
  clear k4 e0 f0
  go_wp2_with fail
  refine (HGT.out _ K4.out).mono ?_
  rintro e w5 ⟨rfl, d5, h5⟩
  have K5 := Lib.hid (show Kept [] w3 w5 from by rw [h5]; exact K4.out.drewN d5)
  clear h5 e0'
  have e4 := (LX.out.kept0 K5.out).c4
  have e5 := K5.out.cell HX1.out (by simp)
  have e6 := K5.out.cell HCX.out (by simp)
  go_wp2_with fail
  refine (HBY.out _ K5.out).mono ?_
  rintro e w6 ⟨rfl, k6⟩
  have K6 := Lib.hid (K5.out.trans k6)
  have g2 := (LY.out.kept0 K6.out).c2
  have g4 := (LY.out.kept0 K6.out).c4
  clear k6 e4 e5 e6
  go_wp2_with fail
  go_ret
  exact ⟨rfl, K3.out.trans K6.out⟩
end Go.Proofs.YtdmcdhkkbkgnbaaGreat
