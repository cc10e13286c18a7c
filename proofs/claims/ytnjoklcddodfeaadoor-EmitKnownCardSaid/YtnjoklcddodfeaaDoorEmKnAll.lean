/-
  EmitKnown: the law's tied card. The chapter's row; what may not be; none; a netlist of nothing. Conditions: the laid variables hold what the program's text lays (the tie).
  Law 10: EmitKnown: the netlists that it names.
  Law 10: EmitKnown, the walk.
-/
import Derived.Test.YtnjoklcddodfeaaDoorEmitE
import Derived.Test.YtnjoklcddodfeaaDoorEmitP
import Derived.Test.YtnjoklcddodfeaaDoorNetZ
import Derived.Test.YtnjoklcddodfeaaDoorEmitCard
namespace Go.Proofs.YtnjoklcddodfeaaDoor
open Go.ChangeShapes Go.WideShapes Go.ChangeAt Go.RowKit
open Go.Maps (Keyed)
open Go.WideMaps
set_option linter.unusedVariables false
set_option linter.unusedSimpArgs false

variable {w w' W W' : World} {p n k : Nat} {F R F' R' S : List Nat} {g : Gr} {N : Nt}
def emptyS : ByteArray := ⟨#[101, 109, 112, 116, 121]⟩
def eN0 : Nt := newN emptyS false false
def eN1 : Nt := { eN0 with g := (inputG eN0.g).1 }
def litE : List UInt8 := [46, 109, 111, 100, 101, 108, 32, 101, 109, 112, 116, 121, 10, 46, 101, 110, 100, 10]
set_option maxRecDepth 100000 in
theorem e_facts : mayB emptyS = true ∧ checkN eN0 = 0 ∧ checkN eN1 = 37 ∧ textL (linesN eN0) = litE := by
  refine ⟨by kernel_rfl, by kernel_rfl, by kernel_rfl, ?_⟩
  have h : textL (linesN eN0) = litE := by kernel_rfl
  exact h
theorem e_fine0 : NtFine 0 eN0 := newN_fine _ false false e_facts.1
theorem e_fine1 : NtFine 1 eN1 := fine_graph e_fine0 (e_fine0.ok.graph (inputG_spec e_fine0.ok.wf).1 (by simp [inputG]) (by simp [inputG])) (fun i hi => by rw [(inputG_spec e_fine0.ok.wf).2.2]; exact List.mem_append_left _ hi)
def tNb : Nt := { tN5 with regs := [⟨1, 8, 1, true⟩] }
theorem tb_regs : tN5.regs = [⟨6, 8, 1, true⟩] := by kernel_rfl
theorem tb_driven : drivenN tNb = [2, 4, 1] := by kernel_rfl
theorem tb_ins : (ins tNb.g.nodes).map (2 * ·) = [2, 4, 6] := by kernel_rfl
theorem tb_len : tN5.g.nodes.length = 5 := by kernel_rfl
theorem t_bad : NtBad 5 tNb 2 := by
  have h := t_fine
  refine ⟨⟨h.ok.wf, h.ok.len, h.ok.ik, by show 1 ≤ 5; omega, h.ok.ok, h.ok.il, h.ok.ol, ?_⟩, h.nm, h.ni, h.no, ?_, ?_, ?_, ?_⟩
  · intro r hr
    have hr' : r = ⟨1, 8, 1, true⟩ := by simpa [tNb] using hr
    subst hr'
    have hl := tb_len
    unfold Gr.ok
    show 1 / 2 < tN5.g.nodes.length ∧ 8 / 2 < tN5.g.nodes.length ∧ 1 / 2 < tN5.g.nodes.length
    omega
  · rw [tb_driven]; decide
  · rw [tb_driven]; decide
  · rw [tb_driven, tb_ins]
    intro j hj hl
    match j, hj with
    | 0, _ => simp
    | 1, _ => simp
  · rw [tb_driven, tb_ins]
    exact ⟨by decide, by decide⟩
/-- the first register's q, set to 1 -/
theorem set_q1 (h : NetAt W n F R tN5) (h0 : ∀ b ∈ F, k ≤ b) : ∃ gr ra rc, ra = some (⟨gr, 0, none⟩ : Addr) ∧ W.cell? ⟨n, 3, none⟩ = some (.slice ra 1 rc) ∧ (∃ v, W.cell? ⟨gr, 0, none⟩ = some v) ∧ W.frozen? ⟨gr, 0, none⟩ = false ∧ k ≤ gr ∧
    (∃ F' R', NetAt (W.setCell ⟨gr, 0, none⟩ (.int .u32 1)) n F' R' tNb) ∧ Kept [gr] W (W.setCell ⟨gr, 0, none⟩ (.int .u32 1)) := by
  obtain ⟨p, G, ia, ic, ra, rc, oa, oc, ri, ro, rfl, rfl, hc⟩ := h
  have hl : tN5.regs.length = 1 := by rw [tb_regs]; rfl
  have hrb := hc.rb
  rcases hrb.2 with ⟨hv, hn0⟩ | ⟨gr, cap', cur, hv, _, hg, _⟩
  · omega
  · injection hv with hv
    subst hv
    have hkp : Kept [gr] W (W.setCell ⟨gr, 0, none⟩ (.int .u32 1)) := (Kept.refl [gr] W).setCell (p := ⟨gr, 0, none⟩) (.inl (by simp)) _
    have h1 := (World.ownsRow.stored hrb 0 (.int .u32 1)).1
    have e1 : (rgCells tN5.regs).set 0 (.int .u32 1) = rgCells [⟨1, 8, 1, true⟩] := by rw [tb_regs]; rfl
    rw [e1] at h1
    have hc3 := hc.c3
    rw [hl] at hc3
    refine ⟨gr, _, rc, rfl, hc3, ?_, blk_free hg 0, h0 gr (by simp [ft]), ⟨_, _, p, G, ia, ic, _, rc, oa, oc, ri, ro, rfl, rfl, hc.setRegs hkp (by rw [hl]; rfl) h1⟩, hkp⟩
    have hcell := World.ownsRow.cellAt hrb 0 (by rw [hl]; decide)
    rw [tb_regs] at hcell
    exact ⟨_, hcell⟩
end Go.Proofs.YtnjoklcddodfeaaDoor

namespace Go.Proofs.YtnjoklcddodfeaaDoor
open Go.ChangeShapes Go.WideShapes Go.ChangeAt Go.RowKit Go.Shelf
attribute [local go_sem] Oper.semAt_some
set_option linter.unusedVariables false
set_option linter.unusedSimpArgs false

variable {w w' W W' : World} {p n k : Nat} {F R F' R' S : List Nat} {g : Gr} {N : Nt}
theorem own0 {B : Nat} {e : TypeId} {size : Nat} {a : Option Addr} {m c : Nat} {xs : List Value} (h : W.ownsRow B e size (.slice a m c) m xs) : W.ownsRow 0 e size (.slice a m c) m xs ∧ ∀ b ∈ ft a, B ≤ b := by
  rcases h.2 with ⟨hv, h0⟩ | ⟨g, cap, cur, hv, hb, hg, rest⟩
  · refine ⟨⟨h.1, .inl ⟨hv, h0⟩⟩, ?_⟩
    injection hv with hv
    subst hv
    simp [ft]
  · refine ⟨⟨h.1, .inr ⟨g, cap, cur, hv, Nat.zero_le _, hg, rest⟩⟩, ?_⟩
    injection hv with hv
    subst hv
    intro b hb'
    rw [mem_ft] at hb'
    subst hb'
    exact hb
theorem fn_not_nil (f : FuncId) (bx : Addr) (W : World) : (binOp .eql 29 (.func (.func f) #[] #[.pointer (some bx)]) .nilFunc).run Tryd.prog W = .ok (.bool false) W := by
  kernel_rfl
set_option maxHeartbeats 6400000 in
set_option maxRecDepth 100000 in
theorem known_c (w : World) (hL : PowLaid w) : Calls Tryd.prog 3 #[] w fun e w' => e = .returned (.bool true) ∧ Kept [] w w' := by
  have HL := Lib.hid hL
  have hfn := fn_not_nil 12
  clear hL
  refine (callsIn_wide (n := 3)).1 ?_
  refine callsIn_of_wp_marks Tryd.func3 rfl trivial ?_ rfl
  simp only [Tryd.ntmps3, List.size_toArray, List.length_cons, List.length_nil, Nat.reduceAdd, Nat.reduceSub, Array.replicate_succ, Array.replicate_zero, List.push_toArray, List.append_toArray, List.nil_append, List.cons_append]
  gi_wp2_with fail
  obtain ⟨b0, hb0⟩ : ∃ b, b = w.heap.size := ⟨_, rfl⟩
  obtain ⟨w0, hw0⟩ : ∃ V, V = w.alloc (.cells #[.bool false] 4) := ⟨_, rfl⟩
  have B0 := Lib.hid (show Boxed w0 b0 4 (.bool false) from by rw [hw0, hb0]; exact Boxed.new w _ _)
  have K0 := Lib.hid (show Kept [] w w0 from by rw [hw0]; exact (Kept.refl [] w).alloc _)
  have HB0 := Lib.hid hb0
  rw [← hw0, ← hb0]
  clear hw0 hb0
  refine ⟨trivial, ?_⟩
  refine (callsIn_wide.2 (all_err none 2 (by decide) w0 (check_nil w0))).mono ?_
  rintro e W1 ⟨rfl, k1⟩
  have K1 := Lib.hid k1
  clear k1
  gi_wp2_with fail
  refine ⟨trivial, ?_⟩
  refine (callsIn_wide.2 (size_err none 2 (by decide) W1 (check_nil W1))).mono ?_
  rintro e W2 ⟨rfl, k2⟩
  have K2 := Lib.hid (K1.out.trans k2)
  clear k2
  gi_wp2_with fail
  refine ⟨trivial, ?_⟩
  refine (callsIn_wide.2 (lines_cn none W2)).mono ?_
  rintro e W3 ⟨rfl, h3⟩
  have K3 := Lib.hid (show Kept [] w0 W3 from by rw [h3]; exact K2.out.alloc _)
  clear h3
  gi_wp2_with fail
  refine ⟨trivial, ?_⟩
  refine (callsIn_wide.2 (lines_cn none W3)).mono ?_
  rintro e W4 ⟨rfl, h4⟩
  have K4 := Lib.hid (show Kept [] w0 W4 from by rw [h4]; exact K3.out.alloc _)
  have C4 := Lib.hid (show W4.cell? ⟨W3.heap.size, 0, none⟩ = some (.pointer none) ∧ W3.heap.size < W4.heap.size from by
    rw [h4]
    exact ⟨(cell_new_l _ _ _).1, by simp⟩)
  clear h4
  gi_wp2_with fail
  refine loop_err (n := 1) (a := none) (c := 2) (by decide) rfl C4.out.1 C4.out.2 (fun W _ => check_nil W) ?_
  intro D1 W5 hD1 hB5 hK1
  have K5 := Lib.hid (K4.out.trans (.of_below hB5))
  have HD1 := Lib.hid (And.intro hD1 hK1)
  clear hD1 hB5 hK1
  have HNW := Lib.hid (new_net emptyS false false W5 (by decide) e_facts.1)
  unfold emptyS at HNW
  gi_wp2_with fail
  refine ⟨trivial, ?_⟩
  refine (callsIn_wide.2 HNW.out).mono ?_
  rintro e W6 ⟨n, F6, rfl, hn6, k6, hf6⟩
  have N6 := Lib.hid (show NetAt W6 n F6 [] eN0 from hn6)
  have K6 := Lib.hid k6
  have HF6 := Lib.hid hf6
  obtain ⟨p6, hc0⟩ : ∃ p, W6.cell? ⟨n, 0, none⟩ = some (.pointer (some ⟨p, 0, none⟩)) := by
    obtain ⟨p, G, ia, ic, ra, rc, oa, oc, ri, ro, rfl, hR, hc⟩ := hn6
    exact ⟨p, hc.c0⟩
  clear hn6 k6 hf6 HNW
  gi_wp2_with fail
  refine ⟨trivial, ?_⟩
  refine (callsIn_wide.2 (all_c W6 N6.out e_fine0 (by decide) (HL.out.kept0 ((K0.out.trans K5.out).trans K6.out)))).mono ?_
  rintro e W7 ⟨v7, rfl, hr7, k7⟩
  rw [e_facts.2.1]
  rw [e_facts.2.2.2, show litE.length = 18 from rfl] at hr7
  obtain ⟨a7, c7, rfl⟩ := ownsRow_any hr7
  have R7 := Lib.hid (show W7.ownsRow W6.heap.size 5 1 (.slice a7 18 c7) 18 (Lib.byteCells litE) from hr7)
  have K7 := Lib.hid k7
  have N7 := Lib.hid (N6.out.kept0 k7)
  obtain ⟨p, G, ia, ic, ra, rc, oa, oc, ri, ro, hF7, hR7, hc⟩ := N7.out
  have HC7 := Lib.hid hc
  have c0 := hc.c0
  have HI := Lib.hid (aig_input hc.gr (by decide))
  have HFF := Lib.hid (And.intro hF7 hR7)
  clear hr7 k7 hc0 hF7 hR7 hc
  gi_wp2_with fail
  refine ⟨trivial, ?_⟩
  refine (callsIn_wide.2 HI.out).mono ?_
  rintro e W8 ⟨G8, rfl, hg8, hs8⟩
  have N8 := Lib.hid (show NetAt W8 n (n :: (G8 ++ (ft ia ++ (ft ra ++ ft oa)))) (rowsOf ri ++ rowsOf ro) eN1 from ⟨p, G8, ia, ic, ra, rc, oa, oc, ri, ro, rfl, rfl, HC7.out.graph hg8 hs8⟩)
  have k58 : Kept [] W5 W8 := kept_up (K6.out.trans K7.out) hs8.kept (fun b hb => HF6.out b (by rw [HFF.out.1]; simp [hb]))
  have B8 := Lib.hid (show Boxed W8 b0 4 (.bool false) from (K5.out.trans k58).heap B0.out (by simp))
  have D8 := Lib.hid (show W8.heap[D1]? = some (.deferred (some [])) from k58.heap HD1.out.2 (by simp))
  have KW8 := Lib.hid ((K0.out.trans K5.out).trans k58)
  have R8 := Lib.hid (show W8.ownsRow 0 5 1 (.slice a7 18 c7) 18 (Lib.byteCells litE) from own_kept (own0 R7.out).1 hs8.kept (fun b hb hG => by
    have h1 := (own0 R7.out).2 b hb
    have h2 := N6.out.lt.1 b (by rw [HFF.out.1]; simp [hG])
    omega))
  clear hg8 hs8 k58 c0 HI
  have HK8 := Lib.hid (fun (V : World) (hV : Kept [] W8 V) => (show Calls Tryd.prog 11 #[.pointer (some ⟨n, 0, none⟩)] V (IntIs ((37 : Nat) : Int) V) from by
    have h := check_c (N8.out.kept0 hV) e_fine1 (by omega)
    rw [e_facts.2.2.1] at h
    exact h))
  gi_wp2_with fail
  refine ⟨trivial, ?_⟩
  refine (callsIn_wide.2 (all_err _ 37 (by decide) W8 (HK8.out W8 (.refl _ _)))).mono ?_
  rintro e W9 ⟨rfl, k9⟩
  have K9 := Lib.hid k9
  clear k9
  gi_wp2_with fail
  refine ⟨trivial, ?_⟩
  refine (callsIn_wide.2 (size_err _ 37 (by decide) W9 (HK8.out W9 K9.out))).mono ?_
  rintro e W10 ⟨rfl, k10⟩
  have K10 := Lib.hid (K9.out.trans k10)
  clear k10
  gi_wp2_with fail
  obtain ⟨b14, hb14⟩ : ∃ b, b = W10.heap.size := ⟨_, rfl⟩
  obtain ⟨W11, hW11⟩ : ∃ V, V = W10.alloc (.cells #[.int .i64 0] 3) := ⟨_, rfl⟩
  have B14 := Lib.hid (show Boxed W11 b14 3 (.int .i64 0) from by rw [hW11, hb14]; exact Boxed.new W10 _ _)
  have K11 := Lib.hid (show Kept [] W8 W11 from by rw [hW11]; exact K10.out.alloc _)
  rw [← hW11, ← hb14]
  clear hW11 hb14
  refine ⟨trivial, ?_⟩
  refine (callsIn_wide.2 (lines_cn _ W11)).mono ?_
  rintro e W12 ⟨rfl, h12⟩
  have K12 := Lib.hid (show Kept [] W11 W12 from by rw [h12]; exact (Kept.refl [] W11).alloc _)
  clear h12
  gi_wp2_with fail
  refine ⟨trivial, ?_⟩
  refine (callsIn_wide.2 (lines_cn _ W12)).mono ?_
  rintro e W13 ⟨rfl, h13⟩
  have K13 := Lib.hid (show Kept [] W11 W13 from by rw [h13]; exact K12.out.alloc _)
  have C13 := Lib.hid (show W13.cell? ⟨W12.heap.size, 0, none⟩ = some (.pointer (some ⟨n, 0, none⟩)) ∧ W12.heap.size < W13.heap.size from by
    rw [h13]
    exact ⟨(cell_new_l _ _ _).1, by simp⟩)
  clear h13
  gi_wp2_with fail
  refine loop_err (n := 1) (a := some ⟨n, 0, none⟩) (c := 37) (by decide) rfl C13.out.1 C13.out.2 (fun W hW => HK8.out W ((K11.out.trans K13.out).trans (.of_below hW))) ?_
  intro D2 W14 hD2 hB14 hK2
  have K14 := Lib.hid (K13.out.trans (.of_below hB14))
  have HD2 := Lib.hid (And.intro hD2 hK2)
  clear hD2 hB14 hK2
  gi_wp2_with fail
  refine ⟨trivial, ?_⟩
  refine (callsIn_wide.2 (small10 W14)).mono ?_
  rintro e W15 ⟨m, Fm, Rm, rfl, hm, k15, hf15⟩
  obtain ⟨gr, rb, rbc, hrb, d3, ⟨ov, dc⟩, df, hge, ⟨Fb, Rb, hNb⟩, kb⟩ := set_q1 (k := W14.heap.size) hm hf15
  subst hrb
  have NB := Lib.hid hNb
  have K16 := Lib.hid (show Kept [] W14 (W15.setCell ⟨gr, 0, none⟩ (.int .u32 1)) from kept_up k15 kb (fun b hb => by simp at hb; subst hb; exact hge))
  clear hm k15 hf15 hNb kb hge
  gi_wp2_with fail
  obtain ⟨W16, hW16⟩ : ∃ V, V = W15.setCell ⟨gr, 0, none⟩ (.int .u32 1) := ⟨_, rfl⟩
  rw [← hW16] at NB K16 ⊢
  clear hW16 d3 dc df
  refine ⟨trivial, ?_⟩
  refine (callsIn_wide.2 (all_err _ 1 (by decide) W16 (check_bad NB.out t_bad (by omega)))).mono ?_
  rintro e W17 ⟨rfl, k17⟩
  have K17 := Lib.hid (show Kept [] W14 W17 from K16.out.trans k17)
  have KA := Lib.hid (show Kept [] W8 W17 from (K11.out.trans K14.out).trans K17.out)
  have c14 : W17.cell? ⟨b14, 0, none⟩ = some (.int .i64 0) := ((K14.out.trans K17.out).cell B14.out.cell (by simp))
  have hcv : (convert 23 9 (.slice a7 18 c7)).run Tryd.prog W17 = .ok (.string ⟨#[46, 109, 111, 100, 101, 108, 32, 101, 109, 112, 116, 121, 10, 46, 101, 110, 100, 10]⟩) W17 := own_str0 (l := litE) (own_kept R8.out KA.out (by simp)) rfl
  have HTE := Lib.hid (tells10 W17 (HL.out.kept0 (KW8.out.trans KA.out)))
  clear k17
  gi_wp2_with fail
  refine ⟨trivial, ?_⟩
  refine (callsIn_wide.2 HTE.out).mono ?_
  rintro e W18 ⟨rfl, k18⟩
  have B18 : Boxed W18 b0 4 (.bool false) := (KA.out.trans k18).heap B8.out (by simp)
  have c18 := B18.cell
  have f18 := B18.frozen
  have KE := Lib.hid k18
  gi_wp2_with fail
  have hd2 : (W18.setCell ⟨b0, 0, none⟩ (.bool true)).heap[D2]? = some (.deferred (some [])) := by
    rw [Below.heap_setCell]
    · exact (K17.out.trans k18).heap HD2.out.2 (by simp)
    · intro h
      have h1 := B8.out.lt
      have h2 := HD2.out.1
      have h3 := (K11.out.trans K13.out).size
      simp only at h
      omega
  have hd1 : (W18.setCell ⟨b0, 0, none⟩ (.bool true)).heap[D1]? = some (.deferred (some [])) := by
    rw [Below.heap_setCell]
    · exact (KA.out.trans k18).heap D8.out (by simp)
    · intro h
      have h1 := B0.out.lt
      have h2 := HD1.out.1
      have h3 := K4.out.size
      simp only at h
      omega
  have hne : D1 ≠ D2 := by
    have h1 := (Array.getElem?_eq_some_iff.1 D8.out).1
    have h2 := HD2.out.1
    have h3 := (K11.out.trans K13.out).size
    omega
  have hd1' : ((W18.setCell ⟨b0, 0, none⟩ (.bool true)).putObj D2 (.deferred none)).heap[D1]? = some (.deferred (some [])) := (World.putObj_heap_other hne).trans hd1
  have hbx : Boxed (W18.setCell ⟨b0, 0, none⟩ (.bool true)) b0 4 (.bool true) := B18.set _
  have hc5 := cell_kept (cell_kept hbx.cell (grownBy_putObj' _ D2 (.deferred none)) (fun r e => by cases e; exact ⟨_, hd2, rfl⟩)) (grownBy_putObj' _ D1 (.deferred none)) (fun r e => by cases e; exact ⟨_, hd1', rfl⟩)
  refine ⟨by simp, .inl ⟨_, _, rfl, run_takeDeferred hd2, ⟨by simp, .inl ⟨_, _, rfl, run_takeDeferred hd1', ?_⟩⟩⟩⟩
  refine ⟨.bool true, ?_, rfl, ?_⟩
  · simp [results, Tryd.results3, go_sem, hc5]
  · have hbb : Below w.heap.size w (W18.setCell ⟨b0, 0, none⟩ (.bool true)) := ((KW8.out.trans KA.out).trans k18).below.setCell (p := ⟨b0, 0, none⟩) (by show w.heap.size ≤ b0; rw [HB0.out]; exact Nat.le_refl _) _
    have h2 : w.heap.size ≤ D2 := by
      have h2 := HD2.out.1
      have h3 := (K11.out.trans K13.out).size
      have h4 := KW8.out.size
      omega
    have h1 : w.heap.size ≤ D1 := by
      have h2 := HD1.out.1
      have h3 := (K0.out.trans K4.out).size
      omega
    exact .of_below ((hbb.trans (belowK_b (w := w) (Nat.le_refl _) _ D2 _ _ h2 hd2 rfl rfl)).trans (belowK_b (w := w) (Nat.le_refl _) _ D1 _ _ h1 hd1' rfl rfl))
end Go.Proofs.YtnjoklcddodfeaaDoor

namespace Go.Proofs.YtnjoklcddodfeaaDoor
open Go.ChangeShapes Go.WideShapes Go.ChangeAt Go.WideMaps Go.WideElems Go.RowKit
set_option linter.unusedVariables false
set_option linter.unusedSimpArgs false

theorem ek_walk (W : World) (hg : PowLaid W) :
    Calls Tryd.prog 3 #[] W fun e w' => e = .returned (.bool true) ∧ Below W.heap.size W w' :=
  (known_c W hg).mono fun _ _ h => ⟨h.1, h.2.below⟩

set_option maxRecDepth 100000 in
theorem ek_lifted (os : Os) (started : os.Started) (H : Type) (enc : TypeId × Value → H) :
    ReturnsInHanded {} Tryd.checked os 3 .any (fun w args => (Rows.emitKnownSpec.pre enc Tryd.prog Tryd.f3 [] false w args ∧ laidMetH Tryd.prog laid3 w) ∧ sizedMet enc Tryd.prog Tryd.f3 (OpenSpec.ofChange Rows.emitKnownSpec) false w args)
      (Rows.emitKnownSpec.post enc Tryd.prog Tryd.f3 false true false false) := by
  refine returnsInHanded_of_change_and (C := Tryd.checked) (X := fun w _ => laidMetH Tryd.prog laid3 w) (fun _ _ _ hh h => h.of_heap hh) own started (by kernel_rfl) Tryd.func3
    (ChangeSpec.witness_shaped (enc := enc) (C := Tryd.checked) (os := os) (X := fun w _ => laidMetH Tryd.prog laid3 w) false (World.doorLaid Tryd.prog 400 os) #[] 8 rfl (World.shaped_of_RefB (by kernel_rfl) (by kernel_rfl)) (by kernel_rfl) (by kernel_rfl) (by kernel_rfl) (door_met os _)) ?_
  intro W base args ds gs before hval0 hW _ hsz0 hL _
  have hg := laid_pow hL
  have hval : ∀ (j : Nat) t v, Tryd.f3.params[j]? = some t → args[j]? = some v → Value.okWide Tryd.prog W .any base t v := hval0
  have hend := fun W' (hb : Below W.heap.size W W') => law_post (s := Rows.emitKnownSpec) (fn := Tryd.f3) laidOut (by kernel_rfl) rfl ⟨4, rfl, Tryd.underlying4⟩ (fun l hl => by match l, hl with | [], _ => rfl) hW hb
  obtain ⟨p, q, hA0, hV, rfl, hfz, hnd⟩ := hW
  have hA : DataW.TrodAll enc Tryd.prog W 0 (fun _ => true) true Tryd.f3.params.toList args.toList ds p := hA0
  have hsz : (DataW.weightsEach Tryd.prog (Tryd.f3.params.toList ++ Rows.emitKnownSpec.plain.varTypes Tryd.prog) (ds ++ gs)).all (· ≤ reachBytes) = true := hsz0
  rw [Tryd.params3] at hA hval hsz
  obtain ⟨hargs, rfl, rfl⟩ := trodAll_nil hA
  obtain rfl : args = #[] := by cases args; simp_all
  obtain ⟨rfl, rfl⟩ := trodVars_none hV
  refine (ek_walk  W  hg).mono fun e W' ⟨he, hb⟩ => ?_
  subst he
  exact hend W' hb

theorem ek_over : Rows.emitKnownRow.holds Tryd.pinned (OpenSpec.ofChange Rows.emitKnownSpec) :=
  OpenClaim.holds_of_wide 3 Tryd.f3 rfl rfl rfl rfl rfl rfl rfl ⟨rfl, rfl, rfl, rfl, rfl⟩ rfl rfl rfl rfl rfl (by kernel_rfl) Tryd.func3 (by kernel_rfl)
    (of_decide_eq_true (by kernel_rfl)) (by unfold Func.isWrapper; first | (rw [if_pos (by decide +kernel)]; kernel_rfl) | (rw [if_neg (by decide +kernel)]; exact ⟨rfl, rfl⟩))
    (fun os started H enc _ => ek_lifted os started H enc)

theorem emitKnown_said : Rows.EmitKnownSaid := ek_over
theorem emitKnown_holds : Rows.EmitKnownCardSaid :=
  Claim7.holds_tied_plain_at .later [] [.data, .data, .data] true (true, "05457ae20ff0848382c6a5250946356541112b6abd8f67a5f5d8f89f2624fd0b") false
    emitKnown_said (fun _ h => by cases h) (by kernel_rfl) (fun _ h => by cases h) emitKnown_row_tie rfl ⟨rfl, rfl⟩ (by kernel_rfl) rfl
    (fun f fn hf hfn => by
      obtain rfl : f = 3 := Option.some.inj ((show Tryd.prog.funcNamed "orrery/orrerylaw10.EmitKnown" = some 3 by kernel_rfl).symm.trans hf) |>.symm
      obtain rfl : fn = Tryd.f3 := (Option.some.inj (Tryd.func3.symm.trans hfn)).symm
      exact ⟨by kernel_rfl, fun j t ht => by
        rw [Tryd.params3] at ht
        have hm : t ∈ ([] : List TypeId) := by simpa using Array.mem_of_getElem? ht
        have hall : (([] : List TypeId).all fun u => !Tryd.prog.wantsStandIn u) = true := by kernel_rfl
        exact (show Tryd.prog.wantsStandIn t = false by simpa using List.all_eq_true.1 hall t hm)⟩)
    (by kernel_rfl)
end Go.Proofs.YtnjoklcddodfeaaDoor
