/-
  Package emit: all lines gone through: the iterator that Lines hands back.
-/
import Derived.Test.YtnjoklcddodfeaaGreatDoorQEmitJ
import Derived.Test.YtnjoklcddodfeaaGreatDoorP24
namespace Go.Proofs.YtnjoklcddodfeaaGreatDoor
open Go.ChangeShapes Go.WideShapes Go.ChangeAt Go.RowKit Go.Shelf
attribute [local go_sem] Oper.semAt_some
set_option linter.unusedVariables false
set_option linter.unusedSimpArgs false

variable {w w' w1 W W' : World} {n₀ : Nat}
/-- a netlist below a block -/
structure BoxNet (W : World) (n₀ nb : Nat) (N : Nt) (p : Nat) (G : List Nat) (ia : Option Addr) (ic : Nat) (ra : Option Addr) (rc : Nat) (oa : Option Addr) (oc : Nat) (ri ro : List BR) : Prop where
  net : NetC W nb N p G ia ic ra rc oa oc ri ro
  ln : ∀ b ∈ nb :: (G ++ (ft ia ++ (ft ra ++ ft oa))), b < n₀
  lr : ∀ b ∈ rowsOf ri ++ rowsOf ro, b < n₀
  pw : PowLaid W
  lp : 3 < n₀
section
variable {nb : Nat} {N : Nt} {p : Nat} {G : List Nat} {ia : Option Addr} {ic : Nat} {ra : Option Addr} {rc : Nat} {oa : Option Addr} {oc : Nat} {ri ro : List BR}
theorem BoxNet.below (h : BoxNet W n₀ nb N p G ia ic ra rc oa oc ri ro) (hk : Below n₀ W W') : BoxNet W' n₀ nb N p G ia ic ra rc oa oc ri ro :=
  ⟨h.net.kept (kept_up0 hk) (fun b hb => not_up (h.ln b hb)) (fun b hb => not_up (h.lr b hb)), h.ln, h.lr, h.pw.below hk h.lp, h.lp⟩
theorem BoxNet.at (h : BoxNet W n₀ nb N p G ia ic ra rc oa oc ri ro) : NetAt W nb (nb :: (G ++ (ft ia ++ (ft ra ++ ft oa)))) (rowsOf ri ++ rowsOf ro) N := ⟨p, G, ia, ic, ra, rc, oa, oc, ri, ro, rfl, rfl, h.net⟩
end
theorem pre_ok {α : Type} {A L R q : List α} (h : q <+: L) : A ++ q <+: A ++ (L ++ R) := by
  obtain ⟨t, rfl⟩ := h
  exact ⟨t ++ R, by simp⟩
/-- what the iterator leaves -/
def Gone (N : Nt) (J Jx : List (List UInt8) → World → Prop) (e : Ending) (W' : World) : Prop := (∃ v, e = .returned v) ∧ ((∃ ys, ys = linesN N ∧ J ys W') ∨ (∃ pre, pre <+: linesN N ∧ Jx pre W'))
set_option maxHeartbeats 6400000 in
set_option maxRecDepth 100000 in
theorem lines1_in (n l : Nat) (N : Nt) (k : Nat) (hf : NtFine k N) (hk : k ≤ 60) (J Jx : List (List UInt8) → World → Prop) (hY : ∀ m, Yld m l J Jx n₀ (linesN N)) (hJ : ∀ s A B, J s A → Kept [] A B → J s B)
    (bx nb p : Nat) (hJb : ∀ s A, J s A → A.cell? ⟨bx, 0, none⟩ = some (.pointer (some ⟨nb, 0, none⟩))) (G : List Nat) (ia : Option Addr) (ic : Nat) (ra : Option Addr) (rc : Nat) (oa : Option Addr) (oc : Nat) (ri ro : List BR) (W : World) (hB : BoxNet W n₀ nb N p G ia ic ra rc oa oc ri ro) (hn0 : n₀ ≤ W.heap.size) (h0 : J [] W) :
    CallsIn Fence.wide n Tryz.prog 44 #[.func (.yield l) #[] #[], .pointer (some ⟨bx, 0, none⟩)] W (Gone N J Jx) := by
  have HJ := Lib.hid hJ
  have HBN := Lib.hid hB
  have H0 := Lib.hid h0
  have c0 := hJb _ _ h0
  have HJB := Lib.hid hJb
  have hok := hf.ok
  have HCK := Lib.hid (check_c hB.at hf (by omega))
  by_cases hck : checkN N = 0
  · have hlines : linesN N = bodyL N := by unfold linesN; rw [if_pos hck]
    rw [hlines] at hY
    have HLI := Lib.hid hlines
    obtain ⟨x0, hx0⟩ : ∃ x0, x0 = lineB wModel (bytesL N.name) [] := ⟨_, rfl⟩
    obtain ⟨L1, hL1⟩ : ∃ L, L = N.inb.map (busL wInput) := ⟨_, rfl⟩
    obtain ⟨L2, hL2⟩ : ∃ L, L = N.regs.map latchL := ⟨_, rfl⟩
    obtain ⟨L3, hL3⟩ : ∃ L, L = gatesL N.g N.g.nodes.length := ⟨_, rfl⟩
    obtain ⟨L4, hL4⟩ : ∃ L, L = N.outb.map (busL wOutput) := ⟨_, rfl⟩
    have hbody : bodyL N = x0 :: (L1 ++ (L2 ++ (L3 ++ (L4 ++ [wEnd])))) := by rw [hx0, hL1, hL2, hL3, hL4]; rfl
    rw [hbody] at hY
    have HBD := Lib.hid (hlines.trans hbody)
    have HY := Lib.hid hY
    have hl1 : L1.length = N.inb.length := by rw [hL1]; simp
    have hl2 : L2.length = N.regs.length := by rw [hL2]; simp
    have hl4 : L4.length = N.outb.length := by rw [hL4]; simp
    have b1 := hok.ik
    have b2 := hok.rk
    have b3 := hok.ok
    have b4 := hok.len
    have HBI := Lib.hid (fun (V : World) (hV : Below n₀ W V) (pre : List (List UInt8)) (hj : J pre V) (hl : pre = [x0]) => (show CallsIn Fence.wide (n - 1) Tryz.prog 46 #[.string ⟨wInput.toArray⟩, .slice ia N.inb.length ic, .func (.yield l) #[] #[]] V (HandOn J Jx n₀ pre L1 V) from by
      have h := HBN.out.below hV
      rw [hL1]
      exact buses_in (n - 1) l _ J Jx HY.out hJ wInput (by decide) ia ic N.inb.length N.inb ri V rfl h.net.ib (fun b hb => h.ln b (by simp [hb])) (fun b hb => h.lr b (by simp [hb])) (fun b hb => by
        obtain ⟨h1, h2, h3, h4⟩ := hok.il b hb
        exact ⟨by omega, by have := mayB_len h3; omega, fun x hx => ok_lt32 hok (by omega) (h4 x hx)⟩) (by omega) h.pw h.lp (by have := hV.size; omega) pre hj (by rw [hl, ← hL1]; simp)))
    have HLA := Lib.hid (fun (V : World) (hV : Below n₀ W V) (pre : List (List UInt8)) (hj : J pre V) (hl : pre = [x0] ++ L1) => (show CallsIn Fence.wide (n - 1) Tryz.prog 47 #[.slice ra N.regs.length rc, .func (.yield l) #[] #[]] V (HandOn J Jx n₀ pre L2 V) from by
      have h := HBN.out.below hV
      rw [hL2]
      exact latches_in (n - 1) l _ J Jx HY.out hJ ra rc N.regs.length N.regs V rfl h.net.rb (fun b hb => h.ln b (by simp [hb])) (fun r hr => by
        obtain ⟨h1, h2, h3⟩ := hok.rl r hr
        exact ⟨ok_lt32 hok (by omega) h1, ok_lt32 hok (by omega) h2, ok_lt32 hok (by omega) h3⟩) (by omega) h.pw h.lp (by have := hV.size; omega) pre hj (by rw [hl, ← hL2]; simp)))
    have HGT := Lib.hid (fun (V : World) (hV : Below n₀ W V) (pre : List (List UInt8)) (hj : J pre V) (hl : pre = [x0] ++ L1 ++ L2) => (show CallsIn Fence.wide (n - 1) Tryz.prog 48 #[.pointer (some ⟨nb, 0, none⟩), .func (.yield l) #[] #[]] V (HandOn J Jx n₀ pre L3 V) from by
      have h := HBN.out.below hV
      rw [hL3]
      exact gates_in (n - 1) l _ J Jx HY.out hJ nb p G N.g V h.net.c0 h.net.gr (h.ln nb (by simp)) (fun b hb => h.ln b (by simp [hb])) (by omega) h.pw h.lp (by have := hV.size; omega) pre hj (by rw [hl, ← hL3]; simp)))
    have HBO := Lib.hid (fun (V : World) (hV : Below n₀ W V) (pre : List (List UInt8)) (hj : J pre V) (hl : pre = [x0] ++ L1 ++ L2 ++ L3) => (show CallsIn Fence.wide (n - 1) Tryz.prog 46 #[.string ⟨wOutput.toArray⟩, .slice oa N.outb.length oc, .func (.yield l) #[] #[]] V (HandOn J Jx n₀ pre L4 V) from by
      have h := HBN.out.below hV
      rw [hL4]
      exact buses_in (n - 1) l _ J Jx HY.out hJ wOutput (by decide) oa oc N.outb.length N.outb ro V rfl h.net.ob (fun b hb => h.ln b (by simp [hb])) (fun b hb => h.lr b (by simp [hb])) (fun b hb => by
        obtain ⟨h1, h2, h3, h4⟩ := hok.ol b hb
        exact ⟨by omega, by have := mayB_len h3; omega, fun x hx => ok_lt32 hok (by omega) (h4 x hx)⟩) (by omega) h.pw h.lp (by have := hV.size; omega) pre hj (by rw [hl, ← hL4]; simp)))
    have HLN := Lib.hid (fun (V : World) (hV : Below n₀ W V) => (show Calls Tryz.prog 45 #[.string ⟨#[46, 109, 111, 100, 101, 108]⟩, .string N.name, .slice none 0 0] V (TxtIs x0 V) from by
      rw [hx0]
      exact line_c wModel (bytesL N.name) none 0 0 [] V ((HBN.out.below hV).pw) rfl (SlN.nil _ _ _) (by simp) (by decide) (by decide) (by have := mayB_len hf.nm; omega)))
    rw [hck] at HCK
    have HCT := Lib.hid (fun (V : World) (hV : Below n₀ W V) (pre : List (List UInt8)) (hj : J pre V) => (show V.cell? ⟨bx, 0, none⟩ = some (.pointer (some ⟨nb, 0, none⟩)) ∧ V.cell? ⟨nb, 1, none⟩ = some (.string N.name) ∧ V.cell? ⟨nb, 2, none⟩ = some (.slice ia N.inb.length ic) ∧ V.cell? ⟨nb, 3, none⟩ = some (.slice ra N.regs.length rc) ∧ V.cell? ⟨nb, 4, none⟩ = some (.slice oa N.outb.length oc) from
      have h := HBN.out.below hV
      ⟨HJB.out _ _ hj, h.net.c1, h.net.c2, h.net.c3, h.net.c4⟩))
    clear hY hJ hJb hB h0 hf hok hck hlines hx0 hL1 hL2 hL3 hL4 hbody hl1 hl2 hl4
    refine callsIn_of_wp Tryz.func44 rfl trivial ?_ rfl
    simp only [Tryz.ntmps44, List.size_toArray, List.length_cons, List.length_nil, Nat.reduceAdd, Nat.reduceSub, Array.replicate_succ, Array.replicate_zero, List.push_toArray, List.append_toArray, List.nil_append, List.cons_append]
    gi_wp2_with fail
    refine ⟨trivial, (fun h => nomatch h), ?_⟩
    refine (callsIn_wide.2 HCK.out).mono ?_
    rintro e W1 ⟨rfl, k1⟩
    have B1 := Lib.hid (show Below n₀ W W1 from k1.below.mono hn0)
    have HJ1 := Lib.hid (HJ.out _ _ _ H0.out k1)
    clear k1 c0
    obtain ⟨c0, c1, c2, c3, c4⟩ := HCT.out W1 B1.out _ HJ1.out
    gi_wp2_with fail
    refine ⟨trivial, (fun h => nomatch h), ?_⟩
    refine (callsIn_wide.2 (HLN.out W1 B1.out)).mono ?_
    rintro e W2 ⟨rfl, k2⟩
    have B2 := Lib.hid (B1.out.trans (show Below n₀ W1 W2 from k2.below.mono (by have := B1.out.size; omega)))
    have HJ2 := Lib.hid (HJ.out _ _ _ HJ1.out k2)
    clear k2 c0 c1 c2 c3 c4
    obtain ⟨fn, tmps, assign, body, hy, hR⟩ := HY.out (n - 1) [] x0 W2 HJ2.out (by simp)
    have HR := Lib.hid hR
    clear hR
    gi_wp2_with fail
    refine ⟨(fun h => nomatch h), ?_⟩
    refine HR.out.mono ?_
    rintro e W3 (⟨rfl, hJ3, hb3⟩ | ⟨rfl, hx3⟩)
    · have HJ3 := Lib.hid hJ3
      have B3 := Lib.hid (B2.out.trans hb3)
      clear hJ3 hb3 hy
      obtain ⟨c0, c1, c2, c3, c4⟩ := HCT.out W3 B3.out _ HJ3.out
      gi_wp2_with fail
      refine ⟨trivial, (fun h => nomatch h), ?_⟩
      refine (HBI.out W3 B3.out [x0] HJ3.out rfl).mono ?_
      rintro e W4 (⟨rfl, hJ4, hb4⟩ | ⟨rfl, q, hq, hx4⟩)
      · have HJ4 := Lib.hid hJ4
        have B4 := Lib.hid (B3.out.trans hb4)
        clear hJ4 hb4 c0 c1 c2 c3 c4
        obtain ⟨c0, c1, c2, c3, c4⟩ := HCT.out W4 B4.out _ HJ4.out
        gi_wp2_with fail
        refine ⟨trivial, (fun h => nomatch h), ?_⟩
        refine (HLA.out W4 B4.out ([x0] ++ L1) HJ4.out rfl).mono ?_
        rintro e W5 (⟨rfl, hJ5, hb5⟩ | ⟨rfl, q, hq, hx5⟩)
        · have HJ5 := Lib.hid hJ5
          have B5 := Lib.hid (B4.out.trans hb5)
          clear hJ5 hb5 c0 c1 c2 c3 c4
          obtain ⟨c0, c1, c2, c3, c4⟩ := HCT.out W5 B5.out _ HJ5.out
          gi_wp2_with fail
          refine ⟨trivial, (fun h => nomatch h), ?_⟩
          refine (HGT.out W5 B5.out ([x0] ++ L1 ++ L2) HJ5.out rfl).mono ?_
          rintro e W6 (⟨rfl, hJ6, hb6⟩ | ⟨rfl, q, hq, hx6⟩)
          · have HJ6 := Lib.hid hJ6
            have B6 := Lib.hid (B5.out.trans hb6)
            clear hJ6 hb6 c0 c1 c2 c3 c4
            obtain ⟨c0, c1, c2, c3, c4⟩ := HCT.out W6 B6.out _ HJ6.out
            gi_wp2_with fail
            refine ⟨trivial, (fun h => nomatch h), ?_⟩
            refine (HBO.out W6 B6.out ([x0] ++ L1 ++ L2 ++ L3) HJ6.out rfl).mono ?_
            rintro e W7 (⟨rfl, hJ7, hb7⟩ | ⟨rfl, q, hq, hx7⟩)
            · have HJ7 := Lib.hid hJ7
              have B7 := Lib.hid (B6.out.trans hb7)
              clear hJ7 hb7 c0 c1 c2 c3 c4
              obtain ⟨c0, c1, c2, c3, c4⟩ := HCT.out W7 B7.out _ HJ7.out
              obtain ⟨fn2, tmps2, assign2, body2, hy2, hR2⟩ := HY.out (n - 1) _ wEnd W7 HJ7.out (by simp)
              have HR2 := Lib.hid hR2
              clear hR2
              simp only [wEnd] at hy2
              gi_wp2_with fail
              refine ⟨(fun h => nomatch h), ?_⟩
              refine HR2.out.mono ?_
              rintro e W8 (⟨rfl, hJ8, hb8⟩ | ⟨rfl, hx8⟩)
              · gi_wp2_with fail
                refine bodyPost_ret (results_none rfl _ _ _) rfl ?_
                exact ⟨⟨_, rfl⟩, .inl ⟨_, by rw [HBD.out]; simp, hJ8⟩⟩
              · gi_wp2_with fail
                refine bodyPost_ret (results_none rfl _ _ _) rfl ?_
                exact ⟨⟨_, rfl⟩, .inr ⟨_, by rw [HBD.out]; simp, hx8⟩⟩
            · gi_wp2_with fail
              repeat (refine ⟨trivial, ?_⟩; gi_wp2_with fail)
              refine bodyPost_end (a := ⟨_, []⟩) (results_none rfl _ _ _) rfl ?_
              exact ⟨⟨_, rfl⟩, .inr ⟨([x0] ++ L1 ++ L2 ++ L3) ++ q, by rw [show linesN N = ([x0] ++ L1 ++ L2 ++ L3) ++ (L4 ++ [wEnd]) from by rw [HBD.out]; simp]; exact pre_ok hq, hx7⟩⟩
          · gi_wp2_with fail
            repeat (refine ⟨trivial, ?_⟩; gi_wp2_with fail)
            refine bodyPost_end (a := ⟨_, []⟩) (results_none rfl _ _ _) rfl ?_
            exact ⟨⟨_, rfl⟩, .inr ⟨([x0] ++ L1 ++ L2) ++ q, by rw [show linesN N = ([x0] ++ L1 ++ L2) ++ (L3 ++ (L4 ++ [wEnd])) from by rw [HBD.out]; simp]; exact pre_ok hq, hx6⟩⟩
        · gi_wp2_with fail
          repeat (refine ⟨trivial, ?_⟩; gi_wp2_with fail)
          refine bodyPost_end (a := ⟨_, []⟩) (results_none rfl _ _ _) rfl ?_
          exact ⟨⟨_, rfl⟩, .inr ⟨([x0] ++ L1) ++ q, by rw [show linesN N = ([x0] ++ L1) ++ (L2 ++ (L3 ++ (L4 ++ [wEnd]))) from by rw [HBD.out]; simp]; exact pre_ok hq, hx5⟩⟩
      · gi_wp2_with fail
        repeat (refine ⟨trivial, ?_⟩; gi_wp2_with fail)
        refine bodyPost_end (a := ⟨_, []⟩) (results_none rfl _ _ _) rfl ?_
        exact ⟨⟨_, rfl⟩, .inr ⟨[x0] ++ q, by rw [show linesN N = [x0] ++ (L1 ++ (L2 ++ (L3 ++ (L4 ++ [wEnd])))) from by rw [HBD.out]; simp]; exact pre_ok hq, hx4⟩⟩
    · gi_wp2_with fail
      repeat (refine ⟨trivial, ?_⟩; gi_wp2_with fail)
      refine bodyPost_end (a := ⟨_, []⟩) (results_none rfl _ _ _) rfl ?_
      exact ⟨⟨_, rfl⟩, .inr ⟨_, by rw [HBD.out]; simp, hx3⟩⟩
  · have hnil : linesN N = [] := by unfold linesN; rw [if_neg hck]
    have HNIL := Lib.hid hnil
    have HCE := Lib.hid (show ((checkN N : Nat) : Int) ≠ 0 from by omega)
    obtain ⟨cn, hcn⟩ : ∃ cn, cn = checkN N := ⟨_, rfl⟩
    have e0 : ((cn : Int) == 0) = false := by rw [beq_eq_false_iff_ne, hcn]; exact HCE.out
    have e1 : ((cn : Int) != 0) = true := by rw [bne_iff_ne, hcn]; exact HCE.out
    rw [← hcn] at HCK
    clear hY hJ hJb hB h0 hf hok hck hnil hcn
    refine callsIn_of_wp Tryz.func44 rfl trivial ?_ rfl
    simp only [Tryz.ntmps44, List.size_toArray, List.length_cons, List.length_nil, Nat.reduceAdd, Nat.reduceSub, Array.replicate_succ, Array.replicate_zero, List.push_toArray, List.append_toArray, List.nil_append, List.cons_append]
    gi_wp2_with fail
    refine ⟨trivial, (fun h => nomatch h), ?_⟩
    refine (callsIn_wide.2 HCK.out).mono ?_
    rintro e W1 ⟨rfl, k1⟩
    gi_wp2_with fail
    refine bodyPost_ret (results_none rfl _ _ _) rfl ?_
    exact ⟨⟨_, rfl⟩, .inl ⟨[], HNIL.out.symm, HJ.out _ _ _ H0.out k1⟩⟩
end Go.Proofs.YtnjoklcddodfeaaGreatDoor
