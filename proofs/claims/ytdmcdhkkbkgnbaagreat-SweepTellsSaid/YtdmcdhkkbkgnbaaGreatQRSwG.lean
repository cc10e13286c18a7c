/-
  The document's stands, walked.
-/
import Derived.Test.YtdmcdhkkbkgnbaaGreatQRSwF
import Derived.Test.YtdmcdhkkbkgnbaaGreatP27
namespace Go.Proofs.YtdmcdhkkbkgnbaaGreat
open Go.ChangeShapes Go.WideShapes Go.ChangeAt Go.RowKit
open Go.Maps (Keyed)
open Go.WideMaps
set_option linter.unusedVariables false
set_option linter.unusedSimpArgs false

variable {w w' W : World} {p n n' k : Nat} {F R S F' R' : List Nat} {g : Gr} {N M : Nt}
theorem inRows_at {a m : Nat} {l : List Bus} {b : Bus} (h : l[m]? = some b) : (inRows a l)[m]? = some ⟨b.name, rowFrom (a + inMany (l.take m)) b.lits.length⟩ := by
  induction l generalizing a m with
  | nil => simp at h
  | cons c l ih =>
    cases m with
    | zero =>
      simp at h
      subst h
      simp [inRows, inMany]
    | succ m =>
      simp at h
      have := ih (a := a + c.lits.length) h
      simp only [inRows, List.getElem?_cons_succ, List.take_succ_cons]
      rw [this, inMany_cons, Nat.add_assoc]
theorem rowFrom_at {a m i : Nat} (h : i < m) : (rowFrom a m)[i]? = some (2 * (a + i)) := by
  unfold rowFrom
  rw [List.getElem?_map, List.getElem?_range h]
  rfl
def RLits (l : List Nat) (w : World) (e : Ending) (w' : World) : Prop := ∃ a c, e = .returned (.slice a l.length c) ∧ Own w' 46 a l.length c (nats .u32 l) ∧ Kept [] w w' ∧ ∀ b ∈ ft a, w.heap.size ≤ b
set_option maxHeartbeats 6400000 in
set_option maxRecDepth 100000 in
theorem stands_c (h : RNetAt w n F R N) (hf : NtFine k N) (hk : k ≤ 700) (h' : RNetAt w n' F' R' M) (hin : M.inb = inRows 1 N.inb) (sa : Option Addr) (sc nR : Nat) (regs : List Nat) (hnR : nR = N.regs.length) (hrl : regs.length = nR) (hrg : ∀ i, i < N.regs.length → regs[i]? = some (standR N i)) (hsl : SlN w .u32 sa regs) :
    Calls Tryz.prog 47 #[.pointer (some ⟨n, 0, none⟩), .pointer (some ⟨n', 0, none⟩), .slice sa nR sc] w (RLits (byN N) w) := by
  obtain ⟨p, ia, ic, ra, rc, oa, oc, ri, ro, hp⟩ := rnet_parts h
  obtain ⟨p', ia', ic', ra', rc', oa', oc', ri', ro', hp'⟩ := rnet_parts h'
  have HP := Lib.hid hp
  have HP' := Lib.hid hp'
  have HF := Lib.hid hf
  have HIN := Lib.hid hin
  have HSL := Lib.hid hsl
  have HRG := Lib.hid hrg
  have HRL := Lib.hid hrl
  have HNR := Lib.hid hnR
  obtain ⟨nI, hnI⟩ : ∃ m, m = N.inb.length := ⟨_, rfl⟩
  obtain ⟨ng, hng⟩ : ∃ m, m = N.g.nodes.length := ⟨_, rfl⟩
  have HNI := Lib.hid hnI
  have HNG := Lib.hid hng
  have hnr : nR ≤ 700 := by rw [hnR]; have := hf.ok.rk; omega
  have hni : nI ≤ 700 := by rw [hnI]; have := hf.ok.ik; omega
  have hgl : ng ≤ 90000 := by rw [hng]; have := hf.ok.len; omega
  have hni' : M.inb.length = nI := by rw [hin, hnI]; have h1 := congrArg List.length (inRows_names 1 N.inb); simpa using h1
  obtain ⟨G, hgr⟩ := hp.gr
  have HGR := Lib.hid hgr
  obtain ⟨rb, cn, hc2, hnd⟩ := ref_tri hgr
  have HND := Lib.hid hnd
  rw [← hng] at hc2
  have HC := Lib.hid (fun (V : World) (hV : Kept [] w V) => show V.cell? ⟨n, 0, none⟩ = some (.pointer (some ⟨p, 0, none⟩)) ∧ V.cell? ⟨p, 2, none⟩ = some (.slice (some ⟨rb, 0, none⟩) ng cn) ∧ V.cell? ⟨n, 2, none⟩ = some (.slice ia nI ic) ∧ V.cell? ⟨n, 3, none⟩ = some (.slice ra nR rc) ∧ V.cell? ⟨n', 2, none⟩ = some (.slice ia' nI ic') from by
    have a2 := hp.c2
    have a3 := hp.c3
    have b2 := hp'.c2
    rw [← hnI] at a2
    rw [← hnR] at a3
    rw [hni'] at b2
    exact ⟨hV.cell hp.c0 (by simp), hV.cell hc2 (by simp), hV.cell a2 (by simp), hV.cell a3 (by simp), hV.cell b2 (by simp)⟩)
  clear hp hp' hf hin hsl hrg hrl hnR hnI hng hgr hnd hc2 hni' h h'
  go_enter Tryz.func47, Tryz.ntmps47
  go_wp2_with fail
  go_loopw [7, 8] (fun v jv wr => ∃ (j tl : Nat) (a : Option Addr) (c : Nat), 1 ≤ j ∧ j ≤ ng ∧ jv = .int .i64 j ∧ v = .slice a tl c ∧ tl ≤ j ∧ Own wr 46 a tl c (nats .u32 ((ins (N.g.nodes.take j)).map (standN N))) ∧ Stepped w wr [] (ft a)) (fun _ jv _ => ng - (intOf jv).toNat)
  case atStart => exact ⟨1, 0, none, 0, Nat.le_refl _, by rw [HNG.out]; have := HF.out.ok.wf.pos; omega, rfl, rfl, by omega, by rw [List.eq_nil_of_length_eq_zero (ins_one N.g.nodes).symm]; exact Own.nil _ _, .refl _ _⟩
  case round =>
    obtain ⟨j, tl, a, c, hj1, hj, rfl, rfl, htj, ho, hst⟩ := hrel
    obtain ⟨wa, rfl⟩ : ∃ v : World, v = wr := ⟨_, rfl⟩
    have HO := Lib.hid ho
    have ST := Lib.hid hst
    have KA := Lib.hid hst.kept
    clear ho hst
    obtain ⟨g0, g2, g4, g6, g8⟩ := HC.out _ KA.out
    by_cases hlt : j < ng
    · have hkn : j < N.g.nodes.length := by rw [← HNG.out]; exact hlt
      have hat : N.g.nodes[j]? = some (gA N.g.nodes j, gB N.g.nodes j) := by
        rw [List.getElem?_eq_getElem hkn]
        unfold gA gB
        rw [List.getD_eq_getElem?_getD, List.getElem?_eq_getElem hkn]
        rfl
      have hnk := HND.out j _ _ hat
      have j0 : (0 : Int) ≤ (j : Int) := by omega
      have j1 : (j : Int) < (ng : Int) := by omega
      by_cases hx2 : gA N.g.nodes j / 2 = j
      · have c0 := KA.out.cell (hnk.1 hx2).1 (by simp)
        rw [show decide (j ≠ 0) = true from by simp; omega] at c0
        have hI : ins (N.g.nodes.take (j + 1)) = ins (N.g.nodes.take j) ++ [j] := by
          rw [List.take_succ_eq_append_getElem hkn, ins_snoc]
          have e : N.g.nodes[j] = (gA N.g.nodes j, gB N.g.nodes j) := by
            rw [List.getElem?_eq_getElem hkn] at hat
            simpa using hat
          rw [e]
          simp [inAt, List.length_take, Nat.min_eq_left (Nat.le_of_lt hkn), hx2, show j ≠ 0 by omega]
        have HI := Lib.hid hI
        clear hnk hI hat hkn hx2
        go_wp2_with fail
        clear g0 g2 g4 g6 g8 c0
        go_loopw [9, 10] (fun xv mv wr => ∃ (m X : Nat), m ≤ nI ∧ mv = .int .i64 m ∧ xv = .int .u32 X ∧ Hid (X = (posM (litsTo N m 0) j).getD 0) ∧ wa = wr) (fun _ mv _ => nI - (intOf mv).toNat)
        case atStart => exact ⟨0, 0, Nat.zero_le _, rfl, rfl, Lib.hid (by rw [litsTo_zero, posM_nil]; rfl), rfl⟩
        case round =>
          obtain ⟨m, X, hm, rfl, rfl, hX, rfl⟩ := hrel
          have HX := Lib.hid hX.out
          clear hX
          obtain ⟨g0, g2, g4, g6, g8⟩ := HC.out _ KA.out
          by_cases hlm : m < nI
          · have hml : m < N.inb.length := by rw [← HNI.out]; exact hlm
            have hb : N.inb[m]? = some N.inb[m] := List.getElem?_eq_getElem hml
            have hri : ri.length = N.inb.length := by rw [← HP.out.im, List.length_map]
            have hmi : M.inb[m]? = some ⟨N.inb[m].name, rowFrom (1 + inMany (N.inb.take m)) N.inb[m].lits.length⟩ := by rw [HIN.out]; exact inRows_at hb
            have hml' : m < ri'.length := by
              have h1 : ri'.length = M.inb.length := by rw [← HP'.out.im, List.length_map]
              rw [h1]; exact (List.getElem?_eq_some_iff.1 hmi).1
            have e1 : ri[m].b = N.inb[m] := by
              have h1 : (ri.map (·.b))[m]? = N.inb[m]? := by rw [HP.out.im]
              rw [List.getElem?_map, List.getElem?_eq_getElem (show m < ri.length by omega), hb] at h1
              simpa using h1
            have e2 : ri'[m].b = ⟨N.inb[m].name, rowFrom (1 + inMany (N.inb.take m)) N.inb[m].lits.length⟩ := by
              have h1 : (ri'.map (·.b))[m]? = M.inb[m]? := by rw [HP'.out.im]
              rw [List.getElem?_map, List.getElem?_eq_getElem hml', hmi] at h1
              simpa using h1
            obtain ⟨ib, rfl, x0, x1⟩ := (HP.out.ib.kept0 KA.out) m (by omega)
            obtain ⟨ib', rfl, y0, y1⟩ := (HP'.out.ib.kept0 KA.out) m hml'
            have hr1 := (HP.out.ir _ (List.getElem_mem (show m < ri.length by omega))).kept0 KA.out
            have hr2 := (HP'.out.ir _ (List.getElem_mem hml')).kept0 KA.out
            rw [e1] at x1 hr1
            rw [e2] at y1 hr2
            simp only [rowFrom_length] at y1
            have hil := HF.out.ok.il _ (List.getElem_mem hml)
            have HLK := Lib.hid (fun (i x : Nat) (hx : N.inb[m].lits[i]? = some x) => litsTo_succ HF.out hb hx)
            have HLN := Lib.hid (litsTo_next hb)
            have HOK := Lib.hid hil.2.2.2
            have h64 := hil.2.1
            have HR1 := Lib.hid hr1
            have HR2 := Lib.hid hr2
            have hbm := inMany_len HF.out m
            generalize ri[m].a = la at *
            generalize ri[m].c = lc at *
            generalize ri'[m].a = la' at *
            generalize ri'[m].c = lc' at *
            clear e1 e2 hmi hb hri hr1 hr2 hil x0 y0 hml'
            generalize N.inb[m].name = bnm at *
            generalize N.inb[m].lits = bl at *
            generalize inMany (N.inb.take m) = bm at *
            obtain ⟨ln, hln⟩ : ∃ ln, ln = bl.length := ⟨_, rfl⟩
            rw [← hln] at x1 y1 h64
            have HLL := Lib.hid hln
            have m0 : (0 : Int) ≤ (m : Int) := by omega
            have m1 : (m : Int) < (nI : Int) := by omega
            clear hln hml
            go_wp2_with fail
            go_loopw [9, 11] (fun xv iv wr => ∃ (i X : Nat), i ≤ ln ∧ iv = .int .i64 i ∧ xv = .int .u32 X ∧ Hid (X = (posM (litsTo N m i) j).getD 0) ∧ wa = wr) (fun _ iv _ => ln - (intOf iv).toNat)
            case atStart => exact ⟨0, X, Nat.zero_le _, rfl, rfl, Lib.hid HX.out, rfl⟩
            case round =>
              clear HX
              obtain ⟨i, X, hi, rfl, rfl, hX, rfl⟩ := hrel
              have HX := Lib.hid hX.out
              clear hX
              by_cases hli : i < ln
              · have hil : i < bl.length := by rw [← HLL.out]; exact hli
                obtain ⟨ad, had, hcx⟩ := HR1.out i hil
                obtain ⟨ad', had', hcy⟩ := HR2.out i (by rw [rowFrom_length]; exact hil)
                have e3 : (rowFrom (1 + bm) bl.length)[i]'(by rw [rowFrom_length]; exact hil) = 2 * (1 + bm + i) := by
                  have h1 := rowFrom_at (a := 1 + bm) hil
                  rw [List.getElem?_eq_getElem (by rw [rowFrom_length]; exact hil)] at h1
                  simpa using h1
                rw [e3] at hcy
                have hst := HLK.out i bl[i] (List.getElem?_eq_getElem hil)
                have hxo := HOK.out _ (List.getElem_mem hil)
                unfold Gr.ok at hxo
                rw [← HNG.out] at hxo
                have HST := Lib.hid (show posM (litsTo N m (i + 1)) j = if j = bl[i] / 2 then some (2 * (1 + bm + i)) else posM (litsTo N m i) j from by rw [← hst])
                generalize bl[i] = x at *
                rw [had] at x1
                rw [had'] at y1
                have x4 : IntKind.i64.wrap ((x : Int) / 2) = (x : Int) / 2 := IntWalk.i64_in _ (by omega)
                have i0 : (0 : Int) ≤ (i : Int) := by omega
                have i1 : (i : Int) < (ln : Int) := by omega
                clear e3 hst had had' hil
                by_cases hxj : j = x / 2
                · have t1 : ((x : Int) / 2 == (j : Int)) = true := by simp; omega
                  have HXN := Lib.hid (show 2 * (1 + bm + i) = (posM (litsTo N m (i + 1)) j).getD 0 from by rw [HST.out, if_pos hxj]; rfl)
                  clear hxj
                  obtain ⟨z, hz⟩ : ∃ z, z = 2 * (1 + bm + i) := ⟨_, rfl⟩
                  rw [← hz] at HXN hcy
                  clear hz
                  go_wp2_with fail
                  go_roundw
                  case rel => exact ⟨i + 1, z, by omega, by go_num, rfl, Lib.hid HXN.out, by first | rfl | trivial⟩
                  case measure => simp [intOf]; omega
                · have t1 : ((x : Int) / 2 == (j : Int)) = false := by simp; omega
                  have HXN := Lib.hid (show X = (posM (litsTo N m (i + 1)) j).getD 0 from by rw [HST.out, if_neg hxj]; exact HX.out)
                  clear hxj
                  go_wp2_with fail
                  go_roundw
                  case rel => exact ⟨i + 1, X, by omega, by go_num, rfl, Lib.hid HXN.out, by first | rfl | trivial⟩
                  case measure => simp [intOf]; omega
              · obtain rfl : ln = i := by omega
                have HXN := Lib.hid (show X = (posM (litsTo N (m + 1) 0) j).getD 0 from by rw [← HLN.out, ← HLL.out]; exact HX.out)
                go_wp2_with fail
                go_roundw
                case rel => exact ⟨m + 1, X, by omega, by go_num, by first | rfl | trivial, Lib.hid HXN.out, by first | rfl | trivial⟩
                case measure => simp [intOf]; omega
          · obtain rfl : nI = m := by omega
            have HX0 := Lib.hid (show X = (regM N 0 j).getD 0 from by rw [regM_zero, ← litsTo_all, ← HNI.out]; exact HX.out)
            go_wp2_with fail
            clear g0 g2 g4 g6 g8
            go_loopw [9, 12] (fun xv iv wr => ∃ (i X : Nat), i ≤ nR ∧ iv = .int .i64 i ∧ xv = .int .u32 X ∧ Hid (X = (regM N i j).getD 0) ∧ wa = wr) (fun _ iv _ => nR - (intOf iv).toNat)
            case atStart => exact ⟨0, X, Nat.zero_le _, rfl, rfl, Lib.hid HX0.out, rfl⟩
            case round =>
              clear HX HX0
              obtain ⟨i, X, hi, rfl, rfl, hX, rfl⟩ := hrel
              have HX := Lib.hid hX.out
              clear hX
              obtain ⟨g0, g2, g4, g6, g8⟩ := HC.out _ KA.out
              by_cases hli : i < nR
              · have hil : i < N.regs.length := by rw [← HNR.out]; exact hli
                have hrs : i < regs.length := by rw [HRL.out]; exact hli
                obtain ⟨qb, rfl, r0, r1, r2, r3⟩ := (HP.out.rb.kept0 KA.out) i hil
                obtain ⟨ad, rfl, hcx⟩ := (HSL.out.kept0 KA.out) i hrs
                have e3 : regs[i] = standR N i := by
                  have h1 := HRG.out i hil
                  rw [List.getElem?_eq_getElem hrs] at h1
                  simpa using h1
                have hst := regM_succ HF.out hil
                have hxo := (HF.out.ok.rl _ (List.getElem_mem hil)).1
                unfold Gr.ok at hxo
                rw [← HNG.out] at hxo
                have e4 : N.regs.getD i ⟨0, 0, 0, false⟩ = N.regs[i] := by rw [List.getD_eq_getElem?_getD, List.getElem?_eq_getElem hil]; rfl
                rw [e4] at hst
                rw [e3] at hcx
                have HST := Lib.hid (show regM N (i + 1) j = if j = N.regs[i].q / 2 then some (standR N i) else regM N i j from by rw [← hst])
                generalize N.regs[i].q = x at *
                generalize standR N i = z at *
                have x4 : IntKind.i64.wrap ((x : Int) / 2) = (x : Int) / 2 := IntWalk.i64_in _ (by omega)
                have i0 : (0 : Int) ≤ (i : Int) := by omega
                have i1 : (i : Int) < (nR : Int) := by omega
                clear e3 e4 hst hrs hil r1 r2 r3
                by_cases hxj : j = x / 2
                · have t1 : ((x : Int) / 2 == (j : Int)) = true := by simp; omega
                  have HXN := Lib.hid (show z = (regM N (i + 1) j).getD 0 from by rw [HST.out, if_pos hxj]; rfl)
                  clear hxj
                  go_wp2_with fail
                  go_roundw
                  case rel => exact ⟨i + 1, z, by omega, by go_num, by first | rfl | trivial, Lib.hid HXN.out, by first | rfl | trivial⟩
                  case measure => simp [intOf]; omega
                · have t1 : ((x : Int) / 2 == (j : Int)) = false := by simp; omega
                  have HXN := Lib.hid (show X = (regM N (i + 1) j).getD 0 from by rw [HST.out, if_neg hxj]; exact HX.out)
                  clear hxj
                  go_wp2_with fail
                  go_roundw
                  case rel => exact ⟨i + 1, X, by omega, by go_num, by first | rfl | trivial, Lib.hid HXN.out, by first | rfl | trivial⟩
                  case measure => simp [intOf]; omega
              · obtain rfl : nR = i := by omega
                have HXS := Lib.hid (show X = standN N j from by rw [← regM_all, ← HNR.out]; exact HX.out)
                have hown := HO.out
                go_wp2_with (at_builtin; refine wpList_push rfl rfl Tryz.underlying87 u32_info rfl rfl rfl hown rfl (by unfold maxLen; omega) (by omega) ?_; intro a1 c1 w5 hown5 hst5)
                go_roundw
                case rel => exact ⟨j + 1, tl + 1, a1, c1, by omega, by omega, by go_num, rfl, by omega, by rw [HI.out, List.map_append, List.map_cons, List.map_nil, ← HXS.out, ← nats_append]; exact hown5, ST.out.trans hst5⟩
                case measure => simp [intOf]; omega
      · have c0 := KA.out.cell (hnk.2 hx2).1 (by simp)
        have hI : ins (N.g.nodes.take (j + 1)) = ins (N.g.nodes.take j) := by
          rw [List.take_succ_eq_append_getElem hkn, ins_snoc]
          have e : N.g.nodes[j] = (gA N.g.nodes j, gB N.g.nodes j) := by
            rw [List.getElem?_eq_getElem hkn] at hat
            simpa using hat
          rw [e]
          simp [inAt, List.length_take, Nat.min_eq_left (Nat.le_of_lt hkn), hx2]
        have HI := Lib.hid hI
        clear hnk hI hat hkn hx2
        go_wp2_with fail
        go_roundw
        case rel => exact ⟨j + 1, tl, a, c, by omega, by omega, by go_num, rfl, by omega, by rw [HI.out]; exact HO.out, ST.out⟩
        case measure => simp [intOf]; omega
    · obtain rfl : ng = j := by omega
      have hE : N.g.nodes.take ng = N.g.nodes := List.take_of_length_le (by rw [HNG.out]; exact Nat.le_refl _)
      rw [hE] at HO
      clear hE
      go_wp2_with fail
      go_ret
      have hl : (byN N).length = tl := by have := HO.out.len; simpa [nats, byN] using this
      refine ⟨a, c, by rw [hl]; rfl, by rw [hl]; exact HO.out, ST.out.kept, fun b hb => (ST.out.fresh b hb).elim (by simp) id⟩
end Go.Proofs.YtdmcdhkkbkgnbaaGreat
