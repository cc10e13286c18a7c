/-
  Package net: AddIn where it goes well; AddReg.
-/
import Derived.Test.YtnjoklcddodfeaaDoorNetB
namespace Go.Proofs.YtnjoklcddodfeaaDoor
open Go.ChangeShapes Go.WideShapes Go.ChangeAt Go.RowKit
open Go.Maps (Keyed)
open Go.WideMaps
set_option linter.unusedVariables false
set_option linter.unusedSimpArgs false

variable {w w' : World} {p n : Nat} {F R S : List Nat} {g : Gr} {N : Nt}
set_option maxHeartbeats 3200000 in
set_option maxRecDepth 100000 in
theorem addin_good (h : NetAt w n F R N) (hok : N.g.nodes.length ≤ 100000 ∧ N.inb.length ≤ 100000) (s : ByteArray) (hs : s.size ≤ 140737488351232) (m : Nat) (h1 : 1 ≤ m) (h2 : m ≤ 64) (hm : mayB s = true) (hf : findB N.inb s = none) :
    Calls Tryd.prog 22 #[.pointer (some ⟨n, 0, none⟩), .string s, .int .i64 (m : Int)] w (AddInPost ({ N with g := inputsG N.g m, inb := N.inb ++ [⟨s, rowFrom N.g.nodes.length m⟩] }, rowFrom N.g.nodes.length m, 0) w n F R) := by
  have HNO := Lib.hid (net_none h (show N.g.nodes.length ≤ 1000000 by omega))
  have HM := Lib.hid (fun (W : World) => mayname_c s W hs)
  rw [hm] at HM
  have lenN := hok.1
  have lenI := hok.2
  obtain ⟨p, G, ia, ic, ra, rc, oa, oc, ri, ro, rfl, rfl, hc⟩ := h
  have HF := Lib.hid (fun (W : World) (hk : Kept [] w W) => find_c s ia ic N.inb.length ri (w := W) (by rw [← hc.ib.is]; simp) (by omega) (hc.ib.slb.kept0 hk))
  rw [findP_eq, hc.ib.is, hf] at HF
  have HC := Lib.hid (fun (W : World) (hk : Kept [] w W) => hc.kept hk (by simp) (by simp))
  have HWF := Lib.hid hc.gr.wf
  clear hc hm hf hok
  obtain ⟨n0, hn0⟩ : ∃ k, k = N.g.nodes.length := ⟨_, rfl⟩
  have HN0 := Lib.hid hn0
  obtain ⟨nI, hnI⟩ : ∃ k, k = N.inb.length := ⟨_, rfl⟩
  have HNI := Lib.hid hnI
  rw [← hn0] at lenN ⊢
  rw [← hnI] at lenI HF
  clear hn0 hnI
  go_enter Tryd.func22, Tryd.ntmps22; (try simp only [List.append])
  go_wp2_with fail
  refine HNO.out.mono ?_
  rintro e w' ⟨rfl, rfl⟩
  go_wp2_with fail
  refine (HM.out _).mono ?_
  rintro e w1 ⟨rfl, hk1⟩
  have K1 := Lib.hid hk1
  have c2 := (HC.out _ hk1).c2
  rw [← HNI.out] at c2
  clear hk1
  go_wp2_with fail
  refine (HF.out _ K1.out).mono ?_
  rintro e w2 ⟨rfl, hk2⟩
  have K2 := Lib.hid (K1.out.trans hk2)
  clear hk2 c2
  have HC2 := Lib.hid (HC.out _ K2.out)
  clear HC HF HM HNO K1
  have c0 := HC2.out.c0
  have hNod := Lib.hid (aig_nodes HC2.out.gr (by have := HN0.out; omega))
  rw [← HN0.out] at hNod
  go_wp2_with fail
  refine hNod.out.mono ?_
  rintro e w' ⟨rfl, rfl⟩
  clear hNod
  go_wp2_with fail
  have AP := Lib.hid HC2.out.apart
  have LT := Lib.hid HC2.out.lt
  go_loopw [8, 45] (fun v i wr => ∃ (k : Nat) (a' : Option Addr) (c' : Nat) (G' : List Nat), k ≤ m ∧ i = .int .i64 k ∧ v = .slice a' k c' ∧ GraphAt wr p G' (inputsG N.g k) ∧ Own wr 41 a' k c' (nats .u32 (rowFrom n0 k)) ∧ Stepped w2 wr G G' ∧ ∀ b ∈ ft a', w2.heap.size ≤ b) (fun _ i _ => m - (intOf i).toNat)
  case atStart => exact ⟨0, none, 0, G, Nat.zero_le _, rfl, rfl, HC2.out.gr, Own.nil _ _, .refl _ _, by simp [ft]⟩
  case round =>
    obtain ⟨k, a', c', G', hk, rfl, rfl, hg, hown, hst, hfr⟩ := hrel
    have GR := Lib.hid hg
    have OW := Lib.hid hown
    have ST := Lib.hid hst
    have FR := Lib.hid hfr
    have c0r := hst.kept.cell c0 AP.out.1
    clear hg hown hst hfr
    by_cases hlt : k < m
    · have HI := Lib.hid (aig_input GR.out (by rw [inputsG_length, ← HN0.out]; omega))
      have HV := Lib.hid (show (inputG (inputsG N.g k)).2 = 2 * (n0 + k) from by show 2 * (inputsG N.g k).nodes.length = _; rw [inputsG_length, ← HN0.out])
      have HG := Lib.hid (show (inputG (inputsG N.g k)).1 = inputsG N.g (k + 1) from rfl)
      generalize inputG (inputsG N.g k) = ig at *
      obtain ⟨ig1, y⟩ := ig
      simp only at HV HG
      have HR := Lib.hid (show rowFrom n0 (k + 1) = rowFrom n0 k ++ [y] from by rw [rowFrom_succ, HV.out])
      clear c0
      go_wp2_with fail
      refine HI.out.mono ?_
      rintro e w3 ⟨G3, rfl, hg3, hst3⟩
      have GR3 := Lib.hid hg3
      have ST3 := Lib.hid hst3
      have hown3 := OW.out.kept hst3.kept (fun b hb hx => GR.out.apart OW.out (by decide) (by decide) (by decide) b hb hx)
      clear hg3 hst3
      go_wp2_with (at_builtin; refine wpList_push rfl rfl Tryd.underlying64 lit_info' rfl rfl rfl hown3 rfl (by unfold maxLen; omega) (by omega) ?_; intro a4 c4 w4 hown4 hst4)
      go_roundw
      case rel =>
        refine ⟨k + 1, a4, c4, G3, by omega, by go_num, rfl, ?_, by rw [HR.out, ← nats_append]; exact hown4, (ST.out.trans ST3.out).aside hst4.kept FR.out, fun b hb => ?_⟩
        · rw [← HG.out]
          exact GR3.out.kept hst4.kept (fun b hb hx => GR3.out.apart hown3 (by decide) (by decide) (by decide) b hx hb)
        · rcases hst4.fresh b hb with h | h
          · exact FR.out b h
          · exact Nat.le_trans (Nat.le_trans ST.out.kept.size ST3.out.kept.size) h
      case measure => simp [intOf]; omega
    · obtain rfl : k = m := by omega
      obtain ⟨w3, rfl⟩ : ∃ v : World, v = wr := ⟨_, rfl⟩
      have HC3 := Lib.hid (HC2.out.graph GR.out ST.out)
      have c2r : w3.cell? ⟨n, 2, none⟩ = some (.slice ia nI ic) := by rw [HNI.out]; exact HC3.out.c2
      have f2r : w3.frozen? ⟨n, 2, none⟩ = false := blk_free HC3.out.blk 2
      have hib := HC3.out.ib.own
      have hnia := HC3.out.apart.2.1
      have hnlt := blk_lt HC3.out.blk
      rw [show (({ N with g := inputsG N.g k } : Nt).inb.length) = nI from HNI.out.symm] at hib
      obtain ⟨ga, hga⟩ := OW.out.form (by omega)
      subst hga
      clear c0
      go_wp2_with (at_builtin; refine wpList_push2 (news := [.string s, .slice (some ⟨ga, 0, none⟩) k c']) rfl rfl Tryd.underlying36 bus_info rfl (by omega) rfl rfl rfl hib rfl (by simp [Value.oneCell']) (by unfold maxLen; omega) (by omega) rfl ?_; intro a5 c5 w5 hown5 hst5; have cw2 : w5.cell? ⟨n, 2, none⟩ = some (.slice ia nI ic) := hst5.kept.cell c2r hnia; have fw2 : w5.frozen? ⟨n, 2, none⟩ = false := (hst5.kept.frozen hnlt hnia).trans f2r)
      have HBI := Lib.hid (show NetC (w5.setCell ⟨n, 2, none⟩ (.slice a5 (nI + 1) c5)) n { N with g := inputsG N.g k, inb := N.inb ++ [⟨s, rowFrom n0 k⟩] } p G' a5 c5 ra rc oa oc (ri ++ [⟨⟨s, rowFrom n0 k⟩, some ⟨ga, 0, none⟩, c'⟩]) ro ∧
          Stepped w3 (w5.setCell ⟨n, 2, none⟩ (.slice a5 (nI + 1) c5)) (n :: (G' ++ (ft ia ++ (ft ra ++ ft oa)))) (n :: (G' ++ (ft a5 ++ (ft ra ++ ft oa)))) from by
        rw [HNI.out] at hown5 ⊢
        exact NetC.addIn (N := { N with g := inputsG N.g k }) HC3.out (by rw [rowFrom_length]; exact hown5) hst5 OW.out.sln (fun b hb => by
          have f := FR.out b hb
          have l := OW.out.lt b hb
          have lt := LT.out.1
          refine ⟨l, fun hx => ?_⟩
          simp only [List.mem_cons, List.mem_append] at hx lt
          rcases hx with hx | hx | hx
          · have := lt b (.inl hx); omega
          · exact GR.out.apart OW.out (by decide) (by decide) (by decide) b hb hx
          · have := lt b (.inr (.inr hx)); omega))
      have SL := Lib.hid ((HBI.out.1.ib.rows ⟨⟨s, rowFrom n0 k⟩, some ⟨ga, 0, none⟩, c'⟩ (by simp)).1)
      have NS := Lib.hid (show NStep w (w5.setCell ⟨n, 2, none⟩ (.slice a5 (nI + 1) c5)) (n :: (G ++ (ft ia ++ (ft ra ++ ft oa)))) (rowsOf ri ++ rowsOf ro) (n :: (G' ++ (ft a5 ++ (ft ra ++ ft oa)))) (rowsOf (ri ++ [⟨⟨s, rowFrom n0 k⟩, some ⟨ga, 0, none⟩, c'⟩]) ++ rowsOf ro) from by
        have s1 := (((NStep.refl w (n :: (G ++ (ft ia ++ (ft ra ++ ft oa)))) (rowsOf ri ++ rowsOf ro)).keep K2.out).trans (NetC.graph_step ST.out)).st.trans HBI.out.2
        refine ⟨s1, fun b hb => ?_⟩
        rcases rows_in b hb with h | h
        · exact .inl h
        · exact .inr (Nat.le_trans K2.out.size (FR.out b h)))
      clear hown5 hst5 hib hnia c2r f2r cw2 fw2 c0r
      refine (clone_lits (some ⟨ga, 0, none⟩) c' k (rowFrom n0 k) _ (rowFrom_length _ _) SL.out (by omega) (by simp)).mono ?_
      rintro e w7 ⟨a7, c7, rfl, ho7, hst7⟩
      have O7 := Lib.hid ho7
      have K7 := Lib.hid hst7.kept
      have F7 := Lib.hid (show ∀ b ∈ ft a7, (w5.setCell ⟨n, 2, none⟩ (.slice a5 (nI + 1) c5)).heap.size ≤ b from fun b hb => by
        rcases hst7.fresh b hb with h | h
        · simp at h
        · exact h)
      clear ho7 hst7
      go_wp2_with fail
      go_ret2
      have hlt := HBI.out.1.lt
      exact ⟨_, _, a7, c7, k, rfl, ⟨p, G', a5, c5, ra, rc, oa, oc, _, ro, rfl, rfl, HBI.out.1.kept K7.out (by simp) (by simp)⟩, NS.out.keep K7.out, O7.out, fun b hb => ⟨Nat.le_trans NS.out.st.kept.size (F7.out b hb), fun hx => by have := hlt.1 b hx; have := F7.out b hb; omega, fun hx => by have := hlt.2 b hx; have := F7.out b hb; omega⟩⟩
end Go.Proofs.YtnjoklcddodfeaaDoor
