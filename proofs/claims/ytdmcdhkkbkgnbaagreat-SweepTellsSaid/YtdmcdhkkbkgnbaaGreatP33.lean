/-
  Package orreryref06: AddOut where it goes well.
  Package orreryref06: AddIn, AddReg, SetReg, AddOut.
-/
import Derived.Test.YtdmcdhkkbkgnbaaGreatP32
import Derived.IntWalk
import Derived.Deep.RegionLaw
namespace Go.Proofs.YtdmcdhkkbkgnbaaGreat
open Go.ChangeShapes Go.WideShapes Go.ChangeAt Go.RowKit
open Go.Maps (Keyed)
open Go.WideMaps
set_option linter.unusedVariables false
set_option linter.unusedSimpArgs false

variable {w w' : World} {p q n : Nat} {F R S : List Nat} {g : Gr} {N : Nt}
theorem rbus_info : (Tryz.prog.info? 106).map (fun i => (i.zero, i.size, i.bytes)) = some (some (.agg #[.string ByteArray.empty, .slice none 0 0]), 2, 40) := by kernel_rfl
theorem rreg_info : (Tryz.prog.info? 48).map (fun i => (i.zero, i.size, i.bytes)) = some (some (.agg #[.int .u32 0, .int .u32 0, .int .u32 0, .bool false]), 4, 16) := by kernel_rfl
theorem u32_info : (Tryz.prog.info? 46).map (fun i => (i.zero, i.size, i.bytes)) = some (some (.int .u32 0), 1, 4) := by kernel_rfl
def RAddPost (r : Nt × List Nat × Nat) (w : World) (n : Nat) (F R : List Nat) (e : Ending) (w' : World) : Prop :=
  ∃ F' R' a c k, e = .returned (.tuple #[.slice a k c, .int .i64 (r.2.2 : Nat)]) ∧ RNetAt w' n F' R' r.1 ∧ NStep w w' F R F' R'
def RSetPost (r : Nt × Nat) (w : World) (n : Nat) (F R : List Nat) (e : Ending) (w' : World) : Prop :=
  ∃ F' R', e = .returned (.int .i64 (r.2 : Nat)) ∧ RNetAt w' n F' R' r.1 ∧ NStep w w' F R F' R'
def RRegPost (r : Nt × Nat) (w : World) (n : Nat) (F R : List Nat) (e : Ending) (w' : World) : Prop :=
  ∃ F', e = .returned (.tuple #[.int .u32 (r.2 : Nat), .int .i64 0]) ∧ RNetAt w' n F' R r.1 ∧ NStep w w' F R F' R
theorem RAddPost.no {k : Nat} {W : World} (h : RNetAt w n F R N) (hk : Kept [] w W) : RAddPost (N, [], k) w n F R (.returned (.tuple #[.slice none 0 0, .int .i64 (k : Nat)])) W :=
  ⟨F, R, none, 0, 0, rfl, h.kept0 hk, (NStep.refl w F R).keep hk⟩
theorem RSetPost.no {k : Nat} {W : World} (h : RNetAt w n F R N) (hk : Kept [] w W) : RSetPost (N, k) w n F R (.returned (.int .i64 (k : Nat))) W :=
  ⟨F, R, rfl, h.kept0 hk, (NStep.refl w F R).keep hk⟩
set_option maxHeartbeats 3200000 in
set_option maxRecDepth 100000 in
theorem addreg06 (h : RNetAt w n F R N) (hok : N.g.nodes.length ≤ 50000 ∧ N.regs.length ≤ 10000) (b : Bool) :
    Calls Tryz.prog 45 #[.pointer (some ⟨n, 0, none⟩), .bool b] w (RRegPost (addReg N b) w n F R) := by
  obtain ⟨p, G, ia, ic, ra, rc, oa, oc, ri, ro, rfl, rfl, hc⟩ := h
  have HC := Lib.hid hc
  have HI := Lib.hid (ref_input hc.gr (show N.g.nodes.length ≤ 100000 by omega))
  have lenR := hok.2
  obtain ⟨nR, hnR⟩ : ∃ k, k = N.regs.length := ⟨_, rfl⟩
  have HNR := Lib.hid hnR
  have c0 := hc.c0
  have c3 := hc.c3
  rw [← hnR] at lenR c3
  clear hc hok hnR
  have HV := Lib.hid (show inputG N.g = ((inputG N.g).1, 2 * N.g.nodes.length) from rfl)
  have HAR := Lib.hid (show addReg N b = ({ N with g := (inputG N.g).1, regs := N.regs ++ [⟨2 * N.g.nodes.length, 0, 0, b⟩] }, 2 * N.g.nodes.length) from rfl)
  rw [HV.out] at HI
  rw [HAR.out]
  obtain ⟨y, hy⟩ : ∃ y, y = 2 * N.g.nodes.length := ⟨_, rfl⟩
  rw [← hy] at HI ⊢
  clear hy HV HAR
  go_enter Tryz.func45, Tryz.ntmps45; (try simp only [List.append])
  go_wp2_with fail
  refine HI.out.mono ?_
  rintro e w3 ⟨G3, rfl, hg3, hst3⟩
  have HC3 := Lib.hid (HC.out.graph hg3 hst3)
  have S3 := Lib.hid (RNetC.graph_step (n := n) (ia := ia) (ra := ra) (oa := oa) (ri := ri) (ro := ro) hst3)
  clear hg3 hst3 c0 c3
  have c3r : w3.cell? ⟨n, 3, none⟩ = some (.slice ra nR rc) := by rw [HNR.out]; exact HC3.out.c3
  have f3r : w3.frozen? ⟨n, 3, none⟩ = false := blk_free HC3.out.blk 3
  have hrb := HC3.out.rb
  have hnra := HC3.out.apart.2.2.1
  have hnlt := blk_lt HC3.out.blk
  rw [show (({ N with g := (inputG N.g).1 } : Nt).regs.length) = nR from HNR.out.symm] at hrb
  go_wp2_with (at_builtin; refine wpList_push2 (news := [.int .u32 (y : Int), .int .u32 0, .int .u32 0, .bool b]) rfl rfl Tryz.underlying42 rreg_info rfl (by omega) rfl rfl rfl hrb rfl (by simp [Value.oneCell']) (by unfold maxLen; omega) (by omega) rfl ?_; intro a5 c5 w5 hown5 hst5; have cw3 : w5.cell? ⟨n, 3, none⟩ = some (.slice ra nR rc) := hst5.kept.cell c3r hnra; have fw3 : w5.frozen? ⟨n, 3, none⟩ = false := (hst5.kept.frozen hnlt hnra).trans f3r)
  have HBI := Lib.hid (show RNetC (w5.setCell ⟨n, 3, none⟩ (.slice a5 (nR + 1) c5)) n { N with g := (inputG N.g).1, regs := N.regs ++ [⟨y, 0, 0, b⟩] } p G3 ia ic a5 c5 oa oc ri ro ∧
      Stepped w3 (w5.setCell ⟨n, 3, none⟩ (.slice a5 (nR + 1) c5)) (n :: (G3 ++ (ft ia ++ (ft ra ++ ft oa)))) (n :: (G3 ++ (ft ia ++ (ft a5 ++ ft oa)))) from by
    rw [HNR.out] at hown5 ⊢
    exact RNetC.addReg (N := { N with g := (inputG N.g).1 }) (r := ⟨y, 0, 0, b⟩) HC3.out hown5 hst5)
  clear hown5 hst5 hrb hnra c3r f3r cw3 fw3
  go_ret2
  exact ⟨_, rfl, ⟨p, G3, ia, ic, a5, c5, oa, oc, ri, ro, rfl, rfl, HBI.out.1⟩, ⟨S3.out.st.trans HBI.out.2, fun b hb => .inl hb⟩⟩
set_option maxHeartbeats 3200000 in
set_option maxRecDepth 100000 in
theorem addin06_bad (h : RNetAt w n F R N) (s : ByteArray) (hs : s.size ≤ 140737488351232) (wd : Int) (hw1 : -9223372036854775808 ≤ wd) (hw2 : wd ≤ 9223372036854775807) (hbad : ((!mayB s) || decide (wd < 1) || decide (64 < wd)) = true) :
    Calls Tryz.prog 43 #[.pointer (some ⟨n, 0, none⟩), .string s, .int .i64 wd] w (RAddPost (N, [], 1) w n F R) := by
  have HM := Lib.hid (fun (W : World) => mayname06 s W hs)
  have HPO := Lib.hid (RAddPost.no (k := 1) h (.refl [] w))
  have hc : mayB s = false ∨ (mayB s = true ∧ wd < 1) ∨ (mayB s = true ∧ ¬ wd < 1 ∧ 64 < wd) := by
    cases hm : mayB s
    · exact .inl rfl
    · rw [hm] at hbad
      simp at hbad
      by_cases h1 : wd < 1
      · exact .inr (.inl ⟨rfl, h1⟩)
      · exact .inr (.inr ⟨rfl, h1, by omega⟩)
  generalize ((N, [], 1) : Nt × List Nat × Nat) = res at *
  clear h hbad
  rcases hc with hm | ⟨hm, h1⟩ | ⟨hm, h1, h2⟩
  all_goals
    rw [hm] at HM
    clear hm
    go_enter Tryz.func43, Tryz.ntmps43; (try simp only [List.append])
    go_wp2_with fail
    refine (HM.out _).mono ?_
    rintro e w1 ⟨rfl, rfl⟩
    go_wp2_with fail
    go_ret2
    exact HPO.out
set_option maxHeartbeats 3200000 in
set_option maxRecDepth 100000 in
theorem addin06_there (h : RNetAt w n F R N) (hok : N.inb.length ≤ 100000) (s : ByteArray) (hs : s.size ≤ 140737488351232) (wd : Int) (h1 : 1 ≤ wd) (h2 : wd ≤ 64) (hm : mayB s = true) (k : Nat) (hf : findB N.inb s = some k) :
    Calls Tryz.prog 43 #[.pointer (some ⟨n, 0, none⟩), .string s, .int .i64 wd] w (RAddPost (N, [], 9) w n F R) := by
  have HM := Lib.hid (fun (W : World) => mayname06 s W hs)
  have HPO := Lib.hid (RAddPost.no (k := 9) h (.refl [] w))
  rw [hm] at HM
  generalize ((N, [], 9) : Nt × List Nat × Nat) = res at *
  obtain ⟨p, G, ia, ic, ra, rc, oa, oc, ri, ro, rfl, rfl, hc⟩ := h
  have c2 := hc.c2
  have HF := Lib.hid (find06 s ia ic N.inb.length ri (w := w) (by rw [← hc.ib.is]; simp) (by omega) hc.ib.slb)
  have hfr : ∃ r, findRow ri s = some r := by
    have h := findP_eq ri s
    rw [hc.ib.is, hf] at h
    unfold findRow
    rw [h]
    have hk : k < N.inb.length := (List.findIdx?_eq_some_iff_getElem.1 hf).1
    have hk' : k < ri.length := by rw [← hc.ib.is] at hk; simpa using hk
    exact ⟨ri[k], List.getElem?_eq_getElem hk'⟩
  obtain ⟨r, hfr⟩ := hfr
  rw [hfr] at HF
  clear hc hm hf hfr
  go_enter Tryz.func43, Tryz.ntmps43; (try simp only [List.append])
  go_wp2_with fail
  refine (HM.out _).mono ?_
  rintro e w1 ⟨rfl, rfl⟩
  go_wp2_with fail
  refine HF.out.mono ?_
  rintro e w2 (⟨h3, _⟩ | ⟨r', h3, rfl, rfl⟩)
  · cases h3
  · clear h3
    go_wp2_with fail
    go_ret2
    exact HPO.out
set_option maxHeartbeats 3200000 in
set_option maxRecDepth 100000 in
theorem addin06_good (h : RNetAt w n F R N) (hok : N.g.nodes.length ≤ 50000 ∧ N.inb.length ≤ 100000) (s : ByteArray) (hs : s.size ≤ 140737488351232) (m : Nat) (h1 : 1 ≤ m) (h2 : m ≤ 64) (hm : mayB s = true) (hf : findB N.inb s = none) :
    Calls Tryz.prog 43 #[.pointer (some ⟨n, 0, none⟩), .string s, .int .i64 (m : Int)] w (RAddPost ({ N with g := inputsG N.g m, inb := N.inb ++ [⟨s, rowFrom N.g.nodes.length m⟩] }, rowFrom N.g.nodes.length m, 0) w n F R) := by
  have HM := Lib.hid (fun (W : World) => mayname06 s W hs)
  rw [hm] at HM
  have lenN := hok.1
  have lenI := hok.2
  obtain ⟨p, G, ia, ic, ra, rc, oa, oc, ri, ro, rfl, rfl, hc⟩ := h
  have HF := Lib.hid (find06 s ia ic N.inb.length ri (w := w) (by rw [← hc.ib.is]; simp) (by omega) hc.ib.slb)
  have hfr : findRow ri s = none := by
    have h := findP_eq ri s
    rw [hc.ib.is, hf] at h
    unfold findRow
    rw [h]
    rfl
  rw [hfr] at HF
  have HC2 := Lib.hid hc
  have HWF := Lib.hid hc.gr.wf
  have hpos := hc.gr.wf.pos
  clear hm hf hok hfr
  obtain ⟨n0, hn0⟩ : ∃ k, k = N.g.nodes.length := ⟨_, rfl⟩
  have HN0 := Lib.hid hn0
  obtain ⟨nI, hnI⟩ : ∃ k, k = N.inb.length := ⟨_, rfl⟩
  have HNI := Lib.hid hnI
  rw [← hn0] at lenN hpos ⊢
  rw [← hnI] at lenI HF
  have c0 := hc.c0
  have c2 := hc.c2
  rw [← hnI] at c2
  obtain ⟨an, cn, hG, hcg⟩ := hc.gr
  have g2 := hcg.c2
  rw [← hn0] at g2
  clear hn0 hnI hc hG hcg
  have hwr1 : IntKind.i64.wrap ((n0 : Int) - 1) = (n0 : Int) - 1 := IntWalk.i64_in _ (by omega)
  go_enter Tryz.func43, Tryz.ntmps43; (try simp only [List.append])
  go_wp2_with fail
  refine (HM.out _).mono ?_
  rintro e w1 ⟨rfl, rfl⟩
  go_wp2_with fail
  refine HF.out.mono ?_
  rintro e w2 (⟨h3, rfl, rfl⟩ | ⟨r', h3, _⟩)
  rotate_left
  · cases h3
  clear h3 HF HM
  have AP := Lib.hid HC2.out.apart
  have LT := Lib.hid HC2.out.lt
  go_wp2_with fail
  clear hwr1 g2 c2
  go_loopw [10, 11] (fun v i wr => ∃ (k : Nat) (a' : Option Addr) (c' : Nat) (G' : List Nat), k ≤ m ∧ i = .int .i64 k ∧ v = .slice a' k c' ∧ RefAt wr p G' (inputsG N.g k) ∧ Own wr 46 a' k c' (nats .u32 (rowFrom n0 k)) ∧ Stepped w wr G G' ∧ ∀ b ∈ ft a', w.heap.size ≤ b) (fun _ i _ => m - (intOf i).toNat)
  case atStart => exact ⟨0, none, 0, G, Nat.zero_le _, rfl, rfl, HC2.out.gr, Own.nil _ _, .refl _ _, by simp [ft]⟩
  case round =>
    obtain ⟨k, a', c', G', hk, rfl, rfl, hg, hown, hst, hfr⟩ := hrel
    have GR := Lib.hid hg
    have OW := Lib.hid hown
    have ST := Lib.hid hst
    have FR := Lib.hid hfr
    have c0r := hst.kept.cell c0 AP.out.1
    clear hg hown hst hfr
    by_cases hlt : k < m
    · have HI := Lib.hid (ref_input GR.out (by rw [inputsG_length, ← HN0.out]; omega))
      have HV := Lib.hid (show (inputG (inputsG N.g k)).2 = 2 * (n0 + k) from by show 2 * (inputsG N.g k).nodes.length = _; rw [inputsG_length, ← HN0.out])
      have HG := Lib.hid (show (inputG (inputsG N.g k)).1 = inputsG N.g (k + 1) from rfl)
      generalize inputG (inputsG N.g k) = ig at *
      obtain ⟨ig1, y⟩ := ig
      simp only at HV HG
      have HR := Lib.hid (show rowFrom n0 (k + 1) = rowFrom n0 k ++ [y] from by rw [rowFrom_succ, HV.out])
      clear c0
      go_wp2_with fail
      refine HI.out.mono ?_
      rintro e w3 ⟨G3, rfl, hg3, hst3⟩
      have GR3 := Lib.hid hg3
      have ST3 := Lib.hid hst3
      have hown3 := OW.out.kept hst3.kept (fun b hb hx => GR.out.apart OW.out (by decide) (by decide) b hb hx)
      clear hg3 hst3
      go_wp2_with (at_builtin; refine wpList_push rfl rfl Tryz.underlying87 u32_info rfl rfl rfl hown3 rfl (by unfold maxLen; omega) (by omega) ?_; intro a4 c4 w4 hown4 hst4)
      go_roundw
      case rel =>
        refine ⟨k + 1, a4, c4, G3, by omega, by go_num, rfl, ?_, by rw [HR.out, ← nats_append]; exact hown4, (ST.out.trans ST3.out).aside hst4.kept FR.out, fun b hb => ?_⟩
        · rw [← HG.out]
          exact GR3.out.kept hst4.kept (fun b hb hx => GR3.out.apart hown3 (by decide) (by decide) b hx hb)
        · rcases hst4.fresh b hb with h | h
          · exact FR.out b h
          · exact Nat.le_trans (Nat.le_trans ST.out.kept.size ST3.out.kept.size) h
      case measure => simp [intOf]; omega
    · obtain rfl : k = m := by omega
      obtain ⟨w3, rfl⟩ : ∃ v : World, v = wr := ⟨_, rfl⟩
      have HC3 := Lib.hid (HC2.out.graph GR.out ST.out)
      have c2r : w3.cell? ⟨n, 2, none⟩ = some (.slice ia nI ic) := by rw [HNI.out]; exact HC3.out.c2
      have f2r : w3.frozen? ⟨n, 2, none⟩ = false := blk_free HC3.out.blk 2
      have hib := HC3.out.ib.own
      have hnia := HC3.out.apart.2.1
      have hnlt := blk_lt HC3.out.blk
      rw [show (({ N with g := inputsG N.g k } : Nt).inb.length) = nI from HNI.out.symm] at hib
      obtain ⟨ga, hga⟩ := OW.out.form (by omega)
      subst hga
      clear c0
      go_wp2_with (at_builtin; refine wpList_push2 (news := [.string s, .slice (some ⟨ga, 0, none⟩) k c']) rfl rfl Tryz.underlying41 rbus_info rfl (by omega) rfl rfl rfl hib rfl (by simp [Value.oneCell']) (by unfold maxLen; omega) (by omega) rfl ?_; intro a5 c5 w5 hown5 hst5; have cw2 : w5.cell? ⟨n, 2, none⟩ = some (.slice ia nI ic) := hst5.kept.cell c2r hnia; have fw2 : w5.frozen? ⟨n, 2, none⟩ = false := (hst5.kept.frozen hnlt hnia).trans f2r)
      have HBI := Lib.hid (show RNetC (w5.setCell ⟨n, 2, none⟩ (.slice a5 (nI + 1) c5)) n { N with g := inputsG N.g k, inb := N.inb ++ [⟨s, rowFrom n0 k⟩] } p G' a5 c5 ra rc oa oc (ri ++ [⟨⟨s, rowFrom n0 k⟩, some ⟨ga, 0, none⟩, c'⟩]) ro ∧
          Stepped w3 (w5.setCell ⟨n, 2, none⟩ (.slice a5 (nI + 1) c5)) (n :: (G' ++ (ft ia ++ (ft ra ++ ft oa)))) (n :: (G' ++ (ft a5 ++ (ft ra ++ ft oa)))) from by
        rw [HNI.out] at hown5 ⊢
        exact RNetC.addIn (N := { N with g := inputsG N.g k }) HC3.out (by rw [rowFrom_length]; exact hown5) hst5 OW.out.sln (fun b hb => by
          have f := FR.out b hb
          have l := OW.out.lt b hb
          have lt := LT.out.1
          refine ⟨l, fun hx => ?_⟩
          simp only [List.mem_cons, List.mem_append] at hx lt
          rcases hx with hx | hx | hx
          · have := lt b (.inl hx); omega
          · exact GR.out.apart OW.out (by decide) (by decide) b hb hx
          · have := lt b (.inr (.inr hx)); omega))
      have NS := Lib.hid (show NStep w (w5.setCell ⟨n, 2, none⟩ (.slice a5 (nI + 1) c5)) (n :: (G ++ (ft ia ++ (ft ra ++ ft oa)))) (rowsOf ri ++ rowsOf ro) (n :: (G' ++ (ft a5 ++ (ft ra ++ ft oa)))) (rowsOf (ri ++ [⟨⟨s, rowFrom n0 k⟩, some ⟨ga, 0, none⟩, c'⟩]) ++ rowsOf ro) from by
        have s1 := (RNetC.graph_step (ri := ri) (ro := ro) ST.out).st.trans HBI.out.2
        refine ⟨s1, fun b hb => ?_⟩
        rcases rows_in b hb with h | h
        · exact .inl h
        · exact .inr (FR.out b h))
      clear hown5 hst5 hib hnia c2r f2r cw2 fw2 c0r
      go_ret2
      exact ⟨_, _, _, _, _, rfl, ⟨p, G', a5, c5, ra, rc, oa, oc, _, ro, rfl, rfl, HBI.out.1⟩, NS.out⟩
theorem addin06 (h : RNetAt w n F R N) (hok : N.g.nodes.length ≤ 50000 ∧ N.inb.length ≤ 100000) (s : ByteArray) (hs : s.size ≤ 140737488351232) (wd : Int) (hw1 : -9223372036854775808 ≤ wd) (hw2 : wd ≤ 9223372036854775807) :
    Calls Tryz.prog 43 #[.pointer (some ⟨n, 0, none⟩), .string s, .int .i64 wd] w (RAddPost (addIn N s wd) w n F R) := by
  unfold addIn
  by_cases hbad : ((!mayB s) || decide (wd < 1) || decide (64 < wd)) = true
  · rw [if_pos hbad]
    exact addin06_bad h s hs wd hw1 hw2 hbad
  · rw [if_neg hbad]
    simp only [Bool.or_eq_true, decide_eq_true_eq, not_or, Bool.not_eq_true', Bool.not_eq_false] at hbad
    cases hf : findB N.inb s with
    | some k =>
      simp only [Option.isSome_some, if_true]
      exact addin06_there h hok.2 s hs wd (by omega) (by omega) hbad.1.1 k hf
    | none =>
      simp only [Option.isSome_none, Bool.false_eq_true, if_false]
      obtain ⟨m, rfl⟩ : ∃ m : Nat, wd = (m : Int) := ⟨wd.toNat, by omega⟩
      rw [Int.toNat_natCast]
      exact addin06_good h hok s hs m (by omega) (by omega) hbad.1.1 hf
set_option maxHeartbeats 3200000 in
set_option maxRecDepth 100000 in
theorem setreg06 (h : RNetAt w n F R N) (hok : N.g.nodes.length ≤ 50000 ∧ N.regs.length ≤ 10000) (q d en : Nat) (hq : q < 4294967296) (hd : d < 4294967296) (he : en < 4294967296) :
    Calls Tryz.prog 49 #[.pointer (some ⟨n, 0, none⟩), .int .u32 q, .int .u32 d, .int .u32 en] w (RSetPost (setReg N q d en) w n F R) := by
  have HNA := Lib.hid h
  obtain ⟨p, G, ia, ic, ra, rc, oa, oc, ri, ro, rfl, rfl, hc⟩ := h
  have HTH := Lib.hid (there03 (hc.gr.kept0 ((Kept.refl [] w).alloc (.cells #[.int .u32 (d : Int), .int .u32 (en : Int)] 46))) (by omega) (some ⟨w.heap.size, 0, none⟩) 2 2 [d, en] rfl (by omega) (sln_new w .u32 [d, en] 46) (by intro x hx; simp at hx; omega))
  have HC := Lib.hid hc
  have c0 := hc.c0
  have lenR := hok.2
  obtain ⟨nR, hnR⟩ : ∃ k, k = N.regs.length := ⟨_, rfl⟩
  have HNR := Lib.hid hnR
  rw [← hnR] at lenR
  clear hc hok hnR
  cases hg : gone N.g [d, en] with
  | true =>
    rw [hg] at HTH
    have HPO := Lib.hid (fun (W : World) (hk : Kept [] w W) => show RSetPost (setReg N q d en) w n _ _ (.returned (.int .i64 (1 : Nat))) W from by
      rw [show setReg N q d en = (N, 1) from by unfold setReg; cases findR N.regs q with | none => rfl | some k => simp [hg]]
      exact RSetPost.no (k := 1) HNA.out hk)
    clear hg
    generalize setReg N q d en = res at *
    go_enter Tryz.func49, Tryz.ntmps49; (try simp only [List.append])
    go_wp2_with fail
    refine HTH.out.mono ?_
    rintro e w1 ⟨rfl, m, hm⟩
    have K1 := Lib.hid (show Kept [] w w1 from by rw [hm]; exact ((Kept.refl [] w).alloc _).drewN m)
    clear hm
    go_wp2_with fail
    go_ret
    exact HPO.out _ K1.out
  | false =>
    rw [hg] at HTH
    have HGF := Lib.hid hg
    clear hg
    go_enter Tryz.func49, Tryz.ntmps49; (try simp only [List.append])
    go_wp2_with fail
    refine HTH.out.mono ?_
    rintro e w1 ⟨rfl, m, hm⟩
    have K1 := Lib.hid (show Kept [] w w1 from by rw [hm]; exact ((Kept.refl [] w).alloc _).drewN m)
    clear hm c0
    have HC3 := Lib.hid (HC.out.kept K1.out (by simp) (by simp))
    have c3 : w1.cell? ⟨n, 3, none⟩ = some (.slice ra nR rc) := by rw [HNR.out]; exact HC3.out.c3
    have HSR := Lib.hid (rregs_sl (l := N.regs) rfl HC3.out.rb)
    go_wp2_with fail
    go_loop [9] (fun i => ∃ k : Nat, k ≤ nR ∧ i = .int .i64 k ∧ ∀ j (h : j < N.regs.length), j < k → N.regs[j].q ≠ q) (fun i => nR - (intOf i).toNat)
    case atStart => exact ⟨0, Nat.zero_le _, rfl, fun j h h2 => by omega⟩
    case round =>
      obtain ⟨k, hk, rfl, hall⟩ := hrel
      have HA := Lib.hid hall
      clear hall
      by_cases hlt : k < nR
      · have hkl : k < N.regs.length := by rw [← HNR.out]; exact hlt
        obtain ⟨gr, hra, e0, e1, e2, e3⟩ := HSR.out k hkl
        by_cases hn : N.regs[k].q = q
        · have HF := Lib.hid (show findR N.regs q = some k from by
            unfold findR
            rw [List.findIdx?_eq_some_iff_getElem]
            exact ⟨hkl, by simpa using hn, fun j hj => by simpa using HA.out j (by omega) hj⟩)
          have HRES := Lib.hid (show setReg N q d en = ({ N with regs := putR N.regs k d en }, 0) from by unfold setReg; rw [HF.out]; simp [HGF.out])
          rw [HRES.out]
          subst hra
          have hrb := HC3.out.rb
          have f1 : w1.frozen? ⟨gr, k * 4 + 1, none⟩ = false := World.ownsRow.frozenAt hrb _
          have f2 : w1.frozen? ⟨gr, k * 4 + 2, none⟩ = false := World.ownsRow.frozenAt hrb _
          have hne : n ≠ gr := fun h => HC3.out.apart.2.2.1 (by simp [ft, h])
          have c3' : ∀ u, (w1.setCell ⟨gr, k * 4 + 1, none⟩ u).cell? ⟨n, 3, none⟩ = some (.slice (some ⟨gr, 0, none⟩) nR rc) := fun u => cell_far hne c3
          have t1 : ((N.regs[k].q : Int) == (q : Int)) = true := by simp; omega
          clear hrb hn
          generalize N.regs[k] = rg at *
          go_wp2_with fail
          go_ret
          have s1 := rset_regs1 HC3.out (d := d) (en := en) (by rw [← HNR.out]; exact hlt)
          have hF : ∀ b ∈ [gr], b ∈ n :: (G ++ (ft ia ++ (ft (some (⟨gr, 0, none⟩ : Addr)) ++ ft oa))) := by intro b hb; simp at hb; subst hb; simp [ft]
          exact ⟨_, _, rfl, ⟨p, G, ia, ic, some ⟨gr, 0, none⟩, rc, oa, oc, ri, ro, rfl, rfl, s1.1⟩, ⟨⟨(K1.out.more (by simp)).trans (s1.2.more hF), fun b hb => .inl hb⟩, fun b hb => .inl hb⟩⟩
        · have HN := Lib.hid (show ∀ j (h : j < N.regs.length), j < k + 1 → N.regs[j].q ≠ q from fun j h hj => by
            rcases Nat.lt_or_ge j k with h3 | h3
            · exact HA.out j h h3
            · have : j = k := by omega
              subst this; exact hn)
          have t1 : ((N.regs[k].q : Int) == (q : Int)) = false := by simp; omega
          subst hra
          clear hn
          generalize N.regs[k] = rg at *
          go_wp2_with fail
          go_round
          case rel => exact ⟨k + 1, by omega, by go_num, HN.out⟩
          case measure => simp [intOf]; omega
      · obtain rfl : k = nR := by omega
        have HF := Lib.hid (show findR N.regs q = none from by
          unfold findR
          rw [List.findIdx?_eq_none_iff]
          intro x hx
          obtain ⟨j, hj, rfl⟩ := List.getElem_of_mem hx
          simpa using HA.out j hj (by have := HNR.out; omega))
        have HRES := Lib.hid (show setReg N q d en = (N, 1) from by unfold setReg; rw [HF.out])
        have HPO := Lib.hid (show RSetPost (setReg N q d en) w n _ _ (.returned (.int .i64 (1 : Nat))) w1 from by
          rw [HRES.out]
          exact RSetPost.no (k := 1) HNA.out K1.out)
        go_wp2_with fail
        go_ret
        exact HPO.out
set_option maxHeartbeats 3200000 in
set_option maxRecDepth 100000 in
theorem addout06_bad (h : RNetAt w n F R N) (hok : N.g.nodes.length ≤ 50000) (s : ByteArray) (hs : s.size ≤ 140737488351232) (a : Option Addr) (c m : Nat) (l : List Nat) (hl : l.length = m) (hm0 : m ≤ 140737488351232) (hsl : SlN w .u32 a l) (hlt : ∀ x ∈ l, x < 4294967296)
    (hbad : ((!mayB s) || decide (l.length < 1) || decide (64 < l.length) || gone N.g l) = true) :
    Calls Tryz.prog 48 #[.pointer (some ⟨n, 0, none⟩), .string s, .slice a m c] w (RSetPost (N, 1) w n F R) := by
  have HM := Lib.hid (fun (W : World) => mayname06 s W hs)
  have HPO := Lib.hid (fun (W : World) (hk : Kept [] w W) => RSetPost.no (k := 1) h hk)
  obtain ⟨p, G, ia, ic, ra, rc, oa, oc, ri, ro, hFe, hRe, hC⟩ := h
  have c0 := hC.c0
  have HTH := Lib.hid (there03 hC.gr (by omega) a c m l hl hm0 hsl hlt)
  have hc : mayB s = false ∨ (mayB s = true ∧ m < 1) ∨ (mayB s = true ∧ ¬ m < 1 ∧ 64 < m) ∨ (mayB s = true ∧ ¬ m < 1 ∧ ¬ 64 < m ∧ gone N.g l = true) := by
    rw [hl] at hbad
    cases hm : mayB s
    · exact .inl rfl
    · rw [hm] at hbad
      by_cases h1 : m < 1
      · exact .inr (.inl ⟨rfl, h1⟩)
      · by_cases h2 : 64 < m
        · exact .inr (.inr (.inl ⟨rfl, h1, h2⟩))
        · refine .inr (.inr (.inr ⟨rfl, h1, h2, ?_⟩))
          simpa [h1, h2] using hbad
  generalize ((N, 1) : Nt × Nat) = res at *
  clear hbad hl hsl hlt hC hFe hRe
  rcases hc with hm | ⟨hm, h1⟩ | ⟨hm, h1, h2⟩ | ⟨hm, h1, h2, hg⟩
  rotate_left 3
  · rw [hm] at HM
    rw [hg] at HTH
    clear hm hg
    go_enter Tryz.func48, Tryz.ntmps48; (try simp only [List.append])
    go_wp2_with fail
    refine (HM.out _).mono ?_
    rintro e w1 ⟨rfl, rfl⟩
    go_wp2_with fail
    refine HTH.out.mono ?_
    rintro e w2 ⟨rfl, m2, hm2⟩
    have K2 := Lib.hid (show Kept [] w w2 from by rw [hm2]; exact (Kept.refl [] w).drewN _)
    clear hm2
    go_wp2_with fail
    go_ret
    exact HPO.out _ K2.out
  all_goals
    rw [hm] at HM
    clear hm HTH
    go_enter Tryz.func48, Tryz.ntmps48; (try simp only [List.append])
    go_wp2_with fail
    refine (HM.out _).mono ?_
    rintro e w1 ⟨rfl, rfl⟩
    go_wp2_with fail
    go_ret
    exact HPO.out _ (.refl _ _)
theorem found06 {ri : List BR} {l : List Bus} {s : ByteArray} (hi : ri.map (·.b) = l) : (∀ k, findB l s = some k → ∃ r, findRow ri s = some r) ∧ (findB l s = none → findRow ri s = none) := by
  have h := findP_eq ri s
  rw [hi] at h
  unfold findRow
  rw [h]
  refine ⟨fun k hf => ?_, fun hf => by rw [hf]; rfl⟩
  rw [hf]
  have hk : k < l.length := (List.findIdx?_eq_some_iff_getElem.1 hf).1
  have hk' : k < ri.length := by rw [← hi] at hk; simpa using hk
  exact ⟨ri[k], List.getElem?_eq_getElem hk'⟩
set_option maxHeartbeats 3200000 in
set_option maxRecDepth 100000 in
theorem addout06_there (h : RNetAt w n F R N) (hok : N.g.nodes.length ≤ 50000 ∧ N.outb.length ≤ 100000) (s : ByteArray) (hs : s.size ≤ 140737488351232) (a : Option Addr) (c m : Nat) (l : List Nat) (hl : l.length = m) (h1 : 1 ≤ m) (h2 : m ≤ 64) (hsl : SlN w .u32 a l) (hlt : ∀ x ∈ l, x < 4294967296) (hm : mayB s = true) (hg : gone N.g l = false) (k : Nat) (hf : findB N.outb s = some k) :
    Calls Tryz.prog 48 #[.pointer (some ⟨n, 0, none⟩), .string s, .slice a m c] w (RSetPost (N, 9) w n F R) := by
  have HM := Lib.hid (fun (W : World) => mayname06 s W hs)
  rw [hm] at HM
  have HPO := Lib.hid (fun (W : World) (hk : Kept [] w W) => RSetPost.no (k := 9) h hk)
  obtain ⟨p, G, ia, ic, ra, rc, oa, oc, ri, ro, rfl, rfl, hc⟩ := h
  have c0 := hc.c0
  have HTH := Lib.hid (there03 hc.gr (by omega) a c m l hl (by omega) hsl hlt)
  rw [hg] at HTH
  obtain ⟨r, hr⟩ := (found06 (s := s) hc.ob.is).1 k hf
  have HF := Lib.hid (fun (W : World) (hk : Kept [] w W) => find06 s oa oc N.outb.length ro (w := W) (by rw [← hc.ob.is]; simp) (by omega) (hc.ob.slb.kept0 hk))
  rw [hr] at HF
  have C4 := Lib.hid (fun (W : World) (hk : Kept [] w W) => hk.cell hc.c4 (by simp))
  generalize ((N, 9) : Nt × Nat) = res at *
  clear hc hm hf hg hl hsl hlt hr
  go_enter Tryz.func48, Tryz.ntmps48; (try simp only [List.append])
  go_wp2_with fail
  refine (HM.out _).mono ?_
  rintro e w1 ⟨rfl, rfl⟩
  go_wp2_with fail
  refine HTH.out.mono ?_
  rintro e w2 ⟨rfl, m2, hm2⟩
  have K2 := Lib.hid (show Kept [] w w2 from by rw [hm2]; exact (Kept.refl [] w).drewN _)
  have c4 := C4.out _ K2.out
  clear hm2
  go_wp2_with fail
  refine (HF.out _ K2.out).mono ?_
  rintro e w3 (⟨h3, _⟩ | ⟨r', h3, rfl, rfl⟩)
  · cases h3
  · clear h3 c4
    go_wp2_with fail
    go_ret
    exact HPO.out _ K2.out
end Go.Proofs.YtdmcdhkkbkgnbaaGreat

namespace Go.Proofs.YtdmcdhkkbkgnbaaGreat
open Go.ChangeShapes Go.WideShapes Go.ChangeAt Go.RowKit
open Go.Maps (Keyed)
open Go.WideMaps
set_option linter.unusedVariables false
set_option linter.unusedSimpArgs false

variable {w w' : World} {p q n : Nat} {F R S : List Nat} {g : Gr} {N : Nt}
set_option maxHeartbeats 3200000 in
set_option maxRecDepth 100000 in
theorem addout06_good (h : RNetAt w n F R N) (hok : N.g.nodes.length ≤ 50000 ∧ N.outb.length ≤ 100000) (s : ByteArray) (hs : s.size ≤ 140737488351232) (a : Option Addr) (c m : Nat) (l : List Nat) (hl : l.length = m) (h1 : 1 ≤ m) (h2 : m ≤ 64) (hsl : SlN w .u32 a l) (hlt : ∀ x ∈ l, x < 4294967296) (hm : mayB s = true) (hg : gone N.g l = false) (hf : findB N.outb s = none) :
    Calls Tryz.prog 48 #[.pointer (some ⟨n, 0, none⟩), .string s, .slice a m c] w (RSetPost ({ N with outb := N.outb ++ [⟨s, l⟩] }, 0) w n F R) := by
  have HM := Lib.hid (fun (W : World) => mayname06 s W hs)
  rw [hm] at HM
  obtain ⟨p, G, ia, ic, ra, rc, oa, oc, ri, ro, rfl, rfl, hc⟩ := h
  have c0 := hc.c0
  have HC := Lib.hid hc
  have HTH := Lib.hid (there03 hc.gr (by omega) a c m l hl (by omega) hsl hlt)
  rw [hg] at HTH
  have HF := Lib.hid (fun (W : World) (hk : Kept [] w W) => find06 s oa oc N.outb.length ro (w := W) (by rw [← hc.ob.is]; simp) (by omega) (hc.ob.slb.kept0 hk))
  rw [(found06 (s := s) hc.ob.is).2 hf] at HF
  obtain ⟨ad, rfl, -⟩ := hsl 0 (by omega)
  have HCL := Lib.hid (fun (W : World) (hk : Kept [] w W) => show ∀ i u, (nats .u32 l)[i]? = some u → W.cell? (ad.add i) = some u from fun i u hu => by
    obtain ⟨hi, rfl⟩ := List.getElem?_eq_some_iff.1 hu
    rw [nats_length] at hi
    obtain ⟨ad', h3, h4⟩ := (hsl.kept0 hk) i hi
    injection h3 with h3
    subst h3
    rw [h4]; simp [nats])
  have lenO := hok.2
  obtain ⟨nO, hnO⟩ : ∃ k, k = N.outb.length := ⟨_, rfl⟩
  have HNO2 := Lib.hid hnO
  rw [← hnO] at lenO HF
  have HL := Lib.hid (show (nats .u32 l).length = m * 1 from by rw [nats_length, hl]; omega)
  have HL2 := Lib.hid hl
  have C4 := Lib.hid (fun (W : World) (hk : Kept [] w W) => show W.cell? ⟨n, 4, none⟩ = some (.slice oa nO oc) from by rw [HNO2.out]; exact hk.cell HC.out.c4 (by simp))
  clear hc hok hnO hm hg hf hl hlt hsl
  go_enter Tryz.func48, Tryz.ntmps48; (try simp only [List.append])
  go_wp2_with fail
  refine (HM.out _).mono ?_
  rintro e w1 ⟨rfl, rfl⟩
  go_wp2_with fail
  refine HTH.out.mono ?_
  rintro e w2 ⟨rfl, m2, hm2⟩
  have K2 := Lib.hid (show Kept [] w w2 from by rw [hm2]; exact (Kept.refl [] w).drewN _)
  have c4 := C4.out _ K2.out
  clear hm2 c0
  go_wp2_with fail
  refine (HF.out _ K2.out).mono ?_
  rintro e w3 (⟨h3, rfl, rfl⟩ | ⟨r', h3, _⟩)
  rotate_left
  · cases h3
  clear h3 HF HM HTH
  have HC3 := Lib.hid (HC.out.kept K2.out (by simp) (by simp))
  have f4 : w2.frozen? ⟨n, 4, none⟩ = false := blk_free HC3.out.blk 4
  have hob := HC3.out.ob.own
  rw [← HNO2.out] at hob
  have hnoa := HC3.out.apart.2.2.2.1
  have hnlt := blk_lt HC3.out.blk
  go_wp2_with fail
  go_region_law ((first
    | (refine step_push (news := [.string s, .slice a7 m c7]) (by rfl) (by rfl) Tryz.underlying41 rbus_info rfl (by omega) (by rfl) (by rfl) (own_kept (F := []) (w := w2) hob (by (repeat (first | with_reducible exact Kept.refl _ _ | with_reducible apply Kept.drew | with_reducible apply Kept.drewN | with_reducible apply Kept.alloc | refine Kept.trans ?_ hk7))) (by simp)) rfl (news_blk (t := 106) (Mine.heap (F := []) (by (repeat (first | (with_reducible refine Mine.new ?_ (by simp); focus (first | with_reducible rfl | (simp; done))) | with_reducible apply Mine.drew | with_reducible apply Mine.alloc))))) (by simp [Value.oneCell']) (by unfold maxLen; omega) (by omega) ?_; intro a5 c5 w5 hown5 hst5; have cw4 : w5.cell? ⟨n, 4, none⟩ = some (.slice oa nO oc) := hst5.kept.cell (Kept.cell (F := []) (w := w2) (by (repeat (first | with_reducible exact Kept.refl _ _ | with_reducible apply Kept.drew | with_reducible apply Kept.drewN | with_reducible apply Kept.alloc | refine Kept.trans ?_ hk7))) c4 (by simp)) hnoa; have fw4 : w5.frozen? ⟨n, 4, none⟩ = false := (hst5.kept.frozen (Nat.lt_of_lt_of_le hnlt (Kept.size (F := []) (by (repeat (first | with_reducible exact Kept.refl _ _ | with_reducible apply Kept.drew | with_reducible apply Kept.drewN | with_reducible apply Kept.alloc | refine Kept.trans ?_ hk7))))) hnoa).trans ((Kept.frozen (F := []) (w := w2) (by (repeat (first | with_reducible exact Kept.refl _ _ | with_reducible apply Kept.drew | with_reducible apply Kept.drewN | with_reducible apply Kept.alloc | refine Kept.trans ?_ hk7))) hnlt (by simp)).trans f4))
    | (refine step_cat (c := c) (a := none) (n := 0) (cap := 0) (xs := []) (ad := ad) (m := m) (news := nats .u32 l) (size := 1) (by rfl) (by rfl) Tryz.underlying87 u32_info rfl (by omega) ?h3 ?h4 (World.ownsRow_nil _ _ _ _) HL.out (HCL.out _ (K2.out.trans ?kkz)) (nats_one _ _) (by unfold maxLen; omega) (by omega) ?_; (case h3 => kernel_rfl); (case h4 => kernel_rfl); (case kkz => ((repeat (first | with_reducible exact Kept.refl _ _ | with_reducible apply Kept.drew | with_reducible apply Kept.drewN | with_reducible apply Kept.alloc)))); intro a7 c7 w4 ho7 hst7; have hk7 := hst7.kept; have c4b : w4.cell? ⟨n, 4, none⟩ = some (.slice oa nO oc) := Kept.cell (F := []) (w := w2) (by (repeat (first | with_reducible exact Kept.refl _ _ | with_reducible apply Kept.drew | with_reducible apply Kept.drewN | with_reducible apply Kept.alloc | refine Kept.trans ?_ hk7))) c4 (by simp); have c4c : ∀ o, (w4.alloc o).cell? ⟨n, 4, none⟩ = some (.slice oa nO oc) := (fun o => cell_alloc c4b o))))
  all_goals
    simp only [Nat.zero_add, List.nil_append] at ho7 hst7
    have O7 := Lib.hid (show Own w4 46 a7 m c7 (nats .u32 l) from ho7)
    have fr7 : ∀ b ∈ ft a7, w2.heap.size ≤ b := fun b hb => by
      rcases hst7.fresh b hb with h | h
      · simp [ft] at h
      · exact h
    have lt3 := HC3.out.lt.1
    have HR := RNetC.addOut (s := s) (l := l) (a := a7) (c := c7) (HC3.out.kept (((Kept.refl [] w2).drew.trans hk7).alloc (.cells #[.string s, .slice a7 m c7] 106)) (by simp) (by simp)) (by rw [← HNO2.out, HL2.out]; exact hown5) hst5 (O7.out.sln.kept0 ((Kept.refl [] w4).alloc _)) (fun b hb => ⟨by have := O7.out.lt b hb; simp; omega, fun hx => by have := lt3 b hx; have := fr7 b hb; omega⟩)
    rw [← HNO2.out] at HR
    have HRR := Lib.hid HR
    have SK := Lib.hid ((K2.out.trans ((Kept.refl [] w2).drew.trans hk7)).alloc (.cells #[.string s, .slice a7 m c7] 106))
    have FR7 := Lib.hid (show ∀ b ∈ ft a7, w.heap.size ≤ b from fun b hb => Nat.le_trans K2.out.size (fr7 b hb))
    clear HR fr7 lt3 hown5 hst5 cw4 fw4 c4b c4c ho7 hst7 hk7
    go_wp2
    go_ret
    exact ⟨_, _, rfl, ⟨p, G, ia, ic, ra, rc, a5, c5, ri, _, rfl, rfl, HRR.out.1⟩, ⟨(⟨SK.out.more (by simp), fun b hb => .inl hb⟩ : Stepped _ _ _ _).trans HRR.out.2, fun b hb => by
      rcases rows_out b hb with h | h
      · exact .inl h
      · exact .inr (FR7.out b h)⟩⟩
theorem addout06 (h : RNetAt w n F R N) (hok : N.g.nodes.length ≤ 50000 ∧ N.outb.length ≤ 100000) (s : ByteArray) (hs : s.size ≤ 140737488351232) (a : Option Addr) (c m : Nat) (l : List Nat) (hl : l.length = m) (hm0 : m ≤ 140737488351232) (hsl : SlN w .u32 a l) (hlt : ∀ x ∈ l, x < 4294967296) :
    Calls Tryz.prog 48 #[.pointer (some ⟨n, 0, none⟩), .string s, .slice a m c] w (RSetPost (addOut N s l) w n F R) := by
  unfold addOut
  by_cases hbad : ((!mayB s) || decide (l.length < 1) || decide (64 < l.length) || gone N.g l) = true
  · rw [if_pos hbad]
    exact addout06_bad h hok.1 s hs a c m l hl hm0 hsl hlt hbad
  · rw [if_neg hbad]
    simp only [Bool.or_eq_true, decide_eq_true_eq, not_or, Bool.not_eq_true', Bool.not_eq_false, Bool.not_eq_true] at hbad
    cases hf : findB N.outb s with
    | some k =>
      simp only [Option.isSome_some, if_true]
      exact addout06_there h hok s hs a c m l hl (by omega) (by omega) hsl hlt hbad.1.1.1 hbad.2 k hf
    | none =>
      simp only [Option.isSome_none, Bool.false_eq_true, if_false]
      exact addout06_good h hok s hs a c m l hl (by omega) (by omega) hsl hlt hbad.1.1.1 hbad.2 hf
end Go.Proofs.YtdmcdhkkbkgnbaaGreat
