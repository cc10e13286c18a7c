/-
  Law 06's Alike, walked.
-/
import Derived.Test.YtdmcdhkkbkgnbaaGreatQRSwL
import Derived.BigRegion
import Derived.BigQuiet
namespace Go.Proofs.YtdmcdhkkbkgnbaaGreat
open Go.ChangeShapes Go.WideShapes Go.ChangeAt Go.RowKit
open Go.Maps (Keyed)
open Go.WideMaps
set_option linter.unusedVariables false
set_option linter.unusedSimpArgs false

variable {w w' W : World} {p n q k : Nat} {F R F' R' S : List Nat} {g : Gr} {N : Nt}
set_option maxHeartbeats 6400000 in
set_option maxRecDepth 100000 in
theorem alike_c (h : NetAt w n F R N) (h' : RNetAt w q F' R' N) (hf : NtFine k N) (hk : k ≤ 700) :
    Calls Tryz.prog 15 #[.pointer (some ⟨n, 0, none⟩), .pointer (some ⟨q, 0, none⟩)] w (BoolIs true w) := by
  obtain ⟨pp, G, ia, ic, ra, rc, oa, oc, ri, ro, hFe, hRe, hc⟩ := h
  obtain ⟨p', ia', ic', ra', rc', oa', oc', ri', ro', hp⟩ := rnet_parts h'
  obtain ⟨G', hgr⟩ := hp.gr
  obtain ⟨nR, hnR⟩ : ∃ m, m = N.regs.length := ⟨_, rfl⟩
  obtain ⟨nI, hnI⟩ : ∃ m, m = N.inb.length := ⟨_, rfl⟩
  obtain ⟨nO, hnO⟩ : ∃ m, m = N.outb.length := ⟨_, rfl⟩
  have HNR := Lib.hid hnR
  have hnr : nR ≤ 700 := by rw [hnR]; have := hf.ok.rk; omega
  have hni : nI ≤ 700 := by rw [hnI]; have := hf.ok.ik; omega
  have hno : nO ≤ 700 := by rw [hnO]; have := hf.ok.ok; omega
  have HGC := Lib.hid (fun (V : World) (hV : Kept [] w V) => graph_c (hc.gr.kept0 hV) (hgr.kept0 hV) (by have := hf.ok.len; omega))
  have HBI := Lib.hid (fun (V : World) (hV : Kept [] w V) => buses_c ia ia' ic ic' nI ri ri' N.inb V hnI.symm (by omega) hc.ib.is hp.im (hc.ib.slb.kept0 hV) (hp.ib.kept0 hV) (fun r hr => (hc.ib.rows r hr).1.kept0 hV) (fun r hr => (hp.ir r hr).kept0 hV) (fun x hx => by have := (hf.ok.il x hx).2.1; omega))
  have HBO := Lib.hid (fun (V : World) (hV : Kept [] w V) => buses_c oa oa' oc oc' nO ro ro' N.outb V hnO.symm (by omega) hc.ob.is hp.om (hc.ob.slb.kept0 hV) (hp.ob.kept0 hV) (fun r hr => (hc.ob.rows r hr).1.kept0 hV) (fun r hr => (hp.or r hr).kept0 hV) (fun x hx => by have := (hf.ok.ol x hx).2.1; omega))
  have HRA := Lib.hid (regs_sl (l := N.regs) rfl hc.rb)
  have HRB := Lib.hid hp.rb
  obtain ⟨nm, hnm⟩ : ∃ x, x = N.name := ⟨_, rfl⟩
  have HC := Lib.hid (fun (V : World) (hV : Kept [] w V) => show V.cell? ⟨n, 0, none⟩ = some (.pointer (some ⟨pp, 0, none⟩)) ∧ V.cell? ⟨n, 1, none⟩ = some (.string nm) ∧ V.cell? ⟨n, 2, none⟩ = some (.slice ia nI ic) ∧ V.cell? ⟨n, 3, none⟩ = some (.slice ra nR rc) ∧ V.cell? ⟨n, 4, none⟩ = some (.slice oa nO oc) ∧ V.cell? ⟨q, 0, none⟩ = some (.pointer (some ⟨p', 0, none⟩)) ∧ V.cell? ⟨q, 1, none⟩ = some (.string nm) ∧ V.cell? ⟨q, 2, none⟩ = some (.slice ia' nI ic') ∧ V.cell? ⟨q, 3, none⟩ = some (.slice ra' nR rc') ∧ V.cell? ⟨q, 4, none⟩ = some (.slice oa' nO oc') from by
    have x2 := hp.c2
    have x3 := hp.c3
    have x4 := hp.c4
    have x1 := hp.c1
    have y1 := hc.c1
    have y2 := hc.c2
    have y3 := hc.c3
    have y4 := hc.c4
    rw [← hnI] at x2 y2
    rw [← hnR] at x3 y3
    rw [← hnO] at x4 y4
    rw [← hnm] at x1 y1
    exact ⟨hV.cell hc.c0 (by simp), hV.cell y1 (by simp), hV.cell y2 (by simp), hV.cell y3 (by simp), hV.cell y4 (by simp), hV.cell hp.c0 (by simp), hV.cell x1 (by simp), hV.cell x2 (by simp), hV.cell x3 (by simp), hV.cell x4 (by simp)⟩)
  clear hFe hRe hc hp hgr hnI hnO hnR hnm h' hf
  go_enter Tryz.func15, Tryz.ntmps15; (try simp only [List.append])
  go_upto_region 1 with (fail)
  refine wp_region_keptW (by kernel_rfl) ?_
  (go_big_quiet_want; apply Exists.intro; refine ⟨fun V hV => ?_, ?_⟩; rotate_left; go_big_quiet_on; (try simp only [Act.put, List.setIfInBounds_toArray, List.set_cons_zero, List.set_cons_succ]); rotate_right)
  · go_simp
    exact rfl
  try (rename_i Kq hq; clear hq Kq)
  (go_big_quiet_want; apply Exists.intro; refine ⟨fun V hV => ?_, ?_⟩; rotate_left; go_big_quiet_on; (try simp only [Act.put, List.setIfInBounds_toArray, List.set_cons_zero, List.set_cons_succ]); rotate_right)
  · go_simp
    exact rfl
  try (rename_i Kq hq; clear hq Kq)
  (go_big_quiet_want; apply Exists.intro; refine ⟨fun V hV => ?_, ?_⟩; rotate_left; go_big_quiet_on; (try simp only [Act.put, List.setIfInBounds_toArray, List.set_cons_zero, List.set_cons_succ]); rotate_right)
  · go_simp
    exact rfl
  try (rename_i Kq hq; clear hq Kq)
  (go_big_quiet_want; apply Exists.intro; refine ⟨fun V hV => ?_, ?_⟩; rotate_left; go_big_quiet_on; (try simp only [Act.put, List.setIfInBounds_toArray, List.set_cons_zero, List.set_cons_succ]); rotate_right)
  · go_simp
    exact rfl
  try (rename_i Kq hq; clear hq Kq)
  (go_big_quiet_want; apply Exists.intro; refine ⟨fun V hV => ?_, ?_⟩; rotate_left; go_big_quiet_on; (try simp only [Act.put, List.setIfInBounds_toArray, List.set_cons_zero, List.set_cons_succ]); rotate_right)
  · go_simp
    exact rfl
  try (rename_i Kq hq; clear hq Kq)
  (go_big_quiet_want; apply Exists.intro; refine ⟨fun V hV => ?_, ?_⟩; rotate_left; go_big_quiet_on; (try simp only [Act.put, List.setIfInBounds_toArray, List.set_cons_zero, List.set_cons_succ]); rotate_right)
  · go_simp
    exact rfl
  try (rename_i Kq hq; clear hq Kq)
  (go_big_quiet_want; apply Exists.intro; refine ⟨fun V hV => ?_, ?_⟩; rotate_left; go_big_quiet_on; (try simp only [Act.put, List.setIfInBounds_toArray, List.set_cons_zero, List.set_cons_succ]); rotate_right)
  · obtain ⟨c0, c1, c2, c3, c4, d0, d1, d2, d3, d4⟩ := HC.out V hV
    go_simp
    exact rfl
  try (rename_i Kq hq; clear hq Kq)
  (go_big_quiet_want; apply Exists.intro; refine ⟨fun V hV => ?_, ?_⟩; rotate_left; go_big_quiet_on; (try simp only [Act.put, List.setIfInBounds_toArray, List.set_cons_zero, List.set_cons_succ]); rotate_right)
  · go_simp
    exact rfl
  try (rename_i Kq hq; clear hq Kq)
  (go_big_quiet_want; apply Exists.intro; refine ⟨fun V hV => ?_, ?_⟩; rotate_left; go_big_quiet_on; (try simp only [Act.put, List.setIfInBounds_toArray, List.set_cons_zero, List.set_cons_succ]); rotate_right)
  · go_simp
    exact rfl
  try (rename_i Kq hq; clear hq Kq)
  (go_big_quiet_want; apply Exists.intro; refine ⟨fun V hV => ?_, ?_⟩; rotate_left; go_big_quiet_on; (try simp only [Act.put, List.setIfInBounds_toArray, List.set_cons_zero, List.set_cons_succ]); rotate_right)
  · go_simp
    exact rfl
  try (rename_i Kq hq; clear hq Kq)
  (go_big_quiet_want; apply Exists.intro; refine ⟨fun V hV => ?_, ?_⟩; rotate_left; go_big_quiet_on; (try simp only [Act.put, List.setIfInBounds_toArray, List.set_cons_zero, List.set_cons_succ]); rotate_right)
  · go_simp
    exact rfl
  try (rename_i Kq hq; clear hq Kq)
  (go_big_quiet_want; apply Exists.intro; refine ⟨fun V hV => ?_, ?_⟩; rotate_left; go_big_quiet_on; (try simp only [Act.put, List.setIfInBounds_toArray, List.set_cons_zero, List.set_cons_succ]); rotate_right)
  · go_simp
    exact rfl
  try (rename_i Kq hq; clear hq Kq)
  (go_big_quiet_want; apply Exists.intro; refine ⟨fun V hV => ?_, ?_⟩; rotate_left; go_big_quiet_on; (try simp only [Act.put, List.setIfInBounds_toArray, List.set_cons_zero, List.set_cons_succ]); rotate_right)
  · go_simp
    exact rfl
  try (rename_i Kq hq; clear hq Kq)
  (go_big_quiet_want; apply Exists.intro; refine ⟨fun V hV => ?_, ?_⟩; rotate_left; go_big_quiet_on; (try simp only [Act.put, List.setIfInBounds_toArray, List.set_cons_zero, List.set_cons_succ]); rotate_right)
  · obtain ⟨c0, c1, c2, c3, c4, d0, d1, d2, d3, d4⟩ := HC.out V hV
    go_simp
    exact rfl
  try (rename_i Kq hq; clear hq Kq)
  (go_big_quiet_want; apply Exists.intro; refine ⟨fun V hV => ?_, ?_⟩; rotate_left; go_big_quiet_on; (try simp only [Act.put, List.setIfInBounds_toArray, List.set_cons_zero, List.set_cons_succ]); rotate_right)
  · go_simp
    exact rfl
  try (rename_i Kq hq; clear hq Kq)
  (go_big_quiet_want; apply Exists.intro; refine ⟨fun V hV => ?_, ?_⟩; rotate_left; go_big_quiet_on; (try simp only [Act.put, List.setIfInBounds_toArray, List.set_cons_zero, List.set_cons_succ]); rotate_right)
  · go_simp
    exact rfl
  try (rename_i Kq hq; clear hq Kq)
  (go_big_quiet_want; apply Exists.intro; refine ⟨fun V hV => ?_, ?_⟩; rotate_left; go_big_quiet_on; (try simp only [Act.put, List.setIfInBounds_toArray, List.set_cons_zero, List.set_cons_succ]); rotate_right)
  · go_simp
    exact rfl
  try (rename_i Kq hq; clear hq Kq)
  (go_big_quiet_want; apply Exists.intro; refine ⟨fun V hV => ?_, ?_⟩; rotate_left; go_big_quiet_on; (try simp only [Act.put, List.setIfInBounds_toArray, List.set_cons_zero, List.set_cons_succ]); rotate_right)
  · obtain ⟨c0, c1, c2, c3, c4, d0, d1, d2, d3, d4⟩ := HC.out V hV
    go_simp
    exact rfl
  try (rename_i Kq hq; clear hq Kq)
  (go_big_quiet_want; apply Exists.intro; refine ⟨fun V hV => ?_, ?_⟩; rotate_left; go_big_quiet_on; (try simp only [Act.put, List.setIfInBounds_toArray, List.set_cons_zero, List.set_cons_succ]); rotate_right)
  · go_simp
    exact (HGC.out V hV).mono fun e V' h => ⟨h.1, hV.trans h.2⟩
  try (rename_i Kq hq; clear hq Kq)
  (go_big_quiet_want; apply Exists.intro; refine ⟨fun V hV => ?_, ?_⟩; rotate_left; go_big_quiet_on; (try simp only [Act.put, List.setIfInBounds_toArray, List.set_cons_zero, List.set_cons_succ]); rotate_right)
  · go_simp
    exact rfl
  try (rename_i Kq hq; clear hq Kq)
  (go_big_quiet_want; apply Exists.intro; refine ⟨fun V hV => ?_, ?_⟩; rotate_left; go_big_quiet_on; (try simp only [Act.put, List.setIfInBounds_toArray, List.set_cons_zero, List.set_cons_succ]); rotate_right)
  · go_simp
    exact rfl
  try (rename_i Kq hq; clear hq Kq)
  (go_big_quiet_want; apply Exists.intro; refine ⟨fun V hV => ?_, ?_⟩; rotate_left; go_big_quiet_on; (try simp only [Act.put, List.setIfInBounds_toArray, List.set_cons_zero, List.set_cons_succ]); rotate_right)
  · go_simp
    exact rfl
  try (rename_i Kq hq; clear hq Kq)
  (go_big_quiet_want; apply Exists.intro; refine ⟨fun V hV => ?_, ?_⟩; rotate_left; go_big_quiet_on; (try simp only [Act.put, List.setIfInBounds_toArray, List.set_cons_zero, List.set_cons_succ]); rotate_right)
  · go_simp
    exact rfl
  try (rename_i Kq hq; clear hq Kq)
  (go_big_quiet_want; apply Exists.intro; refine ⟨fun V hV => ?_, ?_⟩; rotate_left; go_big_quiet_on; (try simp only [Act.put, List.setIfInBounds_toArray, List.set_cons_zero, List.set_cons_succ]); rotate_right)
  · go_simp
    exact rfl
  try (rename_i Kq hq; clear hq Kq)
  (go_big_quiet_want; apply Exists.intro; refine ⟨fun V hV => ?_, ?_⟩; rotate_left; go_big_quiet_on; (try simp only [Act.put, List.setIfInBounds_toArray, List.set_cons_zero, List.set_cons_succ]); rotate_right)
  · go_simp
    exact rfl
  try (rename_i Kq hq; clear hq Kq)
  (go_big_quiet_want; apply Exists.intro; refine ⟨fun V hV => ?_, ?_⟩; rotate_left; go_big_quiet_on; (try simp only [Act.put, List.setIfInBounds_toArray, List.set_cons_zero, List.set_cons_succ]); rotate_right)
  · obtain ⟨c0, c1, c2, c3, c4, d0, d1, d2, d3, d4⟩ := HC.out V hV
    go_simp
    exact rfl
  try (rename_i Kq hq; clear hq Kq)
  (go_big_quiet_want; apply Exists.intro; refine ⟨fun V hV => ?_, ?_⟩; rotate_left; go_big_quiet_on; (try simp only [Act.put, List.setIfInBounds_toArray, List.set_cons_zero, List.set_cons_succ]); rotate_right)
  · go_simp
    exact rfl
  try (rename_i Kq hq; clear hq Kq)
  (go_big_quiet_want; apply Exists.intro; refine ⟨fun V hV => ?_, ?_⟩; rotate_left; go_big_quiet_on; (try simp only [Act.put, List.setIfInBounds_toArray, List.set_cons_zero, List.set_cons_succ]); rotate_right)
  · go_simp
    exact rfl
  try (rename_i Kq hq; clear hq Kq)
  (go_big_quiet_want; apply Exists.intro; refine ⟨fun V hV => ?_, ?_⟩; rotate_left; go_big_quiet_on; (try simp only [Act.put, List.setIfInBounds_toArray, List.set_cons_zero, List.set_cons_succ]); rotate_right)
  · go_simp
    exact rfl
  try (rename_i Kq hq; clear hq Kq)
  (go_big_quiet_want; apply Exists.intro; refine ⟨fun V hV => ?_, ?_⟩; rotate_left; go_big_quiet_on; (try simp only [Act.put, List.setIfInBounds_toArray, List.set_cons_zero, List.set_cons_succ]); rotate_right)
  · obtain ⟨c0, c1, c2, c3, c4, d0, d1, d2, d3, d4⟩ := HC.out V hV
    go_simp
    exact rfl
  try (rename_i Kq hq; clear hq Kq)
  (go_big_quiet_want; apply Exists.intro; refine ⟨fun V hV => ?_, ?_⟩; rotate_left; go_big_quiet_on; (try simp only [Act.put, List.setIfInBounds_toArray, List.set_cons_zero, List.set_cons_succ]); rotate_right)
  · go_simp
    exact rfl
  try (rename_i Kq hq; clear hq Kq)
  (go_big_quiet_want; apply Exists.intro; refine ⟨fun V hV => ?_, ?_⟩; rotate_left; go_big_quiet_on; (try simp only [Act.put, List.setIfInBounds_toArray, List.set_cons_zero, List.set_cons_succ]); rotate_right)
  · go_simp
    exact rfl
  try (rename_i Kq hq; clear hq Kq)
  (go_big_quiet_want; apply Exists.intro; refine ⟨fun V hV => ?_, ?_⟩; rotate_left; go_big_quiet_on; (try simp only [Act.put, List.setIfInBounds_toArray, List.set_cons_zero, List.set_cons_succ]); rotate_right)
  · go_simp
    exact rfl
  try (rename_i Kq hq; clear hq Kq)
  (go_big_quiet_want; apply Exists.intro; refine ⟨fun V hV => ?_, ?_⟩; rotate_left; go_big_quiet_on; (try simp only [Act.put, List.setIfInBounds_toArray, List.set_cons_zero, List.set_cons_succ]); rotate_right)
  · go_simp
    exact rfl
  try (rename_i Kq hq; clear hq Kq)
  (go_big_quiet_want; apply Exists.intro; refine ⟨fun V hV => ?_, ?_⟩; rotate_left; go_big_quiet_on; (try simp only [Act.put, List.setIfInBounds_toArray, List.set_cons_zero, List.set_cons_succ]); rotate_right)
  · go_simp
    exact rfl
  try (rename_i Kq hq; clear hq Kq)
  (go_big_quiet_want; apply Exists.intro; refine ⟨fun V hV => ?_, ?_⟩; rotate_left; go_big_quiet_on; (try simp only [Act.put, List.setIfInBounds_toArray, List.set_cons_zero, List.set_cons_succ]); rotate_right)
  · go_simp
    exact rfl
  try (rename_i Kq hq; clear hq Kq)
  (go_big_quiet_want; apply Exists.intro; refine ⟨fun V hV => ?_, ?_⟩; rotate_left; go_big_quiet_on; (try simp only [Act.put, List.setIfInBounds_toArray, List.set_cons_zero, List.set_cons_succ]); rotate_right)
  · obtain ⟨c0, c1, c2, c3, c4, d0, d1, d2, d3, d4⟩ := HC.out V hV
    go_simp
    exact rfl
  try (rename_i Kq hq; clear hq Kq)
  (go_big_quiet_want; apply Exists.intro; refine ⟨fun V hV => ?_, ?_⟩; rotate_left; go_big_quiet_on; (try simp only [Act.put, List.setIfInBounds_toArray, List.set_cons_zero, List.set_cons_succ]); rotate_right)
  · go_simp
    exact rfl
  try (rename_i Kq hq; clear hq Kq)
  (go_big_quiet_want; apply Exists.intro; refine ⟨fun V hV => ?_, ?_⟩; rotate_left; go_big_quiet_on; (try simp only [Act.put, List.setIfInBounds_toArray, List.set_cons_zero, List.set_cons_succ]); rotate_right)
  · go_simp
    exact rfl
  try (rename_i Kq hq; clear hq Kq)
  (go_big_quiet_want; apply Exists.intro; refine ⟨fun V hV => ?_, ?_⟩; rotate_left; go_big_quiet_on; (try simp only [Act.put, List.setIfInBounds_toArray, List.set_cons_zero, List.set_cons_succ]); rotate_right)
  · go_simp
    exact rfl
  try (rename_i Kq hq; clear hq Kq)
  (go_big_quiet_want; apply Exists.intro; refine ⟨fun V hV => ?_, ?_⟩; rotate_left; go_big_quiet_on; (try simp only [Act.put, List.setIfInBounds_toArray, List.set_cons_zero, List.set_cons_succ]); rotate_right)
  · obtain ⟨c0, c1, c2, c3, c4, d0, d1, d2, d3, d4⟩ := HC.out V hV
    go_simp
    exact rfl
  try (rename_i Kq hq; clear hq Kq)
  (go_big_quiet_want; apply Exists.intro; refine ⟨fun V hV => ?_, ?_⟩; rotate_left; go_big_quiet_on; (try simp only [Act.put, List.setIfInBounds_toArray, List.set_cons_zero, List.set_cons_succ]); rotate_right)
  · go_simp
    exact (HBI.out V hV).mono fun e V' h => ⟨h.1, hV.trans h.2⟩
  try (rename_i Kq hq; clear hq Kq)
  (go_big_quiet_want; apply Exists.intro; refine ⟨fun V hV => ?_, ?_⟩; rotate_left; go_big_quiet_on; (try simp only [Act.put, List.setIfInBounds_toArray, List.set_cons_zero, List.set_cons_succ]); rotate_right)
  · go_simp
    exact rfl
  try (rename_i Kq hq; clear hq Kq)
  (go_big_quiet_want; apply Exists.intro; refine ⟨fun V hV => ?_, ?_⟩; rotate_left; go_big_quiet_on; (try simp only [Act.put, List.setIfInBounds_toArray, List.set_cons_zero, List.set_cons_succ]); rotate_right)
  · go_simp
    exact rfl
  try (rename_i Kq hq; clear hq Kq)
  (go_big_quiet_want; apply Exists.intro; refine ⟨fun V hV => ?_, ?_⟩; rotate_left; go_big_quiet_on; (try simp only [Act.put, List.setIfInBounds_toArray, List.set_cons_zero, List.set_cons_succ]); rotate_right)
  · go_simp
    exact rfl
  try (rename_i Kq hq; clear hq Kq)
  (go_big_quiet_want; apply Exists.intro; refine ⟨fun V hV => ?_, ?_⟩; rotate_left; go_big_quiet_on; (try simp only [Act.put, List.setIfInBounds_toArray, List.set_cons_zero, List.set_cons_succ]); rotate_right)
  · go_simp
    exact rfl
  try (rename_i Kq hq; clear hq Kq)
  (go_big_quiet_want; apply Exists.intro; refine ⟨fun V hV => ?_, ?_⟩; rotate_left; go_big_quiet_on; (try simp only [Act.put, List.setIfInBounds_toArray, List.set_cons_zero, List.set_cons_succ]); rotate_right)
  · go_simp
    exact rfl
  try (rename_i Kq hq; clear hq Kq)
  (go_big_quiet_want; apply Exists.intro; refine ⟨fun V hV => ?_, ?_⟩; rotate_left; go_big_quiet_on; (try simp only [Act.put, List.setIfInBounds_toArray, List.set_cons_zero, List.set_cons_succ]); rotate_right)
  · go_simp
    exact rfl
  try (rename_i Kq hq; clear hq Kq)
  (go_big_quiet_want; apply Exists.intro; refine ⟨fun V hV => ?_, ?_⟩; rotate_left; go_big_quiet_on; (try simp only [Act.put, List.setIfInBounds_toArray, List.set_cons_zero, List.set_cons_succ]); rotate_right)
  · obtain ⟨c0, c1, c2, c3, c4, d0, d1, d2, d3, d4⟩ := HC.out V hV
    go_simp
    exact rfl
  try (rename_i Kq hq; clear hq Kq)
  (go_big_quiet_want; apply Exists.intro; refine ⟨fun V hV => ?_, ?_⟩; rotate_left; go_big_quiet_on; (try simp only [Act.put, List.setIfInBounds_toArray, List.set_cons_zero, List.set_cons_succ]); rotate_right)
  · go_simp
    exact rfl
  try (rename_i Kq hq; clear hq Kq)
  (go_big_quiet_want; apply Exists.intro; refine ⟨fun V hV => ?_, ?_⟩; rotate_left; go_big_quiet_on; (try simp only [Act.put, List.setIfInBounds_toArray, List.set_cons_zero, List.set_cons_succ]); rotate_right)
  · go_simp
    exact rfl
  try (rename_i Kq hq; clear hq Kq)
  (go_big_quiet_want; apply Exists.intro; refine ⟨fun V hV => ?_, ?_⟩; rotate_left; go_big_quiet_on; (try simp only [Act.put, List.setIfInBounds_toArray, List.set_cons_zero, List.set_cons_succ]); rotate_right)
  · go_simp
    exact rfl
  try (rename_i Kq hq; clear hq Kq)
  (go_big_quiet_want; apply Exists.intro; refine ⟨fun V hV => ?_, ?_⟩; rotate_left; go_big_quiet_on; (try simp only [Act.put, List.setIfInBounds_toArray, List.set_cons_zero, List.set_cons_succ]); rotate_right)
  · obtain ⟨c0, c1, c2, c3, c4, d0, d1, d2, d3, d4⟩ := HC.out V hV
    go_simp
    exact rfl
  try (rename_i Kq hq; clear hq Kq)
  (go_big_quiet_want; apply Exists.intro; refine ⟨fun V hV => ?_, ?_⟩; rotate_left; go_big_quiet_on; (try simp only [Act.put, List.setIfInBounds_toArray, List.set_cons_zero, List.set_cons_succ]); rotate_right)
  · go_simp
    exact (HBO.out V hV).mono fun e V' h => ⟨h.1, hV.trans h.2⟩
  try (rename_i Kq hq; clear hq Kq)
  (go_big_quiet_want; apply Exists.intro; refine ⟨fun V hV => ?_, ?_⟩; rotate_left; go_big_quiet_on; (try simp only [Act.put, List.setIfInBounds_toArray, List.set_cons_zero, List.set_cons_succ]); rotate_right)
  · go_simp
    exact rfl
  try (rename_i Kq hq; clear hq Kq)
  (go_big_quiet_want; apply Exists.intro; refine ⟨fun V hV => ?_, ?_⟩; rotate_left; go_big_quiet_on; (try simp only [Act.put, List.setIfInBounds_toArray, List.set_cons_zero, List.set_cons_succ]); rotate_right)
  · go_simp
    exact rfl
  try (rename_i Kq hq; clear hq Kq)
  (go_big_quiet_want; apply Exists.intro; refine ⟨fun V hV => ?_, ?_⟩; rotate_left; go_big_quiet_on; (try simp only [Act.put, List.setIfInBounds_toArray, List.set_cons_zero, List.set_cons_succ]); rotate_right)
  · go_simp
    exact rfl
  try (rename_i Kq hq; clear hq Kq)
  (go_big_quiet_want; apply Exists.intro; refine ⟨fun V hV => ?_, ?_⟩; rotate_left; go_big_quiet_on; (try simp only [Act.put, List.setIfInBounds_toArray, List.set_cons_zero, List.set_cons_succ]); rotate_right)
  · go_simp
    exact rfl
  try (rename_i Kq hq; clear hq Kq)
  (go_big_quiet_want; apply Exists.intro; refine ⟨fun V hV => ?_, ?_⟩; rotate_left; go_big_quiet_on; (try simp only [Act.put, List.setIfInBounds_toArray, List.set_cons_zero, List.set_cons_succ]); rotate_right)
  · go_simp
    exact rfl
  try (rename_i Kq hq; clear hq Kq)
  (go_big_quiet_want; apply Exists.intro; refine ⟨fun V hV => ?_, ?_⟩; rotate_left; go_big_quiet_on; (try simp only [Act.put, List.setIfInBounds_toArray, List.set_cons_zero, List.set_cons_succ]); rotate_right)
  · go_simp
    exact rfl
  try (rename_i Kq hq; clear hq Kq)
  (go_big_quiet_want; apply Exists.intro; refine ⟨fun V hV => ?_, ?_⟩; rotate_left; go_big_quiet_on; (try simp only [Act.put, List.setIfInBounds_toArray, List.set_cons_zero, List.set_cons_succ]); rotate_right)
  · obtain ⟨c0, c1, c2, c3, c4, d0, d1, d2, d3, d4⟩ := HC.out V hV
    go_simp
    exact rfl
  try (rename_i Kq hq; clear hq Kq)
  (go_big_quiet_want; apply Exists.intro; refine ⟨fun V hV => ?_, ?_⟩; rotate_left; go_big_quiet_on; (try simp only [Act.put, List.setIfInBounds_toArray, List.set_cons_zero, List.set_cons_succ]); rotate_right)
  · go_simp
    exact rfl
  try (rename_i Kq hq; clear hq Kq)
  (go_big_quiet_want; apply Exists.intro; refine ⟨fun V hV => ?_, ?_⟩; rotate_left; go_big_quiet_on; (try simp only [Act.put, List.setIfInBounds_toArray, List.set_cons_zero, List.set_cons_succ]); rotate_right)
  · go_simp
    exact rfl
  try (rename_i Kq hq; clear hq Kq)
  (go_big_quiet_want; apply Exists.intro; refine ⟨fun V hV => ?_, ?_⟩; rotate_left; go_big_quiet_on; (try simp only [Act.put, List.setIfInBounds_toArray, List.set_cons_zero, List.set_cons_succ]); rotate_right)
  · go_simp
    exact rfl
  try (rename_i Kq hq; clear hq Kq)
  (go_big_quiet_want; apply Exists.intro; refine ⟨fun V hV => ?_, ?_⟩; rotate_left; go_big_quiet_on; (try simp only [Act.put, List.setIfInBounds_toArray, List.set_cons_zero, List.set_cons_succ]); rotate_right)
  · go_simp
    exact rfl
  try (rename_i Kq hq; clear hq Kq)
  (go_big_quiet_want; apply Exists.intro; refine ⟨fun V hV => ?_, ?_⟩; rotate_left; go_big_quiet_on; (try simp only [Act.put, List.setIfInBounds_toArray, List.set_cons_zero, List.set_cons_succ]); rotate_right)
  · obtain ⟨c0, c1, c2, c3, c4, d0, d1, d2, d3, d4⟩ := HC.out V hV
    go_simp
    exact rfl
  try (rename_i Kq hq; clear hq Kq)
  (go_big_quiet_want; apply Exists.intro; refine ⟨fun V hV => ?_, ?_⟩; rotate_left; go_big_quiet_on; (try simp only [Act.put, List.setIfInBounds_toArray, List.set_cons_zero, List.set_cons_succ]); rotate_right)
  · go_simp
    exact rfl
  try (rename_i Kq hq; clear hq Kq)
  (go_big_quiet_want; apply Exists.intro; refine ⟨fun V hV => ?_, ?_⟩; rotate_left; go_big_quiet_on; (try simp only [Act.put, List.setIfInBounds_toArray, List.set_cons_zero, List.set_cons_succ]); rotate_right)
  · go_simp
    exact rfl
  try (rename_i Kq hq; clear hq Kq)
  (go_big_quiet_want; apply Exists.intro; refine ⟨fun V hV => ?_, ?_⟩; rotate_left; go_big_quiet_on; (try simp only [Act.put, List.setIfInBounds_toArray, List.set_cons_zero, List.set_cons_succ]); rotate_right)
  · go_simp
    exact rfl
  try (rename_i Kq hq; clear hq Kq)
  refine wpQuiet_nil ?_
  intro w3 k3
  have K3 := Lib.hid k3
  clear k3
  obtain ⟨c0, c1, c2, c3, c4, d0, d1, d2, d3, d4⟩ := HC.out _ K3.out
  go_wp2_with fail
  clear c0 c1 c2 c3 c4 d0 d1 d2 d3 d4
  go_loopw [5] (fun v wr => ∃ i : Nat, i ≤ nR ∧ v = .int .i64 i ∧ Kept [] w wr) (fun v _ => nR - (intOf v).toNat)
  case atStart => exact ⟨0, Nat.zero_le _, rfl, K3.out⟩
  case round =>
    obtain ⟨i, hi, rfl, hkr⟩ := hrel
    have KR := Lib.hid hkr
    clear hkr
    obtain ⟨c0, c1, c2, c3, c4, d0, d1, d2, d3, d4⟩ := HC.out _ KR.out
    clear c0 c1 c2 c4 d0 d1 d2 d4
    by_cases hlt : i < nR
    · have hil : i < N.regs.length := by rw [← HNR.out]; exact hlt
      obtain ⟨b1, rfl, e0, e1, e2, e3⟩ := (HRA.out.kept0 KR.out) i hil
      obtain ⟨b2, rfl, f0, f1, f2, f3⟩ := (HRB.out.kept0 KR.out) i hil
      generalize N.regs[i] = r at *
      obtain ⟨x, d, en, init⟩ := r
      simp only at e0 e1 e2 e3 f0 f1 f2 f3
      have i0 : (0 : Int) ≤ (i : Int) := by omega
      have i1 : (i : Int) < (nR : Int) := by omega
      go_upto_region 6 with (fail)
      have c31 := fun o => cell_alloc c3 o
      have c32 := fun o o' => cell_alloc (cell_alloc c3 o) o'
      have d31 := fun o => cell_alloc d3 o
      have d32 := fun o o' => cell_alloc (cell_alloc d3 o) o'
      have e01 := fun o => cell_alloc e0 o
      have e02 := fun o o' => cell_alloc (cell_alloc e0 o) o'
      have e11 := fun o => cell_alloc e1 o
      have e12 := fun o o' => cell_alloc (cell_alloc e1 o) o'
      have e21 := fun o => cell_alloc e2 o
      have e22 := fun o o' => cell_alloc (cell_alloc e2 o) o'
      have e31 := fun o => cell_alloc e3 o
      have e32 := fun o o' => cell_alloc (cell_alloc e3 o) o'
      have f01 := fun o => cell_alloc f0 o
      have f02 := fun o o' => cell_alloc (cell_alloc f0 o) o'
      have f11 := fun o => cell_alloc f1 o
      have f12 := fun o o' => cell_alloc (cell_alloc f1 o) o'
      have f21 := fun o => cell_alloc f2 o
      have f22 := fun o o' => cell_alloc (cell_alloc f2 o) o'
      have f31 := fun o => cell_alloc f3 o
      have f32 := fun o o' => cell_alloc (cell_alloc f3 o) o'
      go_region
      all_goals
        go_wp2_with fail
        go_roundw
        case rel => exact ⟨i + 1, by omega, by go_num, ((KR.out.alloc _).alloc _).drew⟩
        case measure => simp [intOf]; omega
    · obtain rfl : nR = i := by omega
      go_wp2_with fail
      go_ret
      exact ⟨rfl, KR.out⟩
end Go.Proofs.YtdmcdhkkbkgnbaaGreat
