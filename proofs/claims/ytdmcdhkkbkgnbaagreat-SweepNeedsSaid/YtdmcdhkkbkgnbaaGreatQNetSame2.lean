/-
  net.Same of two netlists that are the same.
-/
import Derived.Test.YtdmcdhkkbkgnbaaGreatQNetSame
import Derived.Test.YtdmcdhkkbkgnbaaGreatP14
namespace Go.Proofs.YtdmcdhkkbkgnbaaGreat
open Go.ChangeShapes Go.WideShapes Go.ChangeAt Go.RowKit
open Go.Maps (Keyed)
open Go.WideMaps
set_option linter.unusedVariables false
set_option linter.unusedSimpArgs false

variable {w w' : World} {p q n n' : Nat} {F F' R R' S : List Nat} {g : Gr} {N : Nt}
theorem keep10 {w w' : World} {a0 a1 a2 a3 a4 b0 b1 b2 b3 b4 : Addr} {v0 v1 v2 v3 v4 x0 x1 x2 x3 x4 : Value} (hk : Kept [] w w') (h0 : w.cell? a0 = some v0) (h1 : w.cell? a1 = some v1) (h2 : w.cell? a2 = some v2) (h3 : w.cell? a3 = some v3) (h4 : w.cell? a4 = some v4)
    (i0 : w.cell? b0 = some x0) (i1 : w.cell? b1 = some x1) (i2 : w.cell? b2 = some x2) (i3 : w.cell? b3 = some x3) (i4 : w.cell? b4 = some x4) :
    w'.cell? a0 = some v0 ∧ w'.cell? a1 = some v1 ∧ w'.cell? a2 = some v2 ∧ w'.cell? a3 = some v3 ∧ w'.cell? a4 = some v4 ∧ w'.cell? b0 = some x0 ∧ w'.cell? b1 = some x1 ∧ w'.cell? b2 = some x2 ∧ w'.cell? b3 = some x3 ∧ w'.cell? b4 = some x4 :=
  ⟨hk.cell h0 (by simp), hk.cell h1 (by simp), hk.cell h2 (by simp), hk.cell h3 (by simp), hk.cell h4 (by simp), hk.cell i0 (by simp), hk.cell i1 (by simp), hk.cell i2 (by simp), hk.cell i3 (by simp), hk.cell i4 (by simp)⟩
set_option maxHeartbeats 6400000 in
set_option maxRecDepth 100000 in
theorem net_same (h1 : NetAt w n F R N) (h2 : NetAt w n' F' R' N) (hok : N.g.nodes.length ≤ 1000000 ∧ N.inb.length ≤ 10000 ∧ N.regs.length ≤ 1000000 ∧ N.outb.length ≤ 10000) (hri : ∀ b ∈ N.inb, b.lits.length ≤ 1000) (hro : ∀ b ∈ N.outb, b.lits.length ≤ 1000) :
    Calls Tryz.prog 26 #[.pointer (some ⟨n, 0, none⟩), .pointer (some ⟨n', 0, none⟩)] w (BoolIs true w) := by
  have HN1 := Lib.hid (net_none h1 (by omega))
  have HN2 := Lib.hid (net_none h2 (by omega))
  obtain ⟨p, G, ia, ic, ra, rc, oa, oc, ri, ro, rfl, rfl, hc⟩ := h1
  obtain ⟨p', G', ia', ic', ra', rc', oa', oc', ri', ro', rfl, rfl, hd⟩ := h2
  have c0 := hc.c0
  have c1 := hc.c1
  have c2 := hc.c2
  have c3 := hc.c3
  have c4 := hc.c4
  have d0 := hd.c0
  have d1 := hd.c1
  have d2 := hd.c2
  have d3 := hd.c3
  have d4 := hd.c4
  obtain ⟨nI, hnI⟩ : ∃ k, k = N.inb.length := ⟨_, rfl⟩
  obtain ⟨nR, hnR⟩ : ∃ k, k = N.regs.length := ⟨_, rfl⟩
  obtain ⟨nO, hnO⟩ : ∃ k, k = N.outb.length := ⟨_, rfl⟩
  have HA := Lib.hid (fun (W : World) (hk : Kept [] w W) => aig_same (hc.gr.kept0 hk) (hd.gr.kept0 hk) hok.1)
  have HI := Lib.hid (fun (W : World) (hk : Kept [] w W) => equal_buses ia ia' ic ic' nI ri ri' N.inb W hnI.symm (by omega) hc.ib.is hd.ib.is (hc.ib.slb.kept0 hk) (hd.ib.slb.kept0 hk) (fun r hr => (hc.ib.rows r hr).1.kept0 hk) (fun r hr => (hd.ib.rows r hr).1.kept0 hk) (fun x hx => by have := hri x hx; omega))
  have HO := Lib.hid (fun (W : World) (hk : Kept [] w W) => equal_buses oa oa' oc oc' nO ro ro' N.outb W hnO.symm (by omega) hc.ob.is hd.ob.is (hc.ob.slb.kept0 hk) (hd.ob.slb.kept0 hk) (fun r hr => (hc.ob.rows r hr).1.kept0 hk) (fun r hr => (hd.ob.rows r hr).1.kept0 hk) (fun x hx => by have := hro x hx; omega))
  have HR := Lib.hid (fun (W : World) (hk : Kept [] w W) => equal_regs ra ra' rc rc' nR N.regs W hnR.symm (by omega) ((regs_sl rfl hc.rb).kept0 hk) ((regs_sl rfl hd.rb).kept0 hk))
  rw [← hnI] at c2 d2
  rw [← hnR] at c3 d3
  rw [← hnO] at c4 d4
  have HNM := Lib.hid (show (N.name.toList == N.name.toList) = true from by simp)
  clear hc hd hok hri hro hnI hnR hnO
  go_enter Tryz.func26, Tryz.ntmps26; (try simp only [List.append])
  go_wp2_with fail
  refine HN1.out.mono ?_
  rintro e w' ⟨rfl, rfl⟩
  go_wp2_with fail
  refine HN2.out.mono ?_
  rintro e w' ⟨rfl, rfl⟩
  go_wp2_with fail
  go_region_held3 (fun w' => w'.cell? ⟨n, 0, none⟩ = some (.pointer (some ⟨p, 0, none⟩)) ∧ w'.cell? ⟨n, 1, none⟩ = some (.string N.name) ∧ w'.cell? ⟨n, 2, none⟩ = some (.slice ia nI ic) ∧ w'.cell? ⟨n, 3, none⟩ = some (.slice ra nR rc) ∧ w'.cell? ⟨n, 4, none⟩ = some (.slice oa nO oc) ∧ w'.cell? ⟨n', 0, none⟩ = some (.pointer (some ⟨p', 0, none⟩)) ∧ w'.cell? ⟨n', 1, none⟩ = some (.string N.name) ∧ w'.cell? ⟨n', 2, none⟩ = some (.slice ia' nI ic') ∧ w'.cell? ⟨n', 3, none⟩ = some (.slice ra' nR rc') ∧ w'.cell? ⟨n', 4, none⟩ = some (.slice oa' nO oc'))
    (first | exact keep10 (w := w) (by (repeat (first | with_reducible exact Kept.refl _ _ | with_reducible apply Kept.drew | with_reducible apply Kept.drewN | with_reducible apply Kept.alloc | refine Kept.trans ?_ k2 | refine Kept.trans ?_ k4))) c0 c1 c2 c3 c4 d0 d1 d2 d3 d4 | go_keep)
    (first
      | (go_at_call 75; (with_reducible refine (HA.out _ ?kk).mono ?_); (case kk => ((repeat (first | with_reducible exact Kept.refl _ _ | with_reducible apply Kept.drew | with_reducible apply Kept.drewN | with_reducible apply Kept.alloc | refine Kept.trans ?_ k2 | refine Kept.trans ?_ k4)))); rintro e u1 ⟨rfl, m1, rfl⟩)
      | (go_at_call 76; (with_reducible refine (HI.out _ ?kk).mono ?_); (case kk => ((repeat (first | with_reducible exact Kept.refl _ _ | with_reducible apply Kept.drew | with_reducible apply Kept.drewN | with_reducible apply Kept.alloc | refine Kept.trans ?_ k2 | refine Kept.trans ?_ k4)))); rintro e u2 ⟨rfl, k2⟩)
      | (go_at_call 76; (with_reducible refine (HO.out _ ?kk).mono ?_); (case kk => ((repeat (first | with_reducible exact Kept.refl _ _ | with_reducible apply Kept.drew | with_reducible apply Kept.drewN | with_reducible apply Kept.alloc | refine Kept.trans ?_ k2 | refine Kept.trans ?_ k4)))); rintro e u4 ⟨rfl, k4⟩)
      | (go_at_call 77; (with_reducible refine (HR.out _ ?kk).mono ?_); (case kk => ((repeat (first | with_reducible exact Kept.refl _ _ | with_reducible apply Kept.drew | with_reducible apply Kept.drewN | with_reducible apply Kept.alloc | refine Kept.trans ?_ k2 | refine Kept.trans ?_ k4)))); rintro e u3 ⟨rfl, m3, rfl⟩))
  all_goals
    go_wp2_with fail
    go_ret
    exact ⟨rfl, by (repeat (first | with_reducible exact Kept.refl _ _ | with_reducible apply Kept.drew | with_reducible apply Kept.drewN | with_reducible apply Kept.alloc | refine Kept.trans ?_ k2 | refine Kept.trans ?_ k4))⟩
end Go.Proofs.YtdmcdhkkbkgnbaaGreat
