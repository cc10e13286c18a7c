/-
  The document's netlist: an input is told, buses may be, Check says 0 of a netlist that is driven whole.
-/
import Derived.Test.YtdmcdhkkbkgnbaaGreatQRSimA
import Derived.Test.YtdmcdhkkbkgnbaaGreatP08
import Derived.Test.YtdmcdhkkbkgnbaaGreatP17
import Derived.BigQuiet
import Derived.Deep.RegionHeld3
namespace Go.Proofs.YtdmcdhkkbkgnbaaGreat
open Go.ChangeShapes Go.WideShapes Go.ChangeAt Go.RowKit
open Go.Maps (Keyed)
open Go.WideMaps
set_option linter.unusedVariables false
set_option linter.unusedSimpArgs false

variable {w w' : World} {p n k q : Nat} {F R S : List Nat} {g : Gr} {N : Nt}
theorem ref_at (hg : RefAt w q R g) : ∃ gb cn, w.cell? ⟨q, 2, none⟩ = some (.slice (some ⟨gb, 0, none⟩) g.nodes.length cn) ∧ ∀ (k : Nat) (p : Nat × Nat), g.nodes[k]? = some p →
    w.cell? ⟨gb, k * 3, none⟩ = some (.bool (decide (p.1 / 2 = k) && decide (k ≠ 0))) ∧ (p.1 / 2 ≠ k → w.cell? ⟨gb, k * 3 + 1, none⟩ = some (.int .u32 (p.1 : Int)) ∧ w.cell? ⟨gb, k * 3 + 2, none⟩ = some (.int .u32 (p.2 : Int))) := by
  have hp := hg.wf.pos
  obtain ⟨an, cn, rfl, hc⟩ := hg
  have c2 := hc.c2
  obtain ⟨gb, rfl, hcell⟩ := own3_form hc.nodes (by omega)
  exact ⟨gb, cn, c2, fun k p hk => rnode_cells hcell hk⟩
set_option maxRecDepth 100000 in
theorem isInput06 (x : Nat) (h : RNetAt w n F R N) (hx : x < 4294967296) (hi : ∃ i ∈ ins N.g.nodes, x = 2 * i) :
    Calls Tryz.prog 58 #[.pointer (some ⟨n, 0, none⟩), .int .u32 (x : Int)] w fun e w' => e = .returned (.bool true) ∧ w = w' := by
  obtain ⟨pp, ia, ic, ra, rc, oa, oc, ri, ro, hp⟩ := rnet_parts h
  obtain ⟨i, hin, rfl⟩ := hi
  obtain ⟨G, hg⟩ := hp.gr
  obtain ⟨gb, cn, g2, gn⟩ := ref_at hg
  obtain ⟨h0, a, b, hab, hai⟩ := ins_of hin
  have hil := ins_lt _ _ hin
  have gi := (gn i (a, b) hab).1
  have hb : (decide ((a, b).1 / 2 = i) && decide (i ≠ 0)) = true := by simp [hai, h0]
  rw [hb] at gi
  have c0 := hp.c0
  clear gn hb hab hai hg hp h hin
  obtain ⟨x, hxe⟩ : ∃ x, x = 2 * i := ⟨_, rfl⟩
  rw [← hxe] at hx ⊢
  have e1 : ((x : Int) % 2 == 0) = true := by simp; omega
  have e2 : (0 : Int) < (x : Int) := by omega
  have e3 : (x : Int) / 2 = (i : Int) := by omega
  generalize N.g.nodes.length = ln at *
  clear hxe
  go_enter Tryz.func58, Tryz.ntmps58
  go_wp2_with fail
  go_ret
  exact ⟨rfl, rfl⟩
theorem find_take {rs : List BR} (hd : (rs.map fun r => r.b.name).Pairwise (· ≠ ·)) {k : Nat} (hk : k < rs.length) : findRow (rs.take k) rs[k].b.name = none := by
  have h : findP (rs.take k) rs[k].b.name = none := by
    unfold findP
    rw [List.findIdx?_eq_none_iff]
    intro r hr
    obtain ⟨j, hj, rfl⟩ := List.getElem_of_mem hr
    have hjk : j < k := by rw [List.length_take] at hj; omega
    have h2 := List.pairwise_iff_getElem.1 hd j k (by simp; omega) (by simpa using hk) hjk
    simpa [List.getElem_take] using h2
  unfold findRow
  rw [h]; rfl
set_option maxHeartbeats 3200000 in
set_option maxRecDepth 100000 in
theorem buses06 (a : Option Addr) (c len : Nat) (rs : List BR) (hc0 : w.cell? ⟨n, 0, none⟩ = some (.pointer (some ⟨p, 0, none⟩))) (hg : RefAt w p R g) (hgl : g.nodes.length ≤ 90000) (hlen : rs.length = len) (hm : len ≤ 100000) (hcap : len ≤ c) (hs : SlB w a rs) (hr : ∀ r ∈ rs, SlN w .u32 r.a r.b.lits)
    (hd : (rs.map fun r => r.b.name).Pairwise (· ≠ ·)) (hk : ∀ r ∈ rs, 1 ≤ r.b.lits.length ∧ r.b.lits.length ≤ 64 ∧ mayB r.b.name = true ∧ r.b.name.size ≤ 140737488351232 ∧ ∀ x ∈ r.b.lits, g.ok x) :
    Calls Tryz.prog 57 #[.pointer (some ⟨n, 0, none⟩), .slice a len c] w fun e w' => e = .returned (.bool true) ∧ Kept [] w w' := by
  have C0 := Lib.hid hc0
  have HG := Lib.hid hg
  have HL := Lib.hid hlen
  have HS := Lib.hid hs
  have HR := Lib.hid hr
  have HD := Lib.hid hd
  have HK := Lib.hid hk
  clear hc0 hg hlen hs hr hd hk
  go_enter Tryz.func57, Tryz.ntmps57
  go_wp2_with fail
  go_loopw [5] (fun v wr => ∃ k : Nat, k ≤ len ∧ v = .int .i64 k ∧ Kept [] w wr) (fun v _ => len - (intOf v).toNat)
  case atStart => exact ⟨0, Nat.zero_le _, rfl, .refl _ _⟩
  case round =>
    obtain ⟨k, hk, rfl, hkr⟩ := hrel
    have KR := Lib.hid hkr
    clear hkr
    by_cases hlt : k < len
    · have hkl : k < rs.length := by rw [HL.out]; exact hlt
      obtain ⟨bb, rfl, b0, b1⟩ := (HS.out.kept0 KR.out) k hkl
      have hkk := HK.out _ (List.getElem_mem hkl)
      have HN := Lib.hid (find_take HD.out hkl)
      have HF := Lib.hid (fun (W : World) (hW : Kept [] wr W) => show Calls Tryz.prog 104 #[.slice (some ⟨bb, 0, none⟩) k c, .string rs[k].b.name] W (fun e w' => e = .returned (.tuple #[.slice none 0 0, .bool false]) ∧ W = w') from
        (find06 rs[k].b.name (some ⟨bb, 0, none⟩) c k (rs.take k) (by rw [List.length_take]; omega) (by omega) (((HS.out.kept0 KR.out).kept0 hW).take k)).mono (by
          rintro e w' (⟨_, he, hw⟩ | ⟨r, hr, _⟩)
          · exact ⟨he, hw⟩
          · rw [HN.out] at hr; exact absurd hr (by simp)))
      have HM := Lib.hid (fun (W : World) => show Calls Tryz.prog 56 #[.string rs[k].b.name] W (fun e w' => e = .returned (.bool true) ∧ W = w') from by
        have h := mayname06 rs[k].b.name W hkk.2.2.2.1
        rw [hkk.2.2.1] at h
        exact h)
      have HT := Lib.hid (fun (W : World) (hW : Kept [] wr W) => show Calls Tryz.prog 59 #[.pointer (some ⟨p, 0, none⟩), .slice rs[k].a rs[k].b.lits.length rs[k].c] W (fun e w' => e = .returned (.bool true) ∧ ∃ m, w' = W.drewN m) from by
        have h := there03 ((HG.out.kept0 KR.out).kept0 hW) hgl rs[k].a rs[k].c rs[k].b.lits.length rs[k].b.lits rfl (by have := hkk.2.1; omega) ((HR.out _ (List.getElem_mem hkl)).kept0 (KR.out.trans hW)) (fun x hx => by have h1 : x / 2 < g.nodes.length := hkk.2.2.2.2 x hx; omega)
        have hgone : gone g rs[k].b.lits = false := by
          unfold gone
          rw [List.any_eq_false]
          intro x hx
          have h1 : x / 2 < g.nodes.length := hkk.2.2.2.2 x hx
          simp; omega
        rw [hgone] at h
        exact h)
      have hkc : k ≤ c := by omega
      have hl1 := hkk.1
      have hl64 := hkk.2.1
      clear hkk
      have c0 := KR.out.cell C0.out (by simp)
      generalize rs[k].b.name = nm at *
      generalize rs[k].a = ba at *
      generalize rs[k].c = bc at *
      generalize rs[k].b.lits.length = ln at *
      go_wp2_with fail
      go_quiet ((go_at_call 104; with_reducible exact q_same (HF.out _ ((Kept.refl [] wr).drewN _))))
      go_wp2_with fail
      have d1 : decide ((ln : Int) < 1) = false := by rw [decide_eq_false_iff_not]; omega
      have d2 : decide ((64 : Int) < (ln : Int)) = false := by rw [decide_eq_false_iff_not]; omega
      go_quiet ((first | (go_at_call 56; with_reducible exact q_same2 (HM.out _)) | (go_at_call 59; with_reducible exact q_drew2 (HT.out _ ((Kept.refl [] wr).drewN _)))))
      go_wp2_with fail
      go_roundw
      case rel => exact ⟨k + 1, by omega, by go_num, KR.out.drewN _⟩
      case measure => simp [intOf]; omega
    · obtain rfl : k = len := by omega
      go_wp2_with fail
      go_ret
      exact ⟨rfl, KR.out⟩
end Go.Proofs.YtdmcdhkkbkgnbaaGreat
