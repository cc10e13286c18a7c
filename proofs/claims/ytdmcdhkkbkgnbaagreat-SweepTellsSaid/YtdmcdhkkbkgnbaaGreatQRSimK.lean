/-
  The document's Check, of any netlist that steps make.
-/
import Derived.Test.YtdmcdhkkbkgnbaaGreatQRSimC
namespace Go.Proofs.YtdmcdhkkbkgnbaaGreat
open Go.ChangeShapes Go.WideShapes Go.ChangeAt Go.RowKit
open Go.Maps (Keyed)
open Go.WideMaps
set_option linter.unusedVariables false
set_option linter.unusedSimpArgs false

variable {w w' : World} {p n k q : Nat} {F R S : List Nat} {g : Gr} {N : Nt}
/-- is an input below k undriven? -/
def anyOpen (N : Nt) (k : Nat) : Bool := (List.range k).any fun i => (ins N.g.nodes).contains i && !(drivenN N).contains (2 * i)
theorem anyOpen_succ (N : Nt) (k : Nat) : anyOpen N (k + 1) = (anyOpen N k || ((ins N.g.nodes).contains k && !(drivenN N).contains (2 * k))) := by
  unfold anyOpen
  rw [List.range_succ, List.any_append]
  simp
theorem anyOpen_one (N : Nt) : anyOpen N 1 = false := by
  rw [anyOpen_succ]
  have h : (ins N.g.nodes).contains 0 = false := by
    rw [← Bool.not_eq_true, List.contains_iff_mem]
    intro hm
    exact (ins_of hm).1 rfl
  rw [h]
  simp [anyOpen]
theorem anyOpen_end (N : Nt) : anyOpen N N.g.nodes.length = !fullB N := by
  unfold anyOpen fullB
  rw [Bool.eq_iff_iff, Bool.not_eq_true', ← Bool.not_eq_true, List.any_eq_true, List.all_eq_true]
  constructor
  · rintro ⟨i, hi, h⟩ hall
    rw [Bool.and_eq_true, List.contains_iff_mem, Bool.not_eq_true'] at h
    have := hall i h.1
    rw [h.2] at this
    cases this
  · intro h
    apply Classical.byContradiction
    intro hn
    refine h fun i hi => ?_
    cases hc : (drivenN N).contains (2 * i) with
    | true => rfl
    | false =>
      refine absurd ⟨i, List.mem_range.2 (ins_lt _ _ hi), ?_⟩ hn
      rw [Bool.and_eq_true, List.contains_iff_mem, hc]
      exact ⟨hi, rfl⟩
set_option maxHeartbeats 6400000 in
set_option maxRecDepth 100000 in
theorem check06g {kk : Nat} (h : RNetAt w n F R N) (hf : NtFine kk N) (hk : kk ≤ 700) : Calls Tryz.prog 14 #[.pointer (some ⟨n, 0, none⟩)] w fun e w' => e = .returned (.int .i64 (checkN N : Nat)) ∧ Kept [] w w' := by
  obtain ⟨pp, ia, ic, ra, rc, oa, oc, ri, ro, hp⟩ := rnet_parts h
  have l1 := hf.ok.len
  have l2 := hf.ok.ik
  have l3 := hf.ok.rk
  have l4 := hf.ok.ok
  have HH := Lib.hid h
  have HP := Lib.hid hp
  have HF := Lib.hid hf
  have may : ∀ s : ByteArray, mayB s = true → s.size ≤ 140737488351232 := fun s hs => by
    unfold mayB at hs
    simp at hs
    omega
  have HMA := Lib.hid may
  have HMN := Lib.hid (fun (W : World) => show Calls Tryz.prog 56 #[.string N.name] W (fun e w' => e = .returned (.bool true) ∧ W = w') from by
    have h := mayname06 N.name W (may _ hf.nm)
    rw [hf.nm] at h
    exact h)
  obtain ⟨G, hg⟩ := hp.gr
  have HG := Lib.hid hg
  have HBI := Lib.hid (buses06 ia ic N.inb.length ri hp.c0 hg (by omega) (by rw [← hp.im]; simp) (by omega) hp.ik hp.ib hp.ir (by
      have := hf.ni
      rw [← hp.im, List.map_map] at this
      exact this) (fun r hr => by
      have h1 := hf.ok.il r.b (by rw [← hp.im]; exact List.mem_map_of_mem hr)
      exact ⟨h1.1, h1.2.1, h1.2.2.1, may _ h1.2.2.1, h1.2.2.2⟩))
  have HBO := Lib.hid (fun (W : World) (hW : Kept [] w W) => buses06 oa oc N.outb.length ro (hp.kept0 hW).c0 (hg.kept0 hW) (by omega) (by rw [← hp.om]; simp) (by omega) hp.ok (hp.kept0 hW).ob (hp.kept0 hW).or (by
      have := hf.no
      rw [← hp.om, List.map_map] at this
      exact this) (fun r hr => by
      have h1 := hf.ok.ol r.b (by rw [← hp.om]; exact List.mem_map_of_mem hr)
      exact ⟨h1.1, h1.2.1, h1.2.2.1, may _ h1.2.2.1, h1.2.2.2⟩))
  have HDI := Lib.hid hf.di
  have c1 := hp.c1
  have c2 := hp.c2
  clear may hg hp hf h
  go_enter Tryz.func14, Tryz.ntmps14; (try simp only [List.append])
  go_wp2_with fail
  refine (HMN.out _).mono ?_
  rintro e w1 ⟨rfl, rfl⟩
  go_wp2_with fail
  refine HBI.out.mono ?_
  rintro e w1 ⟨rfl, k1⟩
  have c4 := (HP.out.kept0 k1).c4
  have K1 := Lib.hid k1
  clear k1 c1 c2
  go_wp2_with fail
  refine (HBO.out _ K1.out).mono ?_
  rintro e w2 ⟨rfl, k2⟩
  have K2 := Lib.hid (K1.out.trans k2)
  clear k2 c4
  have c3 := (HP.out.kept0 K2.out).c3
  have d1 : decide (16384 < N.regs.length) = false := by rw [decide_eq_false_iff_not]; omega
  go_wp2_with fail
  go_loopw [3, 4] (fun v _ wr => ∃ i : Nat, i ≤ N.inb.length ∧ v = .int .i64 i ∧ Kept [] w wr) (fun v _ _ => N.inb.length - (intOf v).toNat)
  case atStart => exact ⟨0, Nat.zero_le _, rfl, K2.out⟩
  case round =>
    clear c3 d1
    obtain ⟨i, hi, rfl, hkr⟩ := hrel
    have KR := Lib.hid hkr
    clear hkr K1 K2
    have c2 := (HP.out.kept0 KR.out).c2
    by_cases hlt : i < N.inb.length
    · have hir : i < ri.length := by have := congrArg List.length HP.out.im; simp at this; omega
      have hdr : ∀ x ∈ ri[i].b.lits, x ∈ drivenN N := fun x hx => by
        unfold drivenN
        refine List.mem_append_left _ (List.mem_flatMap.2 ⟨ri[i].b, ?_, hx⟩)
        rw [← HP.out.im]
        exact List.mem_map_of_mem (List.getElem_mem hir)
      have HDR := Lib.hid hdr
      have hl64 := (HF.out.ok.il ri[i].b (by rw [← HP.out.im]; exact List.mem_map_of_mem (List.getElem_mem hir))).2.1
      have HXO := Lib.hid (HF.out.ok.il ri[i].b (by rw [← HP.out.im]; exact List.mem_map_of_mem (List.getElem_mem hir))).2.2.2
      clear hdr
      obtain ⟨bb, rfl, b0, b1⟩ := HP.out.ib i hir
      have B1 := Lib.hid b1
      have HS := Lib.hid (HP.out.ir _ (List.getElem_mem hir))
      have b1 := KR.out.cell b1 (by simp)
      clear b0
      generalize ri[i].a = ba at *
      generalize ri[i].c = bc at *
      generalize ri[i].b.lits = L at *
      obtain ⟨ln, hln⟩ : ∃ ln, ln = L.length := ⟨_, rfl⟩
      rw [← hln] at b1 hl64 B1
      have HLN := Lib.hid hln
      clear hln
      go_wp2_with fail
      go_loopw [4] (fun v wr => ∃ j : Nat, j ≤ ln ∧ v = .int .i64 j ∧ Kept [] w wr) (fun v _ => ln - (intOf v).toNat)
      case atStart => exact ⟨0, Nat.zero_le _, rfl, KR.out⟩
      case round =>
        clear c2 b1
        obtain ⟨j, hj, rfl, hky⟩ := hrel
        have KY := Lib.hid hky
        clear hky
        have c2 := (HP.out.kept0 KY.out).c2
        have b1 := KY.out.cell B1.out (by simp)
        by_cases hjl : j < ln
        · have hj1 : j < L.length := by rw [← HLN.out]; exact hjl
          obtain ⟨ad, rfl, lx⟩ := (HS.out.kept0 KY.out) j hj1
          have hxd := HDI.out _ (HDR.out _ (List.getElem_mem hj1))
          have hxo : L[j] / 2 < N.g.nodes.length := HXO.out _ (List.getElem_mem hj1)
          generalize L[j] = x at *
          have HIN := Lib.hid (isInput06 x (HH.out.kept0 KY.out) (by omega) hxd)
          clear hxd
          go_wp2_with fail
          refine HIN.out.mono ?_
          rintro e w5 ⟨rfl, rfl⟩
          go_wp2_with fail
          go_roundw
          case rel => exact ⟨j + 1, by omega, by go_num, KY.out⟩
          case measure => simp [intOf]; omega
        · obtain rfl : j = ln := by omega
          go_wp2_with fail
          go_roundw
          case rel => exact ⟨i + 1, by omega, by go_num, KY.out⟩
          case measure => simp [intOf]; omega
    · obtain rfl : i = N.inb.length := by omega
      clear hlt
      have c3 := (HP.out.kept0 KR.out).c3
      go_wp2_with fail
      go_loopw [5] (fun v wr => ∃ q : Nat, q ≤ N.regs.length ∧ v = .int .i64 q ∧ Kept [] w wr) (fun v _ => N.regs.length - (intOf v).toNat)
      case atStart => exact ⟨0, Nat.zero_le _, rfl, KR.out⟩
      case round =>
        clear c3 c2
        obtain ⟨q, hq, rfl, hky⟩ := hrel
        have KY := Lib.hid hky
        clear hky
        obtain ⟨wY, rfl⟩ : ∃ v : World, v = wr := ⟨_, rfl⟩
        have c3 := (HP.out.kept0 KY.out).c3
        by_cases hql : q < N.regs.length
        · have hqd := HDI.out N.regs[q].q (by unfold drivenN; exact List.mem_append_right _ (List.mem_map_of_mem (List.getElem_mem hql)))
          have hro := HF.out.ok.rl _ (List.getElem_mem hql)
          have c0 := (HP.out.kept0 KY.out).c0
          obtain ⟨rb, hrb, r0, r1, r2, r3⟩ := (HP.out.kept0 KY.out).rb q hql
          subst hrb
          clear r3
          generalize N.regs[q].q = xq at *
          generalize N.regs[q].d = xd at *
          generalize N.regs[q].en = xe at *
          have o1 : xq / 2 < N.g.nodes.length := hro.1
          have o2 : xd / 2 < N.g.nodes.length := hro.2.1
          have o3 : xe / 2 < N.g.nodes.length := hro.2.2
          have HIN := Lib.hid (fun (W : World) (hW : Kept [] wY W) => isInput06 xq (HH.out.kept0 (KY.out.trans hW)) (by omega) hqd)
          have HTH := Lib.hid (fun (W : World) (hW : Kept [] wY W) (a : Option Addr) (hs : SlN W .u32 a [xd, xe]) => show Calls Tryz.prog 59 #[.pointer (some ⟨pp, 0, none⟩), .slice a 2 2] W (fun e w' => e = .returned (.bool true) ∧ Kept [] W w') from
            (there03 ((HG.out.kept0 KY.out).kept0 hW) (by omega) a 2 2 [xd, xe] rfl (by omega) hs (by
              intro x hx
              simp at hx
              rcases hx with rfl | rfl <;> omega)).mono (by
              rintro e w' ⟨he, m, hw⟩
              have hgone : gone N.g [xd, xe] = false := by
                unfold gone
                rw [List.any_eq_false]
                intro x hx
                simp at hx
                rcases hx with rfl | rfl <;> simp <;> omega
              rw [hgone] at he
              exact ⟨he, by rw [hw]; exact (Kept.refl _ _).drewN m⟩))
          clear hqd hro o1 o2 o3
          have KA := Kept.refl [] wY
          go_wp2_with fail
          go_region_held3 (fun W => W.cell? ⟨n, 0, none⟩ = some (.pointer (some ⟨pp, 0, none⟩)) ∧ W.cell? ⟨n, 3, none⟩ = some (.slice (some ⟨rb, 0, none⟩) N.regs.length rc) ∧ W.cell? ⟨rb, q * 4, none⟩ = some (.int .u32 (xq : Int)) ∧ W.cell? ⟨rb, q * 4 + 1, none⟩ = some (.int .u32 (xd : Int)) ∧ W.cell? ⟨rb, q * 4 + 2, none⟩ = some (.int .u32 (xe : Int)))
            (first | exact ⟨Kept.cell (F := []) (w := wY) (by (repeat (first | with_reducible exact KA | with_reducible apply Kept.drew | with_reducible apply Kept.drewN | with_reducible apply Kept.alloc))) c0 (by simp), Kept.cell (F := []) (w := wY) (by (repeat (first | with_reducible exact KA | with_reducible apply Kept.drew | with_reducible apply Kept.drewN | with_reducible apply Kept.alloc))) c3 (by simp), Kept.cell (F := []) (w := wY) (by (repeat (first | with_reducible exact KA | with_reducible apply Kept.drew | with_reducible apply Kept.drewN | with_reducible apply Kept.alloc))) r0 (by simp), Kept.cell (F := []) (w := wY) (by (repeat (first | with_reducible exact KA | with_reducible apply Kept.drew | with_reducible apply Kept.drewN | with_reducible apply Kept.alloc))) r1 (by simp), Kept.cell (F := []) (w := wY) (by (repeat (first | with_reducible exact KA | with_reducible apply Kept.drew | with_reducible apply Kept.drewN | with_reducible apply Kept.alloc))) r2 (by simp)⟩ | go_keep)
            (first | (go_at_call 58; (with_reducible refine (HIN.out _ ?kk).mono ?_); (case kk => (repeat (first | with_reducible exact KA | with_reducible apply Kept.drew | with_reducible apply Kept.drewN | with_reducible apply Kept.alloc))); rintro e w5 ⟨rfl, rfl⟩) | (go_at_call 59; (refine (HTH.out _ ?kk _ ?ss).mono ?_); (case kk => (repeat (first | with_reducible exact KA | with_reducible apply Kept.drew | with_reducible apply Kept.drewN | with_reducible apply Kept.alloc))); (case ss => exact sln_two6 _ _ _ _); rintro e w5 ⟨rfl, k5⟩; have KA := (show Kept [] wY _ from (by (repeat (first | with_reducible exact KA | with_reducible apply Kept.drew | with_reducible apply Kept.drewN | with_reducible apply Kept.alloc)))).trans k5))
          all_goals
            go_wp2_with fail
            go_roundw
            case rel => exact ⟨q + 1, by omega, by go_num, KY.out.trans KA⟩
            case measure => simp [intOf]; omega
        · obtain rfl : q = N.regs.length := by omega
          clear hql
          have hpos := HF.out.ok.wf.pos
          go_wp2_with fail
          go_loopw [6, 7] (fun u v wr => ∃ k : Nat, 1 ≤ k ∧ k ≤ N.g.nodes.length ∧ v = .int .i64 k ∧ u = .bool (anyOpen N k) ∧ Kept [] w wr) (fun _ v _ => N.g.nodes.length - (intOf v).toNat)
          case atStart => exact ⟨1, by omega, by omega, rfl, by rw [anyOpen_one], KY.out⟩
          case round =>
            clear c3 KY
            obtain ⟨k, hk1, hkn, rfl, rfl, hkz⟩ := hrel
            have KZ := Lib.hid hkz
            clear hkz
            have c0 := (HP.out.kept0 KZ.out).c0
            obtain ⟨gb, cn, g2, gn⟩ := ref_at (HG.out.kept0 KZ.out)
            by_cases hkl : k < N.g.nodes.length
            · obtain ⟨⟨a, b⟩, hab⟩ : ∃ y, N.g.nodes[k]? = some y := ⟨_, List.getElem?_eq_getElem hkl⟩
              have hcb := (gn k (a, b) hab).1
              have HSU := Lib.hid (anyOpen_succ N k)
              clear gn
              by_cases hin : a / 2 = k
              · have hb : (decide ((a, b).1 / 2 = k) && decide (k ≠ 0)) = true := by simp [hin]; omega
                rw [hb] at hcb
                have hmem : k ∈ ins N.g.nodes := by
                  have h0 := insFrom_mem6 0 N.g.nodes k (a, b) hab (by simpa using hin) (by omega)
                  rw [Nat.zero_add] at h0
                  exact h0
                have HD := Lib.hid (driven06 (2 * k) (HH.out.kept0 KZ.out) (by omega) (by omega) (by omega) (fun b hb => (HF.out.ok.il b hb).2.1))
                obtain ⟨x, hx⟩ : ∃ x, x = 2 * k := ⟨_, rfl⟩
                have u1 : IntKind.i64.wrap (2 * (k : Int)) = (x : Int) := by rw [show (2 : Int) * (k : Int) = (x : Int) from by omega]; exact IntWalk.i64_in _ (by omega)
                have u2 : IntKind.u32.wrap (x : Int) = (x : Int) := by simp only [IntKind.wrap_u32]; omega
                by_cases hdr : 2 * k ∈ drivenN N
                · rw [count_one HF.out.dn hdr] at HD
                  have HE := Lib.hid (show anyOpen N (k + 1) = anyOpen N k from by rw [HSU.out, (List.contains_iff_mem).2 hdr]; simp)
                  rw [← hx] at HD
                  generalize anyOpen N k = ao at *
                  clear hx hmem hb hin hab hdr HSU
                  go_wp2_with fail
                  refine HD.out.mono ?_
                  rintro e w5 ⟨rfl, rfl⟩
                  clear u1 u2
                  go_wp2_with fail
                  go_roundw
                  case rel => exact ⟨k + 1, by omega, by omega, by go_num, by rw [HE.out], KZ.out⟩
                  case measure => simp [intOf]; omega
                · rw [List.count_eq_zero_of_not_mem hdr] at HD
                  have HE := Lib.hid (show anyOpen N (k + 1) = true from by
                    rw [HSU.out, (List.contains_iff_mem).2 hmem]
                    have hc : (drivenN N).contains (2 * k) = false := by rw [← Bool.not_eq_true, List.contains_iff_mem]; exact hdr
                    rw [hc]
                    simp)
                  rw [← hx] at HD
                  generalize anyOpen N k = ao at *
                  clear hx hmem hb hin hab hdr HSU
                  go_wp2_with fail
                  refine HD.out.mono ?_
                  rintro e w5 ⟨rfl, rfl⟩
                  clear u1 u2
                  go_wp2_with fail
                  go_roundw
                  case rel => exact ⟨k + 1, by omega, by omega, by go_num, by rw [HE.out], KZ.out⟩
                  case measure => simp [intOf]; omega
              · have hb : (decide ((a, b).1 / 2 = k) && decide (k ≠ 0)) = false := by simp [hin]
                rw [hb] at hcb
                have HE := Lib.hid (show anyOpen N (k + 1) = anyOpen N k from by
                  have hc : (ins N.g.nodes).contains k = false := by
                    rw [← Bool.not_eq_true, List.contains_iff_mem]
                    intro hm
                    obtain ⟨_, a', b', hab', hai⟩ := ins_of hm
                    rw [hab] at hab'
                    injection hab' with hab'
                    injection hab' with ha' _
                    exact hin (ha' ▸ hai)
                  rw [HSU.out, hc]
                  simp)
                generalize anyOpen N k = ao at *
                clear hb hin hab HSU
                go_wp2_with fail
                go_roundw
                case rel => exact ⟨k + 1, by omega, by omega, by go_num, by rw [HE.out], KZ.out⟩
                case measure => simp [intOf]; omega
            · obtain rfl : k = N.g.nodes.length := by omega
              have HEN := Lib.hid (anyOpen_end N)
              cases hao : anyOpen N N.g.nodes.length with
              | true =>
                have HCN := Lib.hid (show checkN N = 37 from by unfold checkN; rw [if_neg (by have h := HEN.out; rw [hao] at h; simp at h; simp [← h])])
                clear hao
                go_wp2_with fail
                go_ret
                exact ⟨by rw [HCN.out]; rfl, KZ.out⟩
              | false =>
                have HCN := Lib.hid (show checkN N = 0 from by unfold checkN; rw [if_pos (by have h := HEN.out; rw [hao] at h; simp at h; simp [← h])])
                clear hao
                go_wp2_with fail
                go_ret
                exact ⟨by rw [HCN.out]; rfl, KZ.out⟩
end Go.Proofs.YtdmcdhkkbkgnbaaGreat
