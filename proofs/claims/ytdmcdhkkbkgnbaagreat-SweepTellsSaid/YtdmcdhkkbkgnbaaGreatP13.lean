/-
  Package net: clones of registers and buses; Copy.
-/
import Derived.Test.YtdmcdhkkbkgnbaaGreatP12
import Derived.Deep.RegionHeld3
namespace Go.Proofs.YtdmcdhkkbkgnbaaGreat
open Go.ChangeShapes Go.WideShapes Go.ChangeAt Go.RowKit
open Go.Maps (Keyed)
open Go.WideMaps
set_option linter.unusedVariables false
set_option linter.unusedSimpArgs false

variable {w w' : World} {p n : Nat} {F R S : List Nat} {g : Gr} {N : Nt}
theorem rgCells_one (l : List Rg) : ∀ u ∈ rgCells l, u.oneCell' = true := by
  intro u hu
  simp only [rgCells, List.mem_flatMap, List.mem_cons, List.not_mem_nil, or_false] at hu
  obtain ⟨p, _, rfl | rfl | rfl | rfl⟩ := hu <;> rfl
def NewRegs (l : List Rg) (n : Nat) (w : World) (e : Ending) (w' : World) : Prop := ∃ a c, e = .returned (.slice a n c) ∧ w'.ownsRow 0 63 4 (.slice a n c) n (rgCells l) ∧ Stepped w w' [] (ft a)
set_option maxRecDepth 100000 in
theorem clone_regs (a : Option Addr) (c n : Nat) (l : List Rg) (w : World) (ho : w.ownsRow 0 63 4 (.slice a n c) n (rgCells l)) (hm : n ≤ 1000000) :
    Calls Tryz.prog 80 #[.slice a n c] w (NewRegs l n w) := by
  have q := fun (w : World) (a : Option Addr) (n c : Nat) => Lib.run_eql_slice_nil (P := Tryz.prog) w 55 63 a n c 0 0 Tryz.underlying55
  have hl : (rgCells l).length = n * 4 := ho.1
  have HO := Lib.hid ho; clear ho
  have HL := Lib.hid hl; clear hl
  cases a with
  | none =>
    have h0 : n = 0 := by
      rcases HO.out.2 with ⟨hv, h0⟩ | ⟨g, cap', cur, hv, _⟩
      · exact h0
      · cases hv
    subst h0
    have hl0 : l = [] := List.eq_nil_of_length_eq_zero (by have := HL.out; rw [rgCells_length] at this; omega)
    subst hl0
    go_enter Tryz.func80, Tryz.ntmps80
    go_wp2
    go_ret
    exact ⟨none, 0, rfl, World.ownsRow_nil _ _ _ _, .refl _ _⟩
  | some ad =>
    have HC := Lib.hid (show ∀ j u, (rgCells l)[j]? = some u → (w.alloc (.cells #[] 63)).cell? (ad.add j) = some u from fun j u hu => cell_alloc (row_cells HO.out j u hu) _)
    go_enter Tryz.func80, Tryz.ntmps80
    go_wp2_with (at_builtin; refine wpList_cat (news := rgCells l) rfl rfl Tryz.underlying55 reg_info rfl (by omega) rfl rfl (own_empty w 63 4) (by rw [HL.out]) HC.out (rgCells_one _) (by unfold maxLen; omega) (by omega) ?_; intro a' c' w1 hown1 hst1)
    go_ret
    refine ⟨a', c', by simp [go_sem], by simpa using hown1, ?_⟩
    have := (((Stepped.refl w []).allocOwn (.cells #[] 63))).trans (by simpa [ft] using hst1)
    exact this
/-- buses of one's own, new -/
def NewBuses (l : List Bus) (n : Nat) (w : World) (e : Ending) (w' : World) : Prop :=
  ∃ a c rs, e = .returned (.slice a n c) ∧ BusesAt w' a c l rs ∧ Kept [] w w' ∧ (∀ b ∈ ft a, w.heap.size ≤ b) ∧ ∀ b ∈ rowsOf rs, w.heap.size ≤ b ∧ b ∉ ft a
theorem take_snoc_bus (l : List Bus) (k : Nat) (h : k < l.length) : l.take (k + 1) = l.take k ++ [l[k]] := by
  rw [List.take_succ_eq_append_getElem h]
set_option maxHeartbeats 3200000 in
set_option maxRecDepth 100000 in
theorem clone_buses (a : Option Addr) (c n : Nat) (l : List Bus) (rs : List BR) (w : World) (h : BusesAt w a c l rs) (hn : n = l.length) (hm : n ≤ 10000) (hr : ∀ b ∈ l, b.lits.length ≤ 1000) :
    Calls Tryz.prog 79 #[.slice a n c] w (NewBuses l n w) := by
  have HB := Lib.hid h
  have HN := Lib.hid hn
  have HR := Lib.hid hr
  have HRL := Lib.hid (show rs.length = n from by rw [hn, ← h.is]; simp)
  clear h hn hr
  go_enter Tryz.func79, Tryz.ntmps79
  go_wp2_with fail
  go_loopw [3, 8] (fun v i wr => ∃ (k : Nat) (a' : Option Addr) (c' : Nat) (rs' : List BR), k ≤ n ∧ i = .int .i64 k ∧ v = .slice a' k c' ∧ wr.ownsRow 0 60 2 (.slice a' k c') k (brCells rs') ∧ rs'.map (·.b) = l.take k ∧ (∀ r ∈ rs', SlN wr .u32 r.a r.b.lits ∧ (∀ b ∈ ft r.a, b < wr.heap.size ∧ w.heap.size ≤ b ∧ b ∉ ft a')) ∧ Kept [] w wr ∧ ∀ b ∈ ft a', w.heap.size ≤ b) (fun _ i _ => n - (intOf i).toNat)
  case atStart => exact ⟨0, none, 0, [], Nat.zero_le _, rfl, rfl, World.ownsRow_nil _ _ _ _, rfl, by simp, .refl _ _, by simp [ft]⟩
  case round =>
    obtain ⟨k, a', c', rs', hk, rfl, rfl, ho, his, hrw, hkr, hfa⟩ := hrel
    have HO := Lib.hid ho
    have HI := Lib.hid his
    have HRW := Lib.hid hrw
    have KR := Lib.hid hkr
    have HFA := Lib.hid hfa
    clear ho his hrw hkr hfa
    by_cases hlt : k < n
    · have hkl : k < rs.length := by rw [HRL.out]; exact hlt
      obtain ⟨b, rfl, h1, h2⟩ := (HB.out.slb.kept0 KR.out) k hkl
      have hrow := (HB.out.rows _ (List.getElem_mem hkl)).1.kept0 KR.out
      have hT : l.take (k + 1) = l.take k ++ [rs[k].b] := by
        rw [take_snoc_bus l k (by have := HN.out; omega)]
        congr 1
        have := HB.out.is
        subst this
        simp
      have hl64 : rs[k].b.lits.length ≤ 1000 := HR.out _ (by rw [← HB.out.is]; exact List.mem_map_of_mem (List.getElem_mem hkl))
      have hane : rs[k].a = none → rs[k].b.lits.length = 0 := fun e => by
        rcases Nat.eq_zero_or_pos rs[k].b.lits.length with h | h
        · exact h
        · obtain ⟨ad, h3, _⟩ := hrow 0 h
          rw [e] at h3; cases h3
      have HCL := Lib.hid (fun (W : World) (hk' : Kept [] wr W) => clone_lits rs[k].a rs[k].c rs[k].b.lits.length rs[k].b.lits W rfl (hrow.kept0 hk') (by omega) hane)
      have HT := Lib.hid hT
      clear hrow hane hT
      generalize rs[k] = r at *
      obtain ⟨⟨nm, lits⟩, ra, rc⟩ := r
      simp only at h1 h2 hl64 HCL
      obtain ⟨ln, hln⟩ : ∃ ln, ln = lits.length := ⟨_, rfl⟩
      have HLN := Lib.hid hln
      rw [← hln] at h2 hl64 HCL
      clear hln
      go_wp2_with fail
      obtain ⟨q, hq⟩ : ∃ q, q = wr.heap.size := ⟨_, rfl⟩
      obtain ⟨w3, hw3⟩ : ∃ w3, w3 = wr.alloc (.cells #[.string nm, .slice ra ln rc] 60) := ⟨_, rfl⟩
      have K3 := Lib.hid (show Kept [] wr w3 from by rw [hw3]; exact (Kept.refl [] wr).alloc _)
      have hbl : w3.heap[q]? = some (.cells #[.string nm, .slice ra ln rc] 60 (0, 0)) := by rw [hw3, hq]; exact heap_alloc_new wr _
      have d0 : w3.cell? ⟨q, 0, none⟩ = some (.string nm) := blk_cell hbl 0
      have d1 : w3.cell? ⟨q, 1, none⟩ = some (.slice ra ln rc) := blk_cell hbl 1
      have HO3 := Lib.hid (own_kept HO.out K3.out (by simp))
      have hqa : q ∉ ft a' := fun h => by have := owns_lt HO.out _ h; omega
      rw [← hw3, ← hq]
      clear hw3 hq h1 h2 hbl
      go_region_held3 (fun w' => w'.cell? ⟨q, 0, none⟩ = some (.string nm) ∧ w'.cell? ⟨q, 1, none⟩ = some (.slice ra ln rc))
        (first | exact ⟨Kept.cell (F := ft a') (w := w3) (by (repeat (first | with_reducible exact Kept.refl _ _ | with_reducible apply Kept.drew | with_reducible apply Kept.drewN | with_reducible apply Kept.alloc | refine Kept.trans ?_ hst5.kept | refine Kept.trans ?_ (hk7.more (by simp))))) d0 hqa, Kept.cell (F := ft a') (w := w3) (by (repeat (first | with_reducible exact Kept.refl _ _ | with_reducible apply Kept.drew | with_reducible apply Kept.drewN | with_reducible apply Kept.alloc | refine Kept.trans ?_ hst5.kept | refine Kept.trans ?_ (hk7.more (by simp))))) d1 hqa⟩ | go_keep)
        (first
          | (refine step_push (news := [.string nm, .slice a7 ln c7]) (by rfl) (by rfl) Tryz.underlying54 bus_info rfl (by omega) (by rfl) (by rfl) (own_kept (F := []) (w := w3) HO3.out (by (repeat (first | with_reducible exact Kept.refl _ _ | with_reducible apply Kept.drew | with_reducible apply Kept.drewN | with_reducible apply Kept.alloc | refine Kept.trans ?_ hk7))) (by simp)) rfl (news_blk (t := 60) (Mine.heap (F := []) (by (repeat (first | (with_reducible refine Mine.new ?_ (by simp); focus (first | rfl | (simp; done))) | with_reducible apply Mine.drew | with_reducible apply Mine.alloc))))) (by simp [Value.oneCell']) (by unfold maxLen; omega) (by omega) ?_; intro a5 c5 w5 hown5 hst5)
          | (go_at_call 124; (with_reducible refine (HCL.out _ (K3.out.trans ?kk)).mono ?_); (case kk => ((repeat (first | with_reducible exact Kept.refl _ _ | with_reducible apply Kept.drew | with_reducible apply Kept.drewN | with_reducible apply Kept.alloc)))); rintro e w4 ⟨a7, c7, rfl, ho7, hst7⟩; have hk7 := hst7.kept))
      all_goals
        have KW := Lib.hid (show Kept [] w3 (w4.alloc (.cells #[.string nm, .slice a7 ln c7] 60)) from by (repeat (first | with_reducible exact Kept.refl _ _ | with_reducible apply Kept.drew | with_reducible apply Kept.drewN | with_reducible apply Kept.alloc | refine Kept.trans ?_ hk7)))
        have KA := Lib.hid (kept_up (KR.out.trans (K3.out.trans KW.out)) hst5.kept HFA.out)
        have FR7 := Lib.hid (show ∀ b ∈ ft a7, wr.heap.size ≤ b ∧ b < w4.heap.size from fun b hb => ⟨by
          rcases hst7.fresh b hb with h | h
          · simp at h
          · exact Nat.le_trans K3.out.size h, ho7.lt b hb⟩)
        have NR := Lib.hid (show ∀ r ∈ rs' ++ [⟨⟨nm, lits⟩, a7, c7⟩], SlN w5 .u32 r.a r.b.lits ∧ (∀ b ∈ ft r.a, b < w5.heap.size ∧ w.heap.size ≤ b ∧ b ∉ ft a5) from fun r hr => by
          have la := owns_lt HO.out
          have nf : ∀ b, b < (w4.alloc (.cells #[.string nm, .slice a7 ln c7] 60)).heap.size → b ∉ ft a' → b ∉ ft a5 := fun b hb hn hx => (hst5.fresh b hx).elim hn (fun h => by omega)
          have sz := KW.out.size
          have sz3 := K3.out.size
          have sz5 := hst5.kept.size
          rcases List.mem_append.1 hr with hr | hr
          · obtain ⟨r1, r2⟩ := HRW.out r hr
            exact ⟨((r1.kept0 K3.out).kept0 KW.out).kept hst5.kept (fun b hb => (r2 b hb).2.2), fun b hb => ⟨by have := (r2 b hb).1; omega, (r2 b hb).2.1, nf b (by have := (r2 b hb).1; omega) (r2 b hb).2.2⟩⟩
          · rw [List.mem_singleton] at hr
            subst hr
            have na : ∀ b ∈ ft a7, b ∉ ft a' := fun b hb hx => by have := la b hx; have := (FR7.out b hb).1; omega
            refine ⟨(ho7.sln.kept0 ((Kept.refl [] w4).alloc _)).kept hst5.kept na, fun b hb => ?_⟩
            have f := FR7.out b hb
            have s1 : w4.heap.size < (w4.alloc (.cells #[.string nm, .slice a7 ln c7] 60)).heap.size := by simp
            have := KR.out.size
            exact ⟨by omega, by omega, nf b (by omega) (na b hb)⟩)
        have NFA := Lib.hid (show ∀ b ∈ ft a5, w.heap.size ≤ b from fun b hb => (hst5.fresh b hb).elim (HFA.out b) (fun h => Nat.le_trans (KR.out.trans (K3.out.trans KW.out)).size h))
        have NO := Lib.hid (show w5.ownsRow 0 60 2 (.slice a5 (k + 1) c5) (k + 1) (brCells (rs' ++ [⟨⟨nm, lits⟩, a7, c7⟩])) from by
          have h := hown5
          rw [HLN.out, brCells_snoc rs' ⟨⟨nm, lits⟩, a7, c7⟩] at h
          exact h)
        clear hown5 hst5 hst7 hk7 ho7 d0 d1
        go_wp2_with fail
        go_roundw
        case rel => exact ⟨k + 1, a5, c5, rs' ++ [⟨⟨nm, lits⟩, a7, c7⟩], by omega, by go_num, rfl, NO.out, by rw [List.map_append, HI.out, HT.out]; rfl, NR.out, KA.out, NFA.out⟩
        case measure => simp [intOf]; omega
    · obtain rfl : k = n := by omega
      have HT := Lib.hid (show l.take k = l from List.take_of_length_le (by rw [← HN.out]; exact Nat.le_refl _))
      go_wp2_with fail
      go_ret
      refine ⟨a', c', rs', rfl, ⟨by rw [← HN.out]; exact HO.out, by rw [HI.out, HT.out], fun r hr => ⟨(HRW.out r hr).1, fun b hb => ((HRW.out r hr).2 b hb).1⟩⟩, KR.out, HFA.out, fun b hb => ?_⟩
      obtain ⟨r, hr, hb⟩ := mem_rowsOf.1 hb
      exact ((HRW.out r hr).2 b hb).2
theorem keep5' {w w' : World} {a0 a1 a2 a3 a4 : Addr} {v0 v1 v2 v3 v4 : Value} (hk : Kept [] w w') (h0 : w.cell? a0 = some v0) (h1 : w.cell? a1 = some v1) (h2 : w.cell? a2 = some v2) (h3 : w.cell? a3 = some v3) (h4 : w.cell? a4 = some v4) :
    w'.cell? a0 = some v0 ∧ w'.cell? a1 = some v1 ∧ w'.cell? a2 = some v2 ∧ w'.cell? a3 = some v3 ∧ w'.cell? a4 = some v4 :=
  ⟨hk.cell h0 (by simp), hk.cell h1 (by simp), hk.cell h2 (by simp), hk.cell h3 (by simp), hk.cell h4 (by simp)⟩
/-- a netlist of its own beside the old one -/
def CopyN (N : Nt) (w : World) (e : Ending) (w' : World) : Prop := ∃ n' F' R', e = .returned (.pointer (some ⟨n', 0, none⟩)) ∧ NetAt w' n' F' R' N ∧ Kept [] w w' ∧ ∀ b ∈ F' ++ R', w.heap.size ≤ b
set_option maxHeartbeats 3200000 in
set_option maxRecDepth 100000 in
theorem net_copy (h : NetAt w n F R N) (hok : N.g.nodes.length ≤ 1000000 ∧ N.inb.length ≤ 10000 ∧ N.regs.length ≤ 1000000 ∧ N.outb.length ≤ 10000) (hri : ∀ b ∈ N.inb, b.lits.length ≤ 1000) (hro : ∀ b ∈ N.outb, b.lits.length ≤ 1000) :
    Calls Tryz.prog 28 #[.pointer (some ⟨n, 0, none⟩)] w (CopyN N w) := by
  have HNO := Lib.hid (net_none h (by omega))
  obtain ⟨p, G, ia, ic, ra, rc, oa, oc, ri, ro, rfl, rfl, hc⟩ := h
  have c0 := hc.c0
  have c1 := hc.c1
  have c2 := hc.c2
  have c3 := hc.c3
  have c4 := hc.c4
  have HA := Lib.hid (fun (W : World) (hk : Kept [] w W) => aig_copy (hc.gr.kept0 hk) hok.1)
  obtain ⟨nI, hnI⟩ : ∃ k, k = N.inb.length := ⟨_, rfl⟩
  obtain ⟨nR, hnR⟩ : ∃ k, k = N.regs.length := ⟨_, rfl⟩
  obtain ⟨nO, hnO⟩ : ∃ k, k = N.outb.length := ⟨_, rfl⟩
  have HI := Lib.hid (fun (W : World) (hk : Kept [] w W) => clone_buses ia ic nI N.inb ri W (hc.ib.kept hk (by simp) (by simp)) hnI (by omega) hri)
  have HO := Lib.hid (fun (W : World) (hk : Kept [] w W) => clone_buses oa oc nO N.outb ro W (hc.ob.kept hk (by simp) (by simp)) hnO (by omega) hro)
  have HR := Lib.hid (fun (W : World) (hk : Kept [] w W) => clone_regs ra rc nR N.regs W (by rw [hnR]; exact own_kept hc.rb hk (by simp)) (by omega))
  have HNI := Lib.hid hnI
  have HNR := Lib.hid hnR
  have HNOO := Lib.hid hnO
  rw [← hnI] at c2
  rw [← hnR] at c3
  rw [← hnO] at c4
  clear hc hok hri hro hnI hnR hnO
  go_enter Tryz.func28, Tryz.ntmps28; (try simp only [List.append])
  go_wp2_with fail
  refine HNO.out.mono ?_
  rintro e w' ⟨rfl, rfl⟩
  go_wp2_with fail
  go_region_held3 (fun w' => w'.cell? ⟨n, 0, none⟩ = some (.pointer (some ⟨p, 0, none⟩)) ∧ w'.cell? ⟨n, 1, none⟩ = some (.string N.name) ∧ w'.cell? ⟨n, 2, none⟩ = some (.slice ia nI ic) ∧ w'.cell? ⟨n, 3, none⟩ = some (.slice ra nR rc) ∧ w'.cell? ⟨n, 4, none⟩ = some (.slice oa nO oc))
    (first | exact keep5' (w := w) (by (repeat (first | with_reducible exact Kept.refl _ _ | with_reducible apply Kept.drew | with_reducible apply Kept.alloc | refine Kept.trans ?_ k1 | refine Kept.trans ?_ k2 | refine Kept.trans ?_ k3 | refine Kept.trans ?_ k4))) c0 c1 c2 c3 c4 | go_keep)
    (first
      | (go_at_call 78; (with_reducible refine (HA.out _ ?kk).mono ?_); (case kk => ((repeat (first | with_reducible exact Kept.refl _ _ | with_reducible apply Kept.drew | with_reducible apply Kept.alloc | refine Kept.trans ?_ k1 | refine Kept.trans ?_ k2 | refine Kept.trans ?_ k3 | refine Kept.trans ?_ k4)))); rintro e u1 ⟨p1, G1, rfl, hg1, hs1⟩; have k1 := hs1.kept)
      | (go_at_call 79; (with_reducible refine (HI.out _ ?kk).mono ?_); (case kk => ((repeat (first | with_reducible exact Kept.refl _ _ | with_reducible apply Kept.drew | with_reducible apply Kept.alloc | refine Kept.trans ?_ k1 | refine Kept.trans ?_ k2 | refine Kept.trans ?_ k3 | refine Kept.trans ?_ k4)))); rintro e u2 ⟨a2, c2', r2, rfl, hb2, k2, f2, g2⟩)
      | (go_at_call 80; (with_reducible refine (HR.out _ ?kk).mono ?_); (case kk => ((repeat (first | with_reducible exact Kept.refl _ _ | with_reducible apply Kept.drew | with_reducible apply Kept.alloc | refine Kept.trans ?_ k1 | refine Kept.trans ?_ k2 | refine Kept.trans ?_ k3 | refine Kept.trans ?_ k4)))); rintro e u3 ⟨a3, c3', rfl, ho3, hs3⟩; have k3 := hs3.kept)
      | (go_at_call 79; (with_reducible refine (HO.out _ ?kk).mono ?_); (case kk => ((repeat (first | with_reducible exact Kept.refl _ _ | with_reducible apply Kept.drew | with_reducible apply Kept.alloc | refine Kept.trans ?_ k1 | refine Kept.trans ?_ k2 | refine Kept.trans ?_ k3 | refine Kept.trans ?_ k4)))); rintro e u4 ⟨a4, c4', r4, rfl, hb4, k4, f4, g4⟩))
  go_wp2_with fail
  go_ret
  obtain ⟨cs, hcs⟩ : ∃ cs, cs = nCells p1 N a2 c2' a3 c3' a4 c4' := ⟨_, rfl⟩
  have z1 : w.heap.size ≤ u1.heap.size := k1.size
  have z2 := k2.size
  have z3 := k3.size
  have z4 := k4.size
  have kA : Kept [] u1 (u4.alloc (.cells cs 57)) := ((k2.trans k3).trans k4).alloc _
  have kB : Kept [] u2 (u4.alloc (.cells cs 57)) := (k3.trans k4).alloc _
  have kC : Kept [] u3 (u4.alloc (.cells cs 57)) := k4.alloc _
  have kD : Kept [] u4 (u4.alloc (.cells cs 57)) := (Kept.refl [] u4).alloc _
  have kw : Kept [] w (u4.alloc (.cells cs 57)) := (((((Kept.refl [] w).drew.trans k1).trans k2).trans k3).trans k4).alloc _
  have G1f : ∀ b ∈ G1, w.heap.size ≤ b ∧ b < u1.heap.size := fun b hb => ⟨(hs1.fresh b hb).elim (by simp) id, hg1.lt b hb⟩
  have l2 := hb2.lt
  have l4 := hb4.lt
  have A3f : ∀ b ∈ ft a3, u2.heap.size ≤ b ∧ b < u3.heap.size := fun b hb => ⟨(hs3.fresh b hb).elim (by simp) id, owns_lt ho3 b hb⟩
  refine ⟨u4.heap.size, u4.heap.size :: (G1 ++ (ft a2 ++ (ft a3 ++ ft a4))), rowsOf r2 ++ rowsOf r4, ?_, ⟨p1, G1, a2, c2', a3, c3', a4, c4', r2, r4, rfl, rfl, ?_⟩, ?_, ?_⟩
  · simp [go_sem]
  · have hcs' : cs = nCells p1 N a2 c2' a3 c3' a4 c4' := hcs
    have hw : (u4.alloc (.cells #[.pointer (some ⟨p1, 0, none⟩), .string N.name, .slice a2 nI c2', .slice a3 nR c3', .slice a4 nO c4'] 57)) = u4.alloc (.cells cs 57) := by
      rw [hcs, HNI.out, HNR.out, HNOO.out]; rfl
    rw [hw]
    refine ⟨by rw [hcs]; exact heap_alloc_new u4 _, hg1.kept0 kA, hb2.kept kB (by simp) (by simp), by rw [← HNR.out]; exact own_kept ho3 kC (by simp), hb4.kept kD (by simp) (by simp), fun b hb h => ?_, fun b hb => ?_⟩
    · have q1 := l2.1 b hb
      have q2 := f4 b h
      omega
    · simp only [List.mem_cons, List.mem_append, not_or]
      rcases List.mem_append.1 hb with hb | hb
      · have q1 := l2.2 b hb
        have q2 := g2 b hb
        refine ⟨by omega, fun h => by have := (G1f b h).2; omega, q2.2, fun h => by have := (A3f b h).1; omega, fun h => by have := f4 b h; omega⟩
      · have q1 := l4.2 b hb
        have q2 := g4 b hb
        refine ⟨by omega, fun h => by have := (G1f b h).2; omega, fun h => by have := l2.1 b h; omega, fun h => by have := (A3f b h).2; omega, q2.2⟩
  · have hw : (u4.alloc (.cells #[.pointer (some ⟨p1, 0, none⟩), .string N.name, .slice a2 nI c2', .slice a3 nR c3', .slice a4 nO c4'] 57)) = u4.alloc (.cells cs 57) := by
      rw [hcs, HNI.out, HNR.out, HNOO.out]; rfl
    rw [hw]
    exact kw
  · intro b hb
    simp only [List.mem_cons, List.mem_append] at hb
    rcases hb with (rfl | hb | hb | hb | hb) | hb | hb
    · omega
    · exact (G1f b hb).1
    · have := f2 b hb; omega
    · have := (A3f b hb).1; omega
    · have := f4 b hb; omega
    · have := (g2 b hb).1; omega
    · have := (g4 b hb).1; omega
end Go.Proofs.YtdmcdhkkbkgnbaaGreat
