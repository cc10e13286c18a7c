/-
  Package sim: Regs, Cycles, Copy, Words.
-/
import Derived.Test.YtielfgngdhcpfaaGreatP26
namespace Go.Proofs.YtielfgngdhcpfaaGreat
open Go.ChangeShapes Go.WideShapes Go.ChangeAt Go.RowKit
open Go.Maps (Keyed)
open Go.WideMaps
set_option linter.unusedVariables false
set_option linter.unusedSimpArgs false

variable {w w' : World} {s p n : Nat} {F R S : List Nat} {g : Gr} {N : Nt} {σ : Sm}
theorem clone_words (a : Option Addr) (c n : Nat) (l : List Nat) (w : World) (ho : Own w 34 a n c (nats .u64 l)) (hm : n ≤ 1000000) :
    Calls Tryz.prog 50 #[.slice a n c] w (RowWords l n w) := by
  have q := fun (w : World) (a : Option Addr) (n c : Nat) => Lib.run_eql_slice_nil (P := Tryz.prog) w 35 34 a n c 0 0 Tryz.underlying35
  have hl := ho.len
  rw [nats_length] at hl
  have HO := Lib.hid ho; clear ho
  have HL := Lib.hid hl; clear hl
  cases a with
  | none =>
    have h0 : n = 0 := by
      rcases HO.out.2 with ⟨hv, h0⟩ | ⟨g, cap', cur, hv, _⟩
      · exact h0
      · cases hv
    subst h0
    have hl0 : l = [] := List.eq_nil_of_length_eq_zero HL.out
    subst hl0
    go_enter Tryz.func50, Tryz.ntmps50
    go_wp2
    go_ret
    exact ⟨none, 0, rfl, Own.nil _ _, .refl _ _⟩
  | some ad =>
    have HC := Lib.hid (show ∀ j u, (nats .u64 l)[j]? = some u → (w.alloc (.cells #[] 34)).cell? (ad.add j) = some u from fun j u hu => by
      obtain ⟨hj, rfl⟩ := List.getElem?_eq_some_iff.1 hu
      obtain ⟨ad', h1, h2⟩ := HO.out.cell hj
      injection h1 with h1
      subst h1
      exact cell_alloc h2 _)
    go_enter Tryz.func50, Tryz.ntmps50
    go_wp2_with (at_builtin; refine wpList_cat (news := nats .u64 l) rfl rfl Tryz.underlying35 u64_info rfl (by omega) rfl rfl (own_empty w 34 1) (by rw [nats_length, HL.out, Nat.mul_one]) HC.out (nats_one _ _) (by unfold maxLen; omega) (by omega) ?_; intro a' c' w1 hown1 hst1)
    go_ret
    refine ⟨a', c', by simp [go_sem], by simpa [Own] using hown1, ?_⟩
    have := (((Stepped.refl w []).allocOwn (.cells #[] 34))).trans (by simpa [ft] using hst1)
    exact this
theorem sim_regs (h : SimAt w s F R σ) (hm : σ.regs.length ≤ 1000000) : Calls Tryz.prog 19 #[.pointer (some ⟨s, 0, none⟩)] w (RowWords σ.regs σ.regs.length w) := by
  obtain ⟨n, NF, NR, ra, rc, mm, f, wa, wc, rfl, rfl, hc⟩ := h
  have c0 := hc.c0
  have c1 := hc.c1
  have HN := Lib.hid (sim_none c0)
  have HC := Lib.hid (clone_words ra rc _ σ.regs w hc.rg hm)
  clear hc
  go_enter Tryz.func19, Tryz.ntmps19
  go_wp2_with fail
  refine HN.out.mono ?_
  rintro e w' ⟨rfl, rfl⟩
  go_wp2_with fail
  refine HC.out.mono ?_
  rintro e w' ⟨a', c', rfl, ho, hst⟩
  have HO := Lib.hid ho
  have HS := Lib.hid hst
  clear ho hst
  go_wp2_with fail
  go_ret
  exact ⟨a', c', rfl, HO.out, HS.out⟩
theorem sim_cycles (h : SimAt w s F R σ) : Calls Tryz.prog 17 #[.pointer (some ⟨s, 0, none⟩)] w fun e w' => e = .returned (.int .i64 (σ.cy : Int)) ∧ w = w' := by
  obtain ⟨n, NF, NR, ra, rc, mm, f, wa, wc, rfl, rfl, hc⟩ := h
  have c0 := hc.c0
  have c4 := hc.c4
  have HN := Lib.hid (sim_none c0)
  clear hc
  go_enter Tryz.func17, Tryz.ntmps17
  go_wp2_with fail
  refine HN.out.mono ?_
  rintro e w' ⟨rfl, rfl⟩
  go_wp2_with fail
  go_ret
  exact ⟨rfl, rfl⟩
/-- a simulation more that goes on from here -/
def SimCopy (w : World) (R : List Nat) (σ : Sm) (e : Ending) (w' : World) : Prop := ∃ s' F', e = .returned (.pointer (some ⟨s', 0, none⟩)) ∧ SimAt w' s' F' R σ ∧ Kept [] w w' ∧ ∀ b ∈ F', w.heap.size ≤ b
theorem sim_copy (h : SimAt w s F R σ) (hm : σ.regs.length ≤ 1000000) : Calls Tryz.prog 16 #[.pointer (some ⟨s, 0, none⟩)] w (SimCopy w R σ) := by
  obtain ⟨n, NF, NR, ra, rc, mm, f, wa, wc, rfl, rfl, hc⟩ := h
  have c0 := hc.c0
  have c1 := hc.c1
  have c2 := hc.c2
  have c3 := hc.c3
  have c4 := hc.c4
  have HN := Lib.hid (sim_none c0)
  have HL := Lib.hid hc.lt.2
  have HCC := Lib.hid hc
  obtain ⟨nr, hnr⟩ : ∃ k, k = σ.regs.length := ⟨_, rfl⟩
  obtain ⟨nw, hnw⟩ : ∃ k, k = σ.ws.length := ⟨_, rfl⟩
  have HC := Lib.hid (fun (W : World) (hk : Kept [] w W) => clone_words ra rc nr σ.regs W (by rw [hnr]; exact hc.rg.kept0 hk) (by omega))
  have HNR := Lib.hid hnr
  have HNW := Lib.hid hnw
  rw [← hnr] at c1
  rw [← hnw] at c3
  have c0' := fun o => cell_alloc c0 o
  have c1' := fun o => cell_alloc c1 o
  have c2' := fun o => cell_alloc c2 o
  have c3' := fun o => cell_alloc c3 o
  have c4' := fun o => cell_alloc c4 o
  clear hc hnr hnw
  go_enter Tryz.func16, Tryz.ntmps16
  go_wp2_with fail
  refine HN.out.mono ?_
  rintro e w' ⟨rfl, rfl⟩
  go_wp2_with fail
  refine (HC.out _ ((Kept.refl [] w).alloc _)).mono ?_
  rintro e w2 ⟨a', c', rfl, ho, hst⟩
  have HO := Lib.hid ho
  have K2 := Lib.hid hst.kept
  have FR := Lib.hid (show ∀ b ∈ ft a', w.heap.size < b ∧ b < w2.heap.size from fun b hb => ⟨(hst.fresh b hb).elim (by simp) (fun h => by simp at h; omega), ho.lt b hb⟩)
  have bq := K2.out.heap (heap_alloc_new w _) (by simp)
  have BQ := Lib.hid bq
  have q0 := blk_cell bq 1
  have q1 := blk_free bq 1
  clear ho hst bq
  go_wp2_with fail
  go_ret
  obtain ⟨q, hq⟩ : ∃ q, q = w.heap.size := ⟨_, rfl⟩
  refine ⟨q, q :: ft a', by rw [hq]; rfl, ⟨n, NF, NR, a', c', mm, f, wa, wc, rfl, rfl, ?_⟩, ?_, ?_⟩
  · rw [← hq] at BQ FR ⊢
    have hK : Kept [] w w2 := ((Kept.refl [] w).alloc _).trans K2.out
    have hS := HCC.out.lt
    have hqr : q ∉ ft a' := fun h => by have := (FR.out q h).1; omega
    have k3 : Kept [q] w2 (w2.setCell ⟨q, 1, none⟩ (.slice a' nr c')) := (Kept.refl [q] w2).setCell (.inl (by simp)) _
    have hqn : ∀ b, b < w.heap.size → b ∉ [q] := fun b hb hx => by simp at hx; omega
    have hc3 := (HCC.out.kept hK (by simp) (by simp)).net.kept k3 (fun b hb => hqn b (hS.2 b (by simp [hb]))) (fun b hb => hqn b (hS.2 b (by simp [hb])))
    refine ⟨?_, hc3, ?_, (HCC.out.mp.kept hK (by simp)).kept k3 (hqn _ (hS.2 _ (by simp))), HCC.out.pl, (HCC.out.wd.kept0 hK).kept k3 (fun b hb => hqn b (hS.2 b (by simp [hb]))), fun b hb => ?_, fun b hb hx => ?_⟩
    · have := blk_set BQ.out 1 (.slice a' nr c')
      rw [HNR.out, HNW.out] at this
      rw [HNR.out]
      exact this
    · rw [← HNR.out]
      exact HO.out.kept k3 (fun b hb hx => by simp at hx; subst hx; exact hqr hb)
    · have h1 := HCC.out.wl b hb
      have h2 := hK.size
      have h3 := k3.size
      omega
    · have h1 := hS.2 b hx
      rcases List.mem_cons.1 hb with rfl | hb
      · omega
      · have := (FR.out b hb).1; omega
  · have hK : Kept [] w w2 := ((Kept.refl [] w).alloc _).trans K2.out
    exact kept_up hK ((Kept.refl [w.heap.size] w2).setCell (.inl (by simp)) _) (fun b hb => by simp at hb; omega)
  · intro b hb
    rcases List.mem_cons.1 hb with rfl | hb
    · omega
    · have := (FR.out b hb).1; omega
/-- what Words answers -/
def askS (σ : Sm) (l : List Nat) : Nat := if l.any (fun x => decide (σ.N.g.nodes.length ≤ x / 2)) then 1 else if σ.cy = 0 then 6 else 0
def SimWords (σ : Sm) (l : List Nat) (m : Nat) (w : World) (e : Ending) (w' : World) : Prop :=
  ∃ a n c, e = .returned (.tuple #[.slice a n c, .int .i64 (askS σ l : Int)]) ∧ Kept [] w w' ∧ (askS σ l = 0 → n = m ∧ Own w' 34 a n c (nats .u64 (l.map (wd σ.ws))) ∧ ∀ b ∈ ft a, w.heap.size ≤ b)
theorem words1_c (x q : Nat) (h : SimAt w s F R σ) (hm : σ.N.g.nodes.length ≤ 1000000) (hx : x < 4294967296) (hq : w.cell? ⟨q, 0, none⟩ = some (.pointer (some ⟨s, 0, none⟩))) :
    Calls Tryz.prog 51 #[.int .u32 x, .pointer (some ⟨q, 0, none⟩)] w fun e w' => e = .returned (.bool (decide (σ.N.g.nodes.length ≤ x / 2))) ∧ ∃ k, w' = w.drewN k := by
  obtain ⟨n, NF, NR, ra, rc, mm, f, wa, wc, rfl, rfl, hc⟩ := h
  have c0 := hc.c0
  obtain ⟨p, G, ia, ic, ra', rc', oa, oc, ri, ro, rfl, rfl, hn⟩ := hc.net
  have n0 := hn.c0
  have HF := Lib.hid (show decide ((σ.N.g.nodes.length : Int) ≤ (x : Int) / 2) = decide (σ.N.g.nodes.length ≤ x / 2) by rw [Bool.eq_iff_iff]; simp; omega)
  have HG := Lib.hid (fun n => aig_nodes (hn.gr.kept0 ((Kept.refl [] w).drewN n)) hm)
  clear hc hn
  go_enter Tryz.func51, Tryz.ntmps51
  go_wp2_with fail
  go_quiet (first
    | (go_at_call 40; exact q_same (lit_node _ _ hx))
    | (go_at_call 22; exact q_same (HG.out _)))
  go_wp2
  go_ret
  exact ⟨by rw [← HF.out]; rfl, _, rfl⟩
set_option maxHeartbeats 800000 in
set_option maxRecDepth 100000 in
theorem sim_words (h : SimAt w s F R σ) (hm : σ.N.g.nodes.length ≤ 1000000) (hww : Words σ.ws) (a : Option Addr) (c m : Nat) (l : List Nat) (hl : l.length = m) (hlm : m ≤ 1000000) (hs : SlN w .u32 a l) (hr : Lits l) :
    Calls Tryz.prog 21 #[.pointer (some ⟨s, 0, none⟩), .slice a m c] w (SimWords σ l m w) := by
  obtain ⟨B, hB⟩ : ∃ B, B = l.any (fun x => decide (σ.N.g.nodes.length ≤ x / 2)) := ⟨_, rfl⟩
  obtain ⟨q, hq⟩ : ∃ q, q = w.heap.size := ⟨_, rfl⟩
  obtain ⟨wq, hwq⟩ : ∃ W, W = w.alloc (.cells #[.pointer (some ⟨s, 0, none⟩)] 30) := ⟨_, rfl⟩
  have kq : Kept [] w wq := by rw [hwq]; exact (Kept.refl [] w).alloc _
  have cq : wq.cell? ⟨q, 0, none⟩ = some (.pointer (some ⟨s, 0, none⟩)) := by rw [hwq, hq]; simp [World.cell?_alloc_new]
  have HX := Lib.hid (contains_any 51 Tryz.call51 (.pointer (some ⟨q, 0, none⟩)) (fun x => decide (σ.N.g.nodes.length ≤ x / 2)) a c m l wq hl (by omega) (hs.kept0 kq) (fun x hx k =>
    words1_c x q ((h.kept0 kq).kept0 ((Kept.refl [] _).drewN k)) hm (hr x hx) cq))
  rw [← hB] at HX
  have HASK := Lib.hid (show askS σ l = if B = true then 1 else if σ.cy = 0 then 6 else 0 from by unfold askS; rw [hB])
  obtain ⟨n, NF, NR, ra, rc, mm, f, wa, wc, rfl, rfl, hc⟩ := h
  have HN := Lib.hid (sim_none (hc.c0 |> fun h => kq.cell h (by simp)))
  have c4 : wq.cell? ⟨s, 4, none⟩ = _ := kq.cell hc.c4 (by simp)
  have HOF := Lib.hid (fun (W : World) (hk : Kept [] wq W) => simof_c wa wc σ.ws.length σ.ws a c m l W ((kq.trans hk).cell hc.c3 (by simp)) rfl (hc.wd.kept0 (kq.trans hk)) hww hl hlm (hs.kept0 (kq.trans hk)) hr)
  have KQ := Lib.hid kq
  have hsz : w.heap.size ≤ wq.heap.size := kq.size
  clear hc hB hl hs hr kq
  go_enter Tryz.func21, Tryz.ntmps21
  go_wp2_with fail
  rw [← hwq, ← hq]
  clear hwq hq
  refine HN.out.mono ?_
  rintro e w' ⟨rfl, rfl⟩
  go_wp2_with fail
  refine HX.out.mono ?_
  rintro e w' ⟨rfl, k1, rfl⟩
  cases B with
  | true =>
    have HA := Lib.hid (show askS σ l = 1 from by rw [HASK.out]; rfl)
    go_wp2_with fail
    refine bodyPost_ret (v := .tuple #[.slice none 0 0, .int .i64 1]) (by simp [results, Tryz.results21, go_sem]) rfl ⟨none, 0, 0, by rw [HA.out]; rfl, KQ.out.drewN _, fun h => by rw [HA.out] at h; cases h⟩
  | false =>
    by_cases h0 : σ.cy = 0
    · have HA := Lib.hid (show askS σ l = 6 from by rw [HASK.out]; simp [h0])
      have hc0 : ((σ.cy : Int) == 0) = true := by simp [h0]
      go_wp2_with fail
      refine bodyPost_ret (v := .tuple #[.slice none 0 0, .int .i64 6]) (by simp [results, Tryz.results21, go_sem]) rfl ⟨none, 0, 0, by rw [HA.out]; rfl, KQ.out.drewN _, fun h => by rw [HA.out] at h; cases h⟩
    · have HA := Lib.hid (show askS σ l = 0 from by rw [HASK.out]; simp [h0])
      have hc0 : ((σ.cy : Int) == 0) = false := by simp; omega
      clear h0
      go_wp2_with fail
      refine (HOF.out _ ((Kept.refl [] _).drewN _)).mono ?_
      rintro e w5 ⟨a5, c5, rfl, ho5, hst5⟩
      have HO := Lib.hid ho5
      have K5 := Lib.hid ((KQ.out.drewN k1).trans hst5.kept)
      have FR := Lib.hid (show ∀ b ∈ ft a5, w.heap.size ≤ b from fun b hb => (hst5.fresh b hb).elim (by simp) (fun h => Nat.le_trans hsz h))
      clear ho5 hst5
      go_wp2_with fail
      refine bodyPost_ret (v := .tuple #[.slice a5 m c5, .int .i64 0]) (by simp [results, Tryz.results21, go_sem]) rfl ⟨a5, m, c5, by rw [HA.out]; rfl, K5.out, fun _ => ⟨rfl, HO.out, FR.out⟩⟩
end Go.Proofs.YtielfgngdhcpfaaGreat
