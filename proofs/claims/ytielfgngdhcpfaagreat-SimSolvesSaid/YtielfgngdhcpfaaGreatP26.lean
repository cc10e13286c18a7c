/-
  Opening a law's arguments: arrays, slices of numbers inside structs, slices of structs, and what the reach says of each part.
  Law 06: tells, the chapter's rows.
  Law 06: rows; the chapter's rows (tells).
  Package sim: Regs, Cycles, Copy, Words.
-/
import Derived.Test.YtielfgngdhcpfaaGreatP25
import Derived.Test.YtielfgngdhcpfaaGreatP24
import Derived.Test.YtielfgngdhcpfaaGreatP01
import Derived.Deep.Slices
import Derived.Deep.Fields
import Derived.Lib.SmallJoins
import Derived.ChangeSame
namespace Go.Proofs.YtielfgngdhcpfaaGreat
open Go.ChangeShapes Go.WideShapes Go.ChangeAt Go.RowKit
open Go.Maps (Keyed)
open Go.WideMaps
set_option linter.unusedVariables false
set_option linter.unusedSimpArgs false

variable {w w' : World} {s p n : Nat} {F R S : List Nat} {g : Gr} {N : Nt} {σ : Sm}
theorem clone_words (a : Option Addr) (c n : Nat) (l : List Nat) (w : World) (ho : Own w 34 a n c (nats .u64 l)) (hm : n ≤ 1000000) :
    Calls Tryz.prog 50 #[.slice a n c] w (RowWords l n w) := by
  have q := fun (w : World) (a : Option Addr) (n c : Nat) => Lib.run_eql_slice_nil (P := Tryz.prog) w 35 34 a n c 0 0 Tryz.underlying35
  have hl := ho.len
  rw [nats_length] at hl
  have HO := Lib.hid ho; clear ho
  have HL := Lib.hid hl; clear hl
  cases a with
  | none =>
    have h0 : n = 0 := by
      rcases HO.out.2 with ⟨hv, h0⟩ | ⟨g, cap', cur, hv, _⟩
      · exact h0
      · cases hv
    subst h0
    have hl0 : l = [] := List.eq_nil_of_length_eq_zero HL.out
    subst hl0
    go_enter Tryz.func50, Tryz.ntmps50
    go_wp2
    go_ret
    exact ⟨none, 0, rfl, Own.nil _ _, .refl _ _⟩
  | some ad =>
    have HC := Lib.hid (show ∀ j u, (nats .u64 l)[j]? = some u → (w.alloc (.cells #[] 34)).cell? (ad.add j) = some u from fun j u hu => by
      obtain ⟨hj, rfl⟩ := List.getElem?_eq_some_iff.1 hu
      obtain ⟨ad', h1, h2⟩ := HO.out.cell hj
      injection h1 with h1
      subst h1
      exact cell_alloc h2 _)
    go_enter Tryz.func50, Tryz.ntmps50
    go_wp2_with (at_builtin; refine wpList_cat (news := nats .u64 l) rfl rfl Tryz.underlying35 u64_info rfl (by omega) rfl rfl (own_empty w 34 1) (by rw [nats_length, HL.out, Nat.mul_one]) HC.out (nats_one _ _) (by unfold maxLen; omega) (by omega) ?_; intro a' c' w1 hown1 hst1)
    go_ret
    refine ⟨a', c', by simp [go_sem], by simpa [Own] using hown1, ?_⟩
    have := (((Stepped.refl w []).allocOwn (.cells #[] 34))).trans (by simpa [ft] using hst1)
    exact this
theorem sim_regs (h : SimAt w s F R σ) (hm : σ.regs.length ≤ 1000000) : Calls Tryz.prog 19 #[.pointer (some ⟨s, 0, none⟩)] w (RowWords σ.regs σ.regs.length w) := by
  obtain ⟨n, NF, NR, ra, rc, mm, f, wa, wc, rfl, rfl, hc⟩ := h
  have c0 := hc.c0
  have c1 := hc.c1
  have HN := Lib.hid (sim_none c0)
  have HC := Lib.hid (clone_words ra rc _ σ.regs w hc.rg hm)
  clear hc
  go_enter Tryz.func19, Tryz.ntmps19
  go_wp2_with fail
  refine HN.out.mono ?_
  rintro e w' ⟨rfl, rfl⟩
  go_wp2_with fail
  refine HC.out.mono ?_
  rintro e w' ⟨a', c', rfl, ho, hst⟩
  have HO := Lib.hid ho
  have HS := Lib.hid hst
  clear ho hst
  go_wp2_with fail
  go_ret
  exact ⟨a', c', rfl, HO.out, HS.out⟩
theorem sim_cycles (h : SimAt w s F R σ) : Calls Tryz.prog 17 #[.pointer (some ⟨s, 0, none⟩)] w fun e w' => e = .returned (.int .i64 (σ.cy : Int)) ∧ w = w' := by
  obtain ⟨n, NF, NR, ra, rc, mm, f, wa, wc, rfl, rfl, hc⟩ := h
  have c0 := hc.c0
  have c4 := hc.c4
  have HN := Lib.hid (sim_none c0)
  clear hc
  go_enter Tryz.func17, Tryz.ntmps17
  go_wp2_with fail
  refine HN.out.mono ?_
  rintro e w' ⟨rfl, rfl⟩
  go_wp2_with fail
  go_ret
  exact ⟨rfl, rfl⟩
/-- a simulation more that goes on from here -/
def SimCopy (w : World) (R : List Nat) (σ : Sm) (e : Ending) (w' : World) : Prop := ∃ s' F', e = .returned (.pointer (some ⟨s', 0, none⟩)) ∧ SimAt w' s' F' R σ ∧ Kept [] w w' ∧ ∀ b ∈ F', w.heap.size ≤ b
theorem sim_copy (h : SimAt w s F R σ) (hm : σ.regs.length ≤ 1000000) : Calls Tryz.prog 16 #[.pointer (some ⟨s, 0, none⟩)] w (SimCopy w R σ) := by
  obtain ⟨n, NF, NR, ra, rc, mm, f, wa, wc, rfl, rfl, hc⟩ := h
  have c0 := hc.c0
  have c1 := hc.c1
  have c2 := hc.c2
  have c3 := hc.c3
  have c4 := hc.c4
  have HN := Lib.hid (sim_none c0)
  have HL := Lib.hid hc.lt.2
  have HCC := Lib.hid hc
  obtain ⟨nr, hnr⟩ : ∃ k, k = σ.regs.length := ⟨_, rfl⟩
  obtain ⟨nw, hnw⟩ : ∃ k, k = σ.ws.length := ⟨_, rfl⟩
  have HC := Lib.hid (fun (W : World) (hk : Kept [] w W) => clone_words ra rc nr σ.regs W (by rw [hnr]; exact hc.rg.kept0 hk) (by omega))
  have HNR := Lib.hid hnr
  have HNW := Lib.hid hnw
  rw [← hnr] at c1
  rw [← hnw] at c3
  have c0' := fun o => cell_alloc c0 o
  have c1' := fun o => cell_alloc c1 o
  have c2' := fun o => cell_alloc c2 o
  have c3' := fun o => cell_alloc c3 o
  have c4' := fun o => cell_alloc c4 o
  clear hc hnr hnw
  go_enter Tryz.func16, Tryz.ntmps16
  go_wp2_with fail
  refine HN.out.mono ?_
  rintro e w' ⟨rfl, rfl⟩
  go_wp2_with fail
  refine (HC.out _ ((Kept.refl [] w).alloc _)).mono ?_
  rintro e w2 ⟨a', c', rfl, ho, hst⟩
  have HO := Lib.hid ho
  have K2 := Lib.hid hst.kept
  have FR := Lib.hid (show ∀ b ∈ ft a', w.heap.size < b ∧ b < w2.heap.size from fun b hb => ⟨(hst.fresh b hb).elim (by simp) (fun h => by simp at h; omega), ho.lt b hb⟩)
  have bq := K2.out.heap (heap_alloc_new w _) (by simp)
  have BQ := Lib.hid bq
  have q0 := blk_cell bq 1
  have q1 := blk_free bq 1
  clear ho hst bq
  go_wp2_with fail
  go_ret
  obtain ⟨q, hq⟩ : ∃ q, q = w.heap.size := ⟨_, rfl⟩
  refine ⟨q, q :: ft a', by rw [hq]; rfl, ⟨n, NF, NR, a', c', mm, f, wa, wc, rfl, rfl, ?_⟩, ?_, ?_⟩
  · rw [← hq] at BQ FR ⊢
    have hK : Kept [] w w2 := ((Kept.refl [] w).alloc _).trans K2.out
    have hS := HCC.out.lt
    have hqr : q ∉ ft a' := fun h => by have := (FR.out q h).1; omega
    have k3 : Kept [q] w2 (w2.setCell ⟨q, 1, none⟩ (.slice a' nr c')) := (Kept.refl [q] w2).setCell (.inl (by simp)) _
    have hqn : ∀ b, b < w.heap.size → b ∉ [q] := fun b hb hx => by simp at hx; omega
    have hc3 := (HCC.out.kept hK (by simp) (by simp)).net.kept k3 (fun b hb => hqn b (hS.2 b (by simp [hb]))) (fun b hb => hqn b (hS.2 b (by simp [hb])))
    refine ⟨?_, hc3, ?_, (HCC.out.mp.kept hK (by simp)).kept k3 (hqn _ (hS.2 _ (by simp))), HCC.out.pl, (HCC.out.wd.kept0 hK).kept k3 (fun b hb => hqn b (hS.2 b (by simp [hb]))), fun b hb => ?_, fun b hb hx => ?_⟩
    · have := blk_set BQ.out 1 (.slice a' nr c')
      rw [HNR.out, HNW.out] at this
      rw [HNR.out]
      exact this
    · rw [← HNR.out]
      exact HO.out.kept k3 (fun b hb hx => by simp at hx; subst hx; exact hqr hb)
    · have h1 := HCC.out.wl b hb
      have h2 := hK.size
      have h3 := k3.size
      omega
    · have h1 := hS.2 b hx
      rcases List.mem_cons.1 hb with rfl | hb
      · omega
      · have := (FR.out b hb).1; omega
  · have hK : Kept [] w w2 := ((Kept.refl [] w).alloc _).trans K2.out
    exact kept_up hK ((Kept.refl [w.heap.size] w2).setCell (.inl (by simp)) _) (fun b hb => by simp at hb; omega)
  · intro b hb
    rcases List.mem_cons.1 hb with rfl | hb
    · omega
    · have := (FR.out b hb).1; omega
/-- what Words answers -/
def askS (σ : Sm) (l : List Nat) : Nat := if l.any (fun x => decide (σ.N.g.nodes.length ≤ x / 2)) then 1 else if σ.cy = 0 then 6 else 0
def SimWords (σ : Sm) (l : List Nat) (m : Nat) (w : World) (e : Ending) (w' : World) : Prop :=
  ∃ a n c, e = .returned (.tuple #[.slice a n c, .int .i64 (askS σ l : Int)]) ∧ Kept [] w w' ∧ (askS σ l = 0 → n = m ∧ Own w' 34 a n c (nats .u64 (l.map (wd σ.ws))) ∧ ∀ b ∈ ft a, w.heap.size ≤ b)
theorem words1_c (x q : Nat) (h : SimAt w s F R σ) (hm : σ.N.g.nodes.length ≤ 1000000) (hx : x < 4294967296) (hq : w.cell? ⟨q, 0, none⟩ = some (.pointer (some ⟨s, 0, none⟩))) :
    Calls Tryz.prog 51 #[.int .u32 x, .pointer (some ⟨q, 0, none⟩)] w fun e w' => e = .returned (.bool (decide (σ.N.g.nodes.length ≤ x / 2))) ∧ ∃ k, w' = w.drewN k := by
  obtain ⟨n, NF, NR, ra, rc, mm, f, wa, wc, rfl, rfl, hc⟩ := h
  have c0 := hc.c0
  obtain ⟨p, G, ia, ic, ra', rc', oa, oc, ri, ro, rfl, rfl, hn⟩ := hc.net
  have n0 := hn.c0
  have HF := Lib.hid (show decide ((σ.N.g.nodes.length : Int) ≤ (x : Int) / 2) = decide (σ.N.g.nodes.length ≤ x / 2) by rw [Bool.eq_iff_iff]; simp; omega)
  have HG := Lib.hid (fun n => aig_nodes (hn.gr.kept0 ((Kept.refl [] w).drewN n)) hm)
  clear hc hn
  go_enter Tryz.func51, Tryz.ntmps51
  go_wp2_with fail
  go_quiet (first
    | (go_at_call 40; exact q_same (lit_node _ _ hx))
    | (go_at_call 22; exact q_same (HG.out _)))
  go_wp2
  go_ret
  exact ⟨by rw [← HF.out]; rfl, _, rfl⟩
set_option maxHeartbeats 800000 in
set_option maxRecDepth 100000 in
theorem sim_words (h : SimAt w s F R σ) (hm : σ.N.g.nodes.length ≤ 1000000) (hww : Words σ.ws) (a : Option Addr) (c m : Nat) (l : List Nat) (hl : l.length = m) (hlm : m ≤ 1000000) (hs : SlN w .u32 a l) (hr : Lits l) :
    Calls Tryz.prog 21 #[.pointer (some ⟨s, 0, none⟩), .slice a m c] w (SimWords σ l m w) := by
  obtain ⟨B, hB⟩ : ∃ B, B = l.any (fun x => decide (σ.N.g.nodes.length ≤ x / 2)) := ⟨_, rfl⟩
  obtain ⟨q, hq⟩ : ∃ q, q = w.heap.size := ⟨_, rfl⟩
  obtain ⟨wq, hwq⟩ : ∃ W, W = w.alloc (.cells #[.pointer (some ⟨s, 0, none⟩)] 30) := ⟨_, rfl⟩
  have kq : Kept [] w wq := by rw [hwq]; exact (Kept.refl [] w).alloc _
  have cq : wq.cell? ⟨q, 0, none⟩ = some (.pointer (some ⟨s, 0, none⟩)) := by rw [hwq, hq]; simp [World.cell?_alloc_new]
  have HX := Lib.hid (contains_any 51 Tryz.call51 (.pointer (some ⟨q, 0, none⟩)) (fun x => decide (σ.N.g.nodes.length ≤ x / 2)) a c m l wq hl (by omega) (hs.kept0 kq) (fun x hx k =>
    words1_c x q ((h.kept0 kq).kept0 ((Kept.refl [] _).drewN k)) hm (hr x hx) cq))
  rw [← hB] at HX
  have HASK := Lib.hid (show askS σ l = if B = true then 1 else if σ.cy = 0 then 6 else 0 from by unfold askS; rw [hB])
  obtain ⟨n, NF, NR, ra, rc, mm, f, wa, wc, rfl, rfl, hc⟩ := h
  have HN := Lib.hid (sim_none (hc.c0 |> fun h => kq.cell h (by simp)))
  have c4 : wq.cell? ⟨s, 4, none⟩ = _ := kq.cell hc.c4 (by simp)
  have HOF := Lib.hid (fun (W : World) (hk : Kept [] wq W) => simof_c wa wc σ.ws.length σ.ws a c m l W ((kq.trans hk).cell hc.c3 (by simp)) rfl (hc.wd.kept0 (kq.trans hk)) hww hl hlm (hs.kept0 (kq.trans hk)) hr)
  have KQ := Lib.hid kq
  have hsz : w.heap.size ≤ wq.heap.size := kq.size
  clear hc hB hl hs hr kq
  go_enter Tryz.func21, Tryz.ntmps21
  go_wp2_with fail
  rw [← hwq, ← hq]
  clear hwq hq
  refine HN.out.mono ?_
  rintro e w' ⟨rfl, rfl⟩
  go_wp2_with fail
  refine HX.out.mono ?_
  rintro e w' ⟨rfl, k1, rfl⟩
  cases B with
  | true =>
    have HA := Lib.hid (show askS σ l = 1 from by rw [HASK.out]; rfl)
    go_wp2_with fail
    refine bodyPost_ret (v := .tuple #[.slice none 0 0, .int .i64 1]) (by simp [results, Tryz.results21, go_sem]) rfl ⟨none, 0, 0, by rw [HA.out]; rfl, KQ.out.drewN _, fun h => by rw [HA.out] at h; cases h⟩
  | false =>
    by_cases h0 : σ.cy = 0
    · have HA := Lib.hid (show askS σ l = 6 from by rw [HASK.out]; simp [h0])
      have hc0 : ((σ.cy : Int) == 0) = true := by simp [h0]
      go_wp2_with fail
      refine bodyPost_ret (v := .tuple #[.slice none 0 0, .int .i64 6]) (by simp [results, Tryz.results21, go_sem]) rfl ⟨none, 0, 0, by rw [HA.out]; rfl, KQ.out.drewN _, fun h => by rw [HA.out] at h; cases h⟩
    · have HA := Lib.hid (show askS σ l = 0 from by rw [HASK.out]; simp [h0])
      have hc0 : ((σ.cy : Int) == 0) = false := by simp; omega
      clear h0
      go_wp2_with fail
      refine (HOF.out _ ((Kept.refl [] _).drewN _)).mono ?_
      rintro e w5 ⟨a5, c5, rfl, ho5, hst5⟩
      have HO := Lib.hid ho5
      have K5 := Lib.hid ((KQ.out.drewN k1).trans hst5.kept)
      have FR := Lib.hid (show ∀ b ∈ ft a5, w.heap.size ≤ b from fun b hb => (hst5.fresh b hb).elim (by simp) (fun h => Nat.le_trans hsz h))
      clear ho5 hst5
      go_wp2_with fail
      refine bodyPost_ret (v := .tuple #[.slice a5 m c5, .int .i64 0]) (by simp [results, Tryz.results21, go_sem]) rfl ⟨a5, m, c5, by rw [HA.out]; rfl, K5.out, fun _ => ⟨rfl, HO.out, FR.out⟩⟩
end Go.Proofs.YtielfgngdhcpfaaGreat

namespace Go.Proofs.YtielfgngdhcpfaaGreat
open Go.ChangeShapes Go.WideShapes Go.ChangeAt Go.RowKit
open Go.Maps (Keyed)
open Go.WideMaps
set_option linter.unusedVariables false
set_option linter.unusedSimpArgs false

variable {w w' : World} {p n k : Nat} {F R S : List Nat} {g : Gr} {N : Nt}
def tN0 : Nt := newN ⟨#[116, 111, 112]⟩ false false
def tN1 : Nt := (addIn tN0 ⟨#[97]⟩ 2).1
def tN2 : Nt := (addReg tN1 true).1
def tN3 : Nt := (gateN tN2 andG 2 6).1
def tN4 : Nt := (setReg tN3 6 8 1).1
def tN5 : Nt := (addOut tN4 ⟨#[120]⟩ [9]).1
def tN6 : Nt := { tN5 with g := (inputG tN5.g).1 }
set_option maxRecDepth 100000 in
theorem t_facts : mayB ⟨#[116, 111, 112]⟩ = true ∧ (addIn tN0 ⟨#[97]⟩ 2).2 = ([2, 4], 0) ∧ (addReg tN1 true).2 = 6 ∧ (gateN tN2 andG 2 6).2 = ([8], 0) ∧ (setReg tN3 6 8 1).2 = 0 ∧ (addOut tN4 ⟨#[120]⟩ [9]).2 = 0 ∧ checkN tN5 = 0 ∧ 2 * tN5.g.nodes.length = 10 ∧ checkN tN6 = 37 := by
  refine ⟨by kernel_rfl, by kernel_rfl, by kernel_rfl, by kernel_rfl, by kernel_rfl, by kernel_rfl, by kernel_rfl, by kernel_rfl, by kernel_rfl⟩
theorem t_fine : NtFine 5 tN5 := addOut_fine (setReg_fine (gateN_fine (addReg_fine (addIn_fine (newN_fine _ false false t_facts.1) _ _) _) _ two_and _ _) _ _ _) _ _
theorem t_fine6 : NtFine 6 tN6 := fine_graph t_fine (t_fine.ok.graph (inputG_spec t_fine.ok.wf).1 (by simp [inputG]) (by simp [inputG])) (fun i hi => by rw [(inputG_spec t_fine.ok.wf).2.2]; exact List.mem_append_left _ hi)
end Go.Proofs.YtielfgngdhcpfaaGreat

namespace Go.Proofs.YtielfgngdhcpfaaGreat
open Go.ChangeShapes Go.WideShapes Go.ChangeAt Go.RowKit
open Go.Maps (Keyed)
open Go.WideMaps
set_option linter.unusedVariables false
set_option linter.unusedSimpArgs false

variable {w w' W W' : World} {p n k : Nat} {F R F' R' S : List Nat} {g : Gr} {N : Nt}
theorem NStep.up (hk : Kept [] w W) (hf : ∀ b ∈ F, w.heap.size ≤ b) (hs : NStep W W' F R F' R') : Kept [] w W' ∧ ∀ b ∈ F', w.heap.size ≤ b :=
  ⟨kept_up hk hs.st.kept hf, fun b hb => (hs.st.fresh b hb).elim (hf b) (Nat.le_trans hk.size)⟩
theorem own_net {e : TypeId} {a : Option Addr} {m c : Nat} {xs : List Value} (ho : Own W e a m c xs) (hf : ∀ b ∈ ft a, b ∉ F ∧ b ∉ R) (hs : NStep W W' F R F' R') : Own W' e a m c xs ∧ ∀ b ∈ ft a, b ∉ F' ∧ b ∉ R' :=
  ⟨ho.kept hs.st.kept (fun b hb => (hf b hb).1), fun b hb => ⟨fun h => (hs.st.fresh b h).elim (hf b hb).1 (fun h2 => by have := ho.lt b hb; omega), fun h => (hs.rows b h).elim (hf b hb).2 (fun h2 => by have := ho.lt b hb; omega)⟩⟩
theorem row_new (w : World) (l : List Nat) (T : TypeId) : SlN (w.alloc (.cells (nats .u32 l).toArray T)) .u32 (some ⟨w.heap.size, 0, none⟩) l := sln_new w .u32 l T
end Go.Proofs.YtielfgngdhcpfaaGreat

namespace Go.Proofs.YtielfgngdhcpfaaGreat
open Go.ChangeShapes Go.WideShapes Go.ChangeAt Go.RowKit Go.Deep Go.Joins
set_option linter.unusedVariables false

theorem choose_list {α : Type} {n : Nat} {p : Nat → α → Prop} (h : ∀ i, i < n → ∃ x, p i x) : ∃ l : List α, l.length = n ∧ ∀ i (hi : i < l.length), p i l[i] := by
  induction n with
  | zero => exact ⟨[], rfl, fun i hi => absurd hi (by simp)⟩
  | succ n ih =>
    obtain ⟨l, h1, h2⟩ := ih fun i hi => h i (by omega)
    obtain ⟨x, hx⟩ := h n (by omega)
    refine ⟨l ++ [x], by simp [h1], fun i hi => ?_⟩
    by_cases hin : i < l.length
    · rw [List.getElem_append_left hin]
      exact h2 i hin
    · have : i = n := by simp at hi; omega
      subst this
      rw [List.getElem_append_right (by omega)]
      simpa using hx

section
variable {H : Type} {enc : TypeId × Value → H} {P : Program} {W : World} {base : Nat}

/-- The reach, said of a datum: each slice and string in it is within it. -/
def Sized (P : Program) (t : TypeId) (d : DataW H) : Prop := ∀ n ∈ d.weights P t, n ≤ reachBytes
theorem Sized.arg {ts : List TypeId} {ds : List (DataW H)} (h : (DataW.weightsEach P ts ds).all (· ≤ reachBytes) = true) {j : Nat} {t : TypeId} {d : DataW H} (ht : ts[j]? = some t) (hd : ds[j]? = some d) : Sized P t d := fun n hn => by
  simpa using List.all_eq_true.1 h n (DataW.weights_mem_each ht hd n hn)
theorem weightsAll_mem {e : TypeId} : ∀ {es : List (DataW H)} {d : DataW H}, d ∈ es → ∀ n ∈ d.weights P e, n ∈ DataW.weightsAll P e es
  | x :: es, d, hd, n, hn => by
    simp only [DataW.weightsAll, List.mem_append]
    rcases List.mem_cons.1 hd with h | h
    · subst h; exact .inl hn
    · exact .inr (weightsAll_mem h n hn)
theorem Sized.slice {t e : TypeId} {es sp : List (DataW H)} (h : Sized P t (.slice es sp)) (hu : P.underlying t = some (.slice e)) : (es.length + sp.length) * P.bytesOf e ≤ reachBytes ∧ ∀ d ∈ es, Sized P e d := by
  refine ⟨h _ (by simp [DataW.weights, hu]), fun d hd n hn => h n ?_⟩
  simp only [DataW.weights, hu, List.mem_cons, List.mem_append]
  exact .inr (.inl (weightsAll_mem hd n hn))
theorem Sized.field {t : TypeId} {fs : Array Field} {parts : List (DataW H)} (h : Sized P t (.agg parts)) (hu : P.underlying t = some (.struct fs)) {j : Nat} {f : Field} {p : DataW H} (hf : fs[j]? = some f) (hp : parts[j]? = some p) : Sized P f.type p := fun n hn => by
  refine h n ?_
  simp only [DataW.weights, hu]
  exact DataW.weights_mem_each (j := j) (by simp [hf]) hp n hn

/-- A slice of unsigned numbers, wherever it was read. -/
theorem open_natsT {t e : TypeId} {K : IntKind} {m bytes : Nat} {fuel : Nat} {v : Value} {y : DataW H × List MemPlace} (ht : P.underlying t = some (.slice e)) (he : P.underlying e = some (.int K)) (hc : P.cellsOf e = 1) (hb : P.bytesOf e = bytes)
    (hK : K.signed = false) (hm : (2 : Int) ^ K.bits = m) (h : DataW.trod enc P W 0 (fun _ => true) true fuel t [v] = some y) (hz : Sized P t y.1) :
    ∃ (a : Option Addr) (cap : Nat) (l : List Nat), v = .slice a l.length cap ∧ l.length ≤ cap ∧ SlN W K a l ∧ (∀ n ∈ l, n < m) ∧ (a = none → l.length = 0 ∧ cap = 0) ∧ cap * bytes ≤ 140737488351232 := by
  rcases open_ints ht he hc h with ⟨hcs, hx⟩ | ⟨a, len, cap, zs, hcs, _, hl, hmx, hzl, hx, hcell, hwz⟩
  · simp at hcs
    subst hcs
    exact ⟨none, 0, [], rfl, Nat.le_refl _, SlN.nil _ _ _, by simp, by simp, by simp⟩
  · simp at hcs
    subst hcs
    simp at hzl
    have hnat : ∀ i (hi : i < zs.length), ((zs[i].toNat : Nat) : Int) = zs[i] ∧ zs[i].toNat < m := by
      intro i hi
      obtain ⟨k, hk, hkm⟩ := wf_nat hK hm (hwz zs[i] (List.getElem_mem hi))
      rw [hk]
      simp [hkm]
    have hlen : ((zs.take len).map Int.toNat).length = len := by simp; omega
    refine ⟨some a, cap, (zs.take len).map Int.toNat, by rw [hlen], by rw [hlen]; exact hl, fun k hk => ⟨a, rfl, ?_⟩, ?_, by simp, ?_⟩
    · rw [hlen] at hk
      rw [hcell k (by omega)]
      simp [List.getD_eq_getElem?_getD, (hnat k (by omega)).1, List.getElem?_eq_getElem (show k < zs.length by omega)]
    · intro n hn
      obtain ⟨y, hy, rfl⟩ := List.mem_map.1 hn
      obtain ⟨i, hi, rfl⟩ := List.getElem_of_mem (List.mem_of_mem_take hy)
      exact (hnat i hi).2
    · rw [hx] at hz
      have := (hz.slice ht).1
      rw [hb] at this
      simp [lits, hzl, reachBytes] at this
      rw [Nat.min_eq_left hl] at this
      rwa [show len + (cap - len) = cap by omega] at this

/-- One element that is a struct of one-cell fields: each field's cell, and its reading. -/
theorem rec_elem {e : TypeId} {fs : Array Field} {a : Addr} {cs : List Value} {n : Nat} {x : DataW H × List MemPlace} (he : P.underlying e = some (.struct fs)) (hone : oneCellFields P fs = true) (hC : P.cellsOf e = fs.size)
    (hc : W.cells? base a (P.cellsOf e) = some cs) (ht : DataW.trod enc P W base (fun _ => true) true n e cs = some x) :
    ∃ (ys : List (DataW H × List MemPlace)) (m : Nat), x.1 = .agg (ys.map (·.1)) ∧ ys.length = fs.size ∧ ∀ (j : Nat) (f : Field), fs[j]? = some f → ∃ (v : Value) (y : DataW H × List MemPlace), W.cell? (a.add j) = some v ∧ ys[j]? = some y ∧ DataW.trod enc P W base (fun _ => true) true m f.type [v] = some y := by
  obtain ⟨ys, m, _, hx, hl, hyl, hf⟩ := DataW.trod_struct he ht
  obtain ⟨_, hcl, hat⟩ := World.cells?_some hc
  refine ⟨ys, m, by rw [hx], hyl, fun j f hj => ?_⟩
  have hjl : j < fs.size := (Array.getElem?_eq_some_iff.1 hj).1
  obtain ⟨ho, hk⟩ := hone_of hone j f hj
  have h1 := hf j f hj
  have hjc : j < cs.length := by omega
  have e1 : (cs.drop f.offset).take (P.cellsOf f.type) = [cs[j]] := by
    rw [ho, hk, List.drop_eq_getElem_cons hjc]
    rfl
  rw [e1] at h1
  have hys : ys[j]? = some (ys[j]'(by omega)) := List.getElem?_eq_getElem (by omega)
  exact ⟨cs[j], ys[j]'(by omega), by rw [hat j (by omega)]; exact List.getElem?_eq_getElem hjc, hys, h1.trans hys⟩

/-- A slice of structs of one-cell fields. -/
theorem open_recs {t e : TypeId} {fs : Array Field} {fuel : Nat} {v : Value} {y : DataW H × List MemPlace} (ht : P.underlying t = some (.slice e)) (he : P.underlying e = some (.struct fs)) (hone : oneCellFields P fs = true) (hC : P.cellsOf e = fs.size)
    (h : DataW.trod enc P W 0 (fun _ => true) true fuel t [v] = some y) (hz : Sized P t y.1) :
    ∃ (a : Option Addr) (len cap : Nat), v = .slice a len cap ∧ len ≤ cap ∧ cap * P.bytesOf e ≤ 140737488351232 ∧ (a = none → len = 0 ∧ cap = 0) ∧
      ∀ i, i < len → ∃ (ad : Addr) (m : Nat), a = some ad ∧ ∀ (j : Nat) (f : Field), fs[j]? = some f → ∃ (u : Value) (z : DataW H × List MemPlace), W.cell? (ad.add (i * fs.size + j)) = some u ∧ DataW.trod enc P W 0 (fun _ => true) true m f.type [u] = some z ∧ Sized P f.type z.1 := by
  rcases open_slice ht h with ⟨hcs, hx⟩ | ⟨a, len, cap, m, n, D, Pl, hcs, hb, hl, hm, hmm, hx, hi⟩
  · simp at hcs
    subst hcs
    exact ⟨none, 0, 0, rfl, Nat.le_refl _, by simp, by simp, fun i hi => absurd hi (by omega)⟩
  · simp at hcs hmm
    subst hcs hmm
    rw [hx] at hz
    obtain ⟨hz1, hz2⟩ := hz.slice ht
    refine ⟨some a, len, m, rfl, hl, ?_, by simp, fun i hil => ⟨a, ?_⟩⟩
    · simp [reachBytes] at hz1
      rwa [show len + (m - len) = m by omega] at hz1
    · obtain ⟨cs', hc', ht'⟩ := hi i (by omega)
      obtain ⟨ys, m', hy1, hy2, hy3⟩ := rec_elem he hone hC hc' ht'
      refine ⟨m', rfl, fun j f hj => ?_⟩
      obtain ⟨u, z, h1, h2, h3⟩ := hy3 j f hj
      refine ⟨u, z, ?_, h3, ?_⟩
      · rw [← Go.Deep.add_add, ← hC]; exact h1
      · have hs := hz2 (D i) (List.mem_map.2 ⟨i, List.mem_range.2 hil, rfl⟩)
        have hy1' : D i = .agg (ys.map (·.1)) := hy1
        rw [hy1'] at hs
        exact hs.field he hj (by rw [List.getElem?_map, h2]; rfl)
theorem plain_spot {ad : Addr} {v : Value} (h : W.cell? (ad.add 0) = some v) : ∃ b o, ad = ⟨b, o, none⟩ := by
  obtain ⟨b, o, s⟩ := ad
  have hs : s = none := by simpa [Addr.add] using World.cell?_spot h
  subst hs
  exact ⟨b, o, rfl⟩
theorem add_at (b o k : Nat) : (⟨b, o, none⟩ : Addr).add k = ⟨b, o + k, none⟩ := by unfold Addr.add; split <;> simp_all
/-- A struct of two bools, by value. -/
theorem open_bools2 {t : TypeId} {f0 f1 : Field} {v : Value} {d : DataW H} {p : List MemPlace} (hs : P.underlying t = some (.struct #[f0, f1])) (hone : oneCellFields P #[f0, f1] = true) (hC : P.cellsOf t = 2) (h0 : P.underlying f0.type = some .bool) (h1 : P.underlying f1.type = some .bool)
    (hv : Value.okWide P W .any base t v) (h : DataW.Trod enc P W 0 (fun _ => true) true t v d p) : ∃ a b : Bool, v = .agg #[.bool a, .bool b] := by
  obtain ⟨c0, c1, y0, y1, m, rfl, _, _, hy0, hy1⟩ := open_agg2 hs hone hC hv h
  obtain ⟨a, e0, _⟩ := DataW.trod_bool h0 hy0
  obtain ⟨b, e1, _⟩ := DataW.trod_bool h1 hy1
  simp at e0 e1
  subst e0 e1
  exact ⟨a, b, rfl⟩
end
end Go.Proofs.YtielfgngdhcpfaaGreat
