/-
  The document's netlists: a bus more, a register more, a register set.
  Package net: AddOut.
-/
import Derived.Test.YtnjoklcddodfeaaGreatDoorP14
import Derived.Test.YtnjoklcddodfeaaGreatDoorP12
namespace Go.Proofs.YtnjoklcddodfeaaGreatDoor
open Go.ChangeShapes Go.WideShapes Go.ChangeAt Go.RowKit
open Go.Maps (Keyed)
open Go.WideMaps
set_option linter.unusedVariables false
set_option linter.unusedSimpArgs false

variable {w w' : World} {p n : Nat} {F R S : List Nat} {g : Gr} {N : Nt}
set_option maxHeartbeats 3200000 in
set_option maxRecDepth 100000 in
theorem addout_good (h : NetAt w n F R N) (hok : N.g.nodes.length ≤ 100000 ∧ N.outb.length ≤ 100000) (s : ByteArray) (hs : s.size ≤ 140737488351232) (a : Option Addr) (c m : Nat) (l : List Nat) (hl : l.length = m) (h1 : 1 ≤ m) (h2 : m ≤ 64) (hsl : SlN w .u32 a l) (hlt : ∀ x ∈ l, x < 4294967296) (hm : mayB s = true) (hg : gone N.g l = false) (hf : findB N.outb s = none) :
    Calls Tryz.prog 64 #[.pointer (some ⟨n, 0, none⟩), .string s, .slice a m c] w (SetPost ({ N with outb := N.outb ++ [⟨s, l⟩] }, 0) w n F R) := by
  have HNO := Lib.hid (net_none h (show N.g.nodes.length ≤ 1000000 by omega))
  have HM := Lib.hid (fun (W : World) => mayname_c s W hs)
  rw [hm] at HM
  have HTH := Lib.hid (fun (W : World) (hk : Kept [] w W) => there_c (h.kept0 hk) (show N.g.nodes.length ≤ 200000 by omega) a c m l hl (by omega) (hsl.kept0 hk) hlt)
  rw [hg] at HTH
  obtain ⟨p, G, ia, ic, ra, rc, oa, oc, ri, ro, rfl, rfl, hc⟩ := h
  have HC := Lib.hid hc
  have HF := Lib.hid (fun (W : World) (hk : Kept [] w W) => find_c s oa oc N.outb.length ro (w := W) (by rw [← hc.ob.is]; simp) (by omega) (hc.ob.slb.kept0 hk))
  rw [findP_eq, hc.ob.is, hf] at HF
  have hane : a = none → m = 0 := fun e => by
    subst e
    obtain ⟨ad, h3, _⟩ := hsl 0 (by omega)
    cases h3
  have HCL := Lib.hid (fun (W : World) (hk : Kept [] w W) => clone_lits a c m l W hl (hsl.kept0 hk) (by omega) hane)
  have lenO := hok.2
  obtain ⟨nO, hnO⟩ : ∃ k, k = N.outb.length := ⟨_, rfl⟩
  have HNO2 := Lib.hid hnO
  rw [← hnO] at lenO HF
  have HL := Lib.hid hl
  clear hc hok hnO hm hg hf hl hlt hsl hane
  go_enter Tryz.func64, Tryz.ntmps64; (try simp only [List.append])
  go_wp2_with fail
  refine HNO.out.mono ?_
  rintro e w' ⟨rfl, rfl⟩
  go_wp2_with fail
  refine (HM.out _).mono ?_
  rintro e w1 ⟨rfl, hk1⟩
  have K1 := Lib.hid hk1
  clear hk1
  go_wp2_with fail
  refine (HTH.out _ K1.out).mono ?_
  rintro e w2 ⟨rfl, hk2⟩
  have K2 := Lib.hid (K1.out.trans hk2)
  clear hk2 K1
  have c4a : w2.cell? ⟨n, 4, none⟩ = some (.slice oa nO oc) := by rw [HNO2.out]; exact (HC.out.kept K2.out (by simp) (by simp)).c4
  go_wp2_with fail
  refine (HF.out _ K2.out).mono ?_
  rintro e w3 ⟨rfl, hk3⟩
  have K3 := Lib.hid (K2.out.trans hk3)
  clear hk3 K2 c4a
  have HC3 := Lib.hid (HC.out.kept K3.out (by simp) (by simp))
  have c4 : w3.cell? ⟨n, 4, none⟩ = some (.slice oa nO oc) := by rw [HNO2.out]; exact HC3.out.c4
  have f4 : w3.frozen? ⟨n, 4, none⟩ = false := blk_free HC3.out.blk 4
  have hob := HC3.out.ob.own
  rw [← HNO2.out] at hob
  have hnoa := HC3.out.apart.2.2.2.1
  have hnlt := blk_lt HC3.out.blk
  go_wp2_with fail
  go_region_law ((first
    | (refine step_push (news := [.string s, .slice a7 m c7]) (by rfl) (by rfl) Tryz.underlying33 bus_info rfl (by omega) (by rfl) (by rfl) (own_kept (F := []) (w := w3) hob (by (repeat (first | with_reducible exact Kept.refl _ _ | with_reducible apply Kept.drew | with_reducible apply Kept.drewN | with_reducible apply Kept.alloc | refine Kept.trans ?_ hk7))) (by simp)) rfl (news_blk (t := 79) (Mine.heap (F := []) (by (repeat (first | (with_reducible refine Mine.new ?_ (by simp); focus (first | rfl | (simp; done))) | with_reducible apply Mine.drew | with_reducible apply Mine.alloc))))) (by simp [Value.oneCell']) (by unfold maxLen; omega) (by omega) ?_; intro a5 c5 w5 hown5 hst5; have cw4 : w5.cell? ⟨n, 4, none⟩ = some (.slice oa nO oc) := hst5.kept.cell (Kept.cell (F := []) (w := w3) (by (repeat (first | with_reducible exact Kept.refl _ _ | with_reducible apply Kept.drew | with_reducible apply Kept.drewN | with_reducible apply Kept.alloc | refine Kept.trans ?_ hk7))) c4 (by simp)) hnoa; have fw4 : w5.frozen? ⟨n, 4, none⟩ = false := (hst5.kept.frozen (Nat.lt_of_lt_of_le hnlt (Kept.size (F := []) (by (repeat (first | with_reducible exact Kept.refl _ _ | with_reducible apply Kept.drew | with_reducible apply Kept.drewN | with_reducible apply Kept.alloc | refine Kept.trans ?_ hk7))))) hnoa).trans ((Kept.frozen (F := []) (w := w3) (by (repeat (first | with_reducible exact Kept.refl _ _ | with_reducible apply Kept.drew | with_reducible apply Kept.drewN | with_reducible apply Kept.alloc | refine Kept.trans ?_ hk7))) hnlt (by simp)).trans f4))
    | (rw [if_pos (by simp [Region.wanted])]; go_simp; (with_reducible refine (HCL.out _ (K3.out.trans ?kk)).mono ?_); (case kk => ((repeat (first | with_reducible exact Kept.refl _ _ | with_reducible apply Kept.drew | with_reducible apply Kept.drewN | with_reducible apply Kept.alloc)))); rintro e w4 ⟨a7, c7, rfl, ho7, hst7⟩; have hk7 := hst7.kept; have c4b : w4.cell? ⟨n, 4, none⟩ = some (.slice oa nO oc) := Kept.cell (F := []) (w := w3) (by (repeat (first | with_reducible exact Kept.refl _ _ | with_reducible apply Kept.drew | with_reducible apply Kept.drewN | with_reducible apply Kept.alloc | refine Kept.trans ?_ hk7))) c4 (by simp); have c4c : ∀ o, (w4.alloc o).cell? ⟨n, 4, none⟩ = some (.slice oa nO oc) := (fun o => cell_alloc c4b o); go_simp)))
  all_goals
    have fr7 : ∀ b ∈ ft a7, w3.heap.size ≤ b := fun b hb => by
      rcases hst7.fresh b hb with h | h
      · simp at h
      · exact h
    have lt3 := HC3.out.lt.1
    have HR := NetC.addOut (s := s) (l := l) (a := a7) (c := c7) (HC3.out.kept (((Kept.refl [] w3).drew.trans hk7).alloc (.cells #[.string s, .slice a7 m c7] 79)) (by simp) (by simp)) (by rw [← HNO2.out, HL.out]; exact hown5) hst5 (ho7.sln.kept0 ((Kept.refl [] w4).alloc _)) (fun b hb => ⟨by have := ho7.lt b hb; simp; omega, fun hx => by have := lt3 b hx; have := fr7 b hb; omega⟩)
    rw [← HNO2.out] at HR
    have HRR := Lib.hid HR
    have SK := Lib.hid ((K3.out.trans ((Kept.refl [] w3).drew.trans hk7)).alloc (.cells #[.string s, .slice a7 m c7] 79))
    have FR7 := Lib.hid (show ∀ b ∈ ft a7, w.heap.size ≤ b from fun b hb => Nat.le_trans K3.out.size (fr7 b hb))
    clear HR fr7 lt3 hown5 hst5 cw4 fw4 c4b c4c ho7 hst7 hk7
    go_wp2
    go_ret
    exact ⟨_, _, rfl, ⟨p, G, ia, ic, ra, rc, a5, c5, ri, _, rfl, rfl, HRR.out.1⟩, ⟨(⟨SK.out.more (by simp), fun b hb => .inl hb⟩ : Stepped _ _ _ _).trans HRR.out.2, fun b hb => by
      rcases rows_out b hb with h | h
      · exact .inl h
      · exact .inr (FR7.out b h)⟩⟩
set_option maxHeartbeats 3200000 in
set_option maxRecDepth 100000 in
theorem addout_bad (h : NetAt w n F R N) (hok : N.g.nodes.length ≤ 100000) (s : ByteArray) (hs : s.size ≤ 140737488351232) (a : Option Addr) (c m : Nat) (l : List Nat) (hl : l.length = m) (hm0 : m ≤ 140737488351232) (hsl : SlN w .u32 a l) (hlt : ∀ x ∈ l, x < 4294967296)
    (hbad : ((!mayB s) || decide (l.length < 1) || decide (64 < l.length) || gone N.g l) = true) :
    Calls Tryz.prog 64 #[.pointer (some ⟨n, 0, none⟩), .string s, .slice a m c] w (SetPost (N, 1) w n F R) := by
  have HNO := Lib.hid (net_none h (show N.g.nodes.length ≤ 1000000 by omega))
  have HM := Lib.hid (fun (W : World) => mayname_c s W hs)
  have HTH := Lib.hid (fun (W : World) (hk : Kept [] w W) => there_c (h.kept0 hk) (show N.g.nodes.length ≤ 200000 by omega) a c m l hl (by omega) (hsl.kept0 hk) hlt)
  have HPO := Lib.hid (fun (W : World) (hk : Kept [] w W) => SetPost.no (k := 1) h hk)
  have hc : mayB s = false ∨ (mayB s = true ∧ m < 1) ∨ (mayB s = true ∧ ¬ m < 1 ∧ 64 < m) ∨ (mayB s = true ∧ ¬ m < 1 ∧ ¬ 64 < m ∧ gone N.g l = true) := by
    rw [hl] at hbad
    cases hm : mayB s
    · exact .inl rfl
    · rw [hm] at hbad
      by_cases h1 : m < 1
      · exact .inr (.inl ⟨rfl, h1⟩)
      · by_cases h2 : 64 < m
        · exact .inr (.inr (.inl ⟨rfl, h1, h2⟩))
        · refine .inr (.inr (.inr ⟨rfl, h1, h2, ?_⟩))
          simpa [h1, h2] using hbad
  generalize ((N, 1) : Nt × Nat) = res at *
  clear h hbad hl hsl hlt
  rcases hc with hm | ⟨hm, h1⟩ | ⟨hm, h1, h2⟩ | ⟨hm, h1, h2, hg⟩
  rotate_left 3
  · rw [hm] at HM
    rw [hg] at HTH
    clear hm hg
    go_enter Tryz.func64, Tryz.ntmps64; (try simp only [List.append])
    go_wp2_with fail
    refine HNO.out.mono ?_
    rintro e w' ⟨rfl, rfl⟩
    go_wp2_with fail
    refine (HM.out _).mono ?_
    rintro e w1 ⟨rfl, hk1⟩
    have K1 := Lib.hid hk1
    clear hk1
    go_wp2_with fail
    refine (HTH.out _ K1.out).mono ?_
    rintro e w2 ⟨rfl, hk2⟩
    have K2 := Lib.hid (K1.out.trans hk2)
    clear hk2
    go_wp2_with fail
    go_ret
    exact HPO.out _ K2.out
  all_goals
    rw [hm] at HM
    clear hm HTH
    go_enter Tryz.func64, Tryz.ntmps64; (try simp only [List.append])
    go_wp2_with fail
    refine HNO.out.mono ?_
    rintro e w' ⟨rfl, rfl⟩
    go_wp2_with fail
    refine (HM.out _).mono ?_
    rintro e w1 ⟨rfl, hk1⟩
    have K1 := Lib.hid hk1
    clear hk1
    go_wp2_with fail
    go_ret
    exact HPO.out _ K1.out
set_option maxHeartbeats 3200000 in
set_option maxRecDepth 100000 in
theorem addout_there (h : NetAt w n F R N) (hok : N.g.nodes.length ≤ 100000 ∧ N.outb.length ≤ 100000) (s : ByteArray) (hs : s.size ≤ 140737488351232) (a : Option Addr) (c m : Nat) (l : List Nat) (hl : l.length = m) (h1 : 1 ≤ m) (h2 : m ≤ 64) (hsl : SlN w .u32 a l) (hlt : ∀ x ∈ l, x < 4294967296) (hm : mayB s = true) (hg : gone N.g l = false) (k : Nat) (hf : findB N.outb s = some k) :
    Calls Tryz.prog 64 #[.pointer (some ⟨n, 0, none⟩), .string s, .slice a m c] w (SetPost (N, 9) w n F R) := by
  have HNO := Lib.hid (net_none h (show N.g.nodes.length ≤ 1000000 by omega))
  have HM := Lib.hid (fun (W : World) => mayname_c s W hs)
  rw [hm] at HM
  have HTH := Lib.hid (fun (W : World) (hk : Kept [] w W) => there_c (h.kept0 hk) (show N.g.nodes.length ≤ 200000 by omega) a c m l hl (by omega) (hsl.kept0 hk) hlt)
  rw [hg] at HTH
  have HPO := Lib.hid (fun (W : World) (hk : Kept [] w W) => SetPost.no (k := 9) h hk)
  generalize ((N, 9) : Nt × Nat) = res at *
  obtain ⟨p, G, ia, ic, ra, rc, oa, oc, ri, ro, rfl, rfl, hc⟩ := h
  have c4 := hc.c4
  have HF := Lib.hid (fun (W : World) (hk : Kept [] w W) => find_c s oa oc N.outb.length ro (w := W) (by rw [← hc.ob.is]; simp) (by omega) (hc.ob.slb.kept0 hk))
  rw [findP_eq, hc.ob.is, hf] at HF
  have C4 := Lib.hid (fun (W : World) (hk : Kept [] w W) => hk.cell c4 (by simp))
  clear hc hm hf c4 hg hl hsl hlt
  go_enter Tryz.func64, Tryz.ntmps64; (try simp only [List.append])
  go_wp2_with fail
  refine HNO.out.mono ?_
  rintro e w' ⟨rfl, rfl⟩
  go_wp2_with fail
  refine (HM.out _).mono ?_
  rintro e w1 ⟨rfl, hk1⟩
  have K1 := Lib.hid hk1
  clear hk1
  go_wp2_with fail
  refine (HTH.out _ K1.out).mono ?_
  rintro e w2 ⟨rfl, hk2⟩
  have K2 := Lib.hid (K1.out.trans hk2)
  have c4 := C4.out _ K2.out
  clear hk2
  go_wp2_with fail
  refine (HF.out _ K2.out).mono ?_
  rintro e w3 ⟨rfl, hk3⟩
  have K3 := Lib.hid (K2.out.trans hk3)
  clear hk3 c4
  go_wp2_with fail
  go_ret
  exact HPO.out _ K3.out
theorem addout_c (h : NetAt w n F R N) (hok : N.g.nodes.length ≤ 100000 ∧ N.outb.length ≤ 100000) (s : ByteArray) (hs : s.size ≤ 140737488351232) (a : Option Addr) (c m : Nat) (l : List Nat) (hl : l.length = m) (hm0 : m ≤ 140737488351232) (hsl : SlN w .u32 a l) (hlt : ∀ x ∈ l, x < 4294967296) :
    Calls Tryz.prog 64 #[.pointer (some ⟨n, 0, none⟩), .string s, .slice a m c] w (SetPost (addOut N s l) w n F R) := by
  unfold addOut
  by_cases hbad : ((!mayB s) || decide (l.length < 1) || decide (64 < l.length) || gone N.g l) = true
  · rw [if_pos hbad]
    exact addout_bad h hok.1 s hs a c m l hl hm0 hsl hlt hbad
  · rw [if_neg hbad]
    simp only [Bool.or_eq_true, decide_eq_true_eq, not_or, Bool.not_eq_true', Bool.not_eq_false, Bool.not_eq_true] at hbad
    cases hf : findB N.outb s with
    | some k =>
      simp only [Option.isSome_some, if_true]
      exact addout_there h hok s hs a c m l hl (by omega) (by omega) hsl hlt hbad.1.1.1 hbad.2 k hf
    | none =>
      simp only [Option.isSome_none, Bool.false_eq_true, if_false]
      exact addout_good h hok s hs a c m l hl (by omega) (by omega) hsl hlt hbad.1.1.1 hbad.2 hf
end Go.Proofs.YtnjoklcddodfeaaGreatDoor

namespace Go.Proofs.YtnjoklcddodfeaaGreatDoor
open Go.ChangeShapes Go.WideShapes Go.ChangeAt Go.RowKit
open Go.Maps (Keyed)
open Go.WideMaps
set_option linter.unusedVariables false
set_option linter.unusedSimpArgs false

variable {w w' : World} {p n : Nat} {F R S : List Nat} {g : Gr} {N : Nt}
section
variable {G : List Nat} {ia ra oa : Option Addr} {ic rc oc : Nat} {ri ro : List BR}
/-- a bus more that comes in -/
theorem RNetC.addIn {w1 : World} {ia' a : Option Addr} {ic' c : Nat} {s : ByteArray} {l : List Nat} (h : RNetC w n N p G ia ic ra rc oa oc ri ro)
    (hown : w1.ownsRow 0 110 2 (.slice ia' (N.inb.length + 1) ic') (N.inb.length + 1) (brCells ri ++ [.string s, .slice a l.length c])) (hst : Stepped w w1 (ft ia) (ft ia')) (hrow : SlN w .u32 a l) (ha : ∀ b ∈ ft a, b < w.heap.size ∧ b ∉ n :: (G ++ (ft ia ++ (ft ra ++ ft oa)))) :
    RNetC (w1.setCell ⟨n, 2, none⟩ (.slice ia' (N.inb.length + 1) ic')) n { N with inb := N.inb ++ [⟨s, l⟩] } p G ia' ic' ra rc oa oc (ri ++ [⟨⟨s, l⟩, a, c⟩]) ro ∧
    Stepped w (w1.setCell ⟨n, 2, none⟩ (.slice ia' (N.inb.length + 1) ic')) (n :: (G ++ (ft ia ++ (ft ra ++ ft oa)))) (n :: (G ++ (ft ia' ++ (ft ra ++ ft oa)))) := by
  obtain ⟨a1, a2, a3, a4, a5, a6, a7, a8, a9⟩ := h.apart
  have lt := h.lt
  have fr := h.fr
  simp only [List.mem_cons, List.mem_append, not_or] at fr ha
  have hnew : ∀ b ∈ ft ia', b ∈ ft ia ∨ w.heap.size ≤ b := hst.fresh
  have hkn : w1.heap[n]? = some (.cells (nCells p N ia ic ra rc oa oc) 108 (0, 0)) := hst.kept.heap h.blk a2
  have hn' : n ∉ ft ia' := blk_apart hkn hown (by decide)
  have hks : Kept [n] w1 (w1.setCell ⟨n, 2, none⟩ (.slice ia' (N.inb.length + 1) ic')) := (Kept.refl [n] w1).setCell (p := ⟨n, 2, none⟩) (.inl (by simp)) _
  have gk := (h.gr.kept hst.kept (fun b hb hx => a5 b hx hb)).kept hks (fun b hb hx => by simp at hx; exact a1 (hx ▸ hb))
  have rk := own_kept (own_kept h.rb hst.kept a8) hks (fun b hb hx => by simp at hx; exact a3 (hx ▸ hb))
  have ok := (h.ob.kept hst.kept (fun b hb hx => h.io b hx hb) (fun b hb => (fr b (.inr hb)).2.2.1)).kept hks (fun b hb hx => by simp at hx; exact a4 (hx ▸ hb)) (fun b hb hx => by simp at hx; exact (fr b (.inr hb)).1 hx)
  have hkk : Kept (n :: ft ia) w (w1.setCell ⟨n, 2, none⟩ (.slice ia' (N.inb.length + 1) ic')) := (hst.kept.more (fun b hb => List.mem_cons_of_mem _ hb)).trans (hks.more (fun b hb => by simp at hb; simp [hb]))
  have rows' : ∀ b ∈ rowsOf (ri ++ [⟨⟨s, l⟩, a, c⟩]) ++ rowsOf ro, b < w.heap.size ∧ b ≠ n ∧ b ∉ G ∧ b ∉ ft ia ∧ b ∉ ft ra ∧ b ∉ ft oa := by
    intro b hb
    rcases List.mem_append.1 hb with hb | hb
    · obtain ⟨r, hr, hb⟩ := mem_rowsOf.1 hb
      rcases List.mem_append.1 hr with hr | hr
      · have hm := mem_rowsOf.2 ⟨r, hr, hb⟩
        exact ⟨lt.2 b (by simp [hm]), (fr b (.inl hm)).1, (fr b (.inl hm)).2⟩
      · rw [List.mem_singleton] at hr
        subst hr
        exact ⟨(ha b hb).1, (ha b hb).2.1, (ha b hb).2.2⟩
    · exact ⟨lt.2 b (by simp [hb]), (fr b (.inr hb)).1, (fr b (.inr hb)).2⟩
  refine ⟨⟨?_, gk, ⟨?_, ?_, ?_⟩, rk, ok, ?_, ?_⟩, ⟨hkk.more ?_, ?_⟩⟩
  · rw [blk_set hkn]
    simp [nCells]
  · have := own_kept hown hks (fun b hb hx => by simp at hx; exact hn' (hx ▸ hb))
    rw [brCells_snoc ri ⟨⟨s, l⟩, a, c⟩] at this
    simpa using this
  · simp [h.ib.is]
  · intro r hr
    rcases List.mem_append.1 hr with hr | hr
    · have hm : ∀ b ∈ ft r.a, b ∈ rowsOf ri := fun b hb => mem_rowsOf.2 ⟨r, hr, hb⟩
      exact ⟨(h.ib.rows r hr).1.kept hkk (fun b hb hx => by rcases List.mem_cons.1 hx with hx | hx; exact (fr b (.inl (hm b hb))).1 hx; exact (fr b (.inl (hm b hb))).2.2.1 hx), fun b hb => Nat.lt_of_lt_of_le ((h.ib.rows r hr).2 b hb) hkk.size⟩
    · rw [List.mem_singleton] at hr
      subst hr
      exact ⟨hrow.kept hkk (fun b hb hx => by rcases List.mem_cons.1 hx with hx | hx; exact (ha b hb).2.1 hx; exact (ha b hb).2.2.2.1 hx), fun b hb => Nat.lt_of_lt_of_le (ha b hb).1 hkk.size⟩
  · intro b hb
    rcases hnew b hb with hx | hx
    · exact h.io b hx
    · exact fun ho => by have := lt.1 b (by simp [ho]); omega
  · intro b hb
    obtain ⟨h1, h2, h3, h4, h5, h6⟩ := rows' b hb
    simp only [List.mem_cons, List.mem_append, not_or]
    exact ⟨h2, h3, fun hx => by rcases hnew b hx with hx | hx; exact h4 hx; omega, h5, h6⟩
  · intro b hb
    simp only [List.mem_cons, List.mem_append] at hb ⊢
    rcases hb with hb | hb
    · exact .inl hb
    · exact .inr (.inr (.inl hb))
  · intro b hb
    simp only [List.mem_cons, List.mem_append] at hb ⊢
    rcases hb with hb | hb | hb | hb | hb
    · exact .inl (.inl hb)
    · exact .inl (.inr (.inl hb))
    · rcases hnew b hb with hx | hx
      · exact .inl (.inr (.inr (.inl hx)))
      · exact .inr hx
    · exact .inl (.inr (.inr (.inr (.inl hb))))
    · exact .inl (.inr (.inr (.inr (.inr hb))))
/-- a register more -/
theorem RNetC.addReg {w1 : World} {ra' : Option Addr} {rc' : Nat} {r : Rg} (h : RNetC w n N p G ia ic ra rc oa oc ri ro)
    (hown : w1.ownsRow 0 113 4 (.slice ra' (N.regs.length + 1) rc') (N.regs.length + 1) (rgCells N.regs ++ [.int .u32 (r.q : Int), .int .u32 (r.d : Int), .int .u32 (r.en : Int), .bool r.init])) (hst : Stepped w w1 (ft ra) (ft ra')) :
    RNetC (w1.setCell ⟨n, 3, none⟩ (.slice ra' (N.regs.length + 1) rc')) n { N with regs := N.regs ++ [r] } p G ia ic ra' rc' oa oc ri ro ∧
    Stepped w (w1.setCell ⟨n, 3, none⟩ (.slice ra' (N.regs.length + 1) rc')) (n :: (G ++ (ft ia ++ (ft ra ++ ft oa)))) (n :: (G ++ (ft ia ++ (ft ra' ++ ft oa)))) := by
  obtain ⟨a1, a2, a3, a4, a5, a6, a7, a8, a9⟩ := h.apart
  have lt := h.lt
  have fr := h.fr
  simp only [List.mem_cons, List.mem_append, not_or] at fr
  have hnew : ∀ b ∈ ft ra', b ∈ ft ra ∨ w.heap.size ≤ b := hst.fresh
  have hkn : w1.heap[n]? = some (.cells (nCells p N ia ic ra rc oa oc) 108 (0, 0)) := hst.kept.heap h.blk a3
  have hn' : n ∉ ft ra' := blk_apart hkn hown (by decide)
  have hks : Kept [n] w1 (w1.setCell ⟨n, 3, none⟩ (.slice ra' (N.regs.length + 1) rc')) := (Kept.refl [n] w1).setCell (p := ⟨n, 3, none⟩) (.inl (by simp)) _
  have gk := (h.gr.kept hst.kept (fun b hb hx => a6 b hx hb)).kept hks (fun b hb hx => by simp at hx; exact a1 (hx ▸ hb))
  have ik := (h.ib.kept hst.kept (fun b hb hx => a8 b hx hb) (fun b hb => (fr b (.inl hb)).2.2.2.1)).kept hks (fun b hb hx => by simp at hx; exact a2 (hx ▸ hb)) (fun b hb hx => by simp at hx; exact (fr b (.inl hb)).1 hx)
  have ok := (h.ob.kept hst.kept (fun b hb hx => a9 b hx hb) (fun b hb => (fr b (.inr hb)).2.2.2.1)).kept hks (fun b hb hx => by simp at hx; exact a4 (hx ▸ hb)) (fun b hb hx => by simp at hx; exact (fr b (.inr hb)).1 hx)
  have hkk : Kept (n :: ft ra) w (w1.setCell ⟨n, 3, none⟩ (.slice ra' (N.regs.length + 1) rc')) := (hst.kept.more (fun b hb => List.mem_cons_of_mem _ hb)).trans (hks.more (fun b hb => by simp at hb; simp [hb]))
  refine ⟨⟨?_, gk, ik, ?_, ok, h.io, ?_⟩, ⟨hkk.more ?_, ?_⟩⟩
  · rw [blk_set hkn]
    simp [nCells]
  · have := own_kept hown hks (fun b hb hx => by simp at hx; exact hn' (hx ▸ hb))
    rw [rgCells_snoc N.regs r] at this
    simpa using this
  · intro b hb
    have f := fr b (List.mem_append.1 hb)
    have l := lt.2 b hb
    simp only [List.mem_cons, List.mem_append, not_or]
    exact ⟨f.1, f.2.1, f.2.2.1, fun hx => by rcases hnew b hx with hx | hx; exact f.2.2.2.1 hx; omega, f.2.2.2.2⟩
  · intro b hb
    simp only [List.mem_cons, List.mem_append] at hb ⊢
    rcases hb with hb | hb
    · exact .inl hb
    · exact .inr (.inr (.inr (.inl hb)))
  · intro b hb
    simp only [List.mem_cons, List.mem_append] at hb ⊢
    rcases hb with hb | hb | hb | hb | hb
    · exact .inl (.inl hb)
    · exact .inl (.inr (.inl hb))
    · exact .inl (.inr (.inr (.inl hb)))
    · rcases hnew b hb with hx | hx
      · exact .inl (.inr (.inr (.inr (.inl hx))))
      · exact .inr hx
    · exact .inl (.inr (.inr (.inr (.inr hb))))
/-- a bus more that goes out -/
theorem RNetC.addOut {w1 : World} {oa' a : Option Addr} {oc' c : Nat} {s : ByteArray} {l : List Nat} (h : RNetC w n N p G ia ic ra rc oa oc ri ro)
    (hown : w1.ownsRow 0 110 2 (.slice oa' (N.outb.length + 1) oc') (N.outb.length + 1) (brCells ro ++ [.string s, .slice a l.length c])) (hst : Stepped w w1 (ft oa) (ft oa')) (hrow : SlN w .u32 a l) (ha : ∀ b ∈ ft a, b < w.heap.size ∧ b ∉ n :: (G ++ (ft ia ++ (ft ra ++ ft oa)))) :
    RNetC (w1.setCell ⟨n, 4, none⟩ (.slice oa' (N.outb.length + 1) oc')) n { N with outb := N.outb ++ [⟨s, l⟩] } p G ia ic ra rc oa' oc' ri (ro ++ [⟨⟨s, l⟩, a, c⟩]) ∧
    Stepped w (w1.setCell ⟨n, 4, none⟩ (.slice oa' (N.outb.length + 1) oc')) (n :: (G ++ (ft ia ++ (ft ra ++ ft oa)))) (n :: (G ++ (ft ia ++ (ft ra ++ ft oa')))) := by
  obtain ⟨a1, a2, a3, a4, a5, a6, a7, a8, a9⟩ := h.apart
  have lt := h.lt
  have fr := h.fr
  simp only [List.mem_cons, List.mem_append, not_or] at fr ha
  have hnew : ∀ b ∈ ft oa', b ∈ ft oa ∨ w.heap.size ≤ b := hst.fresh
  have hkn : w1.heap[n]? = some (.cells (nCells p N ia ic ra rc oa oc) 108 (0, 0)) := hst.kept.heap h.blk a4
  have hn' : n ∉ ft oa' := blk_apart hkn hown (by decide)
  have hks : Kept [n] w1 (w1.setCell ⟨n, 4, none⟩ (.slice oa' (N.outb.length + 1) oc')) := (Kept.refl [n] w1).setCell (p := ⟨n, 4, none⟩) (.inl (by simp)) _
  have gk := (h.gr.kept hst.kept (fun b hb hx => a7 b hx hb)).kept hks (fun b hb hx => by simp at hx; exact a1 (hx ▸ hb))
  have rk := own_kept (own_kept h.rb hst.kept a9) hks (fun b hb hx => by simp at hx; exact a3 (hx ▸ hb))
  have ik := (h.ib.kept hst.kept h.io (fun b hb => (fr b (.inl hb)).2.2.2.2)).kept hks (fun b hb hx => by simp at hx; exact a2 (hx ▸ hb)) (fun b hb hx => by simp at hx; exact (fr b (.inl hb)).1 hx)
  have hkk : Kept (n :: ft oa) w (w1.setCell ⟨n, 4, none⟩ (.slice oa' (N.outb.length + 1) oc')) := (hst.kept.more (fun b hb => List.mem_cons_of_mem _ hb)).trans (hks.more (fun b hb => by simp at hb; simp [hb]))
  have rows' : ∀ b ∈ rowsOf ri ++ rowsOf (ro ++ [⟨⟨s, l⟩, a, c⟩]), b < w.heap.size ∧ b ≠ n ∧ b ∉ G ∧ b ∉ ft ia ∧ b ∉ ft ra ∧ b ∉ ft oa := by
    intro b hb
    rcases rows_out b hb with hb | hb
    · exact ⟨lt.2 b hb, (fr b (List.mem_append.1 hb)).1, (fr b (List.mem_append.1 hb)).2⟩
    · exact ⟨(ha b hb).1, (ha b hb).2.1, (ha b hb).2.2⟩
  refine ⟨⟨?_, gk, ik, rk, ⟨?_, ?_, ?_⟩, ?_, ?_⟩, ⟨hkk.more ?_, ?_⟩⟩
  · rw [blk_set hkn]
    simp [nCells]
  · have := own_kept hown hks (fun b hb hx => by simp at hx; exact hn' (hx ▸ hb))
    rw [brCells_snoc ro ⟨⟨s, l⟩, a, c⟩] at this
    simpa using this
  · simp [h.ob.is]
  · intro r hr
    rcases List.mem_append.1 hr with hr | hr
    · have hm : ∀ b ∈ ft r.a, b ∈ rowsOf ro := fun b hb => mem_rowsOf.2 ⟨r, hr, hb⟩
      exact ⟨(h.ob.rows r hr).1.kept hkk (fun b hb hx => by rcases List.mem_cons.1 hx with hx | hx; exact (fr b (.inr (hm b hb))).1 hx; exact (fr b (.inr (hm b hb))).2.2.2.2 hx), fun b hb => Nat.lt_of_lt_of_le ((h.ob.rows r hr).2 b hb) hkk.size⟩
    · rw [List.mem_singleton] at hr
      subst hr
      exact ⟨hrow.kept hkk (fun b hb hx => by rcases List.mem_cons.1 hx with hx | hx; exact (ha b hb).2.1 hx; exact (ha b hb).2.2.2.2.2 hx), fun b hb => Nat.lt_of_lt_of_le (ha b hb).1 hkk.size⟩
  · intro b hb hx
    rcases hnew b hx with hx | hx
    · exact h.io b hb hx
    · have := lt.1 b (by simp [hb]); omega
  · intro b hb
    obtain ⟨h1, h2, h3, h4, h5, h6⟩ := rows' b hb
    simp only [List.mem_cons, List.mem_append, not_or]
    exact ⟨h2, h3, h4, h5, fun hx => by rcases hnew b hx with hx | hx; exact h6 hx; omega⟩
  · intro b hb
    simp only [List.mem_cons, List.mem_append] at hb ⊢
    rcases hb with hb | hb
    · exact .inl hb
    · exact .inr (.inr (.inr (.inr hb)))
  · intro b hb
    simp only [List.mem_cons, List.mem_append] at hb ⊢
    rcases hb with hb | hb | hb | hb | hb
    · exact .inl (.inl hb)
    · exact .inl (.inr (.inl hb))
    · exact .inl (.inr (.inr (.inl hb)))
    · exact .inl (.inr (.inr (.inr (.inl hb))))
    · rcases hnew b hb with hx | hx
      · exact .inl (.inr (.inr (.inr (.inr hx))))
      · exact .inr hx
end
section
variable {G : List Nat} {ia oa : Option Addr} {ic rc oc gr : Nat} {ri ro : List BR}
theorem RNetC.setRegs {l' : List Rg} {W : World} (h : RNetC w n N p G ia ic (some ⟨gr, 0, none⟩) rc oa oc ri ro) (hk : Kept [gr] w W) (hl : l'.length = N.regs.length) (hown : W.ownsRow 0 113 4 (.slice (some ⟨gr, 0, none⟩) N.regs.length rc) N.regs.length (rgCells l')) :
    RNetC W n { N with regs := l' } p G ia ic (some ⟨gr, 0, none⟩) rc oa oc ri ro := by
  obtain ⟨a1, a2, a3, a4, a5, a6, a7, a8, a9⟩ := h.apart
  have fr := h.fr
  simp only [List.mem_cons, List.mem_append, not_or] at fr
  have one : ∀ b, b ∈ ft (some (⟨gr, 0, none⟩ : Addr)) ↔ b = gr := fun b => mem_ft
  have nn : n ∉ [gr] := by simp; exact fun e => a3 ((one n).2 e)
  refine ⟨?_, h.gr.kept hk (fun b hb hx => by simp at hx; exact a6 b ((one b).2 hx) hb), h.ib.kept hk (fun b hb hx => by simp at hx; exact a8 b ((one b).2 hx) hb) (fun b hb hx => by simp at hx; exact (fr b (.inl hb)).2.2.2.1 ((one b).2 hx)), ?_, h.ob.kept hk (fun b hb hx => by simp at hx; exact a9 b ((one b).2 hx) hb) (fun b hb hx => by simp at hx; exact (fr b (.inr hb)).2.2.2.1 ((one b).2 hx)), h.io, h.fr⟩
  · have := hk.heap h.blk nn
    rw [this]
    simp only [nCells, hl]
  · show W.ownsRow 0 113 4 (.slice (some ⟨gr, 0, none⟩) l'.length rc) l'.length (rgCells l')
    rw [hl]
    exact hown
theorem rset_regs1 (h : RNetC w n N p G ia ic (some ⟨gr, 0, none⟩) rc oa oc ri ro) {k d en : Nat} (hk : k < N.regs.length) :
    RNetC ((w.setCell ⟨gr, k * 4 + 1, none⟩ (.int .u32 (d : Int))).setCell ⟨gr, k * 4 + 2, none⟩ (.int .u32 (en : Int))) n { N with regs := putR N.regs k d en } p G ia ic (some ⟨gr, 0, none⟩) rc oa oc ri ro ∧
    Kept [gr] w ((w.setCell ⟨gr, k * 4 + 1, none⟩ (.int .u32 (d : Int))).setCell ⟨gr, k * 4 + 2, none⟩ (.int .u32 (en : Int))) := by
  have hkp : Kept [gr] w ((w.setCell ⟨gr, k * 4 + 1, none⟩ (.int .u32 (d : Int))).setCell ⟨gr, k * 4 + 2, none⟩ (.int .u32 (en : Int))) := ((Kept.refl [gr] w).setCell (p := ⟨gr, k * 4 + 1, none⟩) (.inl (by simp)) _).setCell (p := ⟨gr, k * 4 + 2, none⟩) (.inl (by simp)) _
  have lc := rgCells_length N.regs
  have h1 := (World.ownsRow.stored h.rb (k * 4 + 1) (.int .u32 (d : Int))).1
  have h2 := (World.ownsRow.stored h1 (k * 4 + 2) (.int .u32 (en : Int))).1
  rw [← rgCells_put _ _ _ _ hk] at h2
  exact ⟨h.setRegs hkp (putR_length _ _ _ _) h2, hkp⟩
end
theorem RBusesAt.slb {a : Option Addr} {c : Nat} {l : List Bus} {rs : List BR} (h : RBusesAt w a c l rs) : SlB w a rs := fun i hi => by
  have hl : rs.length = l.length := by rw [← h.is]; simp
  obtain ⟨gb, h1, h2⟩ := own2_form (h := h.own) (by omega)
  have hg := brCells_get rs i rs[i] (List.getElem?_eq_getElem hi)
  exact ⟨gb, h1, by rw [h2 _ (by omega), ← hg.1, Nat.mul_comm], by rw [h2 _ (by omega), ← hg.2, Nat.mul_comm]⟩
theorem rregs_sl {a : Option Addr} {c m : Nat} {l : List Rg} (hl : l.length = m) (h : w.ownsRow 0 113 4 (.slice a m c) m (rgCells l)) : SlR w a l := fun i hi => by
  rcases h.2 with ⟨hv, h0⟩ | ⟨gb, cap', cur, hv, _⟩
  · omega
  · injection hv with hv
    subst hv
    have hg := rgCells_get l i l[i] (List.getElem?_eq_getElem hi)
    have hc : ∀ j, j < 4 * m → w.cell? ⟨gb, j, none⟩ = (rgCells l)[j]? := fun j hj => World.ownsRow.cellAt h j (by omega)
    exact ⟨gb, rfl, by rw [hc _ (by omega), ← hg.1, Nat.mul_comm], by rw [hc _ (by omega), ← hg.2.1, Nat.mul_comm], by rw [hc _ (by omega), ← hg.2.2.1, Nat.mul_comm], by rw [hc _ (by omega), ← hg.2.2.2, Nat.mul_comm]⟩
end Go.Proofs.YtnjoklcddodfeaaGreatDoor
