/-
  Package net: AddOut.
-/
import Derived.Test.YtnjoklcddodfeaaGreatDoorP21
namespace Go.Proofs.YtnjoklcddodfeaaGreatDoor
open Go.ChangeShapes Go.WideShapes Go.ChangeAt Go.RowKit
open Go.Maps (Keyed)
open Go.WideMaps
set_option linter.unusedVariables false
set_option linter.unusedSimpArgs false

variable {w w' : World} {p n : Nat} {F R S : List Nat} {g : Gr} {N : Nt}
set_option maxHeartbeats 3200000 in
set_option maxRecDepth 100000 in
theorem addout_good (h : NetAt w n F R N) (hok : N.g.nodes.length ≤ 100000 ∧ N.outb.length ≤ 100000) (s : ByteArray) (hs : s.size ≤ 140737488351232) (a : Option Addr) (c m : Nat) (l : List Nat) (hl : l.length = m) (h1 : 1 ≤ m) (h2 : m ≤ 64) (hsl : SlN w .u32 a l) (hlt : ∀ x ∈ l, x < 4294967296) (hm : mayB s = true) (hg : gone N.g l = false) (hf : findB N.outb s = none) :
    Calls Tryz.prog 64 #[.pointer (some ⟨n, 0, none⟩), .string s, .slice a m c] w (SetPost ({ N with outb := N.outb ++ [⟨s, l⟩] }, 0) w n F R) := by
  have HNO := Lib.hid (net_none h (show N.g.nodes.length ≤ 1000000 by omega))
  have HM := Lib.hid (fun (W : World) => mayname_c s W hs)
  rw [hm] at HM
  have HTH := Lib.hid (fun (W : World) (hk : Kept [] w W) => there_c (h.kept0 hk) (show N.g.nodes.length ≤ 200000 by omega) a c m l hl (by omega) (hsl.kept0 hk) hlt)
  rw [hg] at HTH
  obtain ⟨p, G, ia, ic, ra, rc, oa, oc, ri, ro, rfl, rfl, hc⟩ := h
  have HC := Lib.hid hc
  have HF := Lib.hid (fun (W : World) (hk : Kept [] w W) => find_c s oa oc N.outb.length ro (w := W) (by rw [← hc.ob.is]; simp) (by omega) (hc.ob.slb.kept0 hk))
  rw [findP_eq, hc.ob.is, hf] at HF
  have hane : a = none → m = 0 := fun e => by
    subst e
    obtain ⟨ad, h3, _⟩ := hsl 0 (by omega)
    cases h3
  have HCL := Lib.hid (fun (W : World) (hk : Kept [] w W) => clone_lits a c m l W hl (hsl.kept0 hk) (by omega) hane)
  have lenO := hok.2
  obtain ⟨nO, hnO⟩ : ∃ k, k = N.outb.length := ⟨_, rfl⟩
  have HNO2 := Lib.hid hnO
  rw [← hnO] at lenO HF
  have HL := Lib.hid hl
  clear hc hok hnO hm hg hf hl hlt hsl hane
  go_enter Tryz.func64, Tryz.ntmps64; (try simp only [List.append])
  go_wp2_with fail
  refine HNO.out.mono ?_
  rintro e w' ⟨rfl, rfl⟩
  go_wp2_with fail
  refine (HM.out _).mono ?_
  rintro e w1 ⟨rfl, hk1⟩
  have K1 := Lib.hid hk1
  clear hk1
  go_wp2_with fail
  refine (HTH.out _ K1.out).mono ?_
  rintro e w2 ⟨rfl, hk2⟩
  have K2 := Lib.hid (K1.out.trans hk2)
  clear hk2 K1
  have c4a : w2.cell? ⟨n, 4, none⟩ = some (.slice oa nO oc) := by rw [HNO2.out]; exact (HC.out.kept K2.out (by simp) (by simp)).c4
  go_wp2_with fail
  refine (HF.out _ K2.out).mono ?_
  rintro e w3 ⟨rfl, hk3⟩
  have K3 := Lib.hid (K2.out.trans hk3)
  clear hk3 K2 c4a
  have HC3 := Lib.hid (HC.out.kept K3.out (by simp) (by simp))
  have c4 : w3.cell? ⟨n, 4, none⟩ = some (.slice oa nO oc) := by rw [HNO2.out]; exact HC3.out.c4
  have f4 : w3.frozen? ⟨n, 4, none⟩ = false := blk_free HC3.out.blk 4
  have hob := HC3.out.ob.own
  rw [← HNO2.out] at hob
  have hnoa := HC3.out.apart.2.2.2.1
  have hnlt := blk_lt HC3.out.blk
  go_wp2_with fail
  go_region_law ((first
    | (refine step_push (news := [.string s, .slice a7 m c7]) (by rfl) (by rfl) Tryz.underlying33 bus_info rfl (by omega) (by rfl) (by rfl) (own_kept (F := []) (w := w3) hob (by (repeat (first | with_reducible exact Kept.refl _ _ | with_reducible apply Kept.drew | with_reducible apply Kept.drewN | with_reducible apply Kept.alloc | refine Kept.trans ?_ hk7))) (by simp)) rfl (news_blk (t := 79) (Mine.heap (F := []) (by (repeat (first | (with_reducible refine Mine.new ?_ (by simp); focus (first | rfl | (simp; done))) | with_reducible apply Mine.drew | with_reducible apply Mine.alloc))))) (by simp [Value.oneCell']) (by unfold maxLen; omega) (by omega) ?_; intro a5 c5 w5 hown5 hst5; have cw4 : w5.cell? ⟨n, 4, none⟩ = some (.slice oa nO oc) := hst5.kept.cell (Kept.cell (F := []) (w := w3) (by (repeat (first | with_reducible exact Kept.refl _ _ | with_reducible apply Kept.drew | with_reducible apply Kept.drewN | with_reducible apply Kept.alloc | refine Kept.trans ?_ hk7))) c4 (by simp)) hnoa; have fw4 : w5.frozen? ⟨n, 4, none⟩ = false := (hst5.kept.frozen (Nat.lt_of_lt_of_le hnlt (Kept.size (F := []) (by (repeat (first | with_reducible exact Kept.refl _ _ | with_reducible apply Kept.drew | with_reducible apply Kept.drewN | with_reducible apply Kept.alloc | refine Kept.trans ?_ hk7))))) hnoa).trans ((Kept.frozen (F := []) (w := w3) (by (repeat (first | with_reducible exact Kept.refl _ _ | with_reducible apply Kept.drew | with_reducible apply Kept.drewN | with_reducible apply Kept.alloc | refine Kept.trans ?_ hk7))) hnlt (by simp)).trans f4))
    | (rw [if_pos (by simp [Region.wanted])]; go_simp; (with_reducible refine (HCL.out _ (K3.out.trans ?kk)).mono ?_); (case kk => ((repeat (first | with_reducible exact Kept.refl _ _ | with_reducible apply Kept.drew | with_reducible apply Kept.drewN | with_reducible apply Kept.alloc)))); rintro e w4 ⟨a7, c7, rfl, ho7, hst7⟩; have hk7 := hst7.kept; have c4b : w4.cell? ⟨n, 4, none⟩ = some (.slice oa nO oc) := Kept.cell (F := []) (w := w3) (by (repeat (first | with_reducible exact Kept.refl _ _ | with_reducible apply Kept.drew | with_reducible apply Kept.drewN | with_reducible apply Kept.alloc | refine Kept.trans ?_ hk7))) c4 (by simp); have c4c : ∀ o, (w4.alloc o).cell? ⟨n, 4, none⟩ = some (.slice oa nO oc) := (fun o => cell_alloc c4b o); go_simp)))
  all_goals
    have fr7 : ∀ b ∈ ft a7, w3.heap.size ≤ b := fun b hb => by
      rcases hst7.fresh b hb with h | h
      · simp at h
      · exact h
    have lt3 := HC3.out.lt.1
    have HR := NetC.addOut (s := s) (l := l) (a := a7) (c := c7) (HC3.out.kept (((Kept.refl [] w3).drew.trans hk7).alloc (.cells #[.string s, .slice a7 m c7] 79)) (by simp) (by simp)) (by rw [← HNO2.out, HL.out]; exact hown5) hst5 (ho7.sln.kept0 ((Kept.refl [] w4).alloc _)) (fun b hb => ⟨by have := ho7.lt b hb; simp; omega, fun hx => by have := lt3 b hx; have := fr7 b hb; omega⟩)
    rw [← HNO2.out] at HR
    have HRR := Lib.hid HR
    have SK := Lib.hid ((K3.out.trans ((Kept.refl [] w3).drew.trans hk7)).alloc (.cells #[.string s, .slice a7 m c7] 79))
    have FR7 := Lib.hid (show ∀ b ∈ ft a7, w.heap.size ≤ b from fun b hb => Nat.le_trans K3.out.size (fr7 b hb))
    clear HR fr7 lt3 hown5 hst5 cw4 fw4 c4b c4c ho7 hst7 hk7
    go_wp2
    go_ret
    exact ⟨_, _, rfl, ⟨p, G, ia, ic, ra, rc, a5, c5, ri, _, rfl, rfl, HRR.out.1⟩, ⟨(⟨SK.out.more (by simp), fun b hb => .inl hb⟩ : Stepped _ _ _ _).trans HRR.out.2, fun b hb => by
      rcases rows_out b hb with h | h
      · exact .inl h
      · exact .inr (FR7.out b h)⟩⟩
set_option maxHeartbeats 3200000 in
set_option maxRecDepth 100000 in
theorem addout_bad (h : NetAt w n F R N) (hok : N.g.nodes.length ≤ 100000) (s : ByteArray) (hs : s.size ≤ 140737488351232) (a : Option Addr) (c m : Nat) (l : List Nat) (hl : l.length = m) (hm0 : m ≤ 140737488351232) (hsl : SlN w .u32 a l) (hlt : ∀ x ∈ l, x < 4294967296)
    (hbad : ((!mayB s) || decide (l.length < 1) || decide (64 < l.length) || gone N.g l) = true) :
    Calls Tryz.prog 64 #[.pointer (some ⟨n, 0, none⟩), .string s, .slice a m c] w (SetPost (N, 1) w n F R) := by
  have HNO := Lib.hid (net_none h (show N.g.nodes.length ≤ 1000000 by omega))
  have HM := Lib.hid (fun (W : World) => mayname_c s W hs)
  have HTH := Lib.hid (fun (W : World) (hk : Kept [] w W) => there_c (h.kept0 hk) (show N.g.nodes.length ≤ 200000 by omega) a c m l hl (by omega) (hsl.kept0 hk) hlt)
  have HPO := Lib.hid (fun (W : World) (hk : Kept [] w W) => SetPost.no (k := 1) h hk)
  have hc : mayB s = false ∨ (mayB s = true ∧ m < 1) ∨ (mayB s = true ∧ ¬ m < 1 ∧ 64 < m) ∨ (mayB s = true ∧ ¬ m < 1 ∧ ¬ 64 < m ∧ gone N.g l = true) := by
    rw [hl] at hbad
    cases hm : mayB s
    · exact .inl rfl
    · rw [hm] at hbad
      by_cases h1 : m < 1
      · exact .inr (.inl ⟨rfl, h1⟩)
      · by_cases h2 : 64 < m
        · exact .inr (.inr (.inl ⟨rfl, h1, h2⟩))
        · refine .inr (.inr (.inr ⟨rfl, h1, h2, ?_⟩))
          simpa [h1, h2] using hbad
  generalize ((N, 1) : Nt × Nat) = res at *
  clear h hbad hl hsl hlt
  rcases hc with hm | ⟨hm, h1⟩ | ⟨hm, h1, h2⟩ | ⟨hm, h1, h2, hg⟩
  rotate_left 3
  · rw [hm] at HM
    rw [hg] at HTH
    clear hm hg
    go_enter Tryz.func64, Tryz.ntmps64; (try simp only [List.append])
    go_wp2_with fail
    refine HNO.out.mono ?_
    rintro e w' ⟨rfl, rfl⟩
    go_wp2_with fail
    refine (HM.out _).mono ?_
    rintro e w1 ⟨rfl, hk1⟩
    have K1 := Lib.hid hk1
    clear hk1
    go_wp2_with fail
    refine (HTH.out _ K1.out).mono ?_
    rintro e w2 ⟨rfl, hk2⟩
    have K2 := Lib.hid (K1.out.trans hk2)
    clear hk2
    go_wp2_with fail
    go_ret
    exact HPO.out _ K2.out
  all_goals
    rw [hm] at HM
    clear hm HTH
    go_enter Tryz.func64, Tryz.ntmps64; (try simp only [List.append])
    go_wp2_with fail
    refine HNO.out.mono ?_
    rintro e w' ⟨rfl, rfl⟩
    go_wp2_with fail
    refine (HM.out _).mono ?_
    rintro e w1 ⟨rfl, hk1⟩
    have K1 := Lib.hid hk1
    clear hk1
    go_wp2_with fail
    go_ret
    exact HPO.out _ K1.out
set_option maxHeartbeats 3200000 in
set_option maxRecDepth 100000 in
theorem addout_there (h : NetAt w n F R N) (hok : N.g.nodes.length ≤ 100000 ∧ N.outb.length ≤ 100000) (s : ByteArray) (hs : s.size ≤ 140737488351232) (a : Option Addr) (c m : Nat) (l : List Nat) (hl : l.length = m) (h1 : 1 ≤ m) (h2 : m ≤ 64) (hsl : SlN w .u32 a l) (hlt : ∀ x ∈ l, x < 4294967296) (hm : mayB s = true) (hg : gone N.g l = false) (k : Nat) (hf : findB N.outb s = some k) :
    Calls Tryz.prog 64 #[.pointer (some ⟨n, 0, none⟩), .string s, .slice a m c] w (SetPost (N, 9) w n F R) := by
  have HNO := Lib.hid (net_none h (show N.g.nodes.length ≤ 1000000 by omega))
  have HM := Lib.hid (fun (W : World) => mayname_c s W hs)
  rw [hm] at HM
  have HTH := Lib.hid (fun (W : World) (hk : Kept [] w W) => there_c (h.kept0 hk) (show N.g.nodes.length ≤ 200000 by omega) a c m l hl (by omega) (hsl.kept0 hk) hlt)
  rw [hg] at HTH
  have HPO := Lib.hid (fun (W : World) (hk : Kept [] w W) => SetPost.no (k := 9) h hk)
  generalize ((N, 9) : Nt × Nat) = res at *
  obtain ⟨p, G, ia, ic, ra, rc, oa, oc, ri, ro, rfl, rfl, hc⟩ := h
  have c4 := hc.c4
  have HF := Lib.hid (fun (W : World) (hk : Kept [] w W) => find_c s oa oc N.outb.length ro (w := W) (by rw [← hc.ob.is]; simp) (by omega) (hc.ob.slb.kept0 hk))
  rw [findP_eq, hc.ob.is, hf] at HF
  have C4 := Lib.hid (fun (W : World) (hk : Kept [] w W) => hk.cell c4 (by simp))
  clear hc hm hf c4 hg hl hsl hlt
  go_enter Tryz.func64, Tryz.ntmps64; (try simp only [List.append])
  go_wp2_with fail
  refine HNO.out.mono ?_
  rintro e w' ⟨rfl, rfl⟩
  go_wp2_with fail
  refine (HM.out _).mono ?_
  rintro e w1 ⟨rfl, hk1⟩
  have K1 := Lib.hid hk1
  clear hk1
  go_wp2_with fail
  refine (HTH.out _ K1.out).mono ?_
  rintro e w2 ⟨rfl, hk2⟩
  have K2 := Lib.hid (K1.out.trans hk2)
  have c4 := C4.out _ K2.out
  clear hk2
  go_wp2_with fail
  refine (HF.out _ K2.out).mono ?_
  rintro e w3 ⟨rfl, hk3⟩
  have K3 := Lib.hid (K2.out.trans hk3)
  clear hk3 c4
  go_wp2_with fail
  go_ret
  exact HPO.out _ K3.out
theorem addout_c (h : NetAt w n F R N) (hok : N.g.nodes.length ≤ 100000 ∧ N.outb.length ≤ 100000) (s : ByteArray) (hs : s.size ≤ 140737488351232) (a : Option Addr) (c m : Nat) (l : List Nat) (hl : l.length = m) (hm0 : m ≤ 140737488351232) (hsl : SlN w .u32 a l) (hlt : ∀ x ∈ l, x < 4294967296) :
    Calls Tryz.prog 64 #[.pointer (some ⟨n, 0, none⟩), .string s, .slice a m c] w (SetPost (addOut N s l) w n F R) := by
  unfold addOut
  by_cases hbad : ((!mayB s) || decide (l.length < 1) || decide (64 < l.length) || gone N.g l) = true
  · rw [if_pos hbad]
    exact addout_bad h hok.1 s hs a c m l hl hm0 hsl hlt hbad
  · rw [if_neg hbad]
    simp only [Bool.or_eq_true, decide_eq_true_eq, not_or, Bool.not_eq_true', Bool.not_eq_false, Bool.not_eq_true] at hbad
    cases hf : findB N.outb s with
    | some k =>
      simp only [Option.isSome_some, if_true]
      exact addout_there h hok s hs a c m l hl (by omega) (by omega) hsl hlt hbad.1.1.1 hbad.2 k hf
    | none =>
      simp only [Option.isSome_none, Bool.false_eq_true, if_false]
      exact addout_good h hok s hs a c m l hl (by omega) (by omega) hsl hlt hbad.1.1.1 hbad.2 hf
end Go.Proofs.YtnjoklcddodfeaaGreatDoor
