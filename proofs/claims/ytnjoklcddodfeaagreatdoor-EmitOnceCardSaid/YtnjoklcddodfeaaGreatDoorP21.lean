/-
  Package orreryref06: AddOut where it goes well.
-/
import Derived.Test.YtnjoklcddodfeaaGreatDoorP20
namespace Go.Proofs.YtnjoklcddodfeaaGreatDoor
open Go.ChangeShapes Go.WideShapes Go.ChangeAt Go.RowKit
open Go.Maps (Keyed)
open Go.WideMaps
set_option linter.unusedVariables false
set_option linter.unusedSimpArgs false

variable {w w' : World} {p q n : Nat} {F R S : List Nat} {g : Gr} {N : Nt}
set_option maxHeartbeats 3200000 in
set_option maxRecDepth 100000 in
theorem addout06_good (h : RNetAt w n F R N) (hok : N.g.nodes.length ≤ 50000 ∧ N.outb.length ≤ 100000) (s : ByteArray) (hs : s.size ≤ 140737488351232) (a : Option Addr) (c m : Nat) (l : List Nat) (hl : l.length = m) (h1 : 1 ≤ m) (h2 : m ≤ 64) (hsl : SlN w .u32 a l) (hlt : ∀ x ∈ l, x < 4294967296) (hm : mayB s = true) (hg : gone N.g l = false) (hf : findB N.outb s = none) :
    Calls Tryz.prog 71 #[.pointer (some ⟨n, 0, none⟩), .string s, .slice a m c] w (RSetPost ({ N with outb := N.outb ++ [⟨s, l⟩] }, 0) w n F R) := by
  have HM := Lib.hid (fun (W : World) => mayname06 s W hs)
  rw [hm] at HM
  obtain ⟨p, G, ia, ic, ra, rc, oa, oc, ri, ro, rfl, rfl, hc⟩ := h
  have c0 := hc.c0
  have HC := Lib.hid hc
  have HTH := Lib.hid (there03 hc.gr (by omega) a c m l hl (by omega) hsl hlt)
  rw [hg] at HTH
  have HF := Lib.hid (fun (W : World) (hk : Kept [] w W) => find06 s oa oc N.outb.length ro (w := W) (by rw [← hc.ob.is]; simp) (by omega) (hc.ob.slb.kept0 hk))
  rw [(found06 (s := s) hc.ob.is).2 hf] at HF
  obtain ⟨ad, rfl, -⟩ := hsl 0 (by omega)
  have HCL := Lib.hid (fun (W : World) (hk : Kept [] w W) => show ∀ i u, (nats .u32 l)[i]? = some u → W.cell? (ad.add i) = some u from fun i u hu => by
    obtain ⟨hi, rfl⟩ := List.getElem?_eq_some_iff.1 hu
    rw [nats_length] at hi
    obtain ⟨ad', h3, h4⟩ := (hsl.kept0 hk) i hi
    injection h3 with h3
    subst h3
    rw [h4]; simp [nats])
  have lenO := hok.2
  obtain ⟨nO, hnO⟩ : ∃ k, k = N.outb.length := ⟨_, rfl⟩
  have HNO2 := Lib.hid hnO
  rw [← hnO] at lenO HF
  have HL := Lib.hid (show (nats .u32 l).length = m * 1 from by rw [nats_length, hl]; omega)
  have HL2 := Lib.hid hl
  have C4 := Lib.hid (fun (W : World) (hk : Kept [] w W) => show W.cell? ⟨n, 4, none⟩ = some (.slice oa nO oc) from by rw [HNO2.out]; exact hk.cell HC.out.c4 (by simp))
  clear hc hok hnO hm hg hf hl hlt hsl
  go_enter Tryz.func71, Tryz.ntmps71; (try simp only [List.append])
  go_wp2_with fail
  refine (HM.out _).mono ?_
  rintro e w1 ⟨rfl, rfl⟩
  go_wp2_with fail
  refine HTH.out.mono ?_
  rintro e w2 ⟨rfl, m2, hm2⟩
  have K2 := Lib.hid (show Kept [] w w2 from by rw [hm2]; exact (Kept.refl [] w).drewN _)
  have c4 := C4.out _ K2.out
  clear hm2 c0
  go_wp2_with fail
  refine (HF.out _ K2.out).mono ?_
  rintro e w3 (⟨h3, rfl, rfl⟩ | ⟨r', h3, _⟩)
  rotate_left
  · cases h3
  clear h3 HF HM HTH
  have HC3 := Lib.hid (HC.out.kept K2.out (by simp) (by simp))
  have f4 : w2.frozen? ⟨n, 4, none⟩ = false := blk_free HC3.out.blk 4
  have hob := HC3.out.ob.own
  rw [← HNO2.out] at hob
  have hnoa := HC3.out.apart.2.2.2.1
  have hnlt := blk_lt HC3.out.blk
  go_wp2_with fail
  go_region_law ((first
    | (refine step_push (news := [.string s, .slice a7 m c7]) (by rfl) (by rfl) Tryz.underlying105 rbus_info rfl (by omega) (by rfl) (by rfl) (own_kept (F := []) (w := w2) hob (by (repeat (first | with_reducible exact Kept.refl _ _ | with_reducible apply Kept.drew | with_reducible apply Kept.drewN | with_reducible apply Kept.alloc | refine Kept.trans ?_ hk7))) (by simp)) rfl (news_blk (t := 110) (Mine.heap (F := []) (by (repeat (first | (with_reducible refine Mine.new ?_ (by simp); focus (first | with_reducible rfl | (simp; done))) | with_reducible apply Mine.drew | with_reducible apply Mine.alloc))))) (by simp [Value.oneCell']) (by unfold maxLen; omega) (by omega) ?_; intro a5 c5 w5 hown5 hst5; have cw4 : w5.cell? ⟨n, 4, none⟩ = some (.slice oa nO oc) := hst5.kept.cell (Kept.cell (F := []) (w := w2) (by (repeat (first | with_reducible exact Kept.refl _ _ | with_reducible apply Kept.drew | with_reducible apply Kept.drewN | with_reducible apply Kept.alloc | refine Kept.trans ?_ hk7))) c4 (by simp)) hnoa; have fw4 : w5.frozen? ⟨n, 4, none⟩ = false := (hst5.kept.frozen (Nat.lt_of_lt_of_le hnlt (Kept.size (F := []) (by (repeat (first | with_reducible exact Kept.refl _ _ | with_reducible apply Kept.drew | with_reducible apply Kept.drewN | with_reducible apply Kept.alloc | refine Kept.trans ?_ hk7))))) hnoa).trans ((Kept.frozen (F := []) (w := w2) (by (repeat (first | with_reducible exact Kept.refl _ _ | with_reducible apply Kept.drew | with_reducible apply Kept.drewN | with_reducible apply Kept.alloc | refine Kept.trans ?_ hk7))) hnlt (by simp)).trans f4))
    | (refine step_cat (c := c) (a := none) (n := 0) (cap := 0) (xs := []) (ad := ad) (m := m) (news := nats .u32 l) (size := 1) (by rfl) (by rfl) Tryz.underlying84 u32_info rfl (by omega) ?h3 ?h4 (World.ownsRow_nil _ _ _ _) HL.out (HCL.out _ (K2.out.trans ?kkz)) (nats_one _ _) (by unfold maxLen; omega) (by omega) ?_; (case h3 => kernel_rfl); (case h4 => kernel_rfl); (case kkz => ((repeat (first | with_reducible exact Kept.refl _ _ | with_reducible apply Kept.drew | with_reducible apply Kept.drewN | with_reducible apply Kept.alloc)))); intro a7 c7 w4 ho7 hst7; have hk7 := hst7.kept; have c4b : w4.cell? ⟨n, 4, none⟩ = some (.slice oa nO oc) := Kept.cell (F := []) (w := w2) (by (repeat (first | with_reducible exact Kept.refl _ _ | with_reducible apply Kept.drew | with_reducible apply Kept.drewN | with_reducible apply Kept.alloc | refine Kept.trans ?_ hk7))) c4 (by simp); have c4c : ∀ o, (w4.alloc o).cell? ⟨n, 4, none⟩ = some (.slice oa nO oc) := (fun o => cell_alloc c4b o))))
  all_goals
    simp only [Nat.zero_add, List.nil_append] at ho7 hst7
    have O7 := Lib.hid (show Own w4 38 a7 m c7 (nats .u32 l) from ho7)
    have fr7 : ∀ b ∈ ft a7, w2.heap.size ≤ b := fun b hb => by
      rcases hst7.fresh b hb with h | h
      · simp [ft] at h
      · exact h
    have lt3 := HC3.out.lt.1
    have HR := RNetC.addOut (s := s) (l := l) (a := a7) (c := c7) (HC3.out.kept (((Kept.refl [] w2).drew.trans hk7).alloc (.cells #[.string s, .slice a7 m c7] 110)) (by simp) (by simp)) (by rw [← HNO2.out, HL2.out]; exact hown5) hst5 (O7.out.sln.kept0 ((Kept.refl [] w4).alloc _)) (fun b hb => ⟨by have := O7.out.lt b hb; simp; omega, fun hx => by have := lt3 b hx; have := fr7 b hb; omega⟩)
    rw [← HNO2.out] at HR
    have HRR := Lib.hid HR
    have SK := Lib.hid ((K2.out.trans ((Kept.refl [] w2).drew.trans hk7)).alloc (.cells #[.string s, .slice a7 m c7] 110))
    have FR7 := Lib.hid (show ∀ b ∈ ft a7, w.heap.size ≤ b from fun b hb => Nat.le_trans K2.out.size (fr7 b hb))
    clear HR fr7 lt3 hown5 hst5 cw4 fw4 c4b c4c ho7 hst7 hk7
    go_wp2
    go_ret
    exact ⟨_, _, rfl, ⟨p, G, ia, ic, ra, rc, a5, c5, ri, _, rfl, rfl, HRR.out.1⟩, ⟨(⟨SK.out.more (by simp), fun b hb => .inl hb⟩ : Stepped _ _ _ _).trans HRR.out.2, fun b hb => by
      rcases rows_out b hb with h | h
      · exact .inl h
      · exact .inr (FR7.out b h)⟩⟩
theorem addout06 (h : RNetAt w n F R N) (hok : N.g.nodes.length ≤ 50000 ∧ N.outb.length ≤ 100000) (s : ByteArray) (hs : s.size ≤ 140737488351232) (a : Option Addr) (c m : Nat) (l : List Nat) (hl : l.length = m) (hm0 : m ≤ 140737488351232) (hsl : SlN w .u32 a l) (hlt : ∀ x ∈ l, x < 4294967296) :
    Calls Tryz.prog 71 #[.pointer (some ⟨n, 0, none⟩), .string s, .slice a m c] w (RSetPost (addOut N s l) w n F R) := by
  unfold addOut
  by_cases hbad : ((!mayB s) || decide (l.length < 1) || decide (64 < l.length) || gone N.g l) = true
  · rw [if_pos hbad]
    exact addout06_bad h hok.1 s hs a c m l hl hm0 hsl hlt hbad
  · rw [if_neg hbad]
    simp only [Bool.or_eq_true, decide_eq_true_eq, not_or, Bool.not_eq_true', Bool.not_eq_false, Bool.not_eq_true] at hbad
    cases hf : findB N.outb s with
    | some k =>
      simp only [Option.isSome_some, if_true]
      exact addout06_there h hok s hs a c m l hl (by omega) (by omega) hsl hlt hbad.1.1.1 hbad.2 k hf
    | none =>
      simp only [Option.isSome_none, Bool.false_eq_true, if_false]
      exact addout06_good h hok s hs a c m l hl (by omega) (by omega) hsl hlt hbad.1.1.1 hbad.2 hf
end Go.Proofs.YtnjoklcddodfeaaGreatDoor
