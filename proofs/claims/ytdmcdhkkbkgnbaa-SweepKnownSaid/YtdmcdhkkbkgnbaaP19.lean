/-
  Package sweep: a register's constant; stuck ones; all that goes out.
  Package net: clones of registers and buses; Copy.
  Package net: AddOut.
-/
import Derived.Test.YtdmcdhkkbkgnbaaP18
import Derived.Deep.RegionHeld3
import Derived.Test.YtdmcdhkkbkgnbaaP13
namespace Go.Proofs.Ytdmcdhkkbkgnbaa
open Go.ChangeShapes Go.WideShapes Go.ChangeAt Go.RowKit
open Go.Maps (Keyed)
open Go.WideMaps
set_option linter.unusedVariables false
set_option linter.unusedSimpArgs false

variable {w w' : World} {p n : Nat} {F R S : List Nat} {g : Gr} {N : Nt}
set_option maxHeartbeats 3200000 in
set_option maxRecDepth 100000 in
theorem addout_good (h : NetAt w n F R N) (hok : N.g.nodes.length ≤ 100000 ∧ N.outb.length ≤ 100000) (s : ByteArray) (hs : s.size ≤ 140737488351232) (a : Option Addr) (c m : Nat) (l : List Nat) (hl : l.length = m) (h1 : 1 ≤ m) (h2 : m ≤ 64) (hsl : SlN w .u32 a l) (hlt : ∀ x ∈ l, x < 4294967296) (hm : mayB s = true) (hg : gone N.g l = false) (hf : findB N.outb s = none) :
    Calls Try.prog 13 #[.pointer (some ⟨n, 0, none⟩), .string s, .slice a m c] w (SetPost ({ N with outb := N.outb ++ [⟨s, l⟩] }, 0) w n F R) := by
  have HNO := Lib.hid (net_none h (show N.g.nodes.length ≤ 1000000 by omega))
  have HM := Lib.hid (fun (W : World) => mayname_c s W hs)
  rw [hm] at HM
  have HTH := Lib.hid (fun (W : World) (hk : Kept [] w W) => there_c (h.kept0 hk) (show N.g.nodes.length ≤ 200000 by omega) a c m l hl (by omega) (hsl.kept0 hk) hlt)
  rw [hg] at HTH
  obtain ⟨p, G, ia, ic, ra, rc, oa, oc, ri, ro, rfl, rfl, hc⟩ := h
  have HC := Lib.hid hc
  have HF := Lib.hid (fun (W : World) (hk : Kept [] w W) => find_c s oa oc N.outb.length ro (w := W) (by rw [← hc.ob.is]; simp) (by omega) (hc.ob.slb.kept0 hk))
  rw [findP_eq, hc.ob.is, hf] at HF
  have hane : a = none → m = 0 := fun e => by
    subst e
    obtain ⟨ad, h3, _⟩ := hsl 0 (by omega)
    cases h3
  have HCL := Lib.hid (fun (W : World) (hk : Kept [] w W) => clone_lits a c m l W hl (hsl.kept0 hk) (by omega) hane)
  have lenO := hok.2
  obtain ⟨nO, hnO⟩ : ∃ k, k = N.outb.length := ⟨_, rfl⟩
  have HNO2 := Lib.hid hnO
  rw [← hnO] at lenO HF
  have HL := Lib.hid hl
  clear hc hok hnO hm hg hf hl hlt hsl hane
  go_enter Try.func13, Try.ntmps13; (try simp only [List.append])
  go_wp2_with fail
  refine HNO.out.mono ?_
  rintro e w' ⟨rfl, rfl⟩
  go_wp2_with fail
  refine (HM.out _).mono ?_
  rintro e w1 ⟨rfl, hk1⟩
  have K1 := Lib.hid hk1
  clear hk1
  go_wp2_with fail
  refine (HTH.out _ K1.out).mono ?_
  rintro e w2 ⟨rfl, hk2⟩
  have K2 := Lib.hid (K1.out.trans hk2)
  clear hk2 K1
  have c4a : w2.cell? ⟨n, 4, none⟩ = some (.slice oa nO oc) := by rw [HNO2.out]; exact (HC.out.kept K2.out (by simp) (by simp)).c4
  go_wp2_with fail
  refine (HF.out _ K2.out).mono ?_
  rintro e w3 ⟨rfl, hk3⟩
  have K3 := Lib.hid (K2.out.trans hk3)
  clear hk3 K2 c4a
  have HC3 := Lib.hid (HC.out.kept K3.out (by simp) (by simp))
  have c4 : w3.cell? ⟨n, 4, none⟩ = some (.slice oa nO oc) := by rw [HNO2.out]; exact HC3.out.c4
  have f4 : w3.frozen? ⟨n, 4, none⟩ = false := blk_free HC3.out.blk 4
  have hob := HC3.out.ob.own
  rw [← HNO2.out] at hob
  have hnoa := HC3.out.apart.2.2.2.1
  have hnlt := blk_lt HC3.out.blk
  go_wp2_with fail
  go_region_law ((first
    | (refine step_push (news := [.string s, .slice a7 m c7]) (by rfl) (by rfl) Try.underlying33 bus_info rfl (by omega) (by rfl) (by rfl) (own_kept (F := []) (w := w3) hob (by (repeat (first | with_reducible exact Kept.refl _ _ | with_reducible apply Kept.drew | with_reducible apply Kept.drewN | with_reducible apply Kept.alloc | refine Kept.trans ?_ hk7))) (by simp)) rfl (news_blk (t := 50) (Mine.heap (F := []) (by (repeat (first | (with_reducible refine Mine.new ?_ (by simp); focus (first | rfl | (simp; done))) | with_reducible apply Mine.drew | with_reducible apply Mine.alloc))))) (by simp [Value.oneCell']) (by unfold maxLen; omega) (by omega) ?_; intro a5 c5 w5 hown5 hst5; have cw4 : w5.cell? ⟨n, 4, none⟩ = some (.slice oa nO oc) := hst5.kept.cell (Kept.cell (F := []) (w := w3) (by (repeat (first | with_reducible exact Kept.refl _ _ | with_reducible apply Kept.drew | with_reducible apply Kept.drewN | with_reducible apply Kept.alloc | refine Kept.trans ?_ hk7))) c4 (by simp)) hnoa; have fw4 : w5.frozen? ⟨n, 4, none⟩ = false := (hst5.kept.frozen (Nat.lt_of_lt_of_le hnlt (Kept.size (F := []) (by (repeat (first | with_reducible exact Kept.refl _ _ | with_reducible apply Kept.drew | with_reducible apply Kept.drewN | with_reducible apply Kept.alloc | refine Kept.trans ?_ hk7))))) hnoa).trans ((Kept.frozen (F := []) (w := w3) (by (repeat (first | with_reducible exact Kept.refl _ _ | with_reducible apply Kept.drew | with_reducible apply Kept.drewN | with_reducible apply Kept.alloc | refine Kept.trans ?_ hk7))) hnlt (by simp)).trans f4))
    | (rw [if_pos (by simp [Region.wanted])]; go_simp; (with_reducible refine (HCL.out _ (K3.out.trans ?kk)).mono ?_); (case kk => ((repeat (first | with_reducible exact Kept.refl _ _ | with_reducible apply Kept.drew | with_reducible apply Kept.drewN | with_reducible apply Kept.alloc)))); rintro e w4 ⟨a7, c7, rfl, ho7, hst7⟩; have hk7 := hst7.kept; have c4b : w4.cell? ⟨n, 4, none⟩ = some (.slice oa nO oc) := Kept.cell (F := []) (w := w3) (by (repeat (first | with_reducible exact Kept.refl _ _ | with_reducible apply Kept.drew | with_reducible apply Kept.drewN | with_reducible apply Kept.alloc | refine Kept.trans ?_ hk7))) c4 (by simp); have c4c : ∀ o, (w4.alloc o).cell? ⟨n, 4, none⟩ = some (.slice oa nO oc) := (fun o => cell_alloc c4b o); go_simp)))
  all_goals
    have fr7 : ∀ b ∈ ft a7, w3.heap.size ≤ b := fun b hb => by
      rcases hst7.fresh b hb with h | h
      · simp at h
      · exact h
    have lt3 := HC3.out.lt.1
    have HR := NetC.addOut (s := s) (l := l) (a := a7) (c := c7) (HC3.out.kept (((Kept.refl [] w3).drew.trans hk7).alloc (.cells #[.string s, .slice a7 m c7] 50)) (by simp) (by simp)) (by rw [← HNO2.out, HL.out]; exact hown5) hst5 (ho7.sln.kept0 ((Kept.refl [] w4).alloc _)) (fun b hb => ⟨by have := ho7.lt b hb; simp; omega, fun hx => by have := lt3 b hx; have := fr7 b hb; omega⟩)
    rw [← HNO2.out] at HR
    have HRR := Lib.hid HR
    have SK := Lib.hid ((K3.out.trans ((Kept.refl [] w3).drew.trans hk7)).alloc (.cells #[.string s, .slice a7 m c7] 50))
    have FR7 := Lib.hid (show ∀ b ∈ ft a7, w.heap.size ≤ b from fun b hb => Nat.le_trans K3.out.size (fr7 b hb))
    clear HR fr7 lt3 hown5 hst5 cw4 fw4 c4b c4c ho7 hst7 hk7
    go_wp2
    go_ret
    exact ⟨_, _, rfl, ⟨p, G, ia, ic, ra, rc, a5, c5, ri, _, rfl, rfl, HRR.out.1⟩, ⟨(⟨SK.out.more (by simp), fun b hb => .inl hb⟩ : Stepped _ _ _ _).trans HRR.out.2, fun b hb => by
      rcases rows_out b hb with h | h
      · exact .inl h
      · exact .inr (FR7.out b h)⟩⟩
set_option maxHeartbeats 3200000 in
set_option maxRecDepth 100000 in
theorem addout_bad (h : NetAt w n F R N) (hok : N.g.nodes.length ≤ 100000) (s : ByteArray) (hs : s.size ≤ 140737488351232) (a : Option Addr) (c m : Nat) (l : List Nat) (hl : l.length = m) (hm0 : m ≤ 140737488351232) (hsl : SlN w .u32 a l) (hlt : ∀ x ∈ l, x < 4294967296)
    (hbad : ((!mayB s) || decide (l.length < 1) || decide (64 < l.length) || gone N.g l) = true) :
    Calls Try.prog 13 #[.pointer (some ⟨n, 0, none⟩), .string s, .slice a m c] w (SetPost (N, 1) w n F R) := by
  have HNO := Lib.hid (net_none h (show N.g.nodes.length ≤ 1000000 by omega))
  have HM := Lib.hid (fun (W : World) => mayname_c s W hs)
  have HTH := Lib.hid (fun (W : World) (hk : Kept [] w W) => there_c (h.kept0 hk) (show N.g.nodes.length ≤ 200000 by omega) a c m l hl (by omega) (hsl.kept0 hk) hlt)
  have HPO := Lib.hid (fun (W : World) (hk : Kept [] w W) => SetPost.no (k := 1) h hk)
  have hc : mayB s = false ∨ (mayB s = true ∧ m < 1) ∨ (mayB s = true ∧ ¬ m < 1 ∧ 64 < m) ∨ (mayB s = true ∧ ¬ m < 1 ∧ ¬ 64 < m ∧ gone N.g l = true) := by
    rw [hl] at hbad
    cases hm : mayB s
    · exact .inl rfl
    · rw [hm] at hbad
      by_cases h1 : m < 1
      · exact .inr (.inl ⟨rfl, h1⟩)
      · by_cases h2 : 64 < m
        · exact .inr (.inr (.inl ⟨rfl, h1, h2⟩))
        · refine .inr (.inr (.inr ⟨rfl, h1, h2, ?_⟩))
          simpa [h1, h2] using hbad
  generalize ((N, 1) : Nt × Nat) = res at *
  clear h hbad hl hsl hlt
  rcases hc with hm | ⟨hm, h1⟩ | ⟨hm, h1, h2⟩ | ⟨hm, h1, h2, hg⟩
  rotate_left 3
  · rw [hm] at HM
    rw [hg] at HTH
    clear hm hg
    go_enter Try.func13, Try.ntmps13; (try simp only [List.append])
    go_wp2_with fail
    refine HNO.out.mono ?_
    rintro e w' ⟨rfl, rfl⟩
    go_wp2_with fail
    refine (HM.out _).mono ?_
    rintro e w1 ⟨rfl, hk1⟩
    have K1 := Lib.hid hk1
    clear hk1
    go_wp2_with fail
    refine (HTH.out _ K1.out).mono ?_
    rintro e w2 ⟨rfl, hk2⟩
    have K2 := Lib.hid (K1.out.trans hk2)
    clear hk2
    go_wp2_with fail
    go_ret
    exact HPO.out _ K2.out
  all_goals
    rw [hm] at HM
    clear hm HTH
    go_enter Try.func13, Try.ntmps13; (try simp only [List.append])
    go_wp2_with fail
    refine HNO.out.mono ?_
    rintro e w' ⟨rfl, rfl⟩
    go_wp2_with fail
    refine (HM.out _).mono ?_
    rintro e w1 ⟨rfl, hk1⟩
    have K1 := Lib.hid hk1
    clear hk1
    go_wp2_with fail
    go_ret
    exact HPO.out _ K1.out
set_option maxHeartbeats 3200000 in
set_option maxRecDepth 100000 in
theorem addout_there (h : NetAt w n F R N) (hok : N.g.nodes.length ≤ 100000 ∧ N.outb.length ≤ 100000) (s : ByteArray) (hs : s.size ≤ 140737488351232) (a : Option Addr) (c m : Nat) (l : List Nat) (hl : l.length = m) (h1 : 1 ≤ m) (h2 : m ≤ 64) (hsl : SlN w .u32 a l) (hlt : ∀ x ∈ l, x < 4294967296) (hm : mayB s = true) (hg : gone N.g l = false) (k : Nat) (hf : findB N.outb s = some k) :
    Calls Try.prog 13 #[.pointer (some ⟨n, 0, none⟩), .string s, .slice a m c] w (SetPost (N, 9) w n F R) := by
  have HNO := Lib.hid (net_none h (show N.g.nodes.length ≤ 1000000 by omega))
  have HM := Lib.hid (fun (W : World) => mayname_c s W hs)
  rw [hm] at HM
  have HTH := Lib.hid (fun (W : World) (hk : Kept [] w W) => there_c (h.kept0 hk) (show N.g.nodes.length ≤ 200000 by omega) a c m l hl (by omega) (hsl.kept0 hk) hlt)
  rw [hg] at HTH
  have HPO := Lib.hid (fun (W : World) (hk : Kept [] w W) => SetPost.no (k := 9) h hk)
  generalize ((N, 9) : Nt × Nat) = res at *
  obtain ⟨p, G, ia, ic, ra, rc, oa, oc, ri, ro, rfl, rfl, hc⟩ := h
  have c4 := hc.c4
  have HF := Lib.hid (fun (W : World) (hk : Kept [] w W) => find_c s oa oc N.outb.length ro (w := W) (by rw [← hc.ob.is]; simp) (by omega) (hc.ob.slb.kept0 hk))
  rw [findP_eq, hc.ob.is, hf] at HF
  have C4 := Lib.hid (fun (W : World) (hk : Kept [] w W) => hk.cell c4 (by simp))
  clear hc hm hf c4 hg hl hsl hlt
  go_enter Try.func13, Try.ntmps13; (try simp only [List.append])
  go_wp2_with fail
  refine HNO.out.mono ?_
  rintro e w' ⟨rfl, rfl⟩
  go_wp2_with fail
  refine (HM.out _).mono ?_
  rintro e w1 ⟨rfl, hk1⟩
  have K1 := Lib.hid hk1
  clear hk1
  go_wp2_with fail
  refine (HTH.out _ K1.out).mono ?_
  rintro e w2 ⟨rfl, hk2⟩
  have K2 := Lib.hid (K1.out.trans hk2)
  have c4 := C4.out _ K2.out
  clear hk2
  go_wp2_with fail
  refine (HF.out _ K2.out).mono ?_
  rintro e w3 ⟨rfl, hk3⟩
  have K3 := Lib.hid (K2.out.trans hk3)
  clear hk3 c4
  go_wp2_with fail
  go_ret
  exact HPO.out _ K3.out
theorem addout_c (h : NetAt w n F R N) (hok : N.g.nodes.length ≤ 100000 ∧ N.outb.length ≤ 100000) (s : ByteArray) (hs : s.size ≤ 140737488351232) (a : Option Addr) (c m : Nat) (l : List Nat) (hl : l.length = m) (hm0 : m ≤ 140737488351232) (hsl : SlN w .u32 a l) (hlt : ∀ x ∈ l, x < 4294967296) :
    Calls Try.prog 13 #[.pointer (some ⟨n, 0, none⟩), .string s, .slice a m c] w (SetPost (addOut N s l) w n F R) := by
  unfold addOut
  by_cases hbad : ((!mayB s) || decide (l.length < 1) || decide (64 < l.length) || gone N.g l) = true
  · rw [if_pos hbad]
    exact addout_bad h hok.1 s hs a c m l hl hm0 hsl hlt hbad
  · rw [if_neg hbad]
    simp only [Bool.or_eq_true, decide_eq_true_eq, not_or, Bool.not_eq_true', Bool.not_eq_false, Bool.not_eq_true] at hbad
    cases hf : findB N.outb s with
    | some k =>
      simp only [Option.isSome_some, if_true]
      exact addout_there h hok s hs a c m l hl (by omega) (by omega) hsl hlt hbad.1.1.1 hbad.2 k hf
    | none =>
      simp only [Option.isSome_none, Bool.false_eq_true, if_false]
      exact addout_good h hok s hs a c m l hl (by omega) (by omega) hsl hlt hbad.1.1.1 hbad.2 hf
end Go.Proofs.Ytdmcdhkkbkgnbaa

namespace Go.Proofs.Ytdmcdhkkbkgnbaa
open Go.ChangeShapes Go.WideShapes Go.ChangeAt Go.RowKit
open Go.Maps (Keyed)
open Go.WideMaps
set_option linter.unusedVariables false
set_option linter.unusedSimpArgs false

variable {w w' : World} {p n : Nat} {F R S : List Nat} {g : Gr} {N : Nt}
theorem rgCells_one (l : List Rg) : ∀ u ∈ rgCells l, u.oneCell' = true := by
  intro u hu
  simp only [rgCells, List.mem_flatMap, List.mem_cons, List.not_mem_nil, or_false] at hu
  obtain ⟨p, _, rfl | rfl | rfl | rfl⟩ := hu <;> rfl
def NewRegs (l : List Rg) (n : Nat) (w : World) (e : Ending) (w' : World) : Prop := ∃ a c, e = .returned (.slice a n c) ∧ w'.ownsRow 0 55 4 (.slice a n c) n (rgCells l) ∧ Stepped w w' [] (ft a)
/-- buses of one's own, new -/
def NewBuses (l : List Bus) (n : Nat) (w : World) (e : Ending) (w' : World) : Prop :=
  ∃ a c rs, e = .returned (.slice a n c) ∧ BusesAt w' a c l rs ∧ Kept [] w w' ∧ (∀ b ∈ ft a, w.heap.size ≤ b) ∧ ∀ b ∈ rowsOf rs, w.heap.size ≤ b ∧ b ∉ ft a
theorem take_snoc_bus (l : List Bus) (k : Nat) (h : k < l.length) : l.take (k + 1) = l.take k ++ [l[k]] := by
  rw [List.take_succ_eq_append_getElem h]
theorem keep5' {w w' : World} {a0 a1 a2 a3 a4 : Addr} {v0 v1 v2 v3 v4 : Value} (hk : Kept [] w w') (h0 : w.cell? a0 = some v0) (h1 : w.cell? a1 = some v1) (h2 : w.cell? a2 = some v2) (h3 : w.cell? a3 = some v3) (h4 : w.cell? a4 = some v4) :
    w'.cell? a0 = some v0 ∧ w'.cell? a1 = some v1 ∧ w'.cell? a2 = some v2 ∧ w'.cell? a3 = some v3 ∧ w'.cell? a4 = some v4 :=
  ⟨hk.cell h0 (by simp), hk.cell h1 (by simp), hk.cell h2 (by simp), hk.cell h3 (by simp), hk.cell h4 (by simp)⟩
/-- a netlist of its own beside the old one -/
def CopyN (N : Nt) (w : World) (e : Ending) (w' : World) : Prop := ∃ n' F' R', e = .returned (.pointer (some ⟨n', 0, none⟩)) ∧ NetAt w' n' F' R' N ∧ Kept [] w w' ∧ ∀ b ∈ F' ++ R', w.heap.size ≤ b
end Go.Proofs.Ytdmcdhkkbkgnbaa

namespace Go.Proofs.Ytdmcdhkkbkgnbaa
open Go.ChangeShapes Go.WideShapes Go.ChangeAt Go.RowKit
open Go.Maps (Keyed)
open Go.WideMaps
set_option linter.unusedVariables false
set_option linter.unusedSimpArgs false

variable {w w' W : World} {p n k : Nat} {F R S : List Nat} {g : Gr} {N : Nt}
def rgV (r : Rg) : Value := .agg #[.int .u32 (r.q : Int), .int .u32 (r.d : Int), .int .u32 (r.en : Int), .bool r.init]
def LitIs (x : Nat) (w : World) (e : Ending) (w' : World) : Prop := e = .returned (.int .u32 (x : Int)) ∧ Kept [] w w'
theorem ifL_first (r : Rg) : ifL 0 r.init = firstR r := by unfold ifL firstR ntL; cases r.init <;> rfl
set_option maxRecDepth 100000 in
theorem first_c (r : Rg) (w : World) : Calls Try.prog 44 #[rgV r] w (LitIs (firstR r) w) := by
  have HI := Lib.hid (fun V => lit_if 0 r.init V (by omega))
  rw [ifL_first] at HI
  unfold rgV
  obtain ⟨fr, hfr⟩ : ∃ x, x = firstR r := ⟨_, rfl⟩
  rw [← hfr] at HI ⊢
  clear hfr
  obtain ⟨q, d, en, init⟩ := r
  simp only at HI ⊢
  go_enter Try.func44, Try.ntmps44
  go_wp2_with fail
  refine (HI.out _).mono ?_
  rintro e w' ⟨rfl, rfl⟩
  go_wp2_with fail
  go_ret
  exact ⟨rfl, (Kept.refl [] w).alloc _⟩
theorem keep_4 {w w' : World} {a0 a1 a2 a3 : Addr} {v0 v1 v2 v3 : Value} (hk : Kept [] w w') (h0 : w.cell? a0 = some v0) (h1 : w.cell? a1 = some v1) (h2 : w.cell? a2 = some v2) (h3 : w.cell? a3 = some v3) :
    w'.cell? a0 = some v0 ∧ w'.cell? a1 = some v1 ∧ w'.cell? a2 = some v2 ∧ w'.cell? a3 = some v3 :=
  ⟨hk.cell h0 (by simp), hk.cell h1 (by simp), hk.cell h2 (by simp), hk.cell h3 (by simp)⟩
set_option maxHeartbeats 1600000 in
set_option maxRecDepth 100000 in
theorem stuck_c (r : Rg) (w : World) : Calls Try.prog 19 #[rgV r] w (BoolIs (stuckR r) w) := by
  have HF := Lib.hid (fun V => first_c r V)
  have HS := Lib.hid (show stuckR r = (decide (r.en = 0) || decide (r.d = r.q) || decide (r.d = firstR r)) from rfl)
  unfold rgV at HF ⊢
  obtain ⟨fr, hfr⟩ : ∃ x, x = firstR r := ⟨_, rfl⟩
  rw [← hfr] at HF HS
  rw [HS.out]
  clear hfr HS
  obtain ⟨q, d, en, init⟩ := r
  simp only at HF ⊢
  by_cases h1 : en = 0
  · subst h1
    go_enter Try.func19, Try.ntmps19
    go_wp2_with fail
    go_quiet (fail)
    go_wp2_with fail
    go_ret
    exact ⟨by simp, ((Kept.refl [] w).alloc _).drewN _⟩
  · by_cases h2 : d = q
    · subst h2
      have e1 : ((en : Int) == 0) = false := by simp; omega
      go_enter Try.func19, Try.ntmps19
      go_wp2_with fail
      go_quiet (fail)
      go_wp2_with fail
      go_ret
      exact ⟨by simp, ((Kept.refl [] w).alloc _).drewN _⟩
    · have e1 : ((en : Int) == 0) = false := by simp; omega
      have e2 : ((d : Int) == (q : Int)) = false := by simp; omega
      obtain ⟨V, hV⟩ : ∃ V, V = w.alloc (.cells #[.int .u32 (q : Int), .int .u32 (d : Int), .int .u32 (en : Int), .bool init] 55) := ⟨_, rfl⟩
      obtain ⟨b, hb⟩ : ∃ b, b = w.heap.size := ⟨_, rfl⟩
      have KV := Lib.hid (show Kept [] w V from by rw [hV]; exact (Kept.refl [] w).alloc _)
      have hbl : V.heap[b]? = some (.cells #[.int .u32 (q : Int), .int .u32 (d : Int), .int .u32 (en : Int), .bool init] 55 (0, 0)) := by rw [hV, hb]; exact heap_alloc_new w _
      have d0 : V.cell? ⟨b, 0, none⟩ = some (.int .u32 (q : Int)) := blk_cell hbl 0
      have d1 : V.cell? ⟨b, 1, none⟩ = some (.int .u32 (d : Int)) := blk_cell hbl 1
      have d2 : V.cell? ⟨b, 2, none⟩ = some (.int .u32 (en : Int)) := blk_cell hbl 2
      have d3 : V.cell? ⟨b, 3, none⟩ = some (.bool init) := blk_cell hbl 3
      clear hbl
      go_enter Try.func19, Try.ntmps19
      go_wp2_with fail
      rw [← hV, ← hb]
      clear hV hb
      go_region_held3 (fun w' => w'.cell? ⟨b, 0, none⟩ = some (.int .u32 (q : Int)) ∧ w'.cell? ⟨b, 1, none⟩ = some (.int .u32 (d : Int)) ∧ w'.cell? ⟨b, 2, none⟩ = some (.int .u32 (en : Int)) ∧ w'.cell? ⟨b, 3, none⟩ = some (.bool init))
        (first | exact keep_4 (w := V) (by (repeat (first | with_reducible exact Kept.refl _ _ | with_reducible apply Kept.drew | with_reducible apply Kept.drewN | with_reducible apply Kept.alloc | refine Kept.trans ?_ k2))) d0 d1 d2 d3 | go_keep)
        (first | (go_at_call 44; (with_reducible refine (HF.out _).mono ?_); rintro e u2 ⟨rfl, k2⟩))
      all_goals
        have KZ := Lib.hid (show Kept [] V u2 from by (repeat (first | with_reducible exact Kept.refl _ _ | with_reducible apply Kept.drew | with_reducible apply Kept.drewN | with_reducible apply Kept.alloc | refine Kept.trans ?_ k2)))
        clear k2 d0 d1 d2 d3
        go_wp2_with fail
        go_ret
        refine ⟨?_, KV.out.trans KZ.out⟩
        have e3 : ((d : Int) == (fr : Int)) = decide (d = fr) := by rw [Bool.eq_iff_iff]; simp; omega
        simp [h1, h2, e3]
def LitsNew (l : List Nat) (w : World) (e : Ending) (w' : World) : Prop := ∃ a c, e = .returned (.slice a l.length c) ∧ Own w' 41 a l.length c (nats .u32 l) ∧ Kept [] w w' ∧ ∀ b ∈ ft a, w.heap.size ≤ b
def outsTo (N : Nt) (m : Nat) : List Nat := (N.outb.take m).flatMap (·.lits)
theorem outsTo_succ {b : Bus} {m : Nat} (h : N.outb[m]? = some b) : outsTo N (m + 1) = outsTo N m ++ b.lits := by
  obtain ⟨h1, h2⟩ := List.getElem?_eq_some_iff.1 h
  unfold outsTo
  rw [List.take_succ_eq_append_getElem h1, List.flatMap_append, h2]
  simp
theorem outsTo_len (hf : NtFine k N) (m : Nat) : (outsTo N m).length ≤ 64 * m := by
  induction m with
  | zero => simp [outsTo]
  | succ m ih =>
    cases h : N.outb[m]? with
    | none =>
      have : N.outb.length ≤ m := List.getElem?_eq_none_iff.1 h
      unfold outsTo at *
      rw [List.take_of_length_le (by omega)]
      rw [List.take_of_length_le this] at ih
      omega
    | some b =>
      rw [outsTo_succ h, List.length_append]
      have := (hf.ok.ol b (List.mem_of_getElem? h)).2.1
      omega
theorem outsTo_all (N : Nt) : outsTo N N.outb.length = outsN N := by unfold outsTo outsN; rw [List.take_length]
set_option maxHeartbeats 1600000 in
set_option maxRecDepth 100000 in
theorem outs_c (h : NetAt w n F R N) (hf : NtFine k N) (hk : k ≤ 700) : Calls Try.prog 26 #[.pointer (some ⟨n, 0, none⟩)] w (LitsNew (outsN N) w) := by
  have HF := Lib.hid hf
  obtain ⟨p, G, ia, ic, ra, rc, oa, oc, ri, ro, rfl, rfl, hc⟩ := h
  have HC := Lib.hid hc
  obtain ⟨nO, hnO⟩ : ∃ m, m = N.outb.length := ⟨_, rfl⟩
  have HNO := Lib.hid hnO
  have c4 := hc.c4
  rw [← hnO] at c4
  have hno : nO ≤ 700 := by rw [hnO]; have := hf.ok.ok; omega
  have HRL := Lib.hid (show ro.length = nO from by rw [hnO, ← hc.ob.is]; simp)
  clear hc hnO hf
  go_enter Try.func26, Try.ntmps26
  go_wp2_with fail
  clear c4
  go_loopw [3, 11] (fun v i wr => ∃ (m : Nat) (a : Option Addr) (c : Nat), m ≤ nO ∧ i = .int .i64 m ∧ v = .slice a (outsTo N m).length c ∧ Own wr 41 a (outsTo N m).length c (nats .u32 (outsTo N m)) ∧ Kept [] w wr ∧ ∀ b ∈ ft a, w.heap.size ≤ b) (fun _ i _ => nO - (intOf i).toNat)
  case atStart => exact ⟨0, none, 0, Nat.zero_le _, rfl, rfl, Own.nil _ _, .refl _ _, by simp [ft]⟩
  case round =>
    obtain ⟨m, a, c, hm, rfl, rfl, ho, hkr, hfa⟩ := hrel
    have HO := Lib.hid ho
    have KR := Lib.hid hkr
    have FA := Lib.hid hfa
    clear ho hkr hfa
    by_cases hlt : m < nO
    · have hml : m < ro.length := by rw [HRL.out]; exact hlt
      obtain ⟨gb, rfl, x0, x1⟩ := (HC.out.ob.slb.kept0 KR.out) m hml
      have hrow := (HC.out.ob.rows _ (List.getElem_mem hml)).1.kept0 KR.out
      have hbo : N.outb[m]? = some ro[m].b := by rw [← HC.out.ob.is, List.getElem?_map, List.getElem?_eq_getElem hml]; rfl
      have hT := outsTo_succ hbo
      have hol := HF.out.ok.ol _ (List.mem_of_getElem? hbo)
      have hl64 := hol.2.1
      have hl1 := hol.1
      have hlen := outsTo_len HF.out m
      clear hbo hol
      generalize ro[m] = r at *
      obtain ⟨⟨nm, lits⟩, ra2, rc2⟩ := r
      simp only at x0 x1 hrow hT hl64 hl1
      obtain ⟨ad, had⟩ : ∃ ad, ra2 = some ad := by
        obtain ⟨ad, h, _⟩ := hrow 0 hl1
        exact ⟨ad, h⟩
      subst had
      obtain ⟨ln, hln⟩ : ∃ ln, ln = lits.length := ⟨_, rfl⟩
      obtain ⟨ol, hol⟩ : ∃ ol, ol = (outsTo N m).length := ⟨_, rfl⟩
      have HLN := Lib.hid hln
      have HOL := Lib.hid hol
      rw [← hln] at x1 hl64
      rw [← hol] at hlen
      have ho2 := HO.out
      rw [← hol] at ho2
      have HO2 := Lib.hid (fun o => own_kept (w := wr) ho2 ((Kept.refl [] wr).alloc o) (by simp))
      have HCL := Lib.hid (show ∀ o j u, (nats .u32 lits)[j]? = some u → (wr.alloc o).cell? (ad.add j) = some u from fun o j u hu => by
        have hj : j < lits.length := by
          have := (List.getElem?_eq_some_iff.1 hu).1
          rwa [nats_length] at this
        obtain ⟨ad2, h1, h2⟩ := hrow j hj
        injection h1 with h1
        subst h1
        have e : u = .int .u32 (lits[j] : Nat) := by
          have := (List.getElem?_eq_some_iff.1 hu).2
          rw [← this]
          simp [nats]
        rw [e]
        exact cell_alloc h2 _)
      have HT := Lib.hid hT
      rw [← hol]
      clear hrow hT hln hol ho2 hl1
      go_wp2_with (at_builtin; refine wpList_cat (news := nats .u32 lits) rfl rfl Try.underlying37 lit_info rfl (by omega) rfl rfl (HO2.out _) (by rw [nats_length, HLN.out, Nat.mul_one]) (HCL.out _) (by intro u hu; simp [nats] at hu; obtain ⟨_, _, rfl⟩ := hu; rfl) (by unfold maxLen; omega) (by omega) ?_; intro a5 c5 w5 hown5 hst5)
      have KA := Lib.hid (show Kept [] w _ from KR.out.alloc (.cells #[.string nm, .slice (some ad) ln rc2] 50))
      have hlen2 : (outsTo N (m + 1)).length = ol + ln := by rw [HT.out, List.length_append, ← HOL.out, ← HLN.out]
      refine ⟨⟨m + 1, a5, c5, by omega, by go_num, by rw [hlen2], ?_, kept_up KA.out hst5.kept FA.out, fun b hb => ?_⟩, by simp [intOf]; omega⟩
      · rw [hlen2, HT.out, show nats .u32 (outsTo N m ++ lits) = nats .u32 (outsTo N m) ++ nats .u32 lits from by simp [nats]]
        exact hown5
      · rcases hst5.fresh b hb with h | h
        · exact FA.out b h
        · exact Nat.le_trans KA.out.size h
    · obtain rfl : m = nO := by omega
      have HT := Lib.hid (show outsTo N m = outsN N from by rw [HNO.out]; exact outsTo_all N)
      go_wp2_with fail
      go_ret
      have ho := HO.out
      rw [HT.out] at ho ⊢
      exact ⟨a, c, rfl, ho, KR.out, FA.out⟩
end Go.Proofs.Ytdmcdhkkbkgnbaa
