/-
  Package net: none, find, Find, there; clones of rows of literals.
-/
import Derived.Test.YtnjoklcddodfeaaDoorNet
import Derived.Test.YtnjoklcddodfeaaDoorCone
namespace Go.Proofs.YtnjoklcddodfeaaDoor
open Go.ChangeShapes Go.WideShapes Go.ChangeAt Go.RowKit
open Go.Maps (Keyed)
open Go.WideMaps
set_option linter.unusedVariables false
set_option linter.unusedSimpArgs false

variable {w w' : World} {p n : Nat} {F R S : List Nat} {g : Gr} {N : Nt}
theorem net_none (h : NetAt w n F R N) (hm : N.g.nodes.length ≤ 1000000) : Calls Tryd.prog 27 #[.pointer (some ⟨n, 0, none⟩)] w fun e w' => e = .returned (.bool false) ∧ w = w' := by
  obtain ⟨p, G, ia, ic, ra, rc, oa, oc, ri, ro, rfl, rfl, hc⟩ := h
  have c0 := hc.c0
  have hp := hc.gr.wf.pos
  have HG := Lib.hid hc.gr
  have hne : ((N.g.nodes.length : Int) == 0) = false := by simp only [beq_eq_false_iff_ne, ne_eq]; omega
  clear hc
  go_enter Tryd.func27, Tryd.ntmps27
  go_wp2_with fail
  refine (aig_nodes HG.out hm).mono ?_
  rintro e w' ⟨rfl, rfl⟩
  go_wp2_with fail
  go_ret
  exact ⟨rfl, rfl⟩
theorem str_eq (a b : ByteArray) : (a.toList == b.toList) = decide (a = b) := by
  rw [Bool.eq_iff_iff, beq_iff_eq, decide_eq_true_eq, ByteArray.toList_eq, ByteArray.toList_eq]
  constructor
  · intro h; exact bytes_inj h
  · rintro rfl; rfl
theorem find_is (nm s : ByteArray) (v : Value) (q : Nat) (hq : w.cell? ⟨q, 0, none⟩ = some (.string s)) : Calls Tryd.prog 57 #[.agg #[.string nm, v], .pointer (some ⟨q, 0, none⟩)] w (BoolIs (decide (nm = s)) w) := by
  have hq1 : ∀ o, (w.alloc o).cell? ⟨q, 0, none⟩ = some (.string s) := fun o => cell_alloc hq o
  have HE := Lib.hid (str_eq nm s)
  go_enter Tryd.func57, Tryd.ntmps57
  go_wp2
  go_ret
  exact ⟨by rw [← HE.out]; rfl, (Kept.refl [] w).alloc _⟩
/-- buses where they lie -/
def SlB (w : World) (a : Option Addr) (rs : List BR) : Prop := ∀ i (h : i < rs.length), ∃ b, a = some ⟨b, 0, none⟩ ∧ w.cell? ⟨b, i * 2, none⟩ = some (.string rs[i].b.name) ∧ w.cell? ⟨b, i * 2 + 1, none⟩ = some (.slice rs[i].a rs[i].b.lits.length rs[i].c)
theorem SlB.kept0 {a : Option Addr} {rs : List BR} (h : SlB w a rs) (hk : Kept [] w w') : SlB w' a rs := fun i hi => by
  obtain ⟨b, h1, h2, h3⟩ := h i hi
  exact ⟨b, h1, hk.cell h2 (by simp), hk.cell h3 (by simp)⟩
theorem SlB.take {a : Option Addr} {rs : List BR} (h : SlB w a rs) (k : Nat) : SlB w a (rs.take k) := fun i hi => by
  have hi' : i < rs.length := by rw [List.length_take] at hi; omega
  obtain ⟨b, h1, h2, h3⟩ := h i hi'
  exact ⟨b, h1, by rw [h2]; simp, by rw [h3]; simp⟩
theorem BusesAt.slb {a : Option Addr} {c : Nat} {l : List Bus} {rs : List BR} (h : BusesAt w a c l rs) : SlB w a rs := fun i hi => by
  have hl : rs.length = l.length := by rw [← h.is]; simp
  obtain ⟨gb, h1, h2⟩ := own2_form (h := h.own) (by omega)
  have hg := brCells_get rs i rs[i] (List.getElem?_eq_getElem hi)
  exact ⟨gb, h1, by rw [h2 _ (by omega), ← hg.1, Nat.mul_comm], by rw [h2 _ (by omega), ← hg.2, Nat.mul_comm]⟩
def optI : Option Nat → Int
  | none => -1
  | some k => (k : Int)
def IdxIs (o : Option Nat) (w : World) (e : Ending) (w' : World) : Prop := e = .returned (.int .i64 (optI o)) ∧ Kept [] w w'
def findP (l : List BR) (s : ByteArray) : Option Nat := l.findIdx? fun r => decide (r.b.name = s)
theorem findP_eq (l : List BR) (s : ByteArray) : findP l s = findB (l.map (·.b)) s := by
  unfold findP findB
  rw [List.findIdx?_map]
  rfl
set_option maxHeartbeats 800000 in
set_option maxRecDepth 100000 in
theorem index_bus (s : ByteArray) (q : Nat) (a : Option Addr) (c len : Nat) (rs : List BR) (hl : rs.length = len) (hm : len ≤ 1000000) (hs : SlB w a rs) (hq : w.cell? ⟨q, 0, none⟩ = some (.string s)) :
    Calls Tryd.prog 56 #[.slice a len c, .func (.func 57) #[] #[.pointer (some ⟨q, 0, none⟩)]] w (IdxIs (findP rs s) w) := by
  have HL := Lib.hid hl
  have HS := Lib.hid hs
  have HF := Lib.hid (fun (W : World) (hk : Kept [] w W) (nm : ByteArray) (v : Value) => find_is nm s v q (w := W) (hk.cell hq (by simp)))
  clear hl hs hq
  go_enter Tryd.func56, Tryd.ntmps56
  go_wp2_with fail
  go_loopw [8] (fun i wr => ∃ k : Nat, k ≤ len ∧ i = .int .i64 k ∧ Kept [] w wr ∧ ∀ j (h : j < rs.length), j < k → rs[j].b.name ≠ s) (fun i _ => len - (intOf i).toNat)
  case atStart => exact ⟨0, Nat.zero_le _, rfl, .refl _ _, fun j h h2 => by omega⟩
  case round =>
    obtain ⟨k, hk, rfl, hkr, hall⟩ := hrel
    have KR := Lib.hid hkr
    have HA := Lib.hid hall
    clear hkr hall
    by_cases hlt : k < len
    · have hkl : k < rs.length := by rw [HL.out]; exact hlt
      obtain ⟨b, rfl, h1, h2⟩ := (HS.out.kept0 KR.out) k hkl
      have HR := Lib.hid (fun (hn : rs[k].b.name = s) => show findP rs s = some k from by
        unfold findP
        rw [List.findIdx?_eq_some_iff_getElem]
        exact ⟨hkl, by simpa using hn, fun j hj => by simpa using HA.out j (by omega) hj⟩)
      have HN := Lib.hid (fun (hn : rs[k].b.name ≠ s) => show ∀ j (h : j < rs.length), j < k + 1 → rs[j].b.name ≠ s from fun j h hj => by
        rcases Nat.lt_or_ge j k with h3 | h3
        · exact HA.out j h h3
        · have : j = k := by omega
          subst this; exact hn)
      generalize rs[k].b.name = nm at *
      generalize rs[k].b.lits.length = ll at *
      generalize rs[k].a = ra at *
      generalize rs[k].c = rc at *
      have HF2 := Lib.hid (HF.out wr KR.out nm (.slice ra ll rc))
      by_cases hn : nm = s
      · have HR2 := Lib.hid (HR.out hn)
        rw [decide_eq_true hn] at HF2
        clear hn HR HN
        go_wp2_with fail
        refine HF2.out.mono ?_
        rintro e w1 ⟨rfl, hk1⟩
        have K1 := Lib.hid (KR.out.trans hk1)
        clear hk1
        go_wp2_with fail
        go_ret
        exact ⟨by rw [HR2.out]; rfl, K1.out⟩
      · have HN2 := Lib.hid (HN.out hn)
        rw [decide_eq_false hn] at HF2
        clear hn HR HN
        go_wp2_with fail
        refine HF2.out.mono ?_
        rintro e w1 ⟨rfl, hk1⟩
        have K1 := Lib.hid (KR.out.trans hk1)
        clear hk1
        go_wp2_with fail
        go_roundw
        case rel => exact ⟨k + 1, by omega, by go_num, K1.out, HN2.out⟩
        case measure => simp [intOf]; omega
    · obtain rfl : k = len := by omega
      have HR := Lib.hid (show findP rs s = none from by
        unfold findP
        rw [List.findIdx?_eq_none_iff]
        intro x hx
        obtain ⟨j, hj, rfl⟩ := List.getElem_of_mem hx
        simpa using HA.out j hj (by have := HL.out; omega))
      go_wp2_with fail
      go_ret
      exact ⟨by rw [HR.out]; rfl, KR.out⟩
theorem find_c (s : ByteArray) (a : Option Addr) (c len : Nat) (rs : List BR) (hl : rs.length = len) (hm : len ≤ 1000000) (hs : SlB w a rs) :
    Calls Tryd.prog 41 #[.slice a len c, .string s] w (IdxIs (findP rs s) w) := by
  have H := Lib.hid (index_bus (w := w.alloc (.cells #[.string s] 9)) s w.heap.size a c len rs hl hm (hs.kept0 ((Kept.refl [] w).alloc _)) (by simp [World.cell?_alloc_new]))
  clear hl hs
  go_enter Tryd.func41, Tryd.ntmps41
  go_wp2_with fail
  refine H.out.mono ?_
  rintro e w1 ⟨rfl, hk⟩
  have HK := Lib.hid (((Kept.refl [] w).alloc _).trans hk)
  clear hk
  go_wp2_with fail
  go_ret
  exact ⟨rfl, HK.out⟩
theorem lit_info' : (Tryd.prog.info? 41).map (fun i => (i.zero, i.size, i.bytes)) = some (some (.int .u32 0), 1, 4) := by kernel_rfl
def NewLits (l : List Nat) (n : Nat) (w : World) (e : Ending) (w' : World) : Prop := ∃ a c, e = .returned (.slice a n c) ∧ Own w' 41 a n c (nats .u32 l) ∧ Stepped w w' [] (ft a)
/-- a row of literals that is not nil, or nil: its clone -/
theorem clone_lits (a : Option Addr) (c n : Nat) (l : List Nat) (w : World) (hl : l.length = n) (hs : SlN w .u32 a l) (hm : n ≤ 1000000) (h0 : a = none → n = 0) :
    Calls Tryd.prog 42 #[.slice a n c] w (NewLits l n w) := by
  have q := fun (w : World) (a : Option Addr) (n c : Nat) => Lib.run_eql_slice_nil (P := Tryd.prog) w 64 41 a n c 0 0 Tryd.underlying64
  have HS := Lib.hid hs; clear hs
  have HL := Lib.hid hl; clear hl
  cases a with
  | none =>
    obtain rfl := h0 rfl
    have hl0 : l = [] := List.eq_nil_of_length_eq_zero HL.out
    subst hl0
    go_enter Tryd.func42, Tryd.ntmps42
    go_wp2
    go_ret
    exact ⟨none, 0, rfl, Own.nil _ _, .refl _ _⟩
  | some ad =>
    clear h0
    have HC := Lib.hid (show ∀ j u, (nats .u32 l)[j]? = some u → (w.alloc (.cells #[] 41)).cell? (ad.add j) = some u from fun j u hu => by
      obtain ⟨hj, rfl⟩ := List.getElem?_eq_some_iff.1 hu
      rw [nats_length] at hj
      obtain ⟨ad', h1, h2⟩ := HS.out j hj
      injection h1 with h1
      subst h1
      have := cell_alloc h2 (.cells #[] 41)
      rw [this]
      simp [nats])
    go_enter Tryd.func42, Tryd.ntmps42
    go_wp2_with (at_builtin; refine wpList_cat (news := nats .u32 l) rfl rfl Tryd.underlying64 lit_info' rfl (by omega) rfl rfl (own_empty w 41 1) (by rw [nats_length, HL.out, Nat.mul_one]) HC.out (nats_one _ _) (by unfold maxLen; omega) (by omega) ?_; intro a' c' w1 hown1 hst1)
    go_ret
    refine ⟨a', c', by simp [go_sem], by simpa [Own] using hown1, ?_⟩
    have := (((Stepped.refl w []).allocOwn (.cells #[] 41))).trans (by simpa [ft] using hst1)
    exact this
theorem there_one (h : NetAt w n F R N) (hm : N.g.nodes.length ≤ 200000) (x q : Nat) (hx : x < 4294967296) (hq : w.cell? ⟨q, 0, none⟩ = some (.pointer (some ⟨n, 0, none⟩))) :
    Calls Tryd.prog 48 #[.int .u32 x, .pointer (some ⟨q, 0, none⟩)] w fun e w' => e = .returned (.bool (decide (N.g.nodes.length ≤ x / 2))) ∧ ∃ k, w' = w.drewN k := by
  obtain ⟨p, G, ia, ic, ra, rc, oa, oc, ri, ro, rfl, rfl, hc⟩ := h
  have c0 := hc.c0
  have HF := Lib.hid (show decide ((N.g.nodes.length : Int) ≤ (x : Int) / 2) = decide (N.g.nodes.length ≤ x / 2) by rw [Bool.eq_iff_iff]; simp; omega)
  have HG := Lib.hid (fun k => aig_nodes (hc.gr.kept0 ((Kept.refl [] w).drewN k)) (show N.g.nodes.length ≤ 1000000 by omega))
  clear hc
  go_enter Tryd.func48, Tryd.ntmps48
  go_wp2_with fail
  go_quiet (first
    | (go_at_call 49; exact q_same (lit_node _ _ hx))
    | (go_at_call 35; exact q_same (HG.out _)))
  go_wp2
  go_ret
  exact ⟨by rw [← HF.out]; rfl, _, rfl⟩
theorem there_c (h : NetAt w n F R N) (hm : N.g.nodes.length ≤ 200000) (a : Option Addr) (c len : Nat) (l : List Nat) (hl : l.length = len) (hlm : len ≤ 140737488351232) (hs : SlN w .u32 a l) (hx : ∀ x ∈ l, x < 4294967296) :
    Calls Tryd.prog 29 #[.pointer (some ⟨n, 0, none⟩), .slice a len c] w (BoolIs (!gone N.g l) w) := by
  have HG := Lib.hid (fun o => h.kept0 ((Kept.refl [] w).alloc o))
  have HB := Lib.hid (show (l.any fun x => decide (N.g.nodes.length ≤ x / 2)) = gone N.g l from rfl)
  have HC := Lib.hid (contains_any 48 Tryd.call48 (.pointer (some ⟨w.heap.size, 0, none⟩)) (fun x => decide (N.g.nodes.length ≤ x / 2)) a c len l (w.alloc (.cells #[.pointer (some ⟨n, 0, none⟩)] 22)) hl hlm (hs.kept0 ((Kept.refl [] w).alloc _)) (fun x hx' k =>
    there_one ((HG.out _).kept0 ((Kept.refl [] _).drewN k)) hm x w.heap.size (hx x hx') (by simp [World.cell?_alloc_new])))
  clear h hl hs hx
  generalize gone N.g l = b at *
  go_enter Tryd.func29, Tryd.ntmps29
  go_wp2_with fail
  refine HC.out.mono ?_
  rw [HB.out]
  rintro e w' ⟨rfl, k, rfl⟩
  go_wp2_with fail
  go_ret
  exact ⟨rfl, ((Kept.refl [] w).alloc _).drewN _⟩
end Go.Proofs.YtnjoklcddodfeaaDoor
