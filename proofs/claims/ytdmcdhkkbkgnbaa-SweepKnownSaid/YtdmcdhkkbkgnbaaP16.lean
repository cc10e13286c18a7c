/-
  Package net: New, AddIn, AddReg.
  Package net: none, find, Find, there; clones of rows of literals.
-/
import Derived.Test.YtdmcdhkkbkgnbaaP15
import Derived.IntWalk
namespace Go.Proofs.Ytdmcdhkkbkgnbaa
open Go.ChangeShapes Go.WideShapes Go.ChangeAt Go.RowKit
open Go.Maps (Keyed)
open Go.WideMaps
set_option linter.unusedVariables false
set_option linter.unusedSimpArgs false

variable {w w' : World} {p n : Nat} {F R S : List Nat} {g : Gr} {N : Nt}
theorem net_none (h : NetAt w n F R N) (hm : N.g.nodes.length ≤ 1000000) : Calls Try.prog 31 #[.pointer (some ⟨n, 0, none⟩)] w fun e w' => e = .returned (.bool false) ∧ w = w' := by
  obtain ⟨p, G, ia, ic, ra, rc, oa, oc, ri, ro, rfl, rfl, hc⟩ := h
  have c0 := hc.c0
  have hp := hc.gr.wf.pos
  have HG := Lib.hid hc.gr
  have hne : ((N.g.nodes.length : Int) == 0) = false := by simp only [beq_eq_false_iff_ne, ne_eq]; omega
  clear hc
  go_enter Try.func31, Try.ntmps31
  go_wp2_with fail
  refine (aig_nodes HG.out hm).mono ?_
  rintro e w' ⟨rfl, rfl⟩
  go_wp2_with fail
  go_ret
  exact ⟨rfl, rfl⟩
theorem str_eq (a b : ByteArray) : (a.toList == b.toList) = decide (a = b) := by
  rw [Bool.eq_iff_iff, beq_iff_eq, decide_eq_true_eq, ByteArray.toList_eq, ByteArray.toList_eq]
  constructor
  · intro h; exact bytes_inj h
  · rintro rfl; rfl
theorem find_is (nm s : ByteArray) (v : Value) (q : Nat) (hq : w.cell? ⟨q, 0, none⟩ = some (.string s)) : Calls Try.prog 57 #[.agg #[.string nm, v], .pointer (some ⟨q, 0, none⟩)] w (BoolIs (decide (nm = s)) w) := by
  have hq1 : ∀ o, (w.alloc o).cell? ⟨q, 0, none⟩ = some (.string s) := fun o => cell_alloc hq o
  have HE := Lib.hid (str_eq nm s)
  go_enter Try.func57, Try.ntmps57
  go_wp2
  go_ret
  exact ⟨by rw [← HE.out]; rfl, (Kept.refl [] w).alloc _⟩
/-- buses where they lie -/
def SlB (w : World) (a : Option Addr) (rs : List BR) : Prop := ∀ i (h : i < rs.length), ∃ b, a = some ⟨b, 0, none⟩ ∧ w.cell? ⟨b, i * 2, none⟩ = some (.string rs[i].b.name) ∧ w.cell? ⟨b, i * 2 + 1, none⟩ = some (.slice rs[i].a rs[i].b.lits.length rs[i].c)
theorem SlB.kept0 {a : Option Addr} {rs : List BR} (h : SlB w a rs) (hk : Kept [] w w') : SlB w' a rs := fun i hi => by
  obtain ⟨b, h1, h2, h3⟩ := h i hi
  exact ⟨b, h1, hk.cell h2 (by simp), hk.cell h3 (by simp)⟩
theorem SlB.take {a : Option Addr} {rs : List BR} (h : SlB w a rs) (k : Nat) : SlB w a (rs.take k) := fun i hi => by
  have hi' : i < rs.length := by rw [List.length_take] at hi; omega
  obtain ⟨b, h1, h2, h3⟩ := h i hi'
  exact ⟨b, h1, by rw [h2]; simp, by rw [h3]; simp⟩
theorem BusesAt.slb {a : Option Addr} {c : Nat} {l : List Bus} {rs : List BR} (h : BusesAt w a c l rs) : SlB w a rs := fun i hi => by
  have hl : rs.length = l.length := by rw [← h.is]; simp
  obtain ⟨gb, h1, h2⟩ := own2_form (h := h.own) (by omega)
  have hg := brCells_get rs i rs[i] (List.getElem?_eq_getElem hi)
  exact ⟨gb, h1, by rw [h2 _ (by omega), ← hg.1, Nat.mul_comm], by rw [h2 _ (by omega), ← hg.2, Nat.mul_comm]⟩
def optI : Option Nat → Int
  | none => -1
  | some k => (k : Int)
def IdxIs (o : Option Nat) (w : World) (e : Ending) (w' : World) : Prop := e = .returned (.int .i64 (optI o)) ∧ Kept [] w w'
def findP (l : List BR) (s : ByteArray) : Option Nat := l.findIdx? fun r => decide (r.b.name = s)
theorem findP_eq (l : List BR) (s : ByteArray) : findP l s = findB (l.map (·.b)) s := by
  unfold findP findB
  rw [List.findIdx?_map]
  rfl
set_option maxHeartbeats 800000 in
set_option maxRecDepth 100000 in
theorem index_bus (s : ByteArray) (q : Nat) (a : Option Addr) (c len : Nat) (rs : List BR) (hl : rs.length = len) (hm : len ≤ 1000000) (hs : SlB w a rs) (hq : w.cell? ⟨q, 0, none⟩ = some (.string s)) :
    Calls Try.prog 56 #[.slice a len c, .func (.func 57) #[] #[.pointer (some ⟨q, 0, none⟩)]] w (IdxIs (findP rs s) w) := by
  have HL := Lib.hid hl
  have HS := Lib.hid hs
  have HF := Lib.hid (fun (W : World) (hk : Kept [] w W) (nm : ByteArray) (v : Value) => find_is nm s v q (w := W) (hk.cell hq (by simp)))
  clear hl hs hq
  go_enter Try.func56, Try.ntmps56
  go_wp2_with fail
  go_loopw [8] (fun i wr => ∃ k : Nat, k ≤ len ∧ i = .int .i64 k ∧ Kept [] w wr ∧ ∀ j (h : j < rs.length), j < k → rs[j].b.name ≠ s) (fun i _ => len - (intOf i).toNat)
  case atStart => exact ⟨0, Nat.zero_le _, rfl, .refl _ _, fun j h h2 => by omega⟩
  case round =>
    obtain ⟨k, hk, rfl, hkr, hall⟩ := hrel
    have KR := Lib.hid hkr
    have HA := Lib.hid hall
    clear hkr hall
    by_cases hlt : k < len
    · have hkl : k < rs.length := by rw [HL.out]; exact hlt
      obtain ⟨b, rfl, h1, h2⟩ := (HS.out.kept0 KR.out) k hkl
      have HR := Lib.hid (fun (hn : rs[k].b.name = s) => show findP rs s = some k from by
        unfold findP
        rw [List.findIdx?_eq_some_iff_getElem]
        exact ⟨hkl, by simpa using hn, fun j hj => by simpa using HA.out j (by omega) hj⟩)
      have HN := Lib.hid (fun (hn : rs[k].b.name ≠ s) => show ∀ j (h : j < rs.length), j < k + 1 → rs[j].b.name ≠ s from fun j h hj => by
        rcases Nat.lt_or_ge j k with h3 | h3
        · exact HA.out j h h3
        · have : j = k := by omega
          subst this; exact hn)
      generalize rs[k].b.name = nm at *
      generalize rs[k].b.lits.length = ll at *
      generalize rs[k].a = ra at *
      generalize rs[k].c = rc at *
      have HF2 := Lib.hid (HF.out wr KR.out nm (.slice ra ll rc))
      by_cases hn : nm = s
      · have HR2 := Lib.hid (HR.out hn)
        rw [decide_eq_true hn] at HF2
        clear hn HR HN
        go_wp2_with fail
        refine HF2.out.mono ?_
        rintro e w1 ⟨rfl, hk1⟩
        have K1 := Lib.hid (KR.out.trans hk1)
        clear hk1
        go_wp2_with fail
        go_ret
        exact ⟨by rw [HR2.out]; rfl, K1.out⟩
      · have HN2 := Lib.hid (HN.out hn)
        rw [decide_eq_false hn] at HF2
        clear hn HR HN
        go_wp2_with fail
        refine HF2.out.mono ?_
        rintro e w1 ⟨rfl, hk1⟩
        have K1 := Lib.hid (KR.out.trans hk1)
        clear hk1
        go_wp2_with fail
        go_roundw
        case rel => exact ⟨k + 1, by omega, by go_num, K1.out, HN2.out⟩
        case measure => simp [intOf]; omega
    · obtain rfl : k = len := by omega
      have HR := Lib.hid (show findP rs s = none from by
        unfold findP
        rw [List.findIdx?_eq_none_iff]
        intro x hx
        obtain ⟨j, hj, rfl⟩ := List.getElem_of_mem hx
        simpa using HA.out j hj (by have := HL.out; omega))
      go_wp2_with fail
      go_ret
      exact ⟨by rw [HR.out]; rfl, KR.out⟩
theorem find_c (s : ByteArray) (a : Option Addr) (c len : Nat) (rs : List BR) (hl : rs.length = len) (hm : len ≤ 1000000) (hs : SlB w a rs) :
    Calls Try.prog 32 #[.slice a len c, .string s] w (IdxIs (findP rs s) w) := by
  have H := Lib.hid (index_bus (w := w.alloc (.cells #[.string s] 9)) s w.heap.size a c len rs hl hm (hs.kept0 ((Kept.refl [] w).alloc _)) (by simp [World.cell?_alloc_new]))
  clear hl hs
  go_enter Try.func32, Try.ntmps32
  go_wp2_with fail
  refine H.out.mono ?_
  rintro e w1 ⟨rfl, hk⟩
  have HK := Lib.hid (((Kept.refl [] w).alloc _).trans hk)
  clear hk
  go_wp2_with fail
  go_ret
  exact ⟨rfl, HK.out⟩
theorem lit_info' : (Try.prog.info? 41).map (fun i => (i.zero, i.size, i.bytes)) = some (some (.int .u32 0), 1, 4) := by kernel_rfl
def NewLits (l : List Nat) (n : Nat) (w : World) (e : Ending) (w' : World) : Prop := ∃ a c, e = .returned (.slice a n c) ∧ Own w' 41 a n c (nats .u32 l) ∧ Stepped w w' [] (ft a)
/-- a row of literals that is not nil, or nil: its clone -/
theorem clone_lits (a : Option Addr) (c n : Nat) (l : List Nat) (w : World) (hl : l.length = n) (hs : SlN w .u32 a l) (hm : n ≤ 1000000) (h0 : a = none → n = 0) :
    Calls Try.prog 35 #[.slice a n c] w (NewLits l n w) := by
  have q := fun (w : World) (a : Option Addr) (n c : Nat) => Lib.run_eql_slice_nil (P := Try.prog) w 37 41 a n c 0 0 Try.underlying37
  have HS := Lib.hid hs; clear hs
  have HL := Lib.hid hl; clear hl
  cases a with
  | none =>
    obtain rfl := h0 rfl
    have hl0 : l = [] := List.eq_nil_of_length_eq_zero HL.out
    subst hl0
    go_enter Try.func35, Try.ntmps35
    go_wp2
    go_ret
    exact ⟨none, 0, rfl, Own.nil _ _, .refl _ _⟩
  | some ad =>
    clear h0
    have HC := Lib.hid (show ∀ j u, (nats .u32 l)[j]? = some u → (w.alloc (.cells #[] 41)).cell? (ad.add j) = some u from fun j u hu => by
      obtain ⟨hj, rfl⟩ := List.getElem?_eq_some_iff.1 hu
      rw [nats_length] at hj
      obtain ⟨ad', h1, h2⟩ := HS.out j hj
      injection h1 with h1
      subst h1
      have := cell_alloc h2 (.cells #[] 41)
      rw [this]
      simp [nats])
    go_enter Try.func35, Try.ntmps35
    go_wp2_with (at_builtin; refine wpList_cat (news := nats .u32 l) rfl rfl Try.underlying37 lit_info' rfl (by omega) rfl rfl (own_empty w 41 1) (by rw [nats_length, HL.out, Nat.mul_one]) HC.out (nats_one _ _) (by unfold maxLen; omega) (by omega) ?_; intro a' c' w1 hown1 hst1)
    go_ret
    refine ⟨a', c', by simp [go_sem], by simpa [Own] using hown1, ?_⟩
    have := (((Stepped.refl w []).allocOwn (.cells #[] 41))).trans (by simpa [ft] using hst1)
    exact this
theorem there_one (h : NetAt w n F R N) (hm : N.g.nodes.length ≤ 200000) (x q : Nat) (hx : x < 4294967296) (hq : w.cell? ⟨q, 0, none⟩ = some (.pointer (some ⟨n, 0, none⟩))) :
    Calls Try.prog 60 #[.int .u32 x, .pointer (some ⟨q, 0, none⟩)] w fun e w' => e = .returned (.bool (decide (N.g.nodes.length ≤ x / 2))) ∧ ∃ k, w' = w.drewN k := by
  obtain ⟨p, G, ia, ic, ra, rc, oa, oc, ri, ro, rfl, rfl, hc⟩ := h
  have c0 := hc.c0
  have HF := Lib.hid (show decide ((N.g.nodes.length : Int) ≤ (x : Int) / 2) = decide (N.g.nodes.length ≤ x / 2) by rw [Bool.eq_iff_iff]; simp; omega)
  have HG := Lib.hid (fun k => aig_nodes (hc.gr.kept0 ((Kept.refl [] w).drewN k)) (show N.g.nodes.length ≤ 1000000 by omega))
  clear hc
  go_enter Try.func60, Try.ntmps60
  go_wp2_with fail
  go_quiet (first
    | (go_at_call 25; exact q_same (lit_node _ _ hx))
    | (go_at_call 33; exact q_same (HG.out _)))
  go_wp2
  go_ret
  exact ⟨by rw [← HF.out]; rfl, _, rfl⟩
theorem there_c (h : NetAt w n F R N) (hm : N.g.nodes.length ≤ 200000) (a : Option Addr) (c len : Nat) (l : List Nat) (hl : l.length = len) (hlm : len ≤ 140737488351232) (hs : SlN w .u32 a l) (hx : ∀ x ∈ l, x < 4294967296) :
    Calls Try.prog 38 #[.pointer (some ⟨n, 0, none⟩), .slice a len c] w (BoolIs (!gone N.g l) w) := by
  have HG := Lib.hid (fun o => h.kept0 ((Kept.refl [] w).alloc o))
  have HB := Lib.hid (show (l.any fun x => decide (N.g.nodes.length ≤ x / 2)) = gone N.g l from rfl)
  have HC := Lib.hid (contains_any 60 Try.call60 (.pointer (some ⟨w.heap.size, 0, none⟩)) (fun x => decide (N.g.nodes.length ≤ x / 2)) a c len l (w.alloc (.cells #[.pointer (some ⟨n, 0, none⟩)] 22)) hl hlm (hs.kept0 ((Kept.refl [] w).alloc _)) (fun x hx' k =>
    there_one ((HG.out _).kept0 ((Kept.refl [] _).drewN k)) hm x w.heap.size (hx x hx') (by simp [World.cell?_alloc_new])))
  clear h hl hs hx
  generalize gone N.g l = b at *
  go_enter Try.func38, Try.ntmps38
  go_wp2_with fail
  refine HC.out.mono ?_
  rw [HB.out]
  rintro e w' ⟨rfl, k, rfl⟩
  go_wp2_with fail
  go_ret
  exact ⟨rfl, ((Kept.refl [] w).alloc _).drewN _⟩
end Go.Proofs.Ytdmcdhkkbkgnbaa

namespace Go.Proofs.Ytdmcdhkkbkgnbaa
open Go.ChangeShapes Go.WideShapes Go.ChangeAt Go.RowKit
open Go.Maps (Keyed)
open Go.WideMaps
set_option linter.unusedVariables false
set_option linter.unusedSimpArgs false

variable {w w' : World} {p n : Nat} {F R S : List Nat} {g : Gr} {N : Nt}
theorem Stepped.aside {a b c : World} {F F' S : List Nat} (h : Stepped a b F F') (hk : Kept S b c) (hs : ∀ x ∈ S, a.heap.size ≤ x) : Stepped a c F F' :=
  ⟨⟨hk.os.trans h.kept.os, hk.tape.trans h.kept.tape, hk.output.trans h.kept.output, Nat.le_trans h.kept.size hk.size, fun k hk1 hn =>
    (hk.block k (Nat.lt_of_lt_of_le hk1 h.kept.size) (fun hm => by have := hs k hm; omega)).trans (h.kept.block k hk1 hn)⟩, h.fresh⟩
theorem bus_info : (Try.prog.info? 50).map (fun i => (i.zero, i.size, i.bytes)) = some (some (.agg #[.string ByteArray.empty, .slice none 0 0]), 2, 40) := by kernel_rfl
theorem reg_info : (Try.prog.info? 55).map (fun i => (i.zero, i.size, i.bytes)) = some (some (.agg #[.int .u32 0, .int .u32 0, .int .u32 0, .bool false]), 4, 16) := by kernel_rfl
def NewPost (N : Nt) (w : World) (e : Ending) (w' : World) : Prop := ∃ n F, e = .returned (.tuple #[.pointer (some ⟨n, 0, none⟩), .int .i64 0]) ∧ NetAt w' n F [] N ∧ Kept [] w w' ∧ ∀ b ∈ F, w.heap.size ≤ b
set_option maxHeartbeats 800000 in
theorem new_net (s : ByteArray) (o1 o2 : Bool) (w : World) (hs : s.size ≤ 140737488351232) (hm : mayB s = true) : Calls Try.prog 8 #[.string s, .agg #[.bool o1, .bool o2]] w (NewPost (newN s o1 o2) w) := by
  have H := Lib.hid (fun (W : World) => mayname_c s W hs)
  rw [hm] at H
  clear hm
  go_enter Try.func8, Try.ntmps8
  go_wp2_with fail
  refine (H.out _).mono ?_
  rintro e w1 ⟨rfl, hk1⟩
  have K1 := Lib.hid (((Kept.refl [] w).alloc (.cells #[.bool o1, .bool o2] 31)).trans hk1)
  have hq0 : w1.cell? ⟨w.heap.size, 0, none⟩ = some (.bool o1) := hk1.cell (blk_cell (heap_alloc_new w _) 0) (by simp)
  have hq1 : w1.cell? ⟨w.heap.size, 1, none⟩ = some (.bool o2) := hk1.cell (blk_cell (heap_alloc_new w _) 1) (by simp)
  clear hk1
  go_wp2_with fail
  refine (aig_new o1 o2 _).mono ?_
  rintro e w2 ⟨p, G, rfl, hg, hst⟩
  have GG := Lib.hid hg
  have K2 := Lib.hid (K1.out.trans hst.kept)
  have FR := Lib.hid (show ∀ b ∈ G, w.heap.size ≤ b from fun b hb => by
    rcases hst.fresh b hb with h | h
    · simp at h
    · exact Nat.le_trans K1.out.size h)
  clear hg hst
  go_wp2_with fail
  refine bodyPost_ret (v := .tuple #[.pointer (some ⟨w2.heap.size, 0, none⟩), .int .i64 0]) (by simp [results, Try.results8, go_sem]) rfl ⟨w2.heap.size, _, rfl, ⟨p, G, none, 0, none, 0, none, 0, [], [], rfl, by simp [rowsOf], ?_⟩, K2.out.alloc _, ?_⟩
  · have hk3 : Kept [] w2 (w2.alloc (.cells (nCells p (newN s o1 o2) none 0 none 0 none 0) 36)) := (Kept.refl [] w2).alloc _
    exact ⟨heap_alloc_new w2 _, GG.out.kept0 hk3, ⟨World.ownsRow_nil _ _ _ _, rfl, by simp⟩, World.ownsRow_nil _ _ _ _, ⟨World.ownsRow_nil _ _ _ _, rfl, by simp⟩, by simp [ft], by simp [rowsOf]⟩
  · intro b hb
    simp only [ft, List.mem_cons, List.mem_append, Option.map_none, Option.toList_none, List.not_mem_nil, or_false] at hb
    rcases hb with rfl | hb
    · exact K2.out.size
    · exact FR.out b hb
section
variable {G : List Nat} {ia ra oa : Option Addr} {ic rc oc : Nat} {ri ro : List BR}
/-- a bus more that comes in -/
theorem NetC.addIn {w1 : World} {ia' a : Option Addr} {ic' c : Nat} {s : ByteArray} {l : List Nat} (h : NetC w n N p G ia ic ra rc oa oc ri ro)
    (hown : w1.ownsRow 0 50 2 (.slice ia' (N.inb.length + 1) ic') (N.inb.length + 1) (brCells ri ++ [.string s, .slice a l.length c])) (hst : Stepped w w1 (ft ia) (ft ia')) (hrow : SlN w .u32 a l) (ha : ∀ b ∈ ft a, b < w.heap.size ∧ b ∉ n :: (G ++ (ft ia ++ (ft ra ++ ft oa)))) :
    NetC (w1.setCell ⟨n, 2, none⟩ (.slice ia' (N.inb.length + 1) ic')) n { N with inb := N.inb ++ [⟨s, l⟩] } p G ia' ic' ra rc oa oc (ri ++ [⟨⟨s, l⟩, a, c⟩]) ro ∧
    Stepped w (w1.setCell ⟨n, 2, none⟩ (.slice ia' (N.inb.length + 1) ic')) (n :: (G ++ (ft ia ++ (ft ra ++ ft oa)))) (n :: (G ++ (ft ia' ++ (ft ra ++ ft oa)))) := by
  obtain ⟨a1, a2, a3, a4, a5, a6, a7, a8, a9⟩ := h.apart
  have lt := h.lt
  have fr := h.fr
  simp only [List.mem_cons, List.mem_append, not_or] at fr ha
  have hnew : ∀ b ∈ ft ia', b ∈ ft ia ∨ w.heap.size ≤ b := hst.fresh
  have hkn : w1.heap[n]? = some (.cells (nCells p N ia ic ra rc oa oc) 36 (0, 0)) := hst.kept.heap h.blk a2
  have hn' : n ∉ ft ia' := blk_apart hkn hown (by decide)
  have hks : Kept [n] w1 (w1.setCell ⟨n, 2, none⟩ (.slice ia' (N.inb.length + 1) ic')) := (Kept.refl [n] w1).setCell (p := ⟨n, 2, none⟩) (.inl (by simp)) _
  have gk := (h.gr.kept hst.kept (fun b hb hx => a5 b hx hb)).kept hks (fun b hb hx => by simp at hx; exact a1 (hx ▸ hb))
  have rk := own_kept (own_kept h.rb hst.kept a8) hks (fun b hb hx => by simp at hx; exact a3 (hx ▸ hb))
  have ok := (h.ob.kept hst.kept (fun b hb hx => h.io b hx hb) (fun b hb => (fr b (.inr hb)).2.2.1)).kept hks (fun b hb hx => by simp at hx; exact a4 (hx ▸ hb)) (fun b hb hx => by simp at hx; exact (fr b (.inr hb)).1 hx)
  have hkk : Kept (n :: ft ia) w (w1.setCell ⟨n, 2, none⟩ (.slice ia' (N.inb.length + 1) ic')) := (hst.kept.more (fun b hb => List.mem_cons_of_mem _ hb)).trans (hks.more (fun b hb => by simp at hb; simp [hb]))
  have rows' : ∀ b ∈ rowsOf (ri ++ [⟨⟨s, l⟩, a, c⟩]) ++ rowsOf ro, b < w.heap.size ∧ b ≠ n ∧ b ∉ G ∧ b ∉ ft ia ∧ b ∉ ft ra ∧ b ∉ ft oa := by
    intro b hb
    rcases List.mem_append.1 hb with hb | hb
    · obtain ⟨r, hr, hb⟩ := mem_rowsOf.1 hb
      rcases List.mem_append.1 hr with hr | hr
      · have hm := mem_rowsOf.2 ⟨r, hr, hb⟩
        exact ⟨lt.2 b (by simp [hm]), (fr b (.inl hm)).1, (fr b (.inl hm)).2⟩
      · rw [List.mem_singleton] at hr
        subst hr
        exact ⟨(ha b hb).1, (ha b hb).2.1, (ha b hb).2.2⟩
    · exact ⟨lt.2 b (by simp [hb]), (fr b (.inr hb)).1, (fr b (.inr hb)).2⟩
  refine ⟨⟨?_, gk, ⟨?_, ?_, ?_⟩, rk, ok, ?_, ?_⟩, ⟨hkk.more ?_, ?_⟩⟩
  · rw [blk_set hkn]
    simp [nCells]
  · have := own_kept hown hks (fun b hb hx => by simp at hx; exact hn' (hx ▸ hb))
    rw [brCells_snoc ri ⟨⟨s, l⟩, a, c⟩] at this
    simpa using this
  · simp [h.ib.is]
  · intro r hr
    rcases List.mem_append.1 hr with hr | hr
    · have hm : ∀ b ∈ ft r.a, b ∈ rowsOf ri := fun b hb => mem_rowsOf.2 ⟨r, hr, hb⟩
      exact ⟨(h.ib.rows r hr).1.kept hkk (fun b hb hx => by rcases List.mem_cons.1 hx with hx | hx; exact (fr b (.inl (hm b hb))).1 hx; exact (fr b (.inl (hm b hb))).2.2.1 hx), fun b hb => Nat.lt_of_lt_of_le ((h.ib.rows r hr).2 b hb) hkk.size⟩
    · rw [List.mem_singleton] at hr
      subst hr
      exact ⟨hrow.kept hkk (fun b hb hx => by rcases List.mem_cons.1 hx with hx | hx; exact (ha b hb).2.1 hx; exact (ha b hb).2.2.2.1 hx), fun b hb => Nat.lt_of_lt_of_le (ha b hb).1 hkk.size⟩
  · intro b hb
    rcases hnew b hb with hx | hx
    · exact h.io b hx
    · exact fun ho => by have := lt.1 b (by simp [ho]); omega
  · intro b hb
    obtain ⟨h1, h2, h3, h4, h5, h6⟩ := rows' b hb
    simp only [List.mem_cons, List.mem_append, not_or]
    exact ⟨h2, h3, fun hx => by rcases hnew b hx with hx | hx; exact h4 hx; omega, h5, h6⟩
  · intro b hb
    simp only [List.mem_cons, List.mem_append] at hb ⊢
    rcases hb with hb | hb
    · exact .inl hb
    · exact .inr (.inr (.inl hb))
  · intro b hb
    simp only [List.mem_cons, List.mem_append] at hb ⊢
    rcases hb with hb | hb | hb | hb | hb
    · exact .inl (.inl hb)
    · exact .inl (.inr (.inl hb))
    · rcases hnew b hb with hx | hx
      · exact .inl (.inr (.inr (.inl hx)))
      · exact .inr hx
    · exact .inl (.inr (.inr (.inr (.inl hb))))
    · exact .inl (.inr (.inr (.inr (.inr hb))))
theorem rows_in {r : BR} : ∀ b ∈ rowsOf (ri ++ [r]) ++ rowsOf ro, b ∈ rowsOf ri ++ rowsOf ro ∨ b ∈ ft r.a := by
  intro b hb
  rcases List.mem_append.1 hb with hb | hb
  · obtain ⟨r', hr, hb'⟩ := mem_rowsOf.1 hb
    rcases List.mem_append.1 hr with hr | hr
    · exact .inl (List.mem_append_left _ (mem_rowsOf.2 ⟨r', hr, hb'⟩))
    · rw [List.mem_singleton] at hr
      subst hr
      exact .inr hb'
  · exact .inl (List.mem_append_right _ hb)
theorem rows_out {r : BR} : ∀ b ∈ rowsOf ri ++ rowsOf (ro ++ [r]), b ∈ rowsOf ri ++ rowsOf ro ∨ b ∈ ft r.a := by
  intro b hb
  rcases List.mem_append.1 hb with hb | hb
  · exact .inl (List.mem_append_left _ hb)
  · obtain ⟨r', hr, hb'⟩ := mem_rowsOf.1 hb
    rcases List.mem_append.1 hr with hr | hr
    · exact .inl (List.mem_append_right _ (mem_rowsOf.2 ⟨r', hr, hb'⟩))
    · rw [List.mem_singleton] at hr
      subst hr
      exact .inr hb'
end
def AddInPost (r : Nt × List Nat × Nat) (w : World) (n : Nat) (F R : List Nat) (e : Ending) (w' : World) : Prop :=
  ∃ F' R' a c k, e = .returned (.tuple #[.slice a k c, .int .i64 (r.2.2 : Nat)]) ∧ NetAt w' n F' R' r.1 ∧ NStep w w' F R F' R' ∧ Own w' 41 a k c (nats .u32 r.2.1) ∧ ∀ b ∈ ft a, w.heap.size ≤ b ∧ b ∉ F' ∧ b ∉ R'
theorem AddInPost.no {k : Nat} {W : World} (h : NetAt w n F R N) (hk : Kept [] w W) : AddInPost (N, [], k) w n F R (.returned (.tuple #[.slice none 0 0, .int .i64 (k : Nat)])) W :=
  ⟨F, R, none, 0, 0, rfl, h.kept0 hk, (NStep.refl w F R).keep hk, Own.nil _ _, by simp [ft]⟩
set_option maxHeartbeats 3200000 in
set_option maxRecDepth 100000 in
theorem addin_bad (h : NetAt w n F R N) (hok : N.g.nodes.length ≤ 100000 ∧ N.inb.length ≤ 100000) (s : ByteArray) (hs : s.size ≤ 140737488351232) (wd : Int) (hw1 : -9223372036854775808 ≤ wd) (hw2 : wd ≤ 9223372036854775807)
    (hbad : ((!mayB s) || decide (wd < 1) || decide (64 < wd)) = true) :
    Calls Try.prog 9 #[.pointer (some ⟨n, 0, none⟩), .string s, .int .i64 wd] w (AddInPost (N, [], 1) w n F R) := by
  have HNO := Lib.hid (net_none h (show N.g.nodes.length ≤ 1000000 by omega))
  have HM := Lib.hid (fun (W : World) => mayname_c s W hs)
  have HPO := Lib.hid (fun (W : World) (hk : Kept [] w W) => AddInPost.no (k := 1) h hk)
  have hc : mayB s = false ∨ (mayB s = true ∧ wd < 1) ∨ (mayB s = true ∧ ¬ wd < 1 ∧ 64 < wd) := by
    cases hm : mayB s
    · exact .inl rfl
    · rw [hm] at hbad
      simp at hbad
      by_cases h1 : wd < 1
      · exact .inr (.inl ⟨rfl, h1⟩)
      · exact .inr (.inr ⟨rfl, h1, by omega⟩)
  generalize ((N, [], 1) : Nt × List Nat × Nat) = res at *
  clear h hbad
  rcases hc with hm | ⟨hm, h1⟩ | ⟨hm, h1, h2⟩
  all_goals
    rw [hm] at HM
    clear hm
    go_enter Try.func9, Try.ntmps9; (try simp only [List.append])
    go_wp2_with fail
    refine HNO.out.mono ?_
    rintro e w' ⟨rfl, rfl⟩
    go_wp2_with fail
    refine (HM.out _).mono ?_
    rintro e w1 ⟨rfl, hk1⟩
    have K1 := Lib.hid hk1
    clear hk1
    go_wp2_with fail
    go_ret2
    exact HPO.out _ K1.out
set_option maxHeartbeats 3200000 in
set_option maxRecDepth 100000 in
theorem addin_there (h : NetAt w n F R N) (hok : N.g.nodes.length ≤ 100000 ∧ N.inb.length ≤ 100000) (s : ByteArray) (hs : s.size ≤ 140737488351232) (wd : Int) (h1 : 1 ≤ wd) (h2 : wd ≤ 64) (hm : mayB s = true) (k : Nat) (hf : findB N.inb s = some k) :
    Calls Try.prog 9 #[.pointer (some ⟨n, 0, none⟩), .string s, .int .i64 wd] w (AddInPost (N, [], 9) w n F R) := by
  have HNO := Lib.hid (net_none h (show N.g.nodes.length ≤ 1000000 by omega))
  have HM := Lib.hid (fun (W : World) => mayname_c s W hs)
  have HPO := Lib.hid (fun (W : World) (hk : Kept [] w W) => AddInPost.no (k := 9) h hk)
  rw [hm] at HM
  generalize ((N, [], 9) : Nt × List Nat × Nat) = res at *
  obtain ⟨p, G, ia, ic, ra, rc, oa, oc, ri, ro, rfl, rfl, hc⟩ := h
  have c2 := hc.c2
  have HF := Lib.hid (fun (W : World) (hk : Kept [] w W) => find_c s ia ic N.inb.length ri (w := W) (by rw [← hc.ib.is]; simp) (by omega) (hc.ib.slb.kept0 hk))
  rw [findP_eq, hc.ib.is, hf] at HF
  have C2 := Lib.hid (fun (W : World) (hk : Kept [] w W) => hk.cell c2 (by simp))
  clear hc hm hf c2
  go_enter Try.func9, Try.ntmps9; (try simp only [List.append])
  go_wp2_with fail
  refine HNO.out.mono ?_
  rintro e w' ⟨rfl, rfl⟩
  go_wp2_with fail
  refine (HM.out _).mono ?_
  rintro e w1 ⟨rfl, hk1⟩
  have K1 := Lib.hid hk1
  have c2 := C2.out _ hk1
  clear hk1
  go_wp2_with fail
  refine (HF.out _ K1.out).mono ?_
  rintro e w2 ⟨rfl, hk2⟩
  have K2 := Lib.hid (K1.out.trans hk2)
  clear hk2 c2
  go_wp2_with fail
  go_ret2
  exact HPO.out _ K2.out
end Go.Proofs.Ytdmcdhkkbkgnbaa
