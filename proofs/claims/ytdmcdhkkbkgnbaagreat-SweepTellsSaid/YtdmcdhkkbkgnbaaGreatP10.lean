/-
  Package net: none, find, Find, there; clones of rows of literals.
  Contracts of package cone: asks, Words, Depth.
  Contracts on known numbers; the chapter's rows (tells) of law 02.
-/
import Derived.Test.YtdmcdhkkbkgnbaaGreatP03
import Derived.Deep.RegionWith
import Derived.Test.YtdmcdhkkbkgnbaaGreatP07
import Derived.Test.YtdmcdhkkbkgnbaaGreatP09
import Derived.Deep.RegionHeld3
import Derived.Deep.RegionLaw
import Derived.Outline
namespace Go.Proofs.YtdmcdhkkbkgnbaaGreat
open Go.ChangeShapes Go.WideShapes Go.ChangeAt Go.RowKit
set_option linter.unusedVariables false

theorem c_of (n : Int) (t : Bool) (v : Nat) (x : Int) (e : Int) (hx : x = v) (hv : ofV n t = v) (he : ofE n = e) (w : World) : Calls Tryz.prog 69 #[.int .i64 n, .bool t] w fun e' w' => e' = .returned (.tuple #[.int .u32 x, .int .i64 e]) ∧ w = w' := by
  subst hx hv he; exact lit_of n t w
theorem c_fold (a b : Nat) (x y : Int) (hx : x = a) (hy : y = b) (v : Nat) (u : Int) (t : Bool) (hu : u = v) (ha : a < 4294967296) (hb : b < 4294967296) (hv : foldV a b = v) (ht : foldB a b = t) (w : World) : Calls Tryz.prog 145 #[.int .u32 x, .int .u32 y] w fun e' w' => e' = .returned (.tuple #[.int .u32 u, .bool t]) ∧ w = w' := by
  subst hx hy hu hv ht; exact lit_fold a b w ha hb
theorem c_node (l : Nat) (x : Int) (hx : x = l) (v : Nat) (u : Int) (hu : u = v) (hl : l < 4294967296) (hv : l / 2 = v) (w : World) : Calls Tryz.prog 27 #[.int .u32 x] w fun e' w' => e' = .returned (.int .i64 u) ∧ w = w' := by
  subst hx hu hv; exact lit_node l w hl
theorem c_not (l : Nat) (x : Int) (hx : x = l) (v : Nat) (u : Int) (hu : u = v) (hl : l < 4294967296) (hv : ntL l = v) (w : World) : Calls Tryz.prog 29 #[.int .u32 x] w fun e' w' => e' = .returned (.int .u32 u) ∧ w = w' := by
  subst hx hu hv; exact lit_not l w hl
theorem c_turned (l : Nat) (x : Int) (hx : x = l) (t : Bool) (hl : l < 4294967296) (hv : decide (l % 2 = 1) = t) (w : World) : Calls Tryz.prog 134 #[.int .u32 x] w fun e' w' => e' = .returned (.bool t) ∧ w = w' := by
  subst hx hv; exact lit_turned l w hl

def allW : Nat := 18446744073709551615
theorem allW_ne : ((allW : Int) != 18446744073709551615) = false := by decide
def nwI (n : Int) : Int := bits .xor .u64 IntKind.u64.max n
theorem nwI_nat (v : Nat) (h : v < 18446744073709551616) : nwI (v : Int) = ((noW v : Nat) : Int) := notw_spell v h
@[go_sem high] theorem unary_not_u64 (n : Int) : Op.unary .xor (.int .u64 n) = pure (.int .u64 (nwI n)) := rfl
theorem of_node (x : Nat) (h : x < 33554432) : ofV ((x : Int) / 2) (decide (x % 2 = 1)) = x := by
  unfold ofV ifL ntL
  rw [if_pos (by omega), show ((x : Int) / 2).toNat = x / 2 by omega]
  by_cases hx : x % 2 = 1
  · simp [hx]; omega
  · simp [hx]; omega
theorem c_word (l : Nat) (x : Int) (hx : x = l) (v : Nat) (u : Int) (hu : u = v) (a : Option Addr) (c n : Nat) (ws : List Nat) (w : World) (hn : ws.length = n) (hl : l < 4294967296) (hs : SlN w .u64 a ws) (hw : Words ws) (hv : wd ws l = v) :
    Calls Tryz.prog 86 #[.int .u32 x, .slice a n c] w fun e w' => e = .returned (.int .u64 u) ∧ w = w' := by
  subst hx hu hv; exact lit_word l a c n ws w hn hl hs hw

end Go.Proofs.YtdmcdhkkbkgnbaaGreat

namespace Go.Proofs.YtdmcdhkkbkgnbaaGreat
open Go.ChangeShapes Go.WideShapes Go.ChangeAt Go.RowKit
open Go.Maps (Keyed)
open Go.WideMaps
set_option linter.unusedVariables false

variable {w w' : World} {p : Nat} {F S : List Nat} {g : Gr}

theorem kept_up {w wr w2 : World} {S : List Nat} (h : Kept [] w wr) (hk : Kept S wr w2) (hS : ∀ b ∈ S, w.heap.size ≤ b) : Kept [] w w2 :=
  ⟨hk.os.trans h.os, hk.tape.trans h.tape, hk.output.trans h.output, Nat.le_trans h.size hk.size, fun b hb _ => (hk.block b (Nat.lt_of_lt_of_le hb h.size) (fun hm => by have := hS b hm; omega)).trans (h.block b hb (by simp))⟩
theorem cell_other {w : World} {b i k : Nat} {v u : Value} (hne : i ≠ k) (h : w.cell? ⟨b, i, none⟩ = some v) : (w.setCell ⟨b, k, none⟩ u).drew.cell? ⟨b, i, none⟩ = some v :=
  (World.cell?_setCell_other w ⟨b, k, none⟩ ⟨b, i, none⟩ u (fun e => hne (by injection e with _ e _; exact e.symm))).trans h
def FirstPost (b : Bool) (w : World) (e : Ending) (w' : World) : Prop := ∃ r : Int, e = .returned (.int .i64 r) ∧ decide (0 ≤ r) = b ∧ ∃ k, w' = w.drewN k
set_option maxHeartbeats 400000 in
set_option maxRecDepth 100000 in
/-- the first literal of which a closure with one captured value says yes -/
theorem index_any (fid : FuncId) (hF : ∀ xs w, (callFunc fid xs).run Tryz.prog w = .ok (Next.enter fid xs) w) (cap : Value) (P : Nat → Bool) (a : Option Addr) (c len : Nat) (l : List Nat) (w : World) (hl : l.length = len) (hlm : len ≤ 140737488351232) (hs : SlN w .u32 a l)
    (HC : ∀ x ∈ l, ∀ k, Calls Tryz.prog fid #[.int .u32 (x : Int), cap] (w.drewN k) fun e w' => e = .returned (.bool (P x)) ∧ ∃ m, w' = (w.drewN k).drewN m) :
    Calls Tryz.prog 141 #[.slice a len c, .func (.func fid) #[] #[cap]] w (FirstPost (l.any P) w) := by
  have HL := Lib.hid hl; clear hl
  have HF := Lib.hid HC; clear HC
  go_enter Tryz.func141, Tryz.ntmps141
  go_wp2
  go_loopw [8] (fun i wr => ∃ k m : Nat, k ≤ len ∧ i = .int .i64 k ∧ wr = w.drewN m ∧ (l.take k).any P = false) (fun i _ => len - (intOf i).toNat)
  case atStart => exact ⟨0, 0, Nat.zero_le _, rfl, rfl, by simp⟩
  case round =>
    obtain ⟨k, m, hk, rfl, rfl, hall⟩ := hrel
    have HA := Lib.hid hall; clear hall
    by_cases hlt : k < len
    · have hkl : k < l.length := by have := HL.out; omega
      obtain ⟨ad, rfl, hc⟩ := hs k hkl
      have HX := Lib.hid (HF.out _ (List.getElem_mem hkl) m)
      have HM := Lib.hid (List.getElem_mem hkl)
      have HT := Lib.hid (take_snoc l k hkl)
      generalize l[k] = x at *
      cases hp : P x with
      | true =>
        have HB := Lib.hid (show l.any P = true by rw [List.any_eq_true]; exact ⟨x, HM.out, hp⟩)
        have HP := Lib.hid hp; clear hp
        go_wp2_with fail
        refine HX.out.mono ?_
        rw [HP.out]
        rintro e w1 ⟨rfl, k1, rfl⟩
        go_wp2_with fail
        go_ret
        exact ⟨(k : Int), rfl, by rw [HB.out]; simp, _, rfl⟩
      | false =>
        have HP := Lib.hid hp; clear hp
        go_wp2_with fail
        refine HX.out.mono ?_
        rw [HP.out]
        rintro e w1 ⟨rfl, k1, rfl⟩
        go_wp2_with fail
        go_roundw
        case rel =>
          refine ⟨k + 1, m + k1, by omega, by go_num, by first | rfl | rw [World.drewN_drewN], ?_⟩
          rw [HT.out, List.any_append, HA.out]
          simp [HP.out]
        case measure => simp [intOf]; omega
    · obtain rfl : k = len := by omega
      have HB := Lib.hid (show l.any P = false by
        have h := HA.out
        rwa [List.take_of_length_le (by have := HL.out; omega)] at h)
      go_wp2_with fail
      go_ret
      exact ⟨-1, rfl, by rw [HB.out]; rfl, _, rfl⟩
theorem contains_any (fid : FuncId) (hF : ∀ xs w, (callFunc fid xs).run Tryz.prog w = .ok (Next.enter fid xs) w) (cap : Value) (P : Nat → Bool) (a : Option Addr) (c len : Nat) (l : List Nat) (w : World) (hl : l.length = len) (hlm : len ≤ 140737488351232) (hs : SlN w .u32 a l)
    (HC : ∀ x ∈ l, ∀ k, Calls Tryz.prog fid #[.int .u32 (x : Int), cap] (w.drewN k) fun e w' => e = .returned (.bool (P x)) ∧ ∃ m, w' = (w.drewN k).drewN m) :
    Calls Tryz.prog 115 #[.slice a len c, .func (.func fid) #[] #[cap]] w fun e w' => e = .returned (.bool (l.any P)) ∧ ∃ k, w' = w.drewN k := by
  have HX := Lib.hid (index_any fid hF cap P a c len l w hl hlm hs HC)
  clear hl HC hF
  go_enter Tryz.func115, Tryz.ntmps115
  go_wp2_with fail
  refine HX.out.mono ?_
  rintro e w1 ⟨r, rfl, hr1, k1, rfl⟩
  have HR1 := Lib.hid hr1; clear hr1
  go_wp2_with fail
  go_ret
  exact ⟨by rw [← HR1.out]; rfl, _, rfl⟩

theorem cone_asks1 (x q : Nat) (hg : GraphAt w p F g) (hm : g.nodes.length ≤ 1000000) (hx : x < 4294967296) (hq : w.cell? ⟨q, 0, none⟩ = some (.pointer (some ⟨p, 0, none⟩))) :
    Calls Tryz.prog 142 #[.int .u32 x, .pointer (some ⟨q, 0, none⟩)] w fun e w' => e = .returned (.bool (decide (g.nodes.length ≤ x / 2))) ∧ ∃ k, w' = w.drewN k := by
  have HF := Lib.hid (show decide ((g.nodes.length : Int) ≤ (x : Int) / 2) = decide (g.nodes.length ≤ x / 2) by rw [Bool.eq_iff_iff]; simp; omega)
  have HG := Lib.hid (fun n => aig_nodes (hg.kept0 ((Kept.refl [] w).drewN n)) hm)
  clear hg
  go_enter Tryz.func142, Tryz.ntmps142
  go_wp2_with fail
  go_quiet (first
    | (go_at_call 27; exact q_same (lit_node _ _ hx))
    | (go_at_call 109; exact q_same (HG.out _)))
  go_wp2
  go_ret
  exact ⟨by rw [← HF.out]; rfl, _, rfl⟩

theorem cone_asks_ok (hg : GraphAt w p F g) (hm : g.nodes.length ≤ 200000) (a : Option Addr) (c len : Nat) (l : List Nat) (hl : l.length = len) (hlm : len ≤ 140737488351232) (hs : SlN w .u32 a l) (hok : ∀ x ∈ l, g.ok x) :
    Calls Tryz.prog 118 #[.pointer (some ⟨p, 0, none⟩), .slice a len c] w fun e w' => e = .returned (.int .i64 0) ∧ Kept [] w w' := by
  have hp := hg.wf.pos
  have hne : ((g.nodes.length : Int) == 0) = false := by simp only [beq_eq_false_iff_ne, ne_eq]; omega
  have HG := Lib.hid (fun o => hg.kept0 ((Kept.refl [] w).alloc o))
  have HB := Lib.hid (show (l.any fun x => decide (g.nodes.length ≤ x / 2)) = false from bad_ok hok)
  have HC := Lib.hid (contains_any 142 Tryz.call142 (.pointer (some ⟨w.heap.size, 0, none⟩)) (fun x => decide (g.nodes.length ≤ x / 2)) a c len l (w.alloc (.cells #[.pointer (some ⟨p, 0, none⟩)] 53)) hl hlm (hs.kept0 ((Kept.refl [] w).alloc _)) (fun x hx k =>
    cone_asks1 x w.heap.size ((HG.out _).kept0 ((Kept.refl [] _).drewN k)) (by omega) (Gr.ok_lt (hok x hx) hm) (by simp [World.cell?_alloc_new])))
  clear hg hl hok
  go_enter Tryz.func118, Tryz.ntmps118
  go_wp2_with fail
  refine (aig_nodes (HG.out _) (by omega)).mono ?_
  rintro e w' ⟨rfl, rfl⟩
  go_wp2_with fail
  refine HC.out.mono ?_
  rw [HB.out]
  rintro e w' ⟨rfl, k, rfl⟩
  go_wp2_with fail
  go_ret
  exact ⟨rfl, ((Kept.refl [] w).alloc _).drewN _⟩
theorem u64_info2 : (Tryz.prog.info? 79).map (fun i => (i.zero, i.size, i.bytes)) = some (some (.int .u64 0), 1, 8) := by kernel_rfl

def NewWords (l : List Nat) (n : Nat) (w : World) (e : Ending) (w' : World) : Prop := ∃ a c, e = .returned (.tuple #[.slice a n c, .int .i64 0]) ∧ Own w' 79 a n c (nats .u64 l) ∧ Stepped w w' [] (ft a)
end Go.Proofs.YtdmcdhkkbkgnbaaGreat

namespace Go.Proofs.YtdmcdhkkbkgnbaaGreat
open Go.ChangeShapes Go.WideShapes Go.ChangeAt Go.RowKit
open Go.Maps (Keyed)
open Go.WideMaps
set_option linter.unusedVariables false
set_option linter.unusedSimpArgs false

variable {w w' : World} {p n : Nat} {F R S : List Nat} {g : Gr} {N : Nt}
theorem net_none (h : NetAt w n F R N) (hm : N.g.nodes.length ≤ 1000000) : Calls Tryz.prog 64 #[.pointer (some ⟨n, 0, none⟩)] w fun e w' => e = .returned (.bool false) ∧ w = w' := by
  obtain ⟨p, G, ia, ic, ra, rc, oa, oc, ri, ro, rfl, rfl, hc⟩ := h
  have c0 := hc.c0
  have hp := hc.gr.wf.pos
  have HG := Lib.hid hc.gr
  have hne : ((N.g.nodes.length : Int) == 0) = false := by simp only [beq_eq_false_iff_ne, ne_eq]; omega
  clear hc
  go_enter Tryz.func64, Tryz.ntmps64
  go_wp2_with fail
  refine (aig_nodes HG.out hm).mono ?_
  rintro e w' ⟨rfl, rfl⟩
  go_wp2_with fail
  go_ret
  exact ⟨rfl, rfl⟩
theorem str_eq (a b : ByteArray) : (a.toList == b.toList) = decide (a = b) := by
  rw [Bool.eq_iff_iff, beq_iff_eq, decide_eq_true_eq, ByteArray.toList_eq, ByteArray.toList_eq]
  constructor
  · intro h; exact bytes_inj h
  · rintro rfl; rfl
theorem find_is (nm s : ByteArray) (v : Value) (q : Nat) (hq : w.cell? ⟨q, 0, none⟩ = some (.string s)) : Calls Tryz.prog 140 #[.agg #[.string nm, v], .pointer (some ⟨q, 0, none⟩)] w (BoolIs (decide (nm = s)) w) := by
  have hq1 : ∀ o, (w.alloc o).cell? ⟨q, 0, none⟩ = some (.string s) := fun o => cell_alloc hq o
  have HE := Lib.hid (str_eq nm s)
  go_enter Tryz.func140, Tryz.ntmps140
  go_wp2
  go_ret
  exact ⟨by rw [← HE.out]; rfl, (Kept.refl [] w).alloc _⟩
/-- buses where they lie -/
def SlB (w : World) (a : Option Addr) (rs : List BR) : Prop := ∀ i (h : i < rs.length), ∃ b, a = some ⟨b, 0, none⟩ ∧ w.cell? ⟨b, i * 2, none⟩ = some (.string rs[i].b.name) ∧ w.cell? ⟨b, i * 2 + 1, none⟩ = some (.slice rs[i].a rs[i].b.lits.length rs[i].c)
theorem SlB.kept0 {a : Option Addr} {rs : List BR} (h : SlB w a rs) (hk : Kept [] w w') : SlB w' a rs := fun i hi => by
  obtain ⟨b, h1, h2, h3⟩ := h i hi
  exact ⟨b, h1, hk.cell h2 (by simp), hk.cell h3 (by simp)⟩
theorem SlB.take {a : Option Addr} {rs : List BR} (h : SlB w a rs) (k : Nat) : SlB w a (rs.take k) := fun i hi => by
  have hi' : i < rs.length := by rw [List.length_take] at hi; omega
  obtain ⟨b, h1, h2, h3⟩ := h i hi'
  exact ⟨b, h1, by rw [h2]; simp, by rw [h3]; simp⟩
theorem BusesAt.slb {a : Option Addr} {c : Nat} {l : List Bus} {rs : List BR} (h : BusesAt w a c l rs) : SlB w a rs := fun i hi => by
  have hl : rs.length = l.length := by rw [← h.is]; simp
  obtain ⟨gb, h1, h2⟩ := own2_form (h := h.own) (by omega)
  have hg := brCells_get rs i rs[i] (List.getElem?_eq_getElem hi)
  exact ⟨gb, h1, by rw [h2 _ (by omega), ← hg.1, Nat.mul_comm], by rw [h2 _ (by omega), ← hg.2, Nat.mul_comm]⟩
def optI : Option Nat → Int
  | none => -1
  | some k => (k : Int)
def IdxIs (o : Option Nat) (w : World) (e : Ending) (w' : World) : Prop := e = .returned (.int .i64 (optI o)) ∧ Kept [] w w'
def findP (l : List BR) (s : ByteArray) : Option Nat := l.findIdx? fun r => decide (r.b.name = s)
theorem findP_eq (l : List BR) (s : ByteArray) : findP l s = findB (l.map (·.b)) s := by
  unfold findP findB
  rw [List.findIdx?_map]
  rfl
set_option maxHeartbeats 800000 in
set_option maxRecDepth 100000 in
theorem index_bus (s : ByteArray) (q : Nat) (a : Option Addr) (c len : Nat) (rs : List BR) (hl : rs.length = len) (hm : len ≤ 1000000) (hs : SlB w a rs) (hq : w.cell? ⟨q, 0, none⟩ = some (.string s)) :
    Calls Tryz.prog 139 #[.slice a len c, .func (.func 140) #[] #[.pointer (some ⟨q, 0, none⟩)]] w (IdxIs (findP rs s) w) := by
  have HL := Lib.hid hl
  have HS := Lib.hid hs
  have HF := Lib.hid (fun (W : World) (hk : Kept [] w W) (nm : ByteArray) (v : Value) => find_is nm s v q (w := W) (hk.cell hq (by simp)))
  clear hl hs hq
  go_enter Tryz.func139, Tryz.ntmps139
  go_wp2_with fail
  go_loopw [8] (fun i wr => ∃ k : Nat, k ≤ len ∧ i = .int .i64 k ∧ Kept [] w wr ∧ ∀ j (h : j < rs.length), j < k → rs[j].b.name ≠ s) (fun i _ => len - (intOf i).toNat)
  case atStart => exact ⟨0, Nat.zero_le _, rfl, .refl _ _, fun j h h2 => by omega⟩
  case round =>
    obtain ⟨k, hk, rfl, hkr, hall⟩ := hrel
    have KR := Lib.hid hkr
    have HA := Lib.hid hall
    clear hkr hall
    by_cases hlt : k < len
    · have hkl : k < rs.length := by rw [HL.out]; exact hlt
      obtain ⟨b, rfl, h1, h2⟩ := (HS.out.kept0 KR.out) k hkl
      have HR := Lib.hid (fun (hn : rs[k].b.name = s) => show findP rs s = some k from by
        unfold findP
        rw [List.findIdx?_eq_some_iff_getElem]
        exact ⟨hkl, by simpa using hn, fun j hj => by simpa using HA.out j (by omega) hj⟩)
      have HN := Lib.hid (fun (hn : rs[k].b.name ≠ s) => show ∀ j (h : j < rs.length), j < k + 1 → rs[j].b.name ≠ s from fun j h hj => by
        rcases Nat.lt_or_ge j k with h3 | h3
        · exact HA.out j h h3
        · have : j = k := by omega
          subst this; exact hn)
      generalize rs[k].b.name = nm at *
      generalize rs[k].b.lits.length = ll at *
      generalize rs[k].a = ra at *
      generalize rs[k].c = rc at *
      have HF2 := Lib.hid (HF.out wr KR.out nm (.slice ra ll rc))
      by_cases hn : nm = s
      · have HR2 := Lib.hid (HR.out hn)
        rw [decide_eq_true hn] at HF2
        clear hn HR HN
        go_wp2_with fail
        refine HF2.out.mono ?_
        rintro e w1 ⟨rfl, hk1⟩
        have K1 := Lib.hid (KR.out.trans hk1)
        clear hk1
        go_wp2_with fail
        go_ret
        exact ⟨by rw [HR2.out]; rfl, K1.out⟩
      · have HN2 := Lib.hid (HN.out hn)
        rw [decide_eq_false hn] at HF2
        clear hn HR HN
        go_wp2_with fail
        refine HF2.out.mono ?_
        rintro e w1 ⟨rfl, hk1⟩
        have K1 := Lib.hid (KR.out.trans hk1)
        clear hk1
        go_wp2_with fail
        go_roundw
        case rel => exact ⟨k + 1, by omega, by go_num, K1.out, HN2.out⟩
        case measure => simp [intOf]; omega
    · obtain rfl : k = len := by omega
      have HR := Lib.hid (show findP rs s = none from by
        unfold findP
        rw [List.findIdx?_eq_none_iff]
        intro x hx
        obtain ⟨j, hj, rfl⟩ := List.getElem_of_mem hx
        simpa using HA.out j hj (by have := HL.out; omega))
      go_wp2_with fail
      go_ret
      exact ⟨by rw [HR.out]; rfl, KR.out⟩
theorem find_c (s : ByteArray) (a : Option Addr) (c len : Nat) (rs : List BR) (hl : rs.length = len) (hm : len ≤ 1000000) (hs : SlB w a rs) :
    Calls Tryz.prog 114 #[.slice a len c, .string s] w (IdxIs (findP rs s) w) := by
  have H := Lib.hid (index_bus (w := w.alloc (.cells #[.string s] 9)) s w.heap.size a c len rs hl hm (hs.kept0 ((Kept.refl [] w).alloc _)) (by simp [World.cell?_alloc_new]))
  clear hl hs
  go_enter Tryz.func114, Tryz.ntmps114
  go_wp2_with fail
  refine H.out.mono ?_
  rintro e w1 ⟨rfl, hk⟩
  have HK := Lib.hid (((Kept.refl [] w).alloc _).trans hk)
  clear hk
  go_wp2_with fail
  go_ret
  exact ⟨rfl, HK.out⟩
theorem lit_info' : (Tryz.prog.info? 61).map (fun i => (i.zero, i.size, i.bytes)) = some (some (.int .u32 0), 1, 4) := by kernel_rfl
def NewLits (l : List Nat) (n : Nat) (w : World) (e : Ending) (w' : World) : Prop := ∃ a c, e = .returned (.slice a n c) ∧ Own w' 61 a n c (nats .u32 l) ∧ Stepped w w' [] (ft a)
/-- a row of literals that is not nil, or nil: its clone -/
theorem clone_lits (a : Option Addr) (c n : Nat) (l : List Nat) (w : World) (hl : l.length = n) (hs : SlN w .u32 a l) (hm : n ≤ 1000000) (h0 : a = none → n = 0) :
    Calls Tryz.prog 124 #[.slice a n c] w (NewLits l n w) := by
  have q := fun (w : World) (a : Option Addr) (n c : Nat) => Lib.run_eql_slice_nil (P := Tryz.prog) w 58 61 a n c 0 0 Tryz.underlying58
  have HS := Lib.hid hs; clear hs
  have HL := Lib.hid hl; clear hl
  cases a with
  | none =>
    obtain rfl := h0 rfl
    have hl0 : l = [] := List.eq_nil_of_length_eq_zero HL.out
    subst hl0
    go_enter Tryz.func124, Tryz.ntmps124
    go_wp2
    go_ret
    exact ⟨none, 0, rfl, Own.nil _ _, .refl _ _⟩
  | some ad =>
    clear h0
    have HC := Lib.hid (show ∀ j u, (nats .u32 l)[j]? = some u → (w.alloc (.cells #[] 61)).cell? (ad.add j) = some u from fun j u hu => by
      obtain ⟨hj, rfl⟩ := List.getElem?_eq_some_iff.1 hu
      rw [nats_length] at hj
      obtain ⟨ad', h1, h2⟩ := HS.out j hj
      injection h1 with h1
      subst h1
      have := cell_alloc h2 (.cells #[] 61)
      rw [this]
      simp [nats])
    go_enter Tryz.func124, Tryz.ntmps124
    go_wp2_with (at_builtin; refine wpList_cat (news := nats .u32 l) rfl rfl Tryz.underlying58 lit_info' rfl (by omega) rfl rfl (own_empty w 61 1) (by rw [nats_length, HL.out, Nat.mul_one]) HC.out (nats_one _ _) (by unfold maxLen; omega) (by omega) ?_; intro a' c' w1 hown1 hst1)
    go_ret
    refine ⟨a', c', by simp [go_sem], by simpa [Own] using hown1, ?_⟩
    have := (((Stepped.refl w []).allocOwn (.cells #[] 61))).trans (by simpa [ft] using hst1)
    exact this
theorem there_one (h : NetAt w n F R N) (hm : N.g.nodes.length ≤ 200000) (x q : Nat) (hx : x < 4294967296) (hq : w.cell? ⟨q, 0, none⟩ = some (.pointer (some ⟨n, 0, none⟩))) :
    Calls Tryz.prog 116 #[.int .u32 x, .pointer (some ⟨q, 0, none⟩)] w fun e w' => e = .returned (.bool (decide (N.g.nodes.length ≤ x / 2))) ∧ ∃ k, w' = w.drewN k := by
  obtain ⟨p, G, ia, ic, ra, rc, oa, oc, ri, ro, rfl, rfl, hc⟩ := h
  have c0 := hc.c0
  have HF := Lib.hid (show decide ((N.g.nodes.length : Int) ≤ (x : Int) / 2) = decide (N.g.nodes.length ≤ x / 2) by rw [Bool.eq_iff_iff]; simp; omega)
  have HG := Lib.hid (fun k => aig_nodes (hc.gr.kept0 ((Kept.refl [] w).drewN k)) (show N.g.nodes.length ≤ 1000000 by omega))
  clear hc
  go_enter Tryz.func116, Tryz.ntmps116
  go_wp2_with fail
  go_quiet (first
    | (go_at_call 27; exact q_same (lit_node _ _ hx))
    | (go_at_call 109; exact q_same (HG.out _)))
  go_wp2
  go_ret
  exact ⟨by rw [← HF.out]; rfl, _, rfl⟩
theorem there_c (h : NetAt w n F R N) (hm : N.g.nodes.length ≤ 200000) (a : Option Addr) (c len : Nat) (l : List Nat) (hl : l.length = len) (hlm : len ≤ 140737488351232) (hs : SlN w .u32 a l) (hx : ∀ x ∈ l, x < 4294967296) :
    Calls Tryz.prog 67 #[.pointer (some ⟨n, 0, none⟩), .slice a len c] w (BoolIs (!gone N.g l) w) := by
  have HG := Lib.hid (fun o => h.kept0 ((Kept.refl [] w).alloc o))
  have HB := Lib.hid (show (l.any fun x => decide (N.g.nodes.length ≤ x / 2)) = gone N.g l from rfl)
  have HC := Lib.hid (contains_any 116 Tryz.call116 (.pointer (some ⟨w.heap.size, 0, none⟩)) (fun x => decide (N.g.nodes.length ≤ x / 2)) a c len l (w.alloc (.cells #[.pointer (some ⟨n, 0, none⟩)] 25)) hl hlm (hs.kept0 ((Kept.refl [] w).alloc _)) (fun x hx' k =>
    there_one ((HG.out _).kept0 ((Kept.refl [] _).drewN k)) hm x w.heap.size (hx x hx') (by simp [World.cell?_alloc_new])))
  clear h hl hs hx
  generalize gone N.g l = b at *
  go_enter Tryz.func67, Tryz.ntmps67
  go_wp2_with fail
  refine HC.out.mono ?_
  rw [HB.out]
  rintro e w' ⟨rfl, k, rfl⟩
  go_wp2_with fail
  go_ret
  exact ⟨rfl, ((Kept.refl [] w).alloc _).drewN _⟩
end Go.Proofs.YtdmcdhkkbkgnbaaGreat
