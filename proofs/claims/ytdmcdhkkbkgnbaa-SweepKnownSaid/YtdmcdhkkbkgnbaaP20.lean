/-
  Law 06: Does, joined; package net: Find, Bits, named.
  Law 06: Does, the steps whose statements draw their order.
  Law 06: Does, the steps whose statements draw their order.
  Law 06: Does, a step done with a netlist.
  Law 06: what a step does with a netlist.
-/
import Derived.Test.YtdmcdhkkbkgnbaaP19
namespace Go.Proofs.Ytdmcdhkkbkgnbaa
open Go.ChangeShapes Go.WideShapes Go.ChangeAt Go.RowKit
open Go.Maps (Keyed)
open Go.WideMaps
set_option linter.unusedVariables false
set_option linter.unusedSimpArgs false

variable {w w' : World} {p n : Nat} {F R S : List Nat} {g : Gr} {N : Nt}
def RowNew (l : List Nat) (n : Nat) (w : World) (e : Ending) (w' : World) : Prop := ∃ a c, e = .returned (.slice a n c) ∧ Own w' 41 a n c (nats .u32 l) ∧ Stepped w w' [] (ft a)
def NoGate (w : World) (e : Ending) (w' : World) : Prop := e = .returned (.tuple #[.int .u32 0, .int .i64 1]) ∧ Kept [] w w'
theorem asksE_gone {l : List Nat} (h : gone g l = true) : asksE g l = 1 := by
  have : bad g.nodes.length l = true := h
  unfold asksE; rw [this]; rfl
theorem and_gone (hg : GraphAt w p F g) (hm : g.nodes.length ≤ 200000) (a : Option Addr) (c len : Nat) (l : List Nat) (hl : l.length = len) (hlm : len ≤ 1000000) (hs : SlN w .u32 a l) (hr : Lits l) (hb : gone g l = true) :
    Calls Try.prog 64 #[.pointer (some ⟨p, 0, none⟩), .slice a len c] w (NoGate w) := by
  have HA := Lib.hid (aig_asks hg hm a c len l hl hlm hs hr)
  rw [asksE_gone hb] at HA
  have HM := Lib.hid (fun (v f : Value) => show Calls Try.prog 39 #[.pointer (some ⟨p, 0, none⟩), v, f, .slice a len c] w (NoGate w) from by
    go_enter Try.func39, Try.ntmps39
    go_wp2_with fail
    refine HA.out.mono ?_
    rintro e w1 ⟨rfl, hk1⟩
    have K1 := Lib.hid hk1
    clear hk1
    go_wp2_with fail
    go_ret2
    exact ⟨rfl, K1.out⟩)
  clear hg hl hs hr hb HA
  go_enter Try.func64, Try.ntmps64
  go_wp2_with fail
  refine (HM.out _ _).mono ?_
  rintro e w1 ⟨rfl, hk1⟩
  have K1 := Lib.hid hk1
  clear hk1
  go_wp2_with fail
  go_ret2
  exact ⟨rfl, K1.out⟩
theorem xor_gone (hg : GraphAt w p F g) (hm : g.nodes.length ≤ 200000) (a : Option Addr) (c len : Nat) (l : List Nat) (hl : l.length = len) (hlm : len ≤ 1000000) (hs : SlN w .u32 a l) (hr : Lits l) (hb : gone g l = true) :
    Calls Try.prog 12 #[.pointer (some ⟨p, 0, none⟩), .slice a len c] w (NoGate w) := by
  have HA := Lib.hid (aig_asks hg hm a c len l hl hlm hs hr)
  rw [asksE_gone hb] at HA
  have HM := Lib.hid (fun (v f : Value) => show Calls Try.prog 39 #[.pointer (some ⟨p, 0, none⟩), v, f, .slice a len c] w (NoGate w) from by
    go_enter Try.func39, Try.ntmps39
    go_wp2_with fail
    refine HA.out.mono ?_
    rintro e w1 ⟨rfl, hk1⟩
    have K1 := Lib.hid hk1
    clear hk1
    go_wp2_with fail
    go_ret2
    exact ⟨rfl, K1.out⟩)
  clear hg hl hs hr hb HA
  go_enter Try.func12, Try.ntmps12
  go_wp2_with fail
  refine (HM.out _ _).mono ?_
  rintro e w1 ⟨rfl, hk1⟩
  have K1 := Lib.hid hk1
  clear hk1
  go_wp2_with fail
  go_ret2
  exact ⟨rfl, K1.out⟩
/-- a call of a gate on a netlist's graph -/
def GatePostN (r : Nt × List Nat × Nat) (x : Nat) (w : World) (n : Nat) (F R : List Nat) (e : Ending) (w' : World) : Prop :=
  ∃ F' x, e = .returned (.tuple #[.int .u32 (x : Nat), .int .i64 (r.2.2 : Nat)]) ∧ NetAt w' n F' R r.1 ∧ NStep w w' F R F' R ∧ r.2.1 = [x]
def stepCells6 (s : NStp) (la : Option Addr) (lc : Nat) : Array Value := #[.int .i64 s.what, .string s.name, .int .i64 s.n, .int .u32 (s.a : Int), .int .u32 (s.b : Int), .int .u32 (s.c : Int), .slice la s.lits.length lc]
structure NStp.ok (s : NStp) : Prop where
  nm : s.name.size ≤ 140737488351232
  n1 : -9223372036854775808 ≤ s.n
  n2 : s.n ≤ 9223372036854775807
  a : s.a < 4294967296
  b : s.b < 4294967296
  c : s.c < 4294967296
  l : ∀ x ∈ s.lits, x < 4294967296
  ll : s.lits.length ≤ 140737488351232
theorem whole_row {e : TypeId} {gb n : Nat} {xs : List Value} (h : w.heap[gb]? = some (.cells xs.toArray e (0, 0))) (hl : xs.length = n) (hn : n ≤ maxLen) : Own w e (some ⟨gb, 0, none⟩) n n xs :=
  ⟨by rw [hl, Nat.mul_one], .inr ⟨gb, n, xs.toArray, rfl, Nat.zero_le _, h, Nat.le_refl _, hn, by simp [hl], by simp [← hl]⟩⟩
/-- a new row of one literal -/
theorem one_row {W : World} {x k : Nat} {F' R' : List Nat} (hn : NetAt W n F' R' N) (hst : NStep w W F R F' R') :
    ∃ F' R' a c k', Ending.returned (.tuple #[.slice (some ⟨W.heap.size, 0, none⟩) 1 1, .int .i64 (k : Nat)]) = .returned (.tuple #[.slice a k' c, .int .i64 (k : Nat)]) ∧ NetAt (W.alloc (.cells #[.int .u32 (x : Int)] 41)) n F' R' N ∧ NStep w (W.alloc (.cells #[.int .u32 (x : Int)] 41)) F R F' R' ∧ Own (W.alloc (.cells #[.int .u32 (x : Int)] 41)) 41 a k' c (nats .u32 [x]) ∧ ∀ b ∈ ft a, w.heap.size ≤ b ∧ b ∉ F' ∧ b ∉ R' := by
  have hk : Kept [] W (W.alloc (.cells #[.int .u32 (x : Int)] 41)) := (Kept.refl [] W).alloc _
  refine ⟨F', R', some ⟨W.heap.size, 0, none⟩, 1, 1, rfl, hn.kept0 hk, hst.keep hk, whole_row (heap_alloc_new W _) rfl (by unfold maxLen; omega), fun b hb => ?_⟩
  rw [mem_ft] at hb
  subst hb
  exact ⟨hst.st.kept.size, fun h => Nat.lt_irrefl _ (hn.lt.1 _ h), fun h => Nat.lt_irrefl _ (hn.lt.2 _ h)⟩
end Go.Proofs.Ytdmcdhkkbkgnbaa

namespace Go.Proofs.Ytdmcdhkkbkgnbaa
open Go.ChangeShapes Go.WideShapes Go.ChangeAt Go.RowKit
open Go.Maps (Keyed)
open Go.WideMaps
set_option linter.unusedVariables false
set_option linter.unusedSimpArgs false

variable {w w' : World} {p n : Nat} {F R S : List Nat} {g : Gr} {N : Nt}
def stepV (s : NStp) (la : Option Addr) (lc : Nat) : Value := .agg (stepCells6 s la lc)
theorem rem_spell (n : Int) (h1 : -9223372036854775808 ≤ n) (h2 : n ≤ 9223372036854775807) : (n.tmod 2 != 0) = decide (n % 2 ≠ 0) := by
  rw [Bool.eq_iff_iff, bne_iff_ne, decide_eq_true_eq]
  have : n.tmod 2 = 0 ↔ n % 2 = 0 := by
    constructor
    · intro h; have := Int.dvd_of_tmod_eq_zero h; omega
    · intro h; exact Int.tmod_eq_zero_of_dvd (by omega)
  rw [ne_eq, ne_eq, this]
end Go.Proofs.Ytdmcdhkkbkgnbaa

namespace Go.Proofs.Ytdmcdhkkbkgnbaa
open Go.ChangeShapes Go.WideShapes Go.ChangeAt Go.RowKit
open Go.Maps (Keyed)
open Go.WideMaps
set_option linter.unusedVariables false
set_option linter.unusedSimpArgs false

variable {w w' : World} {p n : Nat} {F R S : List Nat} {g : Gr} {N : Nt}
theorem sln_blk {W : World} {b : Nat} {l : List Nat} {T : TypeId} (h : W.heap[b]? = some (.cells (nats .u32 l).toArray T (0, 0))) : SlN W .u32 (some ⟨b, 0, none⟩) l := fun k hk => by
  have hadd : (⟨b, 0, none⟩ : Addr).add k = ⟨b, k, none⟩ := by unfold Addr.add; split <;> simp_all
  refine ⟨_, rfl, ?_⟩
  rw [hadd, blk_cell h]
  simp [nats, hk]
end Go.Proofs.Ytdmcdhkkbkgnbaa

namespace Go.Proofs.Ytdmcdhkkbkgnbaa
open Go.ChangeShapes Go.WideShapes Go.ChangeAt Go.RowKit
open Go.Maps (Keyed)
open Go.WideMaps
set_option linter.unusedVariables false
set_option linter.unusedSimpArgs false

variable {w w' : World} {p n : Nat} {F R S : List Nat} {g : Gr} {N : Nt}
end Go.Proofs.Ytdmcdhkkbkgnbaa

namespace Go.Proofs.Ytdmcdhkkbkgnbaa
open Go.ChangeShapes Go.WideShapes Go.ChangeAt Go.RowKit
open Go.Maps (Keyed)
open Go.WideMaps
set_option linter.unusedVariables false
set_option linter.unusedSimpArgs false

variable {w w' : World} {p n : Nat} {F R S : List Nat} {g : Gr} {N : Nt}
theorem bits_c (h : NetAt w n F R N) : Calls Try.prog 14 #[.pointer (some ⟨n, 0, none⟩)] w fun e w' => e = .returned (.int .i64 (N.regs.length : Nat)) ∧ w = w' := by
  obtain ⟨p, G, ia, ic, ra, rc, oa, oc, ri, ro, rfl, rfl, hc⟩ := h
  have c3 := hc.c3
  clear hc
  go_enter Try.func14, Try.ntmps14
  go_wp2
  go_ret
  exact ⟨rfl, rfl⟩
def FindPost (o : Option BR) (w : World) (e : Ending) (w' : World) : Prop :=
  (o = none ∧ e = .returned (.tuple #[.slice none 0 0, .bool false]) ∧ Kept [] w w') ∨
  ∃ r, o = some r ∧ ∃ a c, e = .returned (.tuple #[.slice a r.b.lits.length c, .bool true]) ∧ Own w' 41 a r.b.lits.length c (nats .u32 r.b.lits) ∧ Stepped w w' [] (ft a)
def findRow (rs : List BR) (s : ByteArray) : Option BR := (findP rs s).bind fun k => rs[k]?
theorem findP_first {rs : List BR} (hd : (rs.map fun r => r.b.name).Pairwise (· ≠ ·)) {k : Nat} (hk : k < rs.length) : findP rs rs[k].b.name = some k := by
  unfold findP
  rw [List.findIdx?_eq_some_iff_getElem]
  refine ⟨hk, by simp, fun j hj => ?_⟩
  have := List.pairwise_iff_getElem.1 hd j k (by simp; omega) (by simpa using hk) hj
  simpa using this
set_option maxHeartbeats 1600000 in
set_option maxRecDepth 100000 in
theorem named_c (h : NetAt w n F R N) (hgl : N.g.nodes.length ≤ 100000) (a : Option Addr) (c len : Nat) (rs : List BR) (hl : rs.length = len) (hm : len ≤ 100000) (hs : SlB w a rs)
    (hr : ∀ r ∈ rs, SlN w .u32 r.a r.b.lits ∧ 1 ≤ r.b.lits.length ∧ r.b.lits.length ≤ 64 ∧ mayB r.b.name = true ∧ ∀ x ∈ r.b.lits, N.g.ok x) (hd : (rs.map fun r => r.b.name).Pairwise (· ≠ ·)) :
    Calls Try.prog 49 #[.pointer (some ⟨n, 0, none⟩), .slice a len c] w (BoolIs true w) := by
  have HL := Lib.hid hl
  have HS := Lib.hid hs
  have HR := Lib.hid hr
  have HD := Lib.hid hd
  have HN := Lib.hid h
  clear hl hs hr hd h
  go_enter Try.func49, Try.ntmps49; (try simp only [List.append])
  go_wp2_with fail
  go_loopw [9] (fun i wr => ∃ k : Nat, k ≤ len ∧ i = .int .i64 k ∧ Kept [] w wr) (fun i _ => len - (intOf i).toNat)
  case atStart => exact ⟨0, Nat.zero_le _, rfl, .refl _ _⟩
  case round =>
    obtain ⟨k, hk, rfl, hkr⟩ := hrel
    have KR := Lib.hid hkr
    clear hkr
    by_cases hlt : k < len
    · have hkl : k < rs.length := by rw [HL.out]; exact hlt
      obtain ⟨b, rfl, h1, h2⟩ := (HS.out.kept0 KR.out) k hkl
      obtain ⟨r1, r2, r3, r4, r5⟩ := HR.out _ (List.getElem_mem hkl)
      have hsz : rs[k].b.name.size ≤ 140737488351232 := by
        have : rs[k].b.name.size ≤ 80 := by
          unfold mayB at r4
          simp only [Bool.and_eq_true, decide_eq_true_eq] at r4
          exact r4.1.2
        omega
      have HM := Lib.hid (fun (W : World) => show Calls Try.prog 29 #[.string rs[k].b.name] W (BoolIs true W) from by have h := mayname_c rs[k].b.name W hsz; rw [r4] at h; exact h)
      have HFI := Lib.hid (fun (W : World) (hk' : Kept [] w W) => show Calls Try.prog 32 #[.slice (some ⟨b, 0, none⟩) len c, .string rs[k].b.name] W (IntIs (k : Int) W) from by
        have h := find_c rs[k].b.name (some ⟨b, 0, none⟩) c len rs (w := W) HL.out (by omega) (HS.out.kept0 hk')
        rw [findP_first HD.out hkl] at h
        exact h)
      have HTH := Lib.hid (fun (W : World) (hk' : Kept [] w W) => show Calls Try.prog 38 #[.pointer (some ⟨n, 0, none⟩), .slice rs[k].a rs[k].b.lits.length rs[k].c] W (BoolIs true W) from by
        have h := there_c (HN.out.kept0 hk') (show N.g.nodes.length ≤ 200000 by omega) rs[k].a rs[k].c rs[k].b.lits.length rs[k].b.lits rfl (by omega) (r1.kept0 hk') (fun x hx => Gr.ok_lt (r5 x hx) (by omega))
        rw [gone_false.2 r5] at h
        exact h)
      clear r1 r4 r5 hsz
      generalize rs[k].b.lits.length = ll at *
      generalize rs[k].b.name = nm at *
      generalize rs[k].a = ra at *
      generalize rs[k].c = rc at *
      go_wp2_with fail
      obtain ⟨q, hq⟩ : ∃ q, q = wr.heap.size := ⟨_, rfl⟩
      obtain ⟨w1, hw1⟩ : ∃ w1, w1 = wr.alloc (.cells #[.string nm, .slice ra ll rc] 50) := ⟨_, rfl⟩
      have d0 : w1.cell? ⟨q, 0, none⟩ = some (.string nm) := by rw [hw1, hq]; exact blk_cell (heap_alloc_new wr _) 0
      have d1 : w1.cell? ⟨q, 1, none⟩ = some (.slice ra ll rc) := by rw [hw1, hq]; exact blk_cell (heap_alloc_new wr _) 1
      have K1 := Lib.hid (show Kept [] w w1 from by rw [hw1]; exact KR.out.alloc _)
      rw [← hw1, ← hq]
      clear hw1 hq h1 h2
      refine (HM.out _).mono ?_
      rintro e w2 ⟨rfl, hk2⟩
      have K2 := Lib.hid (K1.out.trans hk2)
      have e0 := hk2.cell d0 (by simp)
      have e1 := hk2.cell d1 (by simp)
      clear hk2 d0 d1
      go_wp2_with fail
      refine (HFI.out _ K2.out).mono ?_
      rintro e w3 ⟨rfl, hk3⟩
      have K3 := Lib.hid (K2.out.trans hk3)
      have f0 := hk3.cell e0 (by simp)
      have f1 := hk3.cell e1 (by simp)
      clear hk3 e0 e1
      go_wp2_with fail
      refine (HTH.out _ K3.out).mono ?_
      rintro e w4 ⟨rfl, hk4⟩
      have K4 := Lib.hid (K3.out.trans hk4)
      clear hk4 f0 f1
      go_wp2_with fail
      go_roundw
      case rel => exact ⟨k + 1, by omega, by go_num, K4.out⟩
      case measure => simp [intOf]; omega
    · go_wp2_with fail
      go_ret
      exact ⟨rfl, KR.out⟩
end Go.Proofs.Ytdmcdhkkbkgnbaa
