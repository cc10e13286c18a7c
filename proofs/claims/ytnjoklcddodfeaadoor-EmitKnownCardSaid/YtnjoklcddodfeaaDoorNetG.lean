/-
  Law 06: what a step does with a netlist.
-/
import Derived.Test.YtnjoklcddodfeaaDoorNetF
namespace Go.Proofs.YtnjoklcddodfeaaDoor
open Go.ChangeShapes Go.WideShapes Go.ChangeAt Go.RowKit
open Go.Maps (Keyed)
open Go.WideMaps
set_option linter.unusedVariables false
set_option linter.unusedSimpArgs false

variable {w w' : World} {p n : Nat} {F R S : List Nat} {g : Gr} {N : Nt}
def RowNew (l : List Nat) (n : Nat) (w : World) (e : Ending) (w' : World) : Prop := ∃ a c, e = .returned (.slice a n c) ∧ Own w' 41 a n c (nats .u32 l) ∧ Stepped w w' [] (ft a)
def NoGate (w : World) (e : Ending) (w' : World) : Prop := e = .returned (.tuple #[.int .u32 0, .int .i64 1]) ∧ Kept [] w w'
theorem asksE_gone {l : List Nat} (h : gone g l = true) : asksE g l = 1 := by
  have : bad g.nodes.length l = true := h
  unfold asksE; rw [this]; rfl
theorem and_gone (hg : GraphAt w p F g) (hm : g.nodes.length ≤ 200000) (a : Option Addr) (c len : Nat) (l : List Nat) (hl : l.length = len) (hlm : len ≤ 1000000) (hs : SlN w .u32 a l) (hr : Lits l) (hb : gone g l = true) :
    Calls Tryd.prog 24 #[.pointer (some ⟨p, 0, none⟩), .slice a len c] w (NoGate w) := by
  have HA := Lib.hid (aig_asks hg hm a c len l hl hlm hs hr)
  rw [asksE_gone hb] at HA
  have HM := Lib.hid (fun (v f : Value) => show Calls Tryd.prog 43 #[.pointer (some ⟨p, 0, none⟩), v, f, .slice a len c] w (NoGate w) from by
    go_enter Tryd.func43, Tryd.ntmps43
    go_wp2_with fail
    refine HA.out.mono ?_
    rintro e w1 ⟨rfl, hk1⟩
    have K1 := Lib.hid hk1
    clear hk1
    go_wp2_with fail
    go_ret2
    exact ⟨rfl, K1.out⟩)
  clear hg hl hs hr hb HA
  go_enter Tryd.func24, Tryd.ntmps24
  go_wp2_with fail
  refine (HM.out _ _).mono ?_
  rintro e w1 ⟨rfl, hk1⟩
  have K1 := Lib.hid hk1
  clear hk1
  go_wp2_with fail
  go_ret2
  exact ⟨rfl, K1.out⟩
/-- a call of a gate on a netlist's graph -/
def GatePostN (r : Nt × List Nat × Nat) (x : Nat) (w : World) (n : Nat) (F R : List Nat) (e : Ending) (w' : World) : Prop :=
  ∃ F' x, e = .returned (.tuple #[.int .u32 (x : Nat), .int .i64 (r.2.2 : Nat)]) ∧ NetAt w' n F' R r.1 ∧ NStep w w' F R F' R ∧ r.2.1 = [x]
def stepCells6 (s : NStp) (la : Option Addr) (lc : Nat) : Array Value := #[.int .i64 s.what, .string s.name, .int .i64 s.n, .int .u32 (s.a : Int), .int .u32 (s.b : Int), .int .u32 (s.c : Int), .slice la s.lits.length lc]
structure NStp.ok (s : NStp) : Prop where
  nm : s.name.size ≤ 140737488351232
  n1 : -9223372036854775808 ≤ s.n
  n2 : s.n ≤ 9223372036854775807
  a : s.a < 4294967296
  b : s.b < 4294967296
  c : s.c < 4294967296
  l : ∀ x ∈ s.lits, x < 4294967296
  ll : s.lits.length ≤ 140737488351232
theorem whole_row {e : TypeId} {gb n : Nat} {xs : List Value} (h : w.heap[gb]? = some (.cells xs.toArray e (0, 0))) (hl : xs.length = n) (hn : n ≤ maxLen) : Own w e (some ⟨gb, 0, none⟩) n n xs :=
  ⟨by rw [hl, Nat.mul_one], .inr ⟨gb, n, xs.toArray, rfl, Nat.zero_le _, h, Nat.le_refl _, hn, by simp [hl], by simp [← hl]⟩⟩
/-- a new row of one literal -/
theorem one_row {W : World} {x k : Nat} {F' R' : List Nat} (hn : NetAt W n F' R' N) (hst : NStep w W F R F' R') :
    ∃ F' R' a c k', Ending.returned (.tuple #[.slice (some ⟨W.heap.size, 0, none⟩) 1 1, .int .i64 (k : Nat)]) = .returned (.tuple #[.slice a k' c, .int .i64 (k : Nat)]) ∧ NetAt (W.alloc (.cells #[.int .u32 (x : Int)] 41)) n F' R' N ∧ NStep w (W.alloc (.cells #[.int .u32 (x : Int)] 41)) F R F' R' ∧ Own (W.alloc (.cells #[.int .u32 (x : Int)] 41)) 41 a k' c (nats .u32 [x]) ∧ ∀ b ∈ ft a, w.heap.size ≤ b ∧ b ∉ F' ∧ b ∉ R' := by
  have hk : Kept [] W (W.alloc (.cells #[.int .u32 (x : Int)] 41)) := (Kept.refl [] W).alloc _
  refine ⟨F', R', some ⟨W.heap.size, 0, none⟩, 1, 1, rfl, hn.kept0 hk, hst.keep hk, whole_row (heap_alloc_new W _) rfl (by unfold maxLen; omega), fun b hb => ?_⟩
  rw [mem_ft] at hb
  subst hb
  exact ⟨hst.st.kept.size, fun h => Nat.lt_irrefl _ (hn.lt.1 _ h), fun h => Nat.lt_irrefl _ (hn.lt.2 _ h)⟩
end Go.Proofs.YtnjoklcddodfeaaDoor
