/-
  Contract of package cone: Depth.
  Law 14: the chapter's rows (tells).
  Package adder: just so many gates, without options.
-/
import Derived.Test.YtenhbhckhncamaaP21
import Derived.Test.YtenhbhckhncamaaP24
import Derived.Test.YtenhbhckhncamaaP19
import Derived.Test.YtenhbhckhncamaaP20
import Derived.Test.YtenhbhckhncamaaP14
import Derived.Test.YtenhbhckhncamaaP15
import Derived.Deep.RegionWith
import Derived.IntWalk
namespace Go.Proofs.Ytenhbhckhncamaa
set_option linter.unusedVariables false
/-- without options, just k nodes more -/
structure Just (k : Nat) (g g' : Gr) : Prop where
  fold : g'.fold = false
  hash : g'.hash = false
  len : g'.nodes.length = g.nodes.length + k
theorem Just.trans {j k : Nat} {g g' g'' : Gr} (h : Just j g g') (h' : Just k g' g'') : Just (j + k) g g'' := ⟨h'.fold, h'.hash, by rw [h'.len, h.len]; omega⟩
theorem and_just {g : Gr} (hf : g.fold = false) (hh : g.hash = false) (x y : Nat) : Just 1 g (andG g x y).1 := by
  unfold andG
  rw [hf, hh]
  simp only [Bool.and_false, Bool.false_eq_true, if_false]
  exact ⟨by simp [gateG, hf], by simp [gateG, hh], by simp [gateG]⟩
theorem or_just {g : Gr} (hf : g.fold = false) (hh : g.hash = false) (x y : Nat) : Just 1 g (orG g x y).1 := and_just hf hh _ _
theorem both_just {g : Gr} (hf : g.fold = false) (hh : g.hash = false) (a b c d : Nat) : Just 3 g (bothG g a b c d).1 := by
  have h1 := and_just hf hh a b
  have h2 := and_just h1.fold h1.hash c d
  exact (h1.trans h2).trans (or_just h2.fold h2.hash _ _)
theorem xor_just {g : Gr} (hf : g.fold = false) (hh : g.hash = false) (x y : Nat) : Just 3 g (xorG g x y).1 := both_just hf hh _ _ _ _
theorem carry_just {g : Gr} (hf : g.fold = false) (hh : g.hash = false) (x y z : Nat) : Just 2 g (carryG g x y z).1 := by
  have h1 := and_just hf hh y z
  exact h1.trans (or_just h1.fold h1.hash _ _)
theorem pre_just {g : Gr} (hf : g.fold = false) (hh : g.hash = false) (la lb : List Nat) (k : Nat) : Just (4 * k) g (preTo g la lb k).1 := by
  induction k with
  | zero => exact ⟨hf, hh, rfl⟩
  | succ k ih =>
    have h1 := and_just ih.fold ih.hash (la.getD k 0) (lb.getD k 0)
    exact (ih.trans h1).trans (xor_just h1.fold h1.hash _ _)
theorem round_just {g : Gr} (hf : g.fold = false) (hh : g.hash = false) (wm wg : List Nat) (d j : Nat) : Just (3 * j) g (roundTo g wm wg d j).1 := by
  induction j with
  | zero => exact ⟨hf, hh, rfl⟩
  | succ j ih =>
    have h1 := carry_just ih.fold ih.hash (wm.getD (d + j) 0) (wg.getD (d + j) 0) (wm.getD j 0)
    exact (ih.trans h1).trans (and_just h1.fold h1.hash _ _)
theorem span_just {n : Nat} {s0 : Gr × List Nat × List Nat} (hf : s0.1.fold = false) (hh : s0.1.hash = false) (r : Nat) : Just (3 * wideTo n r) s0.1 (spanTo n s0 r).1 := by
  induction r with
  | zero => exact ⟨hf, hh, rfl⟩
  | succ r ih =>
    have h := ih.trans (round_just ih.fold ih.hash (spanTo n s0 r).2.1 (spanTo n s0 r).2.2 (2 ^ r) (n - 2 ^ r))
    exact ⟨h.fold, h.hash, by show _ = _ + 3 * (wideTo n r + (n - 2 ^ r)); rw [Nat.mul_add]; exact h.len⟩
theorem sum_just {s0 : Gr × List Nat × List Nat} {bits : List Nat} {c : Nat} (hf : s0.1.fold = false) (hh : s0.1.hash = false) (k : Nat) : Just (5 * k) s0.1 (sumTo s0 bits c k).1 := by
  induction k with
  | zero => exact ⟨hf, hh, rfl⟩
  | succ k ih =>
    have h1 := xor_just ih.fold ih.hash (bits.getD k 0) (sumTo s0 bits c k).2.2
    exact (ih.trans h1).trans (carry_just h1.fold h1.hash _ _ _)
/-- looking ahead: 9 n and 3 by what the rounds reach -/
theorem ahead_just {g : Gr} (hf : g.fold = false) (hh : g.hash = false) (la lb : List Nat) (c n : Nat) : Just (9 * n + 3 * wideTo n (rnds n)) g (aheadG g la lb c n).1 := by
  have h1 := pre_just hf hh la lb n
  have h2 := span_just (n := n) (s0 := ((preTo g la lb n).1, (preTo g la lb n).2.1, (preTo g la lb n).2.2)) h1.fold h1.hash (rnds n)
  have h3 := (h1.trans h2).trans (sum_just (bits := (preTo g la lb n).2.2) (c := c) h2.fold h2.hash n)
  exact ⟨h3.fold, h3.hash, h3.len.trans (by omega)⟩
theorem rip_just {g : Gr} (hf : g.fold = false) (hh : g.hash = false) (la lb : List Nat) (c n : Nat) : Just (9 * n) g (ripTo g la lb c n).1 := by
  induction n with
  | zero => exact ⟨hf, hh, rfl⟩
  | succ n ih =>
    have h1 := xor_just ih.fold ih.hash (la.getD n 0) (lb.getD n 0)
    have h2 := xor_just h1.fold h1.hash (xorG (ripTo g la lb c n).1 (la.getD n 0) (lb.getD n 0)).2 (ripTo g la lb c n).2.2
    have h3 := and_just h2.fold h2.hash (la.getD n 0) (lb.getD n 0)
    exact ((ih.trans h1).trans (h2.trans h3)).trans (carry_just h3.fold h3.hash _ _ _)
end Go.Proofs.Ytenhbhckhncamaa

namespace Go.Proofs.Ytenhbhckhncamaa
open Go.ChangeShapes Go.WideShapes Go.ChangeAt Go.RowKit
open Go.Maps (Keyed)
open Go.WideMaps
set_option linter.unusedVariables false

variable {w w' w1 : World} {p : Nat} {F F1 S : List Nat} {g : Gr}

theorem Stepped.keep {a b c : World} {F F' : List Nat} (h : Stepped a b F F') (hk : Kept [] b c) : Stepped a c F F' :=
  ⟨h.kept.trans (hk.more (by simp)), h.fresh⟩
theorem Own.apart_g {e : TypeId} {a : Option Addr} {n c : Nat} {xs : List Value} (ho : Own w e a n c xs) (hg : GraphAt w p F g) (h1 : e ≠ 48) (h2 : e ≠ 97) (h3 : e ≠ 3) : ∀ b ∈ ft a, b ∉ F := hg.apart ho h1 h2 h3
def FixPost (g : Gr) (v : Nat) (w : World) (p : Nat) (F : List Nat) (e : Ending) (w' : World) : Prop :=
  ∃ F', e = .returned (.tuple #[.int .u32 (v : Int), .int .i64 0]) ∧ GraphAt w' p F' g ∧ Stepped w w' F F'
def g0 (o1 o2 : Bool) : Gr := { fold := o1, hash := o2, nodes := [(0, 0)] }

end Go.Proofs.Ytenhbhckhncamaa

namespace Go.Proofs.Ytenhbhckhncamaa
open Go.ChangeShapes Go.WideShapes Go.ChangeAt Go.RowKit
open Go.Maps (Keyed)
open Go.WideMaps
set_option linter.unusedVariables false

variable {w w' : World} {p : Nat} {F S : List Nat} {g : Gr}

theorem own_cells_i {w : World} {e : TypeId} {gb n cap : Nat} {K : IntKind} {l : List Nat} (h : Own w e (some ⟨gb, 0, none⟩) n cap (nats K l)) (j : Nat) (hj : j < l.length) : w.cell? ⟨gb, j, none⟩ = some (.int K (l.getD j 0 : Nat)) := by
  have h1 := World.ownsRow.cellAt h j (by have := h.len; rw [nats_length] at this; omega)
  rw [h1]
  simp [nats, List.getD_eq_getElem?_getD, List.getElem?_eq_getElem hj]

theorem deepTo_le (g : Gr) (k : Nat) : ∀ v ∈ deepTo g k, v ≤ k := by
  induction k with
  | zero => intro v hv; simp [deepTo] at hv; omega
  | succ k ih =>
    have hd : ∀ l, dl (deepTo g k) l ≤ k := fun l => by
      unfold dl
      rw [List.getD_eq_getElem?_getD]
      cases hj : (deepTo g k)[l / 2]? with
      | none => simp
      | some v => simpa using ih v (List.mem_of_getElem? hj)
    intro v hv
    unfold deepTo at hv
    split at hv
    · rcases List.mem_or_eq_of_mem_set hv with h | h
      · have := ih v h; omega
      · subst h
        have h1 := hd (gateA g k).1
        have h2 := hd (gateA g k).2.1
        omega
    · have := ih v hv; omega
theorem getD_le {D : List Nat} {m : Nat} (h : ∀ v ∈ D, v ≤ m) (j : Nat) : D.getD j 0 ≤ m := by
  rw [List.getD_eq_getElem?_getD]
  cases hj : D[j]? with
  | none => simp
  | some v => simpa using h v (List.mem_of_getElem? hj)
def DepthPost (d : Nat) (w : World) (e : Ending) (w' : World) : Prop := e = .returned (.tuple #[.int .i64 (d : Int), .int .i64 0]) ∧ Kept [] w w'
end Go.Proofs.Ytenhbhckhncamaa
