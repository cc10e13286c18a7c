/-
  Package compare: what a stretch of bits tells. Plain mathematics.
  Package compare: one bit.
  Package compare: what is asked, the comparer's calls, one bit.
-/
import Derived.Test.YtenhbhckhncamaaP16
import Derived.Test.YtenhbhckhncamaaP17
import Derived.BigQuiet
namespace Go.Proofs.Ytenhbhckhncamaa
open Go.ChangeShapes Go.WideShapes Go.ChangeAt Go.RowKit
open Go.Maps (Keyed)
open Go.WideMaps
set_option linter.unusedVariables false

variable {w w' : World} {p mb : Nat} {F S : List Nat} {g : Gr} {sa sb : Value} {sg so : Bool}




section
variable {x y : Nat}
end

end Go.Proofs.Ytenhbhckhncamaa

namespace Go.Proofs.Ytenhbhckhncamaa
open Go.ChangeShapes Go.WideShapes Go.ChangeAt Go.RowKit
open Go.Maps (Keyed)
open Go.WideMaps
set_option linter.unusedVariables false

variable {w w' : World} {p mb : Nat} {F S : List Nat} {g : Gr} {sa sb : Value} {sg so : Bool}

/-- what a bit tells: turned where the sign is asked -/
def bitG (g : Gr) (so tu : Bool) (x y : Nat) : Gr × Nat × Nat :=
  if so then ((xorG g x y).1, ntL (xorG g x y).2, 0)
  else if tu then ((andG (xorG g x y).1 (ntL y) x).1, ntL (xorG g x y).2, (andG (xorG g x y).1 (ntL y) x).2)
  else ((andG (xorG g x y).1 (ntL x) y).1, ntL (xorG g x y).2, (andG (xorG g x y).1 (ntL x) y).2)
theorem size_new (w : World) (o : Obj) : (w.alloc o).heap.size = w.heap.size + 1 := Array.size_push _
end Go.Proofs.Ytenhbhckhncamaa

namespace Go.Proofs.Ytenhbhckhncamaa
set_option linter.unusedVariables false
variable {g : Gr}

/-- two stretches made one: low, high -/
def joinG (so : Bool) (g : Gr) (lo hi : Nat × Nat) : Gr × Nat × Nat :=
  let r := andG g hi.1 lo.1
  if so then (r.1, r.2, 0)
  else
    let q := andG r.1 hi.1 lo.2
    let t := orG q.1 hi.2 q.2
    (t.1, r.2, t.2)
/-- the stretch from a bit on, so many; the first argument only ends the recursion -/
def allTo (so sg : Bool) (n : Nat) (la lb : List Nat) : Nat → Gr → Nat → Nat → Gr × Nat × Nat
  | 0, g, _, _ => (g, 0, 0)
  | d + 1, g, k, m =>
    if m = 1 then bitG g so (sg && decide (k = n - 1)) (la.getD k 0) (lb.getD k 0)
    else
      let lo := allTo so sg n la lb d g k (m / 2)
      let hi := allTo so sg n la lb d lo.1 (k + m / 2) (m - m / 2)
      joinG so hi.1 lo.2 hi.2
def Good3 (c : Nat) (g : Gr) (r : Gr × Nat × Nat) : Prop := WF r.1.nodes ∧ Ext c g r.1 ∧ r.1.ok r.2.1 ∧ r.1.ok r.2.2
theorem ok_zero (hw : WF g.nodes) : g.ok 0 := by have := hw.pos; unfold Gr.ok; omega
theorem ok_ntL {a : Nat} (h : g.ok a) : g.ok (ntL a) := by unfold Gr.ok at *; unfold ntL; split <;> omega
theorem bitG_good {x y : Nat} (so tu : Bool) (hw : WF g.nodes) (hx : g.ok x) (hy : g.ok y) : Good3 4 g (bitG g so tu x y) := by
  have s1 := xorG_spec hw hx hy
  unfold bitG
  split
  · exact ⟨s1.1, s1.2.1.mono (by omega), ok_ntL s1.2.2, ok_zero s1.1⟩
  · split
    · have s2 := andG_spec s1.1 (ok_ntL (s1.2.1.ok hy)) (s1.2.1.ok hx)
      exact ⟨s2.1, (s1.2.1.trans s2.2.1).mono (by omega), s2.2.1.ok (ok_ntL s1.2.2), s2.2.2⟩
    · have s2 := andG_spec s1.1 (ok_ntL (s1.2.1.ok hx)) (s1.2.1.ok hy)
      exact ⟨s2.1, (s1.2.1.trans s2.2.1).mono (by omega), s2.2.1.ok (ok_ntL s1.2.2), s2.2.2⟩
theorem joinG_good {lo hi : Nat × Nat} (so : Bool) (hw : WF g.nodes) (h1 : g.ok lo.1) (h2 : g.ok lo.2) (h3 : g.ok hi.1) (h4 : g.ok hi.2) : Good3 3 g (joinG so g lo hi) := by
  have s1 := andG_spec hw h3 h1
  unfold joinG
  dsimp only
  split
  · exact ⟨s1.1, s1.2.1.mono (by omega), s1.2.2, ok_zero s1.1⟩
  · have s2 := andG_spec s1.1 (s1.2.1.ok h3) (s1.2.1.ok h2)
    have s3 := orG_spec s2.1 (s2.2.1.ok (s1.2.1.ok h4)) s2.2.2
    exact ⟨s3.1, ((s1.2.1.trans s2.2.1).trans s3.2.1).mono (by omega), s3.2.1.ok (s2.2.1.ok s1.2.2), s3.2.2⟩
theorem allTo_good {la lb : List Nat} (so sg : Bool) (n d : Nat) : ∀ (g : Gr) (k m : Nat), 1 ≤ m → m ≤ d → k + m ≤ la.length → k + m ≤ lb.length → WF g.nodes → (∀ x ∈ la, g.ok x) → (∀ x ∈ lb, g.ok x) → Good3 (7 * m - 3) g (allTo so sg n la lb d g k m) := by
  induction d with
  | zero => intro g k m h1 h2; omega
  | succ d ih =>
    intro g k m h1 h2 ha hb hw hla hlb
    simp only [allTo]
    split
    · rename_i hm
      obtain ⟨a, b, c, e⟩ := bitG_good so (sg && decide (k = n - 1)) hw (hla _ (getD_in (i := k) (d := 0) (by omega))) (hlb _ (getD_in (i := k) (d := 0) (by omega)))
      exact ⟨a, b.mono (by omega), c, e⟩
    · rename_i hm
      obtain ⟨a1, b1, c1, e1⟩ := ih g k (m / 2) (by omega) (by omega) (by omega) (by omega) hw hla hlb
      obtain ⟨a2, b2, c2, e2⟩ := ih _ (k + m / 2) (m - m / 2) (by omega) (by omega) (by omega) (by omega) a1 (fun x hx => b1.ok (hla x hx)) (fun x hx => b1.ok (hlb x hx))
      obtain ⟨a3, b3, c3, e3⟩ := joinG_good so a2 (b2.ok c1) (b2.ok e1) c2 e2
      exact ⟨a3, ((b1.trans b2).trans b3).mono (by omega), c3, e3⟩
end Go.Proofs.Ytenhbhckhncamaa
