/-
  Law 04: Build: a graph of steps, and the document's.
  Package orreryref03: literals that are there; Raw. Two graphs side by side.
  Package orreryref03: And, Or, Xor, Raw of two that are there: the nodes that the program's graph has.
  Packages orreryref02 and orreryref03: what a gate comes to; gates, inputs, what two literals come to.
  Package orreryref03: the document's graph, its contracts: it makes the nodes that the program's graph has.
-/
import Derived.Test.YtdmcdhkkbkgnbaaP24
import Derived.Test.YtdmcdhkkbkgnbaaP06
import Derived.Test.YtdmcdhkkbkgnbaaP10
import Derived.Deep.DeepCutAuto
import Derived.Outline
import Derived.Test.YtdmcdhkkbkgnbaaP15
import Derived.Test.YtdmcdhkkbkgnbaaP09
import Derived.Deep.LoopGhost
namespace Go.Proofs.Ytdmcdhkkbkgnbaa
open Go.ChangeShapes Go.WideShapes Go.ChangeAt Go.RowKit
open Go.Maps (Keyed)
open Go.WideMaps
set_option linter.unusedVariables false

variable {w w' : World} {q : Nat} {R S : List Nat} {g : Gr}
/-- a node's three cells -/
theorem rnode_cells {gb k : Nat} {ns : List (Nat × Nat)} {p : Nat × Nat} (h : ∀ j u, (rcells ns)[j]? = some u → w.cell? ⟨gb, j, none⟩ = some u) (hp : ns[k]? = some p) :
    w.cell? ⟨gb, k * 3, none⟩ = some (.bool (decide (p.1 / 2 = k) && decide (k ≠ 0))) ∧ (p.1 / 2 ≠ k → w.cell? ⟨gb, k * 3 + 1, none⟩ = some (.int .u32 (p.1 : Int)) ∧ w.cell? ⟨gb, k * 3 + 2, none⟩ = some (.int .u32 (p.2 : Int))) := by
  have h0 := rcells_get hp 0 (by omega)
  have h1 := rcells_get hp 1 (by omega)
  have h2 := rcells_get hp 2 (by omega)
  rw [show 3 * k = k * 3 by omega] at h0 h1 h2
  unfold rnV at h0 h1 h2
  refine ⟨?_, fun hne => ⟨?_, ?_⟩⟩
  · by_cases hp2 : p.1 / 2 = k
    · rw [if_pos hp2] at h0
      rw [show k * 3 = k * 3 + 0 from rfl, h _ _ h0]
      simp [hp2]
    · rw [if_neg hp2] at h0
      rw [show k * 3 = k * 3 + 0 from rfl, h _ _ h0]
      simp [hp2]
  · rw [if_neg hne] at h1
    exact h _ _ h1
  · rw [if_neg hne] at h2
    exact h _ _ h2
end Go.Proofs.Ytdmcdhkkbkgnbaa

namespace Go.Proofs.Ytdmcdhkkbkgnbaa
open Go.ChangeShapes Go.WideShapes Go.ChangeAt Go.RowKit
open Go.Maps (Keyed)
open Go.WideMaps
set_option linter.unusedVariables false

variable {w w' : World} {q : Nat} {R S : List Nat} {g : Gr}
theorem ntL_turn {a b : Nat} : a = ntL b ↔ b = ntL a := by unfold ntL; split <;> split <;> omega
def fv (a b : Nat) : Nat := if foldB a b then foldV a b else 0

theorem Stepped.keep0 {a b c : World} {F F' : List Nat} (h : Stepped a b F F') (hk : Kept [] b c) : Stepped a c F F' := h.trans (⟨hk.more (by simp), fun _ h => .inl h⟩ : Stepped b c F' F')
/-! ### Nodes added -/
theorem rnV_in {n : Nat} (h : 0 < n) : rnV n (2 * n, 2 * n) = [.bool true, .int .u32 0, .int .u32 0] := by
  unfold rnV
  rw [if_pos (by show 2 * n / 2 = n; omega), decide_eq_true (by omega)]
theorem rnV_gate {n a b : Nat} (h : a / 2 < n) : rnV n (a, b) = [.bool false, .int .u32 (a : Int), .int .u32 (b : Int)] := by
  unfold rnV
  rw [if_neg (by show a / 2 ≠ n; omega)]
end Go.Proofs.Ytdmcdhkkbkgnbaa

namespace Go.Proofs.Ytdmcdhkkbkgnbaa
open Go.ChangeShapes Go.WideShapes Go.ChangeAt Go.RowKit
open Go.Maps (Keyed)
open Go.WideMaps
set_option linter.unusedVariables false

variable {w w' : World} {q : Nat} {R S : List Nat} {g : Gr}
theorem gateG_sorted (a b : Nat) : gateG g (max a b) (min a b) = gateG g a b := by
  unfold gateG
  rw [show max (max a b) (min a b) = max a b by omega, show min (max a b) (min a b) = min a b by omega]
theorem ok32 {g : Gr} {a : Nat} (h : g.ok a) (hm : g.nodes.length ≤ 1000000) : a < 4294967296 := by unfold Gr.ok at h; omega
end Go.Proofs.Ytdmcdhkkbkgnbaa

namespace Go.Proofs.Ytdmcdhkkbkgnbaa
open Go.ChangeShapes Go.WideShapes Go.ChangeAt Go.RowKit
open Go.Maps (Keyed)
open Go.WideMaps
set_option linter.unusedVariables false

variable {w w' : World} {q p : Nat} {R F S : List Nat} {g : Gr}

/-! ### The program's graph and the document's, side by side -/
theorem graph_apart {w1 w2 : World} {G G' : List Nat} (hg : GraphAt w1 p F g) (hd : ∀ x ∈ F, x ∉ G) (hst : Stepped w1 w2 G G') : GraphAt w2 p F g ∧ ∀ x ∈ F, x ∉ G' :=
  ⟨hg.kept hst.kept hd, fun x hx hf => by
    rcases hst.fresh x hf with h | h
    · exact hd x hx h
    · have := hg.lt x hx; omega⟩
end Go.Proofs.Ytdmcdhkkbkgnbaa

namespace Go.Proofs.Ytdmcdhkkbkgnbaa
open Go.ChangeShapes Go.WideShapes Go.ChangeAt Go.RowKit
open Go.Maps (Keyed)
open Go.WideMaps
set_option linter.unusedVariables false
set_option linter.unusedSimpArgs false

variable {w w' : World} {q p : Nat} {R F S : List Nat} {g : Gr}
abbrev Stp := Int × Nat × Nat
/-- the slice at a holds the steps l -/
def SlSteps (w : World) (a : Option Addr) (l : List Stp) : Prop := ∀ k (h : k < l.length), ∃ b o, a = some ⟨b, o, none⟩ ∧ w.cell? ⟨b, o + k * 3, none⟩ = some (.int .i64 l[k].1) ∧ w.cell? ⟨b, o + k * 3 + 1, none⟩ = some (.int .u32 (l[k].2.1 : Int)) ∧ w.cell? ⟨b, o + k * 3 + 2, none⟩ = some (.int .u32 (l[k].2.2 : Int))
theorem SlSteps.kept0 {a : Option Addr} {l : List Stp} (h : SlSteps w a l) (hk : Kept [] w w') : SlSteps w' a l := fun k hl => by
  obtain ⟨b, o, h0, h1, h2, h3⟩ := h k hl
  exact ⟨b, o, h0, hk.cell h1 (by simp), hk.cell h2 (by simp), hk.cell h3 (by simp)⟩
def Stp.ok (s : Stp) : Prop := -9223372036854775808 ≤ s.1 ∧ s.1 ≤ 9223372036854775807 ∧ s.2.1 < 4294967296 ∧ s.2.2 < 4294967296
def stepG (g : Gr) (s : Stp) : Gr :=
  if s.1 = 0 then (inputG g).1
  else if s.1 = 3 then (orG g (s.2.1 % (2 * g.nodes.length)) (s.2.2 % (2 * g.nodes.length))).1
  else if s.1 = 4 then (xorG g (s.2.1 % (2 * g.nodes.length)) (s.2.2 % (2 * g.nodes.length))).1
  else if s.1 = 5 then (gateG g (s.2.1 % (2 * g.nodes.length)) (s.2.2 % (2 * g.nodes.length))).1
  else (andG g (s.2.1 % (2 * g.nodes.length)) (s.2.2 % (2 * g.nodes.length))).1
def buildTo (o1 o2 : Bool) (l : List Stp) (k : Nat) : Gr := (l.take k).foldl stepG { fold := o1, hash := o2, nodes := [(0, 0)] }
theorem buildTo_succ (o1 o2 : Bool) (l : List Stp) (k : Nat) (h : k < l.length) : buildTo o1 o2 l (k + 1) = stepG (buildTo o1 o2 l k) l[k] := by
  unfold buildTo
  rw [List.take_succ_eq_append_getElem h, List.foldl_append]
  rfl
theorem mod_ok {g : Gr} (hw : WF g.nodes) (x : Nat) : g.ok (x % (2 * g.nodes.length)) := by
  have := hw.pos
  have h := Nat.mod_lt x (show 0 < 2 * g.nodes.length by omega)
  unfold Gr.ok
  omega
theorem two_far' (hg : GraphAt w p F g) : ∀ b ∈ ft (some (⟨w.heap.size, 0, none⟩ : Addr)), b ∉ F := by intro b hb hF; simp [ft] at hb; subst hb; exact absurd (hg.lt _ hF) (Nat.lt_irrefl _)
theorem Twos.back {W : World} {r : Gr × Nat} {e : Ending} (hk : Kept [] w W) (h : Twos r W p F e w') : Twos r w p F e w' := by
  obtain ⟨F', h1, h2, h3⟩ := h
  exact ⟨F', h1, h2, (⟨hk.more (by simp), fun _ h => .inl h⟩ : Stepped w W F F).trans h3⟩
section
variable {x y : Nat}
theorem b_xor (hg : GraphAt w p F g) (hm : g.nodes.length ≤ 90000) (hx : g.ok x) (hy : g.ok y) : Calls Try.prog 12 #[.pointer (some ⟨p, 0, none⟩), .slice (some ⟨w.heap.size, 0, none⟩) 2 2] (w.alloc (.cells #[.int .u32 (x : Int), .int .u32 (y : Int)] 41)) (Twos (xorG g x y) w p F) :=
  (aig_Xor_ (hg.kept0 ((Kept.refl [] w).alloc _)) _ 2 2 [x, y] rfl (by omega) (sln_new w .u32 [x, y] 41) (by simp [hx, hy]) (two_far' hg)).mono fun _ _ h => Twos.back ((Kept.refl [] w).alloc _) h
theorem b_and (hg : GraphAt w p F g) (hm : g.nodes.length ≤ 90000) (hx : g.ok x) (hy : g.ok y) : Calls Try.prog 64 #[.pointer (some ⟨p, 0, none⟩), .slice (some ⟨w.heap.size, 0, none⟩) 2 2] (w.alloc (.cells #[.int .u32 (x : Int), .int .u32 (y : Int)] 41)) (Twos (andG g x y) w p F) :=
  (aig_And_ (hg.kept0 ((Kept.refl [] w).alloc _)) _ 2 2 [x, y] rfl (by omega) (sln_new w .u32 [x, y] 41) (by simp [hx, hy]) (two_far' hg)).mono fun _ _ h => Twos.back ((Kept.refl [] w).alloc _) h
end
/-- a step's graph: well formed, at most seven nodes more -/
theorem stepG_good (hw : WF g.nodes) (s : Stp) : WF (stepG g s).nodes ∧ (stepG g s).nodes.length ≤ g.nodes.length + 9 := by
  have hx := mod_ok hw s.2.1
  have hy := mod_ok hw s.2.2
  unfold stepG
  split
  · exact ⟨(inputG_spec hw).1, by simp [inputG]⟩
  split
  · have h := two_or g _ _ hw hx hy
    exact ⟨h.1, by have := h.2.1.le; omega⟩
  split
  · have h := two_xor g _ _ hw hx hy
    exact ⟨h.1, by have := h.2.1.le; omega⟩
  split
  · refine ⟨hw.snoc (.inr ⟨by omega, ?_⟩), by simp [gateG]⟩
    unfold Gr.ok at hx hy
    omega
  · have h := two_and g _ _ hw hx hy
    exact ⟨h.1, by have := h.2.1.le; omega⟩
theorem buildTo_good (o1 o2 : Bool) (l : List Stp) (k : Nat) : WF (buildTo o1 o2 l k).nodes ∧ (buildTo o1 o2 l k).nodes.length ≤ 1 + 9 * k := by
  induction k with
  | zero =>
    refine ⟨⟨rfl, fun i a b h => ?_⟩, by simp [buildTo]⟩
    cases i with
    | zero => simp [buildTo] at h; omega
    | succ i => simp [buildTo] at h
  | succ k ih =>
    by_cases h : k < l.length
    · rw [buildTo_succ o1 o2 l k h]
      have := stepG_good ih.1 l[k]
      exact ⟨this.1, by omega⟩
    · have e : buildTo o1 o2 l (k + 1) = buildTo o1 o2 l k := by unfold buildTo; rw [List.take_of_length_le (by omega), List.take_of_length_le (by omega)]
      rw [e]; exact ⟨ih.1, by omega⟩
end Go.Proofs.Ytdmcdhkkbkgnbaa
