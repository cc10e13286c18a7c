/-
  slices.Clone of pairs, maps.Clone of a graph's map; Graph.Copy.
-/
import Derived.Test.YtnjoklcddodfeaaDoorAigIns
import Derived.Shelf.SlMaps.Clone
import Derived.Deep.RegionHeld3
namespace Go.Proofs.YtnjoklcddodfeaaDoor
open Go.ChangeShapes Go.WideShapes Go.ChangeAt Go.RowKit
open Go.Maps (Keyed)
open Go.WideMaps
set_option linter.unusedVariables false

variable {w w' : World} {p : Nat} {F S : List Nat} {g : Gr}
theorem pcells_one (l : List (Nat × Nat)) : ∀ u ∈ pcells l, u.oneCell' = true := by
  intro u hu
  simp only [pcells, List.mem_flatMap, List.mem_cons, List.not_mem_nil, or_false] at hu
  obtain ⟨p, _, rfl | rfl⟩ := hu <;> rfl
/-- the cells of a row of the call's own -/
theorem row_cells {w : World} {e : TypeId} {size n cap : Nat} {ad : Addr} {xs : List Value} (h : w.ownsRow 0 e size (.slice (some ad) n cap) n xs) : ∀ j u, xs[j]? = some u → w.cell? (ad.add j) = some u := by
  intro j u hu
  rcases h.2 with ⟨hv, _⟩ | ⟨g, cap', cur, hv, hb, hg, rest⟩
  · cases hv
  · have := World.ownsRow.cells h (g := g) (by rw [hv]; rfl) j u hu
    injection hv with hv
    injection hv with hv
    subst hv
    exact this
def NewPairs (l : List (Nat × Nat)) (n : Nat) (w : World) (e : Ending) (w' : World) : Prop := ∃ a c, e = .returned (.slice a n c) ∧ Own2 w' 63 a n c (pcells l) ∧ Stepped w w' [] (ft a)

theorem keep5 {w w' : World} {a0 a1 a2 a3 a4 : Addr} {v0 v1 v2 v3 v4 : Value} (hk : Kept [] w w') (h0 : w.cell? a0 = some v0) (h1 : w.cell? a1 = some v1) (h2 : w.cell? a2 = some v2) (h3 : w.cell? a3 = some v3) (h4 : w.cell? a4 = some v4) :
    Kept [] w w' ∧ w'.cell? a0 = some v0 ∧ w'.cell? a1 = some v1 ∧ w'.cell? a2 = some v2 ∧ w'.cell? a3 = some v3 ∧ w'.cell? a4 = some v4 :=
  ⟨hk, hk.cell h0 (by simp), hk.cell h1 (by simp), hk.cell h2 (by simp), hk.cell h3 (by simp), hk.cell h4 (by simp)⟩
/-- a graph of its own beside the old one -/
def CopyPost (g : Gr) (w : World) (e : Ending) (w' : World) : Prop := ∃ p' F', e = .returned (.pointer (some ⟨p', 0, none⟩)) ∧ GraphAt w' p' F' g ∧ Stepped w w' [] F'
end Go.Proofs.YtnjoklcddodfeaaDoor
