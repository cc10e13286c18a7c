/-
  Chapter 09: what the rows' laid tables give the walks; the frame's parts.
-/
import Derived.Test.YtjgcfncganleoaaDoorTrcWk
import Derived.Test.YtjgcfncganleoaaDoorRows
import Derived.Test.YtjgcfncganleoaaDoorTie
import Derived.Test.YtjgcfncganleoaaDoorCards
import Derived.ProofKit
import Derived.LaidMore
import Derived.OpenShut
import Derived.Stop.Joined
import Derived.SevenTiedAt
namespace Go.Proofs.YtjgcfncganleoaaDoor
open Go.ChangeShapes Go.WideShapes Go.ChangeAt Go.WideMaps Go.WideElems Go.RowKit
set_option linter.unusedVariables false
set_option linter.unusedSimpArgs false

def laid3 : List (String × DataW Unit) := [("math/bits.deBruijn32tab", Rows.laid_math_bits_deBruijn32tab), ("math/bits.deBruijn64tab", Rows.laid_math_bits_deBruijn64tab), ("internal/strconv.uint64pow10", Rows.laid_internal_strconv_uint64pow10)]
set_option maxRecDepth 100000 in
theorem door_met (os : Os) (args : Array Value) : laidMetH Tryd.prog laid3 ((World.doorLaid Tryd.prog 400 os).forCall (fun _ _ => 0) ⟨#[], args, []⟩).memory :=
  laidMetH_of_parts3 (fuel := 8) (laidMet_of_run' 8 (by kernel_rfl) (by kernel_rfl)) (by kernel_rfl) (by kernel_rfl)
theorem gTab : Tryd.prog.globalNamed "math/bits.deBruijn64tab" = some 3 := by kernel_rfl
theorem tTab : (Tryd.prog.globals[3]?).map (·.type) = some 164 := by kernel_rfl
set_option maxRecDepth 100000 in
theorem laid_cell {W : World} (h : laidMetH Tryd.prog laid3 W) : W.cell? ⟨3, 15, none⟩ = some (.int .u8 4) := by
  rw [MakeChecks.laidMetH_plain _ _ _ (by kernel_rfl)] at h
  obtain ⟨ps, ⟨g0, t0, cs0, f0, p0, q0, hg0, ht0, hv0, hd0, ⟨g1, t1, cs1, f1, p1, q1, hg1, ht1, hv1, hd1, _⟩, _⟩, _⟩ := h
  obtain rfl := Option.some.inj (gTab.symm.trans hg1)
  obtain rfl := Option.some.inj (tTab.symm.trans ht1)
  have c5 : Tryd.prog.cellsOf 5 = 1 := by kernel_rfl
  obtain ⟨xs, m1, rfl, hx1, hlen, hn3, hel⟩ := DataW.trod_array Tryd.underlying164 hd1
  have h15 := hel 15 (by omega)
  have hx := hx1
  simp only [Prod.mk.injEq] at hx
  have hagg : ∀ (l l' : List (DataW Unit)), DataW.agg l = DataW.agg l' → l = l' := fun l l' e => by injection e
  have hL := hagg _ _ hx.1
  obtain ⟨x, hxs⟩ : ∃ x, xs[15]? = some x := ⟨xs[15]'(by omega), List.getElem?_eq_getElem (by omega)⟩
  have hv : some (DataW.lit (.int .u8 4)) = some x.1 := by
    have := congrArg (fun l => l[15]?) hL
    simp only [List.getElem?_map, hxs, Option.map_some] at this
    exact this
  rw [hxs, c5] at h15
  obtain ⟨k, e1, e2, _⟩ := DataW.trod_int Tryd.underlying5 h15
  rw [e2] at hv
  have hk : k = 4 := by simpa using hv.symm
  subst hk
  have hc := World.var?_cell hg1 hv1 15
  rw [hc]
  have h2 : (cs1.toList.drop 15)[0]? = some (.int .u8 4) := by
    have : ((cs1.toList.drop (15 * 1)).take 1)[0]? = some (.int .u8 4) := by rw [e1]; rfl
    simpa using this
  simpa using h2
end Go.Proofs.YtjgcfncganleoaaDoor
