/-
  Law 15: arguments opened: a text; a type.
-/
import Derived.Test.YtjnjldbegngooaaDoorTokCard
import Derived.Test.YtjnjldbegngooaaDoorOpen
namespace Go.Proofs.YtjnjldbegngooaaDoor
open Go.ChangeShapes Go.WideShapes Go.ChangeAt Go.RowKit Go.Deep Go.Joins
set_option linter.unusedVariables false
set_option linter.unusedSimpArgs false

section
variable {H : Type} {enc : TypeId × Value → H} {W : World} {base : Nat} {v : Value} {d : DataW H} {ps : List MemPlace}
set_option maxRecDepth 100000 in
theorem open_text (hv : Value.okWide Tryd.prog W .any base 9 v) (h : DataW.Trod enc Tryd.prog W 0 (fun _ => true) true 9 v d ps) (hz : Sized Tryd.prog 9 d) : ∃ l : List UInt8, v = .string ⟨l.toArray⟩ ∧ l.length ≤ 140737488351232 := by
  obtain ⟨S, rfl⟩ := okWide_string Tryd.underlying9 hv
  obtain ⟨fuel, hf⟩ := h
  obtain ⟨s, e, hx, _⟩ := DataW.trod_string Tryd.underlying9 hf
  have hs : S = s := by simpa [Value.cells] using e
  subst hs
  have hd : d = .lit (.string S.data.toList) := (Prod.mk.inj hx).1
  subst hd
  have hw := hz S.data.toList.length (by simp [DataW.weights])
  refine ⟨S.data.toList, ?_, by unfold reachBytes at hw; omega⟩
  congr 1
theorem array3 {cs : Array Value} (h : cs.size = 3) : ∃ a b c, cs = #[a, b, c] := by
  obtain ⟨l⟩ := cs
  match l, h with
  | [a, b, c], _ => exact ⟨a, b, c, rfl⟩
set_option maxRecDepth 100000 in
theorem open_ty (hv : Value.okWide Tryd.prog W .any base 34 v) (h : DataW.Trod enc Tryd.prog W 0 (fun _ => true) true 34 v d ps) (hz : Sized Tryd.prog 34 d) : ∃ t : Ty, v = tyV t ∧ -9223372036854775808 ≤ t.w ∧ t.w ≤ 9223372036854775807 := by
  obtain ⟨cs, rfl, hsz⟩ := okWide_struct Tryd.underlying34 hv
  have h3 : Tryd.prog.cellsOf 34 = 3 := by kernel_rfl
  have hb : Tryd.prog.cellsOf 4 = 1 := by kernel_rfl
  have hi : Tryd.prog.cellsOf 3 = 1 := by kernel_rfl
  obtain ⟨c0, c1, c2, rfl⟩ := array3 (hsz.trans h3)
  obtain ⟨fuel, hf⟩ := h
  obtain ⟨xs, m, _, hx, _, hlen, hg⟩ := DataW.trod_struct Tryd.underlying34 hf
  match xs, hlen with
  | [y0, y1, y2], _ =>
    have f0 : DataW.trod enc Tryd.prog W 0 (fun _ => true) true m 4 (([c0, c1, c2].drop 0).take (Tryd.prog.cellsOf 4)) = some y0 := hg 0 _ rfl
    have f1 : DataW.trod enc Tryd.prog W 0 (fun _ => true) true m 4 (([c0, c1, c2].drop 1).take (Tryd.prog.cellsOf 4)) = some y1 := hg 1 _ rfl
    have f2 : DataW.trod enc Tryd.prog W 0 (fun _ => true) true m 3 (([c0, c1, c2].drop 2).take (Tryd.prog.cellsOf 3)) = some y2 := hg 2 _ rfl
    rw [hb] at f0 f1
    rw [hi] at f2
    obtain ⟨a, e0, _⟩ := DataW.trod_bool Tryd.underlying4 f0
    obtain ⟨b, e1, _⟩ := DataW.trod_bool Tryd.underlying4 f1
    obtain ⟨k, e2, _, hw⟩ := DataW.trod_int Tryd.underlying3 f2
    simp at e0 e1 e2
    subst e0 e1 e2
    have hw2 : -9223372036854775808 ≤ k ∧ k ≤ 9223372036854775807 := by simpa [Lit.wf, IntKind.min, IntKind.max, IntKind.signed, IntKind.bits] using hw
    exact ⟨⟨a, b, k⟩, rfl, hw2⟩
end
end Go.Proofs.YtjnjldbegngooaaDoor
