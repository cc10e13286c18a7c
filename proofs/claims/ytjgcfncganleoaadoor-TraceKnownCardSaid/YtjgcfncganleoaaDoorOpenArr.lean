/-
  Opening: an array of numbers by value.
-/
import Derived.Test.YtjgcfncganleoaaDoorTrc
namespace Go.Proofs.YtjgcfncganleoaaDoor
open Go.ChangeShapes Go.WideShapes Go.ChangeAt Go.WideMaps Go.WideElems Go.RowKit
set_option linter.unusedVariables false
set_option linter.unusedSimpArgs false

theorem open_natarr {H : Type} {enc : TypeId × Value → H} {P : Program} {W : World} {base : Nat} {t e : TypeId} {K : IntKind} {m n : Nat} {v : Value} {d : DataW H} {ps : List MemPlace} (ht : P.underlying t = some (.array n e)) (he : P.underlying e = some (.int K)) (hc : P.cellsOf e = 1) (hct : P.cellsOf t = n)
    (hK : K.signed = false) (hm : (2 : Int) ^ K.bits = m) (hv : Value.okWide P W .any base t v) (h : DataW.Trod enc P W 0 (fun _ => true) true t v d ps) :
    ∃ l : List Nat, v = .agg (nats K l).toArray ∧ l.length = n ∧ ∀ x ∈ l, x < m := by
  obtain ⟨cs, rfl, hsz, _⟩ : ∃ cs, v = .agg cs ∧ cs.size = P.cellsOf t ∧ Row.okWide P W .any base t cs := by simpa [Value.okWide, ht] using hv
  rw [hct] at hsz
  obtain ⟨fuel, hf⟩ := h
  obtain ⟨xs, mm, _, _, _, hxl, hx⟩ := DataW.trod_array ht hf
  rw [hc] at hx
  have key : ∀ i (hi : i < cs.size), ∃ k : Nat, cs[i] = .int K (k : Int) ∧ k < m := by
    intro i hi
    have h1 := hx i (by omega)
    rw [List.getElem?_eq_getElem (by omega)] at h1
    obtain ⟨a, e0, _, wa⟩ := DataW.trod_int he h1
    have e1 : ((Value.agg cs).cells.toList.drop (i * 1)).take 1 = [cs[i]] := by
      simp only [Value.cells, Nat.mul_one]
      rw [List.drop_eq_getElem_cons (by simpa using hi)]
      simp
    rw [e1] at e0
    simp at e0
    obtain ⟨k, rfl, hk⟩ := wf_nat hK hm wa
    exact ⟨k, e0, hk⟩
  have key2 : ∀ i, i < cs.size → ∃ k : Nat, cs[i]? = some (.int K (k : Int)) ∧ k < m := fun i hi => by
    obtain ⟨k, h1, h2⟩ := key i hi
    exact ⟨k, by rw [Array.getElem?_eq_getElem hi, h1], h2⟩
  have build : ∀ q, q ≤ cs.size → ∃ l : List Nat, l.length = q ∧ (∀ x ∈ l, x < m) ∧ cs.toList.take q = nats K l := by
    intro q
    induction q with
    | zero => intro _; exact ⟨[], rfl, by simp, by simp [nats]⟩
    | succ q ih =>
      intro hq
      obtain ⟨l, h1, h2, h3⟩ := ih (by omega)
      obtain ⟨k, h4, h5⟩ := key q (by omega)
      refine ⟨l ++ [k], by simp [h1], fun x hx => ?_, ?_⟩
      · rcases List.mem_append.1 hx with hx | hx
        · exact h2 x hx
        · simp at hx; omega
      · rw [take_snoc _ q (by simp; omega), h3, ← nats_append]
        congr 2
  obtain ⟨l, h1, h2, h3⟩ := build cs.size (Nat.le_refl _)
  refine ⟨l, ?_, by rw [h1, hsz], h2⟩
  rw [List.take_of_length_le (by simp)] at h3
  rw [← h3]
end Go.Proofs.YtjgcfncganleoaaDoor
