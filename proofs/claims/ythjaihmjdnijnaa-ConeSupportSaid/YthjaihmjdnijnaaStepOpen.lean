/-
  Law 04's arguments, opened: rows of steps; two graphs' steps.
-/
import Derived.Test.YthjaihmjdnijnaaOptsOpen
import Derived.Test.YthjaihmjdnijnaaBuild
namespace Go.Proofs.Ythjaihmjdnijnaa
open Go.ChangeShapes Go.WideShapes Go.ChangeAt Go.RowKit Go.Deep Go.Joins
set_option linter.unusedVariables false

section
variable {H : Type} {enc : TypeId × Value → H} {W : World} {base : Nat} {v : Value} {d : DataW H} {ps : List MemPlace}
set_option maxRecDepth 100000 in
theorem open_stepsT {fuel : Nat} {y : DataW H × List MemPlace} (hf : DataW.trod enc Try.prog W 0 (fun _ => true) true fuel 24 [v] = some y) (hz : Sized Try.prog 24 y.1) :
    ∃ (a : Option Addr) (l : List Stp) (c : Nat), v = .slice a l.length c ∧ l.length ≤ 140737488351232 ∧ SlSteps W a l ∧ ∀ s ∈ l, Stp.ok s := by
  obtain ⟨a0, len0, cap0, rfl, hlc, hcb, hnil, hat⟩ := open_recs Try.underlying24 Try.underlying69 (by kernel_rfl) (by kernel_rfl) hf hz
  have hb : Try.prog.bytesOf 69 = 16 := by kernel_rfl
  rw [hb] at hcb
  obtain ⟨acts, hl, hacts⟩ := choose_list (n := len0) (p := fun k (x : Stp) => (∃ b o, a0 = some ⟨b, o, none⟩ ∧ W.cell? ⟨b, o + k * 3, none⟩ = some (.int .i64 x.1) ∧ W.cell? ⟨b, o + k * 3 + 1, none⟩ = some (.int .u32 (x.2.1 : Int)) ∧ W.cell? ⟨b, o + k * 3 + 2, none⟩ = some (.int .u32 (x.2.2 : Int))) ∧ Stp.ok x) fun i hi => by
    have h00 := hat 0 (by omega)
    obtain ⟨ad, m, rfl, hfields⟩ := hat i hi
    obtain ⟨u0, z0, hc0, ht0, _⟩ := hfields 0 _ rfl
    obtain ⟨u1, z1, hc1, ht1, _⟩ := hfields 1 _ rfl
    obtain ⟨u2, z2, hc2, ht2, _⟩ := hfields 2 _ rfl
    obtain ⟨x, e0, _, f0⟩ := DataW.trod_int Try.underlying3 ht0
    obtain ⟨y, e1, _, f1⟩ := DataW.trod_int Try.underlying36 ht1
    obtain ⟨z, e2, _, f2⟩ := DataW.trod_int Try.underlying36 ht2
    simp at e0 e1 e2
    subst e0 e1 e2
    obtain ⟨y, rfl, y32⟩ := wf_nat (m := 4294967296) rfl rfl f1
    obtain ⟨z, rfl, z32⟩ := wf_nat (m := 4294967296) rfl rfl f2
    have fx : -9223372036854775808 ≤ x ∧ x ≤ 9223372036854775807 := by
      simp [Lit.wf, IntKind.min, IntKind.max, IntKind.signed, IntKind.bits] at f0
      omega
    obtain ⟨ad2, m2, e2, hf2⟩ := h00
    injection e2 with e2
    subst e2
    obtain ⟨u3, z3, hc3, _, _⟩ := hf2 0 _ rfl
    obtain ⟨b, o, rfl⟩ := plain_spot (by simpa using hc3)
    rw [add_at] at hc0 hc1 hc2
    exact ⟨(x, y, z), ⟨b, o, rfl, hc0, hc1, hc2⟩, fx.1, fx.2, y32, z32⟩
  refine ⟨a0, acts, cap0, by rw [hl], by omega, fun k hk => (hacts k hk).1, fun s hs => ?_⟩
  obtain ⟨k, hk, rfl⟩ := List.getElem_of_mem hs
  exact (hacts k hk).2
set_option maxRecDepth 100000 in
theorem open_steps (hv : Value.okWide Try.prog W .any base 24 v) (h : DataW.Trod enc Try.prog W 0 (fun _ => true) true 24 v d ps) (hz : Sized Try.prog 24 d) :
    ∃ (a : Option Addr) (l : List Stp) (c : Nat), v = .slice a l.length c ∧ l.length ≤ 140737488351232 ∧ SlSteps W a l ∧ ∀ s ∈ l, Stp.ok s := by
  obtain ⟨a0, len0, cap0, rfl⟩ := okWide_slice Try.underlying24 hv
  obtain ⟨fuel, hf⟩ := h
  exact open_stepsT (v := .slice a0 len0 cap0) hf hz
end
end Go.Proofs.Ythjaihmjdnijnaa
