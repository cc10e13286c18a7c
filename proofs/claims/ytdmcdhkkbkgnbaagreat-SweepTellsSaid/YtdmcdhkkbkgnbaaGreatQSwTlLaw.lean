/-
  SweepTells: the law's statement. Of any netlist which registers are needed and stuck, what one sweep makes, and what is swept, gate by gate, are the document's; the netlist stays as it was. For any options and steps (the first 60 steps). No condition.
-/
import Derived.Test.YtdmcdhkkbkgnbaaGreatQSwTlW
import Derived.Test.YtdmcdhkkbkgnbaaGreatP35
namespace Go.Proofs.YtdmcdhkkbkgnbaaGreat
open Go.ChangeShapes Go.WideShapes Go.ChangeAt Go.RowKit
open Go.Maps (Keyed)
open Go.WideMaps
set_option linter.unusedVariables false
set_option linter.unusedSimpArgs false

theorem tells_walk (o1 o2 : Bool) (na : Option Addr) (nl : List NStp) (nc : Nat) (W : World) (nm : nl.length ≤ 140737488351232) (ns : SlNStepsC W na nl) (no : ∀ s ∈ nl, s.ok) :
    Calls Tryz.prog 3 #[.agg #[.bool o1, .bool o2], .slice na nl.length nc] W fun e w' => e = .returned (.bool true) ∧ Below W.heap.size W w' :=
  (sweep_tells o1 o2 na nl nc nl.length W rfl ns no).mono fun _ _ h => ⟨h.1, h.2.below⟩


set_option maxRecDepth 100000 in
theorem tells_lifted (os : Os) (started : os.Started) (H : Type) (enc : TypeId × Value → H) :
    ReturnsInHanded {} Tryz.checked os 3 .any (Rows.sweepTellsSpec.pre6 enc Tryz.prog Tryz.f3 Rows.sweepTellsRow.domain false) (Rows.sweepTellsSpec.post enc Tryz.prog Tryz.f3 false true false false) := by
  refine returnsInHanded_of_change_sized (C := Tryz.checked) own started (by kernel_rfl) Tryz.func3
    (ChangeSpec.witness6 (enc := enc) (C := Tryz.checked) false ⟨#[], #[.agg #[.bool false, .bool false], .slice none 0 0], []⟩ 8 (by kernel_rfl) (by kernel_rfl) (by kernel_rfl) (by kernel_rfl)) ?_
  intro W base args ds gs before hval0 hW _ hsz0 _
  have hval : ∀ (j : Nat) t v, Tryz.f3.params[j]? = some t → args[j]? = some v → Value.okWide Tryz.prog W .any base t v := hval0
  have hend := fun W' (hb : Below W.heap.size W W') => law_post (s := Rows.sweepTellsSpec) (fn := Tryz.f3) laidOut (by kernel_rfl) rfl ⟨4, rfl, Tryz.underlying4⟩ (fun l hl => by match l, hl with | [_, _], _ => rfl) hW hb
  obtain ⟨p, q, hA0, hV, rfl, hfz, hnd⟩ := hW
  have hA : DataW.TrodAll enc Tryz.prog W 0 (fun _ => true) true Tryz.f3.params.toList args.toList ds p := hA0
  have hsz : (DataW.weightsEach Tryz.prog (Tryz.f3.params.toList ++ Rows.sweepTellsSpec.plain.varTypes Tryz.prog) (ds ++ gs)).all (· ≤ reachBytes) = true := hsz0
  rw [Tryz.params3] at hA hval hsz
  obtain ⟨v0, vs0, d0, ds0, p0, q0, hargs, rfl, rfl, h0, r0⟩ := trodAll_cons hA
  obtain ⟨v1, vs1, d1, ds1, p1, q1, rfl, rfl, rfl, h1, r1⟩ := trodAll_cons r0
  obtain ⟨rfl, rfl, rfl⟩ := trodAll_nil r1
  obtain rfl : args = #[v0, v1] := by cases args; simp_all
  obtain ⟨rfl, rfl⟩ := trodVars_none hV
  obtain ⟨oa0, ob0, rfl⟩ := open_opts (hval 0 23 v0 rfl rfl) h0 (Sized.arg (j := 0) hsz rfl rfl)
  obtain ⟨na1, nl1, nc1, rfl, nm1, ns1, no1⟩ := open_nstepsc (hval 1 24 v1 rfl rfl) h1 (Sized.arg (j := 1) hsz rfl rfl)
  refine (tells_walk oa0 ob0 na1 nl1 nc1 W nm1 ns1 no1).mono fun e W' ⟨he, hb⟩ => ?_
  subst he
  exact hend W' hb

theorem tells_over : Rows.sweepTellsRow.holds Tryz.pinned (OpenSpec.ofChange Rows.sweepTellsSpec) :=
  OpenClaim.holds_of_wide 3 Tryz.f3 rfl rfl rfl rfl rfl rfl rfl ⟨rfl, rfl, rfl, rfl, rfl⟩ rfl rfl rfl rfl rfl (by kernel_rfl) Tryz.func3 (by kernel_rfl)
    (of_decide_eq_true (by kernel_rfl)) (by unfold Func.isWrapper; first | (rw [if_pos (by decide +kernel)]; kernel_rfl) | (rw [if_neg (by decide +kernel)]; exact ⟨rfl, rfl⟩))
    (fun os started H enc _ => tells_lifted os started H enc)

theorem sweepTells_holds : Rows.SweepTellsSaid := tells_over
end Go.Proofs.YtdmcdhkkbkgnbaaGreat
