/-
  SimTells: the law's statement. Any netlist, cycle by cycle, tells what the document's does: what the cycles tell, the registers, the cycles' number and asked words are the same; what is handed in stays; copies go on by themselves. For any options, steps and cycles. No condition.
-/
import Derived.Test.YtielfgngdhcpfaaGreatQSimTells
namespace Go.Proofs.YtielfgngdhcpfaaGreat
open Go.ChangeShapes Go.WideShapes Go.ChangeAt Go.RowKit
open Go.Maps (Keyed)
open Go.WideMaps
set_option linter.unusedVariables false
set_option linter.unusedSimpArgs false

theorem tells_walk (o1 o2 : Bool) (na : Option Addr) (nl : List NStp) (nc : Nat) (ca : Option Addr) (cl : List Cy) (cc : Nat) (W : World) (nm : nl.length ≤ 140737488351232) (ns : SlNStepsC W na nl) (no : ∀ s ∈ nl, s.ok)
    (cm : cl.length ≤ 140737488351232) (cs : SlCy W ca cl) (co : ∀ r ∈ cl, r.ok) :
    Calls Tryz.prog 6 #[.agg #[.bool o1, .bool o2], .slice na nl.length nc, .slice ca cl.length cc] W fun e w' => e = .returned (.bool true) ∧ Below W.heap.size W w' :=
  (sim_tells o1 o2 na nl nc nl.length ca cl cc cl.length W rfl ns no rfl cm cs co).mono fun _ _ h => ⟨h.1, h.2.below⟩

set_option maxRecDepth 100000 in
theorem tells_lifted (os : Os) (started : os.Started) (H : Type) (enc : TypeId × Value → H) :
    ReturnsInHanded {} Tryz.checked os 6 .any (Rows.simTellsSpec.pre6 enc Tryz.prog Tryz.f6 Rows.simTellsRow.domain false) (Rows.simTellsSpec.post enc Tryz.prog Tryz.f6 false true false false) := by
  refine returnsInHanded_of_change_sized (C := Tryz.checked) own started (by kernel_rfl) Tryz.func6
    (ChangeSpec.witness6 (enc := enc) (C := Tryz.checked) false ⟨#[], #[.agg #[.bool false, .bool false], .slice none 0 0, .slice none 0 0], []⟩ 8 (by kernel_rfl) (by kernel_rfl) (by kernel_rfl) (by kernel_rfl)) ?_
  intro W base args ds gs before hval0 hW _ hsz0 _
  have hval : ∀ (j : Nat) t v, Tryz.f6.params[j]? = some t → args[j]? = some v → Value.okWide Tryz.prog W .any base t v := hval0
  have hend := fun W' (hb : Below W.heap.size W W') => law_post (s := Rows.simTellsSpec) (fn := Tryz.f6) laidOut (by kernel_rfl) rfl ⟨4, rfl, Tryz.underlying4⟩ (fun l hl => by match l, hl with | [_, _, _], _ => rfl) hW hb
  obtain ⟨p, q, hA0, hV, rfl, hfz, hnd⟩ := hW
  have hA : DataW.TrodAll enc Tryz.prog W 0 (fun _ => true) true Tryz.f6.params.toList args.toList ds p := hA0
  have hsz : (DataW.weightsEach Tryz.prog (Tryz.f6.params.toList ++ Rows.simTellsSpec.plain.varTypes Tryz.prog) (ds ++ gs)).all (· ≤ reachBytes) = true := hsz0
  rw [Tryz.params6] at hA hval hsz
  obtain ⟨v0, vs0, d0, ds0, p0, q0, hargs, rfl, rfl, h0, r0⟩ := trodAll_cons hA
  obtain ⟨v1, vs1, d1, ds1, p1, q1, rfl, rfl, rfl, h1, r1⟩ := trodAll_cons r0
  obtain ⟨v2, vs2, d2, ds2, p2, q2, rfl, rfl, rfl, h2, r2⟩ := trodAll_cons r1
  obtain ⟨rfl, rfl, rfl⟩ := trodAll_nil r2
  obtain rfl : args = #[v0, v1, v2] := by cases args; simp_all
  obtain ⟨rfl, rfl⟩ := trodVars_none hV
  obtain ⟨oa0, ob0, rfl⟩ := open_opts (hval 0 23 v0 rfl rfl) h0 (Sized.arg (j := 0) hsz rfl rfl)
  obtain ⟨na1, nl1, nc1, rfl, nm1, ns1, no1⟩ := open_nstepsc (hval 1 24 v1 rfl rfl) h1 (Sized.arg (j := 1) hsz rfl rfl)
  obtain ⟨ca2, cl2, cc2, rfl, cm2, cs2, co2⟩ := open_cycles (hval 2 72 v2 rfl rfl) h2 (Sized.arg (j := 2) hsz rfl rfl)
  refine (tells_walk oa0 ob0 na1 nl1 nc1 ca2 cl2 cc2 W nm1 ns1 no1 cm2 cs2 co2).mono fun e W' ⟨he, hb⟩ => ?_
  subst he
  exact hend W' hb

theorem tells_over : Rows.simTellsRow.holds Tryz.pinned (OpenSpec.ofChange Rows.simTellsSpec) :=
  OpenClaim.holds_of_wide 6 Tryz.f6 rfl rfl rfl rfl rfl rfl rfl ⟨rfl, rfl, rfl, rfl, rfl⟩ rfl rfl rfl rfl rfl (by kernel_rfl) Tryz.func6 (by kernel_rfl)
    (of_decide_eq_true (by kernel_rfl)) (by unfold Func.isWrapper; first | (rw [if_pos (by decide +kernel)]; kernel_rfl) | (rw [if_neg (by decide +kernel)]; exact ⟨rfl, rfl⟩))
    (fun os started H enc _ => tells_lifted os started H enc)

theorem simTells_holds : Rows.SimTellsSaid := tells_over
end Go.Proofs.YtielfgngdhcpfaaGreat
