/-
  SweepTraces: the law's statement: THE STAGE'S THEOREM: what goes out is the same, cycle by cycle, of a netlist, of what one sweep makes, and of what is swept. For any options, steps and rows of words. No condition.
-/
import Derived.Test.YtdmcdhkkbkgnbaaGreatQSwTrW
import Derived.Test.YtdmcdhkkbkgnbaaGreatP40
namespace Go.Proofs.YtdmcdhkkbkgnbaaGreat
open Go.ChangeShapes Go.WideShapes Go.ChangeAt Go.RowKit
open Go.Maps (Keyed)
open Go.WideMaps
set_option linter.unusedVariables false
set_option linter.unusedSimpArgs false

theorem traces_walk (o1 o2 : Bool) (na : Option Addr) (nl : List NStp) (nc : Nat) (wa : Option Addr) (wl : List WR) (wc : Nat) (W : World) (nm : nl.length ≤ 140737488351232) (ns : SlNStepsC W na nl) (no : ∀ s ∈ nl, s.ok)
    (wm : wl.length ≤ 140737488351232) (ws : SlW W wa wl) (wo : ∀ r ∈ wl, Words r.l ∧ r.l.length ≤ 17592186043904) :
    Calls Tryz.prog 6 #[.agg #[.bool o1, .bool o2], .slice na nl.length nc, .slice wa wl.length wc] W fun e w' => e = .returned (.bool true) ∧ Below W.heap.size W w' :=
  (sweep_traces o1 o2 na nl nc nl.length wa wl wc wl.length W rfl ns no rfl wm ws wo).mono fun _ _ h => ⟨h.1, h.2.below⟩

set_option maxRecDepth 100000 in
theorem traces_lifted (os : Os) (started : os.Started) (H : Type) (enc : TypeId × Value → H) :
    ReturnsInHanded {} Tryz.checked os 6 .any (Rows.sweepTracesSpec.pre6 enc Tryz.prog Tryz.f6 Rows.sweepTracesRow.domain false) (Rows.sweepTracesSpec.post enc Tryz.prog Tryz.f6 false true false false) := by
  refine returnsInHanded_of_change_sized (C := Tryz.checked) own started (by kernel_rfl) Tryz.func6
    (ChangeSpec.witness6 (enc := enc) (C := Tryz.checked) false ⟨#[], #[.agg #[.bool false, .bool false], .slice none 0 0, .slice none 0 0], []⟩ 8 (by kernel_rfl) (by kernel_rfl) (by kernel_rfl) (by kernel_rfl)) ?_
  intro W base args ds gs before hval0 hW _ hsz0 _
  have hval : ∀ (j : Nat) t v, Tryz.f6.params[j]? = some t → args[j]? = some v → Value.okWide Tryz.prog W .any base t v := hval0
  have hend := fun W' (hb : Below W.heap.size W W') => law_post (s := Rows.sweepTracesSpec) (fn := Tryz.f6) laidOut (by kernel_rfl) rfl ⟨4, rfl, Tryz.underlying4⟩ (fun l hl => by match l, hl with | [_, _, _], _ => rfl) hW hb
  obtain ⟨p, q, hA0, hV, rfl, hfz, hnd⟩ := hW
  have hA : DataW.TrodAll enc Tryz.prog W 0 (fun _ => true) true Tryz.f6.params.toList args.toList ds p := hA0
  have hsz : (DataW.weightsEach Tryz.prog (Tryz.f6.params.toList ++ Rows.sweepTracesSpec.plain.varTypes Tryz.prog) (ds ++ gs)).all (· ≤ reachBytes) = true := hsz0
  rw [Tryz.params6] at hA hval hsz
  obtain ⟨v0, vs0, d0, ds0, p0, q0, hargs, rfl, rfl, h0, r0⟩ := trodAll_cons hA
  obtain ⟨v1, vs1, d1, ds1, p1, q1, rfl, rfl, rfl, h1, r1⟩ := trodAll_cons r0
  obtain ⟨v2, vs2, d2, ds2, p2, q2, rfl, rfl, rfl, h2, r2⟩ := trodAll_cons r1
  obtain ⟨rfl, rfl, rfl⟩ := trodAll_nil r2
  obtain rfl : args = #[v0, v1, v2] := by cases args; simp_all
  obtain ⟨rfl, rfl⟩ := trodVars_none hV
  obtain ⟨oa0, ob0, rfl⟩ := open_opts (hval 0 23 v0 rfl rfl) h0 (Sized.arg (j := 0) hsz rfl rfl)
  obtain ⟨na1, nl1, nc1, rfl, nm1, ns1, no1⟩ := open_nstepsc (hval 1 24 v1 rfl rfl) h1 (Sized.arg (j := 1) hsz rfl rfl)
  obtain ⟨wa2, wl2, wc2, rfl, wm2, ws2, wo2⟩ := open_wrows (hval 2 74 v2 rfl rfl) h2 (Sized.arg (j := 2) hsz rfl rfl)
  refine (traces_walk oa0 ob0 na1 nl1 nc1 wa2 wl2 wc2 W nm1 ns1 no1 wm2 ws2 wo2).mono fun e W' ⟨he, hb⟩ => ?_
  subst he
  exact hend W' hb

theorem traces_over : Rows.sweepTracesRow.holds Tryz.pinned (OpenSpec.ofChange Rows.sweepTracesSpec) :=
  OpenClaim.holds_of_wide 6 Tryz.f6 rfl rfl rfl rfl rfl rfl rfl ⟨rfl, rfl, rfl, rfl, rfl⟩ rfl rfl rfl rfl rfl (by kernel_rfl) Tryz.func6 (by kernel_rfl)
    (of_decide_eq_true (by kernel_rfl)) (by unfold Func.isWrapper; first | (rw [if_pos (by decide +kernel)]; kernel_rfl) | (rw [if_neg (by decide +kernel)]; exact ⟨rfl, rfl⟩))
    (fun os started H enc _ => traces_lifted os started H enc)

theorem sweepTraces_holds : Rows.SweepTracesSaid := traces_over
end Go.Proofs.YtdmcdhkkbkgnbaaGreat
