/-
  EmitOptions: the law's tied card. A netlist laid anew gate by gate, of any options, and a copy, have the same text. Conditions: the laid variables hold what the program's text lays (the tie).
-/
import Derived.Test.YtnjoklcddodfeaaGreatDoorQEmitR
import Derived.Test.YtnjoklcddodfeaaGreatDoorQEmitCard
namespace Go.Proofs.YtnjoklcddodfeaaGreatDoor
open Go.ChangeShapes Go.WideShapes Go.ChangeAt Go.WideMaps Go.WideElems Go.RowKit
set_option linter.unusedVariables false
set_option linter.unusedSimpArgs false

theorem eo_walk (o1 o2 p1 p2 : Bool) (na : Option Addr) (nl : List NStp) (nc : Nat) (W : World) (nm : nl.length ≤ 140737488351232) (ns : SlNStepsC W na nl) (no : ∀ s ∈ nl, s.ok) (hg : PowLaid W) :
    Calls Tryz.prog 3 #[.agg #[.bool o1, .bool o2], .agg #[.bool p1, .bool p2], .slice na nl.length nc] W fun e w' => e = .returned (.bool true) ∧ Below W.heap.size W w' :=
  (options_c o1 o2 p1 p2 na nl nc nl.length W rfl ns no hg).mono fun _ _ h => ⟨h.1, h.2.below⟩

set_option maxRecDepth 100000 in
theorem eo_lifted (os : Os) (started : os.Started) (H : Type) (enc : TypeId × Value → H) :
    ReturnsInHanded {} Tryz.checked os 3 .any (fun w args => (Rows.emitOptionsSpec.pre enc Tryz.prog Tryz.f3 [] false w args ∧ laidMetH Tryz.prog laid3 w) ∧ sizedMet enc Tryz.prog Tryz.f3 (OpenSpec.ofChange Rows.emitOptionsSpec) false w args)
      (Rows.emitOptionsSpec.post enc Tryz.prog Tryz.f3 false true false false) := by
  refine returnsInHanded_of_change_and (C := Tryz.checked) (X := fun w _ => laidMetH Tryz.prog laid3 w) (fun _ _ _ hh h => h.of_heap hh) own started (by kernel_rfl) Tryz.func3
    (ChangeSpec.witness_shaped (enc := enc) (C := Tryz.checked) (os := os) (X := fun w _ => laidMetH Tryz.prog laid3 w) false (World.doorLaid Tryz.prog 400 os) #[.agg #[.bool false, .bool false], .agg #[.bool false, .bool false], .slice none 0 0] 8 rfl (World.shaped_of_RefB (by kernel_rfl) (by kernel_rfl)) (by kernel_rfl) (by kernel_rfl) (by kernel_rfl) (door_met os _)) ?_
  intro W base args ds gs before hval0 hW _ hsz0 hL _
  have hg := laid_pow hL
  have hval : ∀ (j : Nat) t v, Tryz.f3.params[j]? = some t → args[j]? = some v → Value.okWide Tryz.prog W .any base t v := hval0
  have hend := fun W' (hb : Below W.heap.size W W') => law_post (s := Rows.emitOptionsSpec) (fn := Tryz.f3) laidOut (by kernel_rfl) rfl ⟨4, rfl, Tryz.underlying4⟩ (fun l hl => by match l, hl with | [_, _, _], _ => rfl) hW hb
  obtain ⟨p, q, hA0, hV, rfl, hfz, hnd⟩ := hW
  have hA : DataW.TrodAll enc Tryz.prog W 0 (fun _ => true) true Tryz.f3.params.toList args.toList ds p := hA0
  have hsz : (DataW.weightsEach Tryz.prog (Tryz.f3.params.toList ++ Rows.emitOptionsSpec.plain.varTypes Tryz.prog) (ds ++ gs)).all (· ≤ reachBytes) = true := hsz0
  rw [Tryz.params3] at hA hval hsz
  obtain ⟨v0, vs0, d0, ds0, p0, q0, hargs, rfl, rfl, h0, r0⟩ := trodAll_cons hA
  obtain ⟨v1, vs1, d1, ds1, p1, q1, rfl, rfl, rfl, h1, r1⟩ := trodAll_cons r0
  obtain ⟨v2, vs2, d2, ds2, p2, q2, rfl, rfl, rfl, h2, r2⟩ := trodAll_cons r1
  obtain ⟨rfl, rfl, rfl⟩ := trodAll_nil r2
  obtain rfl : args = #[v0, v1, v2] := by cases args; simp_all
  obtain ⟨rfl, rfl⟩ := trodVars_none hV
  obtain ⟨oa0, ob0, rfl⟩ := open_opts (hval 0 23 v0 rfl rfl) h0 (Sized.arg (j := 0) hsz rfl rfl)
  obtain ⟨oa1, ob1, rfl⟩ := open_opts (hval 1 23 v1 rfl rfl) h1 (Sized.arg (j := 1) hsz rfl rfl)
  obtain ⟨na2, nl2, nc2, rfl, nm2, ns2, no2⟩ := open_nstepsc (hval 2 24 v2 rfl rfl) h2 (Sized.arg (j := 2) hsz rfl rfl)
  refine (eo_walk oa0 ob0 oa1 ob1 na2 nl2 nc2 W nm2 ns2 no2 hg).mono fun e W' ⟨he, hb⟩ => ?_
  subst he
  exact hend W' hb

theorem eo_over : Rows.emitOptionsRow.holds Tryz.pinned (OpenSpec.ofChange Rows.emitOptionsSpec) :=
  OpenClaim.holds_of_wide 3 Tryz.f3 rfl rfl rfl rfl rfl rfl rfl ⟨rfl, rfl, rfl, rfl, rfl⟩ rfl rfl rfl rfl rfl (by kernel_rfl) Tryz.func3 (by kernel_rfl)
    (of_decide_eq_true (by kernel_rfl)) (by unfold Func.isWrapper; first | (rw [if_pos (by decide +kernel)]; kernel_rfl) | (rw [if_neg (by decide +kernel)]; exact ⟨rfl, rfl⟩))
    (fun os started H enc _ => eo_lifted os started H enc)

theorem emitOptions_said : Rows.EmitOptionsSaid := eo_over
theorem emitOptions_holds : Rows.EmitOptionsCardSaid :=
  Claim7.holds_tied_plain_at .later [] [.data, .data, .data] true (true, "200171d27cc9508a43092f07b931dc97c379839cf0d6d4ae6b57a68e63c87cb0") true
    emitOptions_said (fun _ h => by cases h) (by kernel_rfl) (fun _ h => by cases h) emitOptions_row_tie rfl ⟨rfl, rfl⟩ (by kernel_rfl) rfl
    (fun f fn hf hfn => by
      obtain rfl : f = 3 := Option.some.inj ((show Tryz.prog.funcNamed "orrery/orrerylaw10.EmitOptions" = some 3 by kernel_rfl).symm.trans hf) |>.symm
      obtain rfl : fn = Tryz.f3 := (Option.some.inj (Tryz.func3.symm.trans hfn)).symm
      exact ⟨by kernel_rfl, fun j t ht => by
        rw [Tryz.params3] at ht
        have hm : t ∈ ([23, 23, 24] : List TypeId) := by simpa using Array.mem_of_getElem? ht
        have hall : (([23, 23, 24] : List TypeId).all fun u => !Tryz.prog.wantsStandIn u) = true := by kernel_rfl
        exact (show Tryz.prog.wantsStandIn t = false by simpa using List.all_eq_true.1 hall t hm)⟩)
    (by kernel_rfl)
end Go.Proofs.YtnjoklcddodfeaaGreatDoor
