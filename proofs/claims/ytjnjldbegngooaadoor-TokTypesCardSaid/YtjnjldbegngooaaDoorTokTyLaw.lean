/-
  TokTypes: the law's tied card. Each type that may be is said by a text that is it, and that is not reserved; no other text is one; a literal of a type has its values, and no others. For any type, any number, any text, its first 40 bytes. Conditions: the laid variables hold what the program's text lays (the tie).
-/
import Derived.Test.YtjnjldbegngooaaDoorTokTyW
namespace Go.Proofs.YtjnjldbegngooaaDoor
open Go.ChangeShapes Go.WideShapes Go.ChangeAt Go.WideMaps Go.WideElems Go.RowKit
set_option linter.unusedVariables false
set_option linter.unusedSimpArgs false

theorem ty_walk (t : Ty) (n : Nat) (l : List UInt8) (W : World) (h1 : -9223372036854775808 ≤ t.w) (h2 : t.w ≤ 9223372036854775807) (hn : n < 18446744073709551616) (hl : l.length ≤ 140737488351232) (hg : Laid W) :
    Calls Tryd.prog 6 #[tyV t, .int .u64 (n : Int), .string ⟨l.toArray⟩] W fun e w' => e = .returned (.bool true) ∧ Below W.heap.size W w' :=
  (types_c t n l W h1 h2 hn hl hg).mono fun _ _ h => ⟨h.1, h.2.below⟩

set_option maxRecDepth 100000 in
theorem ty_lifted (os : Os) (started : os.Started) (H : Type) (enc : TypeId × Value → H) :
    ReturnsInHanded {} Tryd.checked os 6 .any (fun w args => (Rows.tokTypesSpec.pre enc Tryd.prog Tryd.f6 [] false w args ∧ laidMetH Tryd.prog laid7 w) ∧ sizedMet enc Tryd.prog Tryd.f6 (OpenSpec.ofChange Rows.tokTypesSpec) false w args)
      (Rows.tokTypesSpec.post enc Tryd.prog Tryd.f6 false true false false) := by
  refine returnsInHanded_of_change_and (C := Tryd.checked) (X := fun w _ => laidMetH Tryd.prog laid7 w) (fun _ _ _ hh h => h.of_heap hh) own started (by kernel_rfl) Tryd.func6
    (ChangeSpec.witness_shaped (enc := enc) (C := Tryd.checked) (os := os) (X := fun w _ => laidMetH Tryd.prog laid7 w) false (World.doorLaid Tryd.prog 400 os) #[.agg #[.bool false, .bool false, .int .i64 0], .int .u64 0, .string ByteArray.empty] 8 rfl (World.shaped_of_RefB (by kernel_rfl) (by kernel_rfl)) (by kernel_rfl) (by kernel_rfl) (by kernel_rfl) (door_met os _)) ?_
  intro W base args ds gs before hval0 hW _ hsz0 hL _
  have hg := laid_all hL
  have hval : ∀ (j : Nat) t v, Tryd.f6.params[j]? = some t → args[j]? = some v → Value.okWide Tryd.prog W .any base t v := hval0
  have hend := fun W' (hb : Below W.heap.size W W') => law_post (s := Rows.tokTypesSpec) (fn := Tryd.f6) laidOut (by kernel_rfl) rfl ⟨4, rfl, Tryd.underlying4⟩ (fun l hl => by match l, hl with | [_, _, _], _ => rfl) hW hb
  obtain ⟨p, q, hA0, hV, rfl, hfz, hnd⟩ := hW
  have hA : DataW.TrodAll enc Tryd.prog W 0 (fun _ => true) true Tryd.f6.params.toList args.toList ds p := hA0
  have hsz : (DataW.weightsEach Tryd.prog (Tryd.f6.params.toList ++ Rows.tokTypesSpec.plain.varTypes Tryd.prog) (ds ++ gs)).all (· ≤ reachBytes) = true := hsz0
  rw [Tryd.params6] at hA hval hsz
  obtain ⟨v0, vs0, d0, ds0, p0, q0, hargs, rfl, rfl, h0, r0⟩ := trodAll_cons hA
  obtain ⟨v1, vs1, d1, ds1, p1, q1, rfl, rfl, rfl, h1, r1⟩ := trodAll_cons r0
  obtain ⟨v2, vs2, d2, ds2, p2, q2, rfl, rfl, rfl, h2, r2⟩ := trodAll_cons r1
  obtain ⟨rfl, rfl, rfl⟩ := trodAll_nil r2
  obtain rfl : args = #[v0, v1, v2] := by cases args; simp_all
  obtain ⟨rfl, rfl⟩ := trodVars_none hV
  obtain ⟨ty0, rfl, tn0, tm0⟩ := open_ty (hval 0 34 v0 rfl rfl) h0 (Sized.arg (j := 0) hsz rfl rfl)
  obtain ⟨a1, rfl, rfl, rfl, f1⟩ := open_int Tryd.underlying32 (hval 1 32 v1 rfl rfl) h1
  obtain ⟨a1, rfl, w1⟩ := wf_nat (m := 18446744073709551616) rfl rfl f1
  obtain ⟨tx2, rfl, tl2⟩ := open_text (hval 2 9 v2 rfl rfl) h2 (Sized.arg (j := 2) hsz rfl rfl)
  refine (ty_walk ty0 a1 tx2 W tn0 tm0 w1 tl2 hg).mono fun e W' ⟨he, hb⟩ => ?_
  subst he
  exact hend W' hb

theorem ty_over : Rows.tokTypesRow.holds Tryd.pinned (OpenSpec.ofChange Rows.tokTypesSpec) :=
  OpenClaim.holds_of_wide 6 Tryd.f6 rfl rfl rfl rfl rfl rfl rfl ⟨rfl, rfl, rfl, rfl, rfl⟩ rfl rfl rfl rfl rfl (by kernel_rfl) Tryd.func6 (by kernel_rfl)
    (of_decide_eq_true (by kernel_rfl)) (by unfold Func.isWrapper; first | (rw [if_pos (by decide +kernel)]; kernel_rfl) | (rw [if_neg (by decide +kernel)]; exact ⟨rfl, rfl⟩))
    (fun os started H enc _ => ty_lifted os started H enc)

theorem tokTypes_said : Rows.TokTypesSaid := ty_over
theorem tokTypes_holds : Rows.TokTypesCardSaid :=
  Claim7.holds_tied_plain_at .later [] [.data, .data, .data, .sentinel, .sentinel, .mapped, .data] true (true, "82f284afd1f5447fba90b818d4d1b473c576b6355827642cd5c28ef0bef59fa5") true
    tokTypes_said (fun _ h => by cases h) (by kernel_rfl) (fun _ h => by cases h) tokTypes_row_tie rfl ⟨rfl, rfl⟩ (by kernel_rfl) rfl
    (fun f fn hf hfn => by
      obtain rfl : f = 6 := Option.some.inj ((show Tryd.prog.funcNamed "orrery/orrerylaw15.TokTypes" = some 6 by kernel_rfl).symm.trans hf) |>.symm
      obtain rfl : fn = Tryd.f6 := (Option.some.inj (Tryd.func6.symm.trans hfn)).symm
      exact ⟨by kernel_rfl, fun j t ht => by
        rw [Tryd.params6] at ht
        have hm : t ∈ ([34, 32, 9] : List TypeId) := by simpa using Array.mem_of_getElem? ht
        have hall : (([34, 32, 9] : List TypeId).all fun u => !Tryd.prog.wantsStandIn u) = true := by kernel_rfl
        exact (show Tryd.prog.wantsStandIn t = false by simpa using List.all_eq_true.1 hall t hm)⟩)
    (by kernel_rfl)
end Go.Proofs.YtjnjldbegngooaaDoor
