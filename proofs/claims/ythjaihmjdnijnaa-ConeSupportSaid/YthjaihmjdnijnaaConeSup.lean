/-
  ConeSupport: the statement, out of its walk. For any options, steps, literal and words. No condition.
-/
import Derived.Test.YthjaihmjdnijnaaConeSupW
namespace Go.Proofs.Ythjaihmjdnijnaa
open Go.ChangeShapes Go.WideShapes Go.ChangeAt Go.RowKit
set_option linter.unusedVariables false
set_option linter.unusedSimpArgs false

set_option maxRecDepth 100000 in
theorem conesup_lifted (os : Os) (started : os.Started) (H : Type) (enc : TypeId × Value → H) :
    ReturnsInHanded {} Try.checked os 4 .any (Rows.coneSupportSpec.pre6 enc Try.prog Try.f4 Rows.coneSupportRow.domain false) (Rows.coneSupportSpec.post enc Try.prog Try.f4 false true false false) := by
  refine returnsInHanded_of_change_sized (C := Try.checked) own started (by kernel_rfl) Try.func4
    (ChangeSpec.witness6 (enc := enc) (C := Try.checked) false ⟨#[], #[.agg #[.bool false, .bool false], .slice none 0 0, .int .u32 0, .slice none 0 0, .slice none 0 0], []⟩ 8 (by kernel_rfl) (by kernel_rfl) (by kernel_rfl) (by kernel_rfl)) ?_
  intro W base args ds gs before hval0 hW _ hsz0 _
  have hval : ∀ (j : Nat) t v, Try.f4.params[j]? = some t → args[j]? = some v → Value.okWide Try.prog W .any base t v := hval0
  have hend := fun W' (hb : Below W.heap.size W W') => law_post (s := Rows.coneSupportSpec) (fn := Try.f4) laidOut (by kernel_rfl) rfl ⟨4, rfl, Try.underlying4⟩ (fun l hl => by match l, hl with | [_, _, _, _, _], _ => rfl) hW hb
  obtain ⟨p, q, hA0, hV, rfl, hfz, hnd⟩ := hW
  have hA : DataW.TrodAll enc Try.prog W 0 (fun _ => true) true Try.f4.params.toList args.toList ds p := hA0
  have hsz : (DataW.weightsEach Try.prog (Try.f4.params.toList ++ Rows.coneSupportSpec.plain.varTypes Try.prog) (ds ++ gs)).all (· ≤ reachBytes) = true := hsz0
  rw [Try.params4] at hA hval hsz
  obtain ⟨v0, vs0, d0, ds0, p0, q0, hargs, rfl, rfl, h0, r0⟩ := trodAll_cons hA
  obtain ⟨v1, vs1, d1, ds1, p1, q1, rfl, rfl, rfl, h1, r1⟩ := trodAll_cons r0
  obtain ⟨v2, vs2, d2, ds2, p2, q2, rfl, rfl, rfl, h2, r2⟩ := trodAll_cons r1
  obtain ⟨v3, vs3, d3, ds3, p3, q3, rfl, rfl, rfl, h3, r3⟩ := trodAll_cons r2
  obtain ⟨v4, vs4, d4, ds4, p4, q4, rfl, rfl, rfl, h4, r4⟩ := trodAll_cons r3
  obtain ⟨rfl, rfl, rfl⟩ := trodAll_nil r4
  obtain rfl : args = #[v0, v1, v2, v3, v4] := by cases args; simp_all
  obtain ⟨rfl, rfl⟩ := trodVars_none hV
  obtain ⟨oa0, ob0, rfl⟩ := open_opts (hval 0 23 v0 rfl rfl) h0 (Sized.arg (j := 0) hsz rfl rfl)
  obtain ⟨sa1, sl1, sc1, rfl, sm1, ss1, so1⟩ := open_steps (hval 1 24 v1 rfl rfl) h1 (Sized.arg (j := 1) hsz rfl rfl)
  obtain ⟨a2, rfl, rfl, rfl, f2⟩ := open_int Try.underlying36 (hval 2 36 v2 rfl rfl) h2
  obtain ⟨a2, rfl, w2⟩ := wf_nat (m := 4294967296) rfl rfl f2
  obtain ⟨a3, cap3, l3, rfl, hc3, hs3, hm3, hd3⟩ := open_nats (m := 18446744073709551616) Try.underlying54 Try.underlying57 (by kernel_rfl) rfl rfl (hval 3 54 v3 rfl rfl) h3
  have z3 := cap_reach (bytes := 8) (j := 3) hsz rfl rfl Try.underlying54 (by kernel_rfl) hd3
  obtain ⟨a4, cap4, l4, rfl, hc4, hs4, hm4, hd4⟩ := open_nats (m := 18446744073709551616) Try.underlying54 Try.underlying57 (by kernel_rfl) rfl rfl (hval 4 54 v4 rfl rfl) h4
  have z4 := cap_reach (bytes := 8) (j := 4) hsz rfl rfl Try.underlying54 (by kernel_rfl) hd4
  refine (conesup_walk oa0 ob0 sa1 sl1 sc1 a2 a3 cap3 l3 a4 cap4 l4 W sm1 ss1 so1 w2 hc3 z3 hs3 hm3 hc4 z4 hs4 hm4).mono fun e W' ⟨he, hb⟩ => ?_
  subst he
  exact hend W' hb

theorem conesup_over : Rows.coneSupportRow.holds Try.pinned (OpenSpec.ofChange Rows.coneSupportSpec) :=
  OpenClaim.holds_of_wide 4 Try.f4 rfl rfl rfl rfl rfl rfl rfl ⟨rfl, rfl, rfl, rfl, rfl⟩ rfl rfl rfl rfl rfl (by kernel_rfl) Try.func4 (by kernel_rfl)
    (of_decide_eq_true (by kernel_rfl)) (by unfold Func.isWrapper; first | (rw [if_pos (by decide +kernel)]; kernel_rfl) | (rw [if_neg (by decide +kernel)]; exact ⟨rfl, rfl⟩))
    (fun os started H enc _ => conesup_lifted os started H enc)

theorem coneSupport_holds : Rows.ConeSupportSaid := conesup_over
end Go.Proofs.Ythjaihmjdnijnaa
