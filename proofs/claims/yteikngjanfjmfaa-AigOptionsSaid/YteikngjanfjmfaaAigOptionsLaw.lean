/-
  AigOptions: the law's statement. The same calls mean the same in graphs of any options: for any rows of calls and any words. No condition.
-/
import Derived.Test.YteikngjanfjmfaaAigOptions
import Derived.Test.YteikngjanfjmfaaAigOpen
namespace Go.Proofs.Yteikngjanfjmfaa
open Go.ChangeShapes Go.WideShapes Go.ChangeAt Go.RowKit

theorem opt_all (a : Option Addr) (acts : List (Int × List Nat)) (c : Nat) (wa : Option Addr) (wc : Nat) (ws : List Nat) (w : World) (hm : acts.length ≤ 140737488351232) (hs : SlActs w a acts) (hwc : ws.length ≤ wc) (hz : wc * 8 ≤ 140737488351232) (hws : SlN w .u64 wa ws) (hww : Words ws) :
    Calls Try.prog 8 #[.slice a acts.length c, .slice wa ws.length wc] w fun e w' => e = .returned (.bool true) ∧ Below w.heap.size w w' :=
  opt_walk a c acts.length acts wa wc ws w rfl hm hs hws hww (by omega)

set_option maxRecDepth 100000 in
theorem opt_lifted (os : Os) (started : os.Started) (H : Type) (enc : TypeId × Value → H) :
    ReturnsInHanded {} Try.checked os 8 .any (Rows.aigOptionsSpec.pre6 enc Try.prog Try.f8 Rows.aigOptionsRow.domain false) (Rows.aigOptionsSpec.post enc Try.prog Try.f8 false true false false) := by
  refine returnsInHanded_of_change_sized (C := Try.checked) own started (by kernel_rfl) Try.func8
    (ChangeSpec.witness6 (enc := enc) (C := Try.checked) false ⟨#[], #[.slice none 0 0, .slice none 0 0], []⟩ 8 (by kernel_rfl) (by kernel_rfl) (by kernel_rfl) (by kernel_rfl)) ?_
  intro W base args ds gs before hval0 hW _ hsz0 _
  have hval : ∀ (j : Nat) t v, Try.f8.params[j]? = some t → args[j]? = some v → Value.okWide Try.prog W .any base t v := hval0
  have hend := fun W' (hb : Below W.heap.size W W') => law_post (s := Rows.aigOptionsSpec) (fn := Try.f8) laidOut (by kernel_rfl) rfl ⟨4, rfl, Try.underlying4⟩ (fun l hl => by match l, hl with | [_, _], _ => rfl) hW hb
  obtain ⟨p, q, hA0, hV, rfl, hfz, hnd⟩ := hW
  have hA : DataW.TrodAll enc Try.prog W 0 (fun _ => true) true Try.f8.params.toList args.toList ds p := hA0
  have hsz : (DataW.weightsEach Try.prog (Try.f8.params.toList ++ Rows.aigOptionsSpec.plain.varTypes Try.prog) (ds ++ gs)).all (· ≤ reachBytes) = true := hsz0
  rw [Try.params8] at hA hval hsz
  obtain ⟨v0, vs0, d0, ds0, p0, q0, hargs, rfl, rfl, h0, r0⟩ := trodAll_cons hA
  obtain ⟨v1, vs1, d1, ds1, p1, q1, rfl, rfl, rfl, h1, r1⟩ := trodAll_cons r0
  obtain ⟨rfl, rfl, rfl⟩ := trodAll_nil r1
  obtain rfl : args = #[v0, v1] := by cases args; simp_all
  obtain ⟨rfl, rfl⟩ := trodVars_none hV
  obtain ⟨aa0, ac0, acp0, rfl, am0, as0⟩ := open_acts (hval 0 58 v0 rfl rfl) h0 (Sized.arg (j := 0) hsz rfl rfl)
  obtain ⟨a1, cap1, l1, rfl, hc1, hs1, hm1, hd1⟩ := open_nats (m := 18446744073709551616) Try.underlying23 Try.underlying41 (by kernel_rfl) rfl rfl (hval 1 23 v1 rfl rfl) h1
  have z1 := cap_reach (bytes := 8) (j := 1) hsz rfl rfl Try.underlying23 (by kernel_rfl) hd1
  refine (opt_all aa0 ac0 acp0 a1 cap1 l1 W am0 as0 hc1 z1 hs1 hm1).mono fun e W' ⟨he, hb⟩ => ?_
  subst he
  exact hend W' hb

theorem opt_over : Rows.aigOptionsRow.holds Try.pinned (OpenSpec.ofChange Rows.aigOptionsSpec) :=
  OpenClaim.holds_of_wide 8 Try.f8 rfl rfl rfl rfl rfl rfl rfl ⟨rfl, rfl, rfl, rfl, rfl⟩ rfl rfl rfl rfl rfl (by kernel_rfl) Try.func8 (by kernel_rfl)
    (of_decide_eq_true (by kernel_rfl)) (by unfold Func.isWrapper; first | (rw [if_pos (by decide +kernel)]; kernel_rfl) | (rw [if_neg (by decide +kernel)]; exact ⟨rfl, rfl⟩))
    (fun os started H enc _ => opt_lifted os started H enc)

theorem aigOptions_holds : Rows.AigOptionsSaid := opt_over
end Go.Proofs.Yteikngjanfjmfaa
