/-
  AigMeans: the law's statement. By Eval, And, Or, Xor, Mux are what they say, and Raw is And, in every graph that calls grow: for any options, any rows of calls, any literals and words. No condition.
-/
import Derived.Test.YteikngjanfjmfaaAigMeans
import Derived.Test.YteikngjanfjmfaaAigOpen
namespace Go.Proofs.Yteikngjanfjmfaa
open Go.ChangeShapes Go.WideShapes Go.ChangeAt Go.RowKit

theorem means_all (o1 o2 : Bool) (a : Option Addr) (acts : List (Int × List Nat)) (c : Nat) (xa : Option Addr) (xc : Nat) (xl : List Nat) (wa : Option Addr) (wc : Nat) (ws : List Nat) (w : World) (hm : acts.length ≤ 140737488351232) (hs : SlActs w a acts)
    (hxc : xl.length ≤ xc) (hxz : xc ≤ 140737488351232) (hxn : xa = none → xl.length = 0 ∧ xc = 0) (hxs : SlN w .u32 xa xl) (hws : SlN w .u64 wa ws) (hww : Words ws) (hwz : ws.length ≤ 140737488351232) :
    Calls Try.prog 9 #[.agg #[.bool o1, .bool o2], .slice a acts.length c, .agg #[.slice xa xl.length xc, .slice wa ws.length wc]] w fun e w' => e = .returned (.bool true) ∧ Below w.heap.size w w' :=
  means_walk o1 o2 a c acts.length acts xa xc xl wa wc ws w rfl hm hs hxc hxz hxn hxs hws hww hwz

set_option maxRecDepth 100000 in
theorem means_lifted (os : Os) (started : os.Started) (H : Type) (enc : TypeId × Value → H) :
    ReturnsInHanded {} Try.checked os 9 .any (Rows.aigMeansSpec.pre6 enc Try.prog Try.f9 Rows.aigMeansRow.domain false) (Rows.aigMeansSpec.post enc Try.prog Try.f9 false true false false) := by
  refine returnsInHanded_of_change_sized (C := Try.checked) own started (by kernel_rfl) Try.func9
    (ChangeSpec.witness6 (enc := enc) (C := Try.checked) false ⟨#[], #[.agg #[.bool false, .bool false], .slice none 0 0, .agg #[.slice none 0 0, .slice none 0 0]], []⟩ 8 (by kernel_rfl) (by kernel_rfl) (by kernel_rfl) (by kernel_rfl)) ?_
  intro W base args ds gs before hval0 hW _ hsz0 _
  have hval : ∀ (j : Nat) t v, Try.f9.params[j]? = some t → args[j]? = some v → Value.okWide Try.prog W .any base t v := hval0
  have hend := fun W' (hb : Below W.heap.size W W') => law_post (s := Rows.aigMeansSpec) (fn := Try.f9) laidOut (by kernel_rfl) rfl ⟨4, rfl, Try.underlying4⟩ (fun l hl => by match l, hl with | [_, _, _], _ => rfl) hW hb
  obtain ⟨p, q, hA0, hV, rfl, hfz, hnd⟩ := hW
  have hA : DataW.TrodAll enc Try.prog W 0 (fun _ => true) true Try.f9.params.toList args.toList ds p := hA0
  have hsz : (DataW.weightsEach Try.prog (Try.f9.params.toList ++ Rows.aigMeansSpec.plain.varTypes Try.prog) (ds ++ gs)).all (· ≤ reachBytes) = true := hsz0
  rw [Try.params9] at hA hval hsz
  obtain ⟨v0, vs0, d0, ds0, p0, q0, hargs, rfl, rfl, h0, r0⟩ := trodAll_cons hA
  obtain ⟨v1, vs1, d1, ds1, p1, q1, rfl, rfl, rfl, h1, r1⟩ := trodAll_cons r0
  obtain ⟨v2, vs2, d2, ds2, p2, q2, rfl, rfl, rfl, h2, r2⟩ := trodAll_cons r1
  obtain ⟨rfl, rfl, rfl⟩ := trodAll_nil r2
  obtain rfl : args = #[v0, v1, v2] := by cases args; simp_all
  obtain ⟨rfl, rfl⟩ := trodVars_none hV
  obtain ⟨oa0, ob0, rfl⟩ := open_opts (hval 0 65 v0 rfl rfl) h0 (Sized.arg (j := 0) hsz rfl rfl)
  obtain ⟨aa1, ac1, acp1, rfl, am1, as1⟩ := open_acts (hval 1 58 v1 rfl rfl) h1 (Sized.arg (j := 1) hsz rfl rfl)
  obtain ⟨xa2, xc2, xl2, wa2, wc2, ws2, rfl, x12, x22, x32, x42, x52, x62, x72⟩ := open_ask (hval 2 80 v2 rfl rfl) h2 (Sized.arg (j := 2) hsz rfl rfl)
  refine (means_all oa0 ob0 aa1 ac1 acp1 xa2 xc2 xl2 wa2 wc2 ws2 W am1 as1 x12 x22 x32 x42 x52 x62 x72).mono fun e W' ⟨he, hb⟩ => ?_
  subst he
  exact hend W' hb

theorem means_over : Rows.aigMeansRow.holds Try.pinned (OpenSpec.ofChange Rows.aigMeansSpec) :=
  OpenClaim.holds_of_wide 9 Try.f9 rfl rfl rfl rfl rfl rfl rfl ⟨rfl, rfl, rfl, rfl, rfl⟩ rfl rfl rfl rfl rfl (by kernel_rfl) Try.func9 (by kernel_rfl)
    (of_decide_eq_true (by kernel_rfl)) (by unfold Func.isWrapper; first | (rw [if_pos (by decide +kernel)]; kernel_rfl) | (rw [if_neg (by decide +kernel)]; exact ⟨rfl, rfl⟩))
    (fun os started H enc _ => means_lifted os started H enc)

theorem aigMeans_holds : Rows.AigMeansSaid := means_over
end Go.Proofs.Yteikngjanfjmfaa
