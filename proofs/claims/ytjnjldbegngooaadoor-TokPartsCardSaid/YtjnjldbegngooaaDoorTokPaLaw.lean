/-
  TokParts: the law's tied card. The tokens' texts stand in the source one behind the other, only blank between; each text alone has just that token; all texts, a blank between, or a comment, have the same tokens but for At. For any bytes, the first 1000. Conditions: the laid variables hold what the program's text lays (the tie).
-/
import Derived.Test.YtjnjldbegngooaaDoorTokPaW
namespace Go.Proofs.YtjnjldbegngooaaDoor
open Go.ChangeShapes Go.WideShapes Go.ChangeAt Go.WideMaps Go.WideElems Go.RowKit
set_option linter.unusedVariables false
set_option linter.unusedSimpArgs false

/-- bytes of a row of numbers -/
theorem bt_sln_tp {W : World} {a : Option Addr} {l : List Nat} (hs : SlN W .u8 a l) (hm : ∀ x ∈ l, x < 256) : Bt W a (l.map UInt8.ofNat) := fun k hk => by
  obtain ⟨ad, h1, h2⟩ := hs k (by simpa using hk)
  refine ⟨ad, h1, ?_⟩
  rw [h2, List.getElem_map]
  have hx := hm _ (List.getElem_mem (show k < l.length by simpa using hk))
  rw [UInt8.toNat_ofNat', Nat.mod_eq_of_lt (by simpa using hx)]
theorem tp_walk (a : Option Addr) (c : Nat) (l : List Nat) (W : World) (hc : l.length ≤ c) (hz : c * 1 ≤ 140737488351232) (hs : SlN W .u8 a l) (hm : ∀ x ∈ l, x < 256) (hg : Laid W) :
    Calls Tryd.prog 8 #[.slice a l.length c] W fun e w' => e = .returned (.bool true) ∧ Below W.heap.size W w' := by
  have hl : (l.map UInt8.ofNat).length = l.length := List.length_map ..
  have h := parts_c a c (l.map UInt8.ofNat) W (by rw [hl]; exact hc) (by omega) (bt_sln_tp hs hm) hg
  rw [hl] at h
  exact h.mono fun _ _ h => ⟨h.1, h.2.below⟩

set_option maxRecDepth 100000 in
theorem tp_lifted (os : Os) (started : os.Started) (H : Type) (enc : TypeId × Value → H) :
    ReturnsInHanded {} Tryd.checked os 8 .any (fun w args => (Rows.tokPartsSpec.pre enc Tryd.prog Tryd.f8 [] false w args ∧ laidMetH Tryd.prog laid7 w) ∧ sizedMet enc Tryd.prog Tryd.f8 (OpenSpec.ofChange Rows.tokPartsSpec) false w args)
      (Rows.tokPartsSpec.post enc Tryd.prog Tryd.f8 false true false false) := by
  refine returnsInHanded_of_change_and (C := Tryd.checked) (X := fun w _ => laidMetH Tryd.prog laid7 w) (fun _ _ _ hh h => h.of_heap hh) own started (by kernel_rfl) Tryd.func8
    (ChangeSpec.witness_shaped (enc := enc) (C := Tryd.checked) (os := os) (X := fun w _ => laidMetH Tryd.prog laid7 w) false (World.doorLaid Tryd.prog 400 os) #[.slice none 0 0] 8 rfl (World.shaped_of_RefB (by kernel_rfl) (by kernel_rfl)) (by kernel_rfl) (by kernel_rfl) (by kernel_rfl) (door_met os _)) ?_
  intro W base args ds gs before hval0 hW _ hsz0 hL _
  have hg := laid_all hL
  have hval : ∀ (j : Nat) t v, Tryd.f8.params[j]? = some t → args[j]? = some v → Value.okWide Tryd.prog W .any base t v := hval0
  have hend := fun W' (hb : Below W.heap.size W W') => law_post (s := Rows.tokPartsSpec) (fn := Tryd.f8) laidOut (by kernel_rfl) rfl ⟨4, rfl, Tryd.underlying4⟩ (fun l hl => by match l, hl with | [_], _ => rfl) hW hb
  obtain ⟨p, q, hA0, hV, rfl, hfz, hnd⟩ := hW
  have hA : DataW.TrodAll enc Tryd.prog W 0 (fun _ => true) true Tryd.f8.params.toList args.toList ds p := hA0
  have hsz : (DataW.weightsEach Tryd.prog (Tryd.f8.params.toList ++ Rows.tokPartsSpec.plain.varTypes Tryd.prog) (ds ++ gs)).all (· ≤ reachBytes) = true := hsz0
  rw [Tryd.params8] at hA hval hsz
  obtain ⟨v0, vs0, d0, ds0, p0, q0, hargs, rfl, rfl, h0, r0⟩ := trodAll_cons hA
  obtain ⟨rfl, rfl, rfl⟩ := trodAll_nil r0
  obtain rfl : args = #[v0] := by cases args; simp_all
  obtain ⟨rfl, rfl⟩ := trodVars_none hV
  obtain ⟨a0, cap0, l0, rfl, hc0, hs0, hm0, hd0⟩ := open_nats (m := 256) Tryd.underlying22 Tryd.underlying5 (by kernel_rfl) rfl rfl (hval 0 22 v0 rfl rfl) h0
  have z0 := cap_reach (bytes := 1) (j := 0) hsz rfl rfl Tryd.underlying22 (by kernel_rfl) hd0
  refine (tp_walk a0 cap0 l0 W hc0 z0 hs0 hm0 hg).mono fun e W' ⟨he, hb⟩ => ?_
  subst he
  exact hend W' hb

theorem tp_over : Rows.tokPartsRow.holds Tryd.pinned (OpenSpec.ofChange Rows.tokPartsSpec) :=
  OpenClaim.holds_of_wide 8 Tryd.f8 rfl rfl rfl rfl rfl rfl rfl ⟨rfl, rfl, rfl, rfl, rfl⟩ rfl rfl rfl rfl rfl (by kernel_rfl) Tryd.func8 (by kernel_rfl)
    (of_decide_eq_true (by kernel_rfl)) (by unfold Func.isWrapper; first | (rw [if_pos (by decide +kernel)]; kernel_rfl) | (rw [if_neg (by decide +kernel)]; exact ⟨rfl, rfl⟩))
    (fun os started H enc _ => tp_lifted os started H enc)

theorem tokParts_said : Rows.TokPartsSaid := tp_over
theorem tokParts_holds : Rows.TokPartsCardSaid :=
  Claim7.holds_tied_plain_at .later [] [.data, .data, .data, .sentinel, .sentinel, .mapped, .data] true (true, "82f284afd1f5447fba90b818d4d1b473c576b6355827642cd5c28ef0bef59fa5") true
    tokParts_said (fun _ h => by cases h) (by kernel_rfl) (fun _ h => by cases h) tokParts_row_tie rfl ⟨rfl, rfl⟩ (by kernel_rfl) rfl
    (fun f fn hf hfn => by
      obtain rfl : f = 8 := Option.some.inj ((show Tryd.prog.funcNamed "orrery/orrerylaw15.TokParts" = some 8 by kernel_rfl).symm.trans hf) |>.symm
      obtain rfl : fn = Tryd.f8 := (Option.some.inj (Tryd.func8.symm.trans hfn)).symm
      exact ⟨by kernel_rfl, fun j t ht => by
        rw [Tryd.params8] at ht
        have hm : t ∈ ([22] : List TypeId) := by simpa using Array.mem_of_getElem? ht
        have hall : (([22] : List TypeId).all fun u => !Tryd.prog.wantsStandIn u) = true := by kernel_rfl
        exact (show Tryd.prog.wantsStandIn t = false by simpa using List.all_eq_true.1 hall t hm)⟩)
    (by kernel_rfl)
end Go.Proofs.YtjnjldbegngooaaDoor
