/-
  TraceDiffers: the law's tied card. Differ tells nothing just if both are the same; where it tells a row and a bus, the columns of that bus agree ahead of it and differ there; the other way round it tells the same; a table of fewer rows differs behind them. For any table, place and number. Conditions: the laid tables of the library hold what the program's text lays (the tie).
-/
import Derived.Test.YtjgcfncganleoaaDoorTdW
import Derived.Test.YtjgcfncganleoaaDoorOpenArr
namespace Go.Proofs.YtjgcfncganleoaaDoor
open Go.ChangeShapes Go.WideShapes Go.ChangeAt Go.WideMaps Go.WideElems Go.RowKit
set_option linter.unusedVariables false
set_option linter.unusedSimpArgs false

theorem td_walk (ba : Option Addr) (bc : Nat) (ra : Option Addr) (rc : Nat) (t : Tb) (wl : List WR) (l : List Nat) (byw : Nat) (W : World) (hv : TabV W ba t.bs.length bc ra wl.length rc t wl) (hok : t.ok) (hn : l.length = 2) (hm : ∀ x ∈ l, x < 256) (hby : byw < 18446744073709551616) (hg : W.cell? ⟨3, 15, none⟩ = some (.int .u8 4)) :
    Calls Tryd.prog 3 #[.agg #[.slice ba t.bs.length bc, .slice ra wl.length rc], .agg (nats .u8 l).toArray, .int .u64 (byw : Int)] W fun e w' => e = .returned (.bool true) ∧ Below W.heap.size W w' := by
  obtain ⟨x, y, rfl⟩ : ∃ x y, l = [x, y] := by
    match l, hn with
    | [x, y], _ => exact ⟨x, y, rfl⟩
  exact (td_c ba bc ra rc t wl x y byw W hv hok (hm x (by simp)) (hm y (by simp)) hby hg).mono fun _ _ h => ⟨h.1, h.2.below⟩

set_option maxRecDepth 100000 in
theorem td_lifted (os : Os) (started : os.Started) (H : Type) (enc : TypeId × Value → H) :
    ReturnsInHanded {} Tryd.checked os 3 .any (fun w args => (Rows.traceDiffersSpec.pre enc Tryd.prog Tryd.f3 [] false w args ∧ laidMetH Tryd.prog laid3 w) ∧ sizedMet enc Tryd.prog Tryd.f3 (OpenSpec.ofChange Rows.traceDiffersSpec) false w args)
      (Rows.traceDiffersSpec.post enc Tryd.prog Tryd.f3 false true false false) := by
  refine returnsInHanded_of_change_and (C := Tryd.checked) (X := fun w _ => laidMetH Tryd.prog laid3 w) (fun _ _ _ hh h => h.of_heap hh) own started (by kernel_rfl) Tryd.func3
    (ChangeSpec.witness_shaped (enc := enc) (C := Tryd.checked) (os := os) (X := fun w _ => laidMetH Tryd.prog laid3 w) false (World.doorLaid Tryd.prog 400 os) #[.agg #[.slice none 0 0, .slice none 0 0], .agg #[.int .u8 0, .int .u8 0], .int .u64 0] 8 rfl (World.shaped_of_RefB (by kernel_rfl) (by kernel_rfl)) (by kernel_rfl) (by kernel_rfl) (by kernel_rfl) (door_met os _)) ?_
  intro W base args ds gs before hval0 hW _ hsz0 hL _
  have hg := laid_cell hL
  have hval : ∀ (j : Nat) t v, Tryd.f3.params[j]? = some t → args[j]? = some v → Value.okWide Tryd.prog W .any base t v := hval0
  have hend := fun W' (hb : Below W.heap.size W W') => law_post (s := Rows.traceDiffersSpec) (fn := Tryd.f3) laidOut (by kernel_rfl) rfl ⟨4, rfl, Tryd.underlying4⟩ (fun l hl => by match l, hl with | [_, _, _], _ => rfl) hW hb
  obtain ⟨p, q, hA0, hV, rfl, hfz, hnd⟩ := hW
  have hA : DataW.TrodAll enc Tryd.prog W 0 (fun _ => true) true Tryd.f3.params.toList args.toList ds p := hA0
  have hsz : (DataW.weightsEach Tryd.prog (Tryd.f3.params.toList ++ Rows.traceDiffersSpec.plain.varTypes Tryd.prog) (ds ++ gs)).all (· ≤ reachBytes) = true := hsz0
  rw [Tryd.params3] at hA hval hsz
  obtain ⟨v0, vs0, d0, ds0, p0, q0, hargs, rfl, rfl, h0, r0⟩ := trodAll_cons hA
  obtain ⟨v1, vs1, d1, ds1, p1, q1, rfl, rfl, rfl, h1, r1⟩ := trodAll_cons r0
  obtain ⟨v2, vs2, d2, ds2, p2, q2, rfl, rfl, rfl, h2, r2⟩ := trodAll_cons r1
  obtain ⟨rfl, rfl, rfl⟩ := trodAll_nil r2
  obtain rfl : args = #[v0, v1, v2] := by cases args; simp_all
  obtain ⟨rfl, rfl⟩ := trodVars_none hV
  obtain ⟨ba0, bc0, ra0, rc0, tt0, wl0, rfl, tv0, to0⟩ := open_table (hval 0 25 v0 rfl rfl) h0 (Sized.arg (j := 0) hsz rfl rfl)
  obtain ⟨l1, rfl, n1, m1⟩ := open_natarr (m := 256) Tryd.underlying26 Tryd.underlying5 (by kernel_rfl) (by kernel_rfl) rfl rfl (hval 1 26 v1 rfl rfl) h1
  obtain ⟨a2, rfl, rfl, rfl, f2⟩ := open_int Tryd.underlying27 (hval 2 27 v2 rfl rfl) h2
  obtain ⟨a2, rfl, w2⟩ := wf_nat (m := 18446744073709551616) rfl rfl f2
  refine (td_walk ba0 bc0 ra0 rc0 tt0 wl0 l1 a2 W tv0 to0 n1 m1 w2 hg).mono fun e W' ⟨he, hb⟩ => ?_
  subst he
  exact hend W' hb

theorem td_over : Rows.traceDiffersRow.holds Tryd.pinned (OpenSpec.ofChange Rows.traceDiffersSpec) :=
  OpenClaim.holds_of_wide 3 Tryd.f3 rfl rfl rfl rfl rfl rfl rfl ⟨rfl, rfl, rfl, rfl, rfl⟩ rfl rfl rfl rfl rfl (by kernel_rfl) Tryd.func3 (by kernel_rfl)
    (of_decide_eq_true (by kernel_rfl)) (by unfold Func.isWrapper; first | (rw [if_pos (by decide +kernel)]; kernel_rfl) | (rw [if_neg (by decide +kernel)]; exact ⟨rfl, rfl⟩))
    (fun os started H enc _ => td_lifted os started H enc)

theorem traceDiffers_said : Rows.TraceDiffersSaid := td_over
theorem traceDiffers_holds : Rows.TraceDiffersCardSaid :=
  Claim7.holds_tied_plain_at .later [] [.data, .data, .data] true (true, "2859d36fb02e9bf1392a87112828a76f2a868c2c33f8cd9b4259cc1a5a91a5c6") true
    traceDiffers_said (fun _ h => by cases h) (by kernel_rfl) (fun _ h => by cases h) traceDiffers_row_tie rfl ⟨rfl, rfl⟩ (by kernel_rfl) rfl
    (fun f fn hf hfn => by
      obtain rfl : f = 3 := Option.some.inj ((show Tryd.prog.funcNamed "orrery/orrerylaw09.TraceDiffers" = some 3 by kernel_rfl).symm.trans hf) |>.symm
      obtain rfl : fn = Tryd.f3 := (Option.some.inj (Tryd.func3.symm.trans hfn)).symm
      exact ⟨by kernel_rfl, fun j t ht => by
        rw [Tryd.params3] at ht
        have hm : t ∈ ([25, 26, 27] : List TypeId) := by simpa using Array.mem_of_getElem? ht
        have hall : (([25, 26, 27] : List TypeId).all fun u => !Tryd.prog.wantsStandIn u) = true := by kernel_rfl
        exact (show Tryd.prog.wantsStandIn t = false by simpa using List.all_eq_true.1 hall t hm)⟩)
    (by kernel_rfl)
end Go.Proofs.YtjgcfncganleoaaDoor
