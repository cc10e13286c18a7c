/-
  TracePacked: the law's tied card. In the lanes of a row each lane has its own table's number, bus by bus; lanes of tables that have no such row have 0. For any table (few cuts it to 20 buses and 30 rows), any number of tables, any row. Conditions: the laid tables of the library hold what the program's text lays (the tie).
-/
import Derived.Test.YtjgcfncganleoaaDoorTpdW
import Derived.Test.YtjgcfncganleoaaDoorOpenArr
namespace Go.Proofs.YtjgcfncganleoaaDoor
open Go.ChangeShapes Go.WideShapes Go.ChangeAt Go.WideMaps Go.WideElems Go.RowKit
set_option linter.unusedVariables false
set_option linter.unusedSimpArgs false

theorem tpd_walk (ba : Option Addr) (bc : Nat) (ra : Option Addr) (rc : Nat) (t : Tb) (wl : List WR) (many row : Nat) (W : World) (hv : TabV W ba t.bs.length bc ra wl.length rc t wl) (hok : t.ok) (hmany : many < 256) (hrow : row < 256) (hg : W.cell? ⟨3, 15, none⟩ = some (.int .u8 4)) :
    Calls Tryd.prog 5 #[.agg #[.slice ba t.bs.length bc, .slice ra wl.length rc], .int .u8 (many : Int), .int .u8 (row : Int)] W fun e w' => e = .returned (.bool true) ∧ Below W.heap.size W w' :=
  (tpd_c ba bc ra rc t wl many row W hv hok hmany hrow hg).mono fun _ _ h => ⟨h.1, h.2.below⟩

set_option maxRecDepth 100000 in
theorem tpd_lifted (os : Os) (started : os.Started) (H : Type) (enc : TypeId × Value → H) :
    ReturnsInHanded {} Tryd.checked os 5 .any (fun w args => (Rows.tracePackedSpec.pre enc Tryd.prog Tryd.f5 [] false w args ∧ laidMetH Tryd.prog laid3 w) ∧ sizedMet enc Tryd.prog Tryd.f5 (OpenSpec.ofChange Rows.tracePackedSpec) false w args)
      (Rows.tracePackedSpec.post enc Tryd.prog Tryd.f5 false true false false) := by
  refine returnsInHanded_of_change_and (C := Tryd.checked) (X := fun w _ => laidMetH Tryd.prog laid3 w) (fun _ _ _ hh h => h.of_heap hh) own started (by kernel_rfl) Tryd.func5
    (ChangeSpec.witness_shaped (enc := enc) (C := Tryd.checked) (os := os) (X := fun w _ => laidMetH Tryd.prog laid3 w) false (World.doorLaid Tryd.prog 400 os) #[.agg #[.slice none 0 0, .slice none 0 0], .int .u8 0, .int .u8 0] 8 rfl (World.shaped_of_RefB (by kernel_rfl) (by kernel_rfl)) (by kernel_rfl) (by kernel_rfl) (by kernel_rfl) (door_met os _)) ?_
  intro W base args ds gs before hval0 hW _ hsz0 hL _
  have hg := laid_cell hL
  have hval : ∀ (j : Nat) t v, Tryd.f5.params[j]? = some t → args[j]? = some v → Value.okWide Tryd.prog W .any base t v := hval0
  have hend := fun W' (hb : Below W.heap.size W W') => law_post (s := Rows.tracePackedSpec) (fn := Tryd.f5) laidOut (by kernel_rfl) rfl ⟨4, rfl, Tryd.underlying4⟩ (fun l hl => by match l, hl with | [_, _, _], _ => rfl) hW hb
  obtain ⟨p, q, hA0, hV, rfl, hfz, hnd⟩ := hW
  have hA : DataW.TrodAll enc Tryd.prog W 0 (fun _ => true) true Tryd.f5.params.toList args.toList ds p := hA0
  have hsz : (DataW.weightsEach Tryd.prog (Tryd.f5.params.toList ++ Rows.tracePackedSpec.plain.varTypes Tryd.prog) (ds ++ gs)).all (· ≤ reachBytes) = true := hsz0
  rw [Tryd.params5] at hA hval hsz
  obtain ⟨v0, vs0, d0, ds0, p0, q0, hargs, rfl, rfl, h0, r0⟩ := trodAll_cons hA
  obtain ⟨v1, vs1, d1, ds1, p1, q1, rfl, rfl, rfl, h1, r1⟩ := trodAll_cons r0
  obtain ⟨v2, vs2, d2, ds2, p2, q2, rfl, rfl, rfl, h2, r2⟩ := trodAll_cons r1
  obtain ⟨rfl, rfl, rfl⟩ := trodAll_nil r2
  obtain rfl : args = #[v0, v1, v2] := by cases args; simp_all
  obtain ⟨rfl, rfl⟩ := trodVars_none hV
  obtain ⟨ba0, bc0, ra0, rc0, tt0, wl0, rfl, tv0, to0⟩ := open_table (hval 0 25 v0 rfl rfl) h0 (Sized.arg (j := 0) hsz rfl rfl)
  obtain ⟨a1, rfl, rfl, rfl, f1⟩ := open_int Tryd.underlying5 (hval 1 5 v1 rfl rfl) h1
  obtain ⟨a1, rfl, w1⟩ := wf_nat (m := 256) rfl rfl f1
  obtain ⟨a2, rfl, rfl, rfl, f2⟩ := open_int Tryd.underlying5 (hval 2 5 v2 rfl rfl) h2
  obtain ⟨a2, rfl, w2⟩ := wf_nat (m := 256) rfl rfl f2
  refine (tpd_walk ba0 bc0 ra0 rc0 tt0 wl0 a1 a2 W tv0 to0 w1 w2 hg).mono fun e W' ⟨he, hb⟩ => ?_
  subst he
  exact hend W' hb

theorem tpd_over : Rows.tracePackedRow.holds Tryd.pinned (OpenSpec.ofChange Rows.tracePackedSpec) :=
  OpenClaim.holds_of_wide 5 Tryd.f5 rfl rfl rfl rfl rfl rfl rfl ⟨rfl, rfl, rfl, rfl, rfl⟩ rfl rfl rfl rfl rfl (by kernel_rfl) Tryd.func5 (by kernel_rfl)
    (of_decide_eq_true (by kernel_rfl)) (by unfold Func.isWrapper; first | (rw [if_pos (by decide +kernel)]; kernel_rfl) | (rw [if_neg (by decide +kernel)]; exact ⟨rfl, rfl⟩))
    (fun os started H enc _ => tpd_lifted os started H enc)

theorem tracePacked_said : Rows.TracePackedSaid := tpd_over
theorem tracePacked_holds : Rows.TracePackedCardSaid :=
  Claim7.holds_tied_plain_at .later [] [.data, .data, .data] true (true, "2859d36fb02e9bf1392a87112828a76f2a868c2c33f8cd9b4259cc1a5a91a5c6") true
    tracePacked_said (fun _ h => by cases h) (by kernel_rfl) (fun _ h => by cases h) tracePacked_row_tie rfl ⟨rfl, rfl⟩ (by kernel_rfl) rfl
    (fun f fn hf hfn => by
      obtain rfl : f = 5 := Option.some.inj ((show Tryd.prog.funcNamed "orrery/orrerylaw09.TracePacked" = some 5 by kernel_rfl).symm.trans hf) |>.symm
      obtain rfl : fn = Tryd.f5 := (Option.some.inj (Tryd.func5.symm.trans hfn)).symm
      exact ⟨by kernel_rfl, fun j t ht => by
        rw [Tryd.params5] at ht
        have hm : t ∈ ([25, 5, 5] : List TypeId) := by simpa using Array.mem_of_getElem? ht
        have hall : (([25, 5, 5] : List TypeId).all fun u => !Tryd.prog.wantsStandIn u) = true := by kernel_rfl
        exact (show Tryd.prog.wantsStandIn t = false by simpa using List.all_eq_true.1 hall t hm)⟩)
    (by kernel_rfl)
end Go.Proofs.YtjgcfncganleoaaDoor
