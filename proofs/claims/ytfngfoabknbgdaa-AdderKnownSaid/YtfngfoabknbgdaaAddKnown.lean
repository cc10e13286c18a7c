/-
  AdderKnown: the chapter's rows; what may not be; none. A closed statement.
-/
import Derived.Test.YtfngfoabknbgdaaAddKnownM
namespace Go.Proofs.Ytfngfoabknbgdaa
open Go.ChangeShapes Go.WideShapes Go.ChangeAt Go.RowKit
open Go.Maps (Keyed)
open Go.WideMaps
set_option linter.unusedVariables false

variable {w w' w1 : World} {p : Nat} {F F1 F' S : List Nat} {g g' : Gr}

theorem own_capI {w : World} {e : TypeId} {g n cap : Nat} {xs : List Value} (h : Own w e (some ⟨g, 0, none⟩) n cap xs) : n ≤ cap := by
  rcases h.2 with ⟨hv, h0⟩ | ⟨g', cap', cur, hv, hb, hg, hle, rest⟩
  · cases hv
  · injection hv with _ _ hc
    subst hc
    exact hle
set_option maxHeartbeats 3200000 in
set_option maxRecDepth 100000 in
theorem addknown_walk (w : World) : Calls Try.prog 5 #[] w fun e w' => e = .returned (.bool true) ∧ Below w.heap.size w w' := by
  have hmk : ∀ w, (Instr.makeSlice 34 (.int .i64 65) (.int .i64 65)).run Try.prog w = .ok (.slice (some ⟨w.heap.size, 0, none⟩) 65 65) (w.alloc (.cells (zarr 65) 24)) := fun _ => by kernel_rfl
  have hl := Lib.hid (show g8.nodes.length ≤ 169000 from by decide)
  go_enter Try.func5, Try.ntmps5; (try simp only [List.append])
  go_wp2_with fail
  refine (add_nil _ _ _ _ _ _ _ _ _).mono ?_
  rintro e u1 ⟨rfl, hk1⟩
  have K1 := Lib.hid hk1; clear hk1
  go_wp2_with fail
  refine (fresh_c true true 3 _ (by omega) (by omega)).mono ?_
  rintro e u2 ⟨p, F, a, ca, b, cb, rfl, hg, ho1, ho2, hst⟩
  obtain ⟨gb, rfl⟩ := ho2.form (by omega)
  have hcb := own_capI ho2
  have hcb1 : (2 : Int) ≤ (cb : Int) := by omega
  have G2 := Lib.hid (show RowsAt u2 p F g8 3 a ca (rowL 1 3) (some ⟨gb, 0, none⟩) cb (rowL (1 + 3) 3) from fresh_rows hg ho1 ho2)
  have S2 := Lib.hid (Stepped.new K1.out hst)
  clear hg ho1 ho2 hst K1
  go_wp2_with fail
  refine (add_arg G2.out.graph (by have := hl.out; omega) 0 3 3 _ _ _ _ _ (.inl ⟨rfl, rfl, rfl⟩)).mono ?_
  rintro e u3 ⟨rfl, hk⟩
  have G3 := Lib.hid (G2.out.kept0 hk)
  have S3 := Lib.hid (S2.out.keep hk)
  clear hk G2 S2
  go_wp2_with fail
  refine (add_arg G3.out.graph (by have := hl.out; omega) 3 3 3 _ _ _ _ _ (.inr (.inl ⟨rfl, rfl, rfl⟩))).mono ?_
  rintro e u4 ⟨rfl, hk⟩
  have G4 := Lib.hid (G3.out.kept0 hk)
  have S4 := Lib.hid (S3.out.keep hk)
  clear hk G3 S3
  go_wp2_with fail
  refine (add_arg G4.out.graph (by have := hl.out; omega) 1 3 2 _ _ _ _ _ (.inr (.inr (.inl ⟨rfl, rfl, rfl⟩)))).mono ?_
  rintro e u5 ⟨rfl, hk⟩
  have G5 := Lib.hid (G4.out.kept0 hk)
  have S5 := Lib.hid (S4.out.keep hk)
  clear hk G4 S4
  go_wp2_with fail
  refine (add_arg G5.out.graph (by have := hl.out; omega) 1 0 0 _ _ _ _ _ (.inr (.inr (.inr (.inl ⟨rfl, rfl, rfl⟩))))).mono ?_
  rintro e u6 ⟨rfl, hk⟩
  have G6 := Lib.hid (G5.out.kept0 hk)
  have S6 := Lib.hid (S5.out.keep hk)
  clear hk G5 S5
  go_wp2_with fail
  go_cut [23] (fun s23 wx => s23 = .int .i64 1 ∧ Kept [] u6 wx)
  case first =>
    go_region_held3 (fun w' => Kept [] u6 w') ((repeat (first | with_reducible exact Kept.refl _ _ | with_reducible assumption | with_reducible apply Kept.drew | with_reducible apply Kept.drewN | with_reducible apply Kept.alloc | refine Kept.trans ?_ hk))) (first
      | (go_at_call 22; refine (add_arg (w := _) (G6.out.graph.kept0 (by repeat (first | with_reducible exact Kept.refl _ _ | with_reducible apply Kept.drew | with_reducible apply Kept.drewN | with_reducible apply Kept.alloc))) (by have := hl.out; omega) 2 65 65 _ _ _ _ _ (.inr (.inr (.inr (.inr ⟨rfl, rfl, rfl⟩))))).mono ?_; rintro e u7 ⟨rfl, hk⟩))
    all_goals
      go_wp2_with fail
      go_meet
      exact ⟨rfl, by (repeat (first | with_reducible exact Kept.refl _ _ | with_reducible assumption | with_reducible apply Kept.drew | with_reducible apply Kept.drewN | with_reducible apply Kept.alloc | refine Kept.trans ?_ hk))⟩
  case rest =>
    obtain ⟨rfl, hk⟩ := hcut
    have G7 := Lib.hid (G6.out.kept0 hk)
    have S7 := Lib.hid (S6.out.keep hk)
    clear hk G6 S6
    have hmk2 : ∀ w, (Instr.makeSlice 34 (.int .i64 64) (.int .i64 64)).run Try.prog w = .ok (.slice (some ⟨w.heap.size, 0, none⟩) 64 64) (w.alloc (.cells (zarr 64) 24)) := fun _ => by kernel_rfl
    have q999 := Lib.hid (show ∀ x ∈ rowL 1 3, x < 4294967296 ∧ x / 2 < g8.nodes.length from by decide)
    have q998 := Lib.hid (show ∀ x ∈ rowL (1 + 3) 3, x < 4294967296 from by decide)
    go_wp2_with fail
    refine (add_gone (how := 2) (n := 3) (c := 999) G7.out.graph (by have := hl.out; omega) rfl _ _ _ _ _ _ rfl rfl rfl G7.out.oa.sln G7.out.ob.sln (fun x hx => (q999.out x hx).1) q998.out (by omega) (.inl (by decide))).mono ?_
    rintro e u8 ⟨rfl, hk⟩
    have G8 := Lib.hid (G7.out.kept0 hk)
    have S8 := Lib.hid (S7.out.keep hk)
    clear hk G7 S7
    go_wp2_with fail
    refine (add_gone (how := 2) (n := 3) (c := 14) (lb := [0, 0, 999]) (G8.out.graph.kept0 ((Kept.refl [] _).alloc _)) (by have := hl.out; omega) rfl _ _ _ _ _ rfl rfl rfl (G8.out.oa.sln.kept0 ((Kept.refl [] _).alloc _)) (sln_new _ .u32 [0, 0, 999] _) (fun x hx => (q999.out x hx).1) (by decide) (by omega) (.inr ⟨by decide, (fun x hx => (q999.out x hx).2), 999, by decide, by decide⟩)).mono ?_
    rintro e u9 ⟨rfl, hk⟩
    have G9 := Lib.hid (G8.out.kept0 (((Kept.refl [] _).alloc _).trans hk))
    have S9 := Lib.hid (S8.out.keep (((Kept.refl [] _).alloc _).trans hk))
    clear hk G8 S8 q999 q998
    go_wp2_with fail
    refine (aig_gates G9.out.graph (by have := hl.out; omega)).mono ?_
    rintro e w' ⟨rfl, k1, rfl⟩
    rw [show gatesN g8 = 0 from by kernel_rfl]
    have G10 := Lib.hid (G9.out.graph.kept0 ((Kept.refl [] _).drewN k1))
    have S10 := Lib.hid (S9.out.drewN k1)
    clear G9 S9
    go_wp2_with fail
    obtain ⟨v, hv⟩ : ∃ v, v = u9.drewN k1 := ⟨_, rfl⟩
    rw [← hv] at G10 S10 ⊢
    clear hv
    have HLT := Lib.hid G10.out.lt
    go_cut [31, 32, 33] (fun s31 s32 s33 wx => ∃ F' s cs, s31 = .slice s 64 cs ∧ s32 = .int .u32 1 ∧ s33 = .int .i64 0 ∧ GraphAt wx p F' g8 ∧ Own wx 24 s 64 cs (nats .u32 (List.replicate 64 0)) ∧ Stepped v wx F F')
    case first =>
      go_region_held3 (fun w' => Kept [] v w' ∨ ∃ F', Stepped v w' F F') ((first | exact .inr ⟨_, (((Stepped.refl v F).keep (by (repeat (first | with_reducible exact Kept.refl _ _ | with_reducible apply Kept.drew | with_reducible apply Kept.drewN | with_reducible apply Kept.alloc | with_reducible exact hs10.kept | refine Kept.trans ?_ hs10.kept)))).trans hs11)⟩ | (refine .inl ?_; (repeat (first | with_reducible exact Kept.refl _ _ | with_reducible apply Kept.drew | with_reducible apply Kept.drewN | with_reducible apply Kept.alloc | with_reducible exact hs10.kept | refine Kept.trans ?_ hs10.kept)); done))) (first
        | (go_at_call 24; refine (known_turn (by (repeat (first | (with_reducible refine Mine.new ?_ (by simp); focus (first | rfl | (simp; done))) | with_reducible apply Mine.drew | with_reducible apply Mine.alloc | with_reducible refine Mine.step ?_ (hs10.weak (G' := []) (fun _ h => h) (by simp)))))).mono ?_; rintro e u10 ⟨a10, c10, rfl, ho10, hs10⟩)
        | (go_at_call 22; have z10 := hs10.kept.size; refine (known_add HLT.out (G10.out.kept0 (by (repeat (first | with_reducible exact Kept.refl _ _ | with_reducible apply Kept.drew | with_reducible apply Kept.drewN | with_reducible apply Kept.alloc | with_reducible exact hs10.kept | refine Kept.trans ?_ hs10.kept)))) (by (repeat (first | (with_reducible refine Mine.new ?_ (by simp); focus (first | rfl | (simp; done))) | with_reducible apply Mine.drew | with_reducible apply Mine.alloc | with_reducible refine Mine.step ?_ (hs10.weak (G' := []) (fun _ h => h) (by simp))))) (by first | (simp; done) | (simp at z10 ⊢; omega) | omega) (ho10.kept0 (by (repeat (first | with_reducible exact Kept.refl _ _ | with_reducible apply Kept.drew | with_reducible apply Kept.drewN | with_reducible apply Kept.alloc | with_reducible exact hs10.kept | refine Kept.trans ?_ hs10.kept))))).mono ?_; rintro e u11 ⟨F11, s11, cs11, rfl, hg11, ho11, hs11⟩))
      all_goals
        go_wp2_with fail
        go_meet
        exact ⟨F11, s11, cs11, rfl, rfl, rfl, hg11, ho11, ((Stepped.refl v F).keep (by (repeat (first | with_reducible exact Kept.refl _ _ | with_reducible apply Kept.drew | with_reducible apply Kept.drewN | with_reducible apply Kept.alloc | with_reducible exact hs10.kept | refine Kept.trans ?_ hs10.kept)))).trans hs11⟩
    case rest =>
      obtain ⟨F', s, cs, rfl, rfl, rfl, hg, ho, hst⟩ := hcut
      have GZ := Lib.hid hg
      have OZ := Lib.hid ho
      have SZ := Lib.hid (S10.out.trans hst)
      clear hg ho hst G10 S10 hmk hmk2 HLT
      go_wp2_with fail
      refine (lit_number _ _ 64 _ _ (by simp) (by omega) OZ.out.sln).mono ?_
      rw [known_num.1, known_num.2]
      rintro e w' ⟨rfl, rfl⟩
      go_wp2_with fail
      refine (aig_gates GZ.out (by have := hl.out; omega)).mono ?_
      rintro e w' ⟨rfl, k2, rfl⟩
      rw [show gatesN g8 = 0 from by kernel_rfl]
      go_wp2_with fail
      refine (add_tells _).mono ?_
      rintro e w' ⟨rfl, hk⟩
      have KZ := Lib.hid ((SZ.out.kept.drewN k2).trans hk)
      clear hk
      go_wp2_with fail
      go_ret
      exact ⟨rfl, KZ.out.below⟩

set_option maxRecDepth 100000 in
theorem addknown_lifted (os : Os) (started : os.Started) (H : Type) (enc : TypeId × Value → H) :
    ReturnsInHanded {} Try.checked os 5 .any (Rows.adderKnownSpec.pre6 enc Try.prog Try.f5 Rows.adderKnownRow.domain false) (Rows.adderKnownSpec.post enc Try.prog Try.f5 false true false false) := by
  refine returnsInHanded_of_change_sized (C := Try.checked) own started (by kernel_rfl) Try.func5
    (ChangeSpec.witness6 (enc := enc) (C := Try.checked) false ⟨#[], #[], []⟩ 8 (by kernel_rfl) (by kernel_rfl) (by kernel_rfl) (by kernel_rfl)) ?_
  intro W base args ds gs before hval0 hW _ hsz0 _
  have hval : ∀ (j : Nat) t v, Try.f5.params[j]? = some t → args[j]? = some v → Value.okWide Try.prog W .any base t v := hval0
  have hend := fun W' (hb : Below W.heap.size W W') => law_post (s := Rows.adderKnownSpec) (fn := Try.f5) laidOut (by kernel_rfl) rfl ⟨4, rfl, Try.underlying4⟩ (fun l hl => by match l, hl with | [], _ => rfl) hW hb
  obtain ⟨p, q, hA0, hV, rfl, hfz, hnd⟩ := hW
  have hA : DataW.TrodAll enc Try.prog W 0 (fun _ => true) true Try.f5.params.toList args.toList ds p := hA0
  have hsz : (DataW.weightsEach Try.prog (Try.f5.params.toList ++ Rows.adderKnownSpec.plain.varTypes Try.prog) (ds ++ gs)).all (· ≤ reachBytes) = true := hsz0
  rw [Try.params5] at hA hval hsz
  obtain ⟨hargs, rfl, rfl⟩ := trodAll_nil hA
  obtain rfl : args = #[] := by cases args; simp_all
  obtain ⟨rfl, rfl⟩ := trodVars_none hV
  refine (addknown_walk  W ).mono fun e W' ⟨he, hb⟩ => ?_
  subst he
  exact hend W' hb

theorem addknown_over : Rows.adderKnownRow.holds Try.pinned (OpenSpec.ofChange Rows.adderKnownSpec) :=
  OpenClaim.holds_of_wide 5 Try.f5 rfl rfl rfl rfl rfl rfl rfl ⟨rfl, rfl, rfl, rfl, rfl⟩ rfl rfl rfl rfl rfl (by kernel_rfl) Try.func5 (by kernel_rfl)
    (of_decide_eq_true (by kernel_rfl)) (by unfold Func.isWrapper; first | (rw [if_pos (by decide +kernel)]; kernel_rfl) | (rw [if_neg (by decide +kernel)]; exact ⟨rfl, rfl⟩))
    (fun os started H enc _ => addknown_lifted os started H enc)

theorem adderKnown_holds : Rows.AdderKnownSaid := addknown_over
end Go.Proofs.Ytfngfoabknbgdaa
