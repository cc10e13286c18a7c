/-
  EmitOnce: the law's tied card. In the text of a netlist each node above 0 is driven by just one line, as input, register or gate; each bus stands on a line of its own; a netlist that differs has another text. Conditions: the laid variables hold what the program's text lays (the tie).
-/
import Derived.Test.YtnjoklcddodfeaaGreatDoorQEmOnW
import Derived.Test.YtnjoklcddodfeaaGreatDoorQEmitP
import Derived.Test.YtnjoklcddodfeaaGreatDoorQEmitCard
import Derived.Lib.AtoiErrMem
import Derived.HandedShaped
import Derived.Lay
namespace Go.Proofs.YtnjoklcddodfeaaGreatDoor
open Go.ChangeShapes Go.WideShapes Go.ChangeAt Go.WideMaps Go.WideElems Go.RowKit
set_option linter.unusedVariables false
set_option linter.unusedSimpArgs false

theorem kept_of_below {w w' : World} (h : Below w.heap.size w w') : Kept [] w w' := ⟨h.os, h.tape, h.output, h.size, fun k hk _ => h.block k hk⟩
theorem split_h (w : World) (h : w.ShapedOpen Tryz.prog) : SplitH w := by
  obtain ⟨m, hm⟩ := Tryz.laysM146.s1_3 w h
  intro W c L hk h0 hc hl
  have h1 := Tryz.strings_Split ⟨(joinC c L).toArray⟩ ⟨#[c]⟩ m W (by
    show (joinC c L).toArray.size < _
    rw [List.size_toArray]
    omega) (hk.cell hm (by simp)) (Nat.le_refl 1)
  refine h1.mono fun e w' ⟨he, hw⟩ => ?_
  have hcnt : Lib.countB ⟨(joinC c L).toArray⟩ ⟨#[c]⟩ = L.length - 1 := by
    show Lib.count (joinC c L) [c] = _
    rw [Lib.count_one, joinC_count c L hc]
  have hlen : 1 ≤ L.length := List.length_pos_iff.2 h0
  rw [hcnt] at he hw
  have hB : (Lib.splitB ⟨#[c]⟩ 0 (L.length - 1) ⟨(joinC c L).toArray⟩).map (·.data.toList) = L := by
    rw [Lib.splitB_data]
    exact splitK_join c L h0 hc
  have hS : ((Lib.splitB ⟨#[c]⟩ 0 (L.length - 1) ⟨(joinC c L).toArray⟩).map Value.string).toArray = strs L := by
    generalize Lib.splitB ⟨#[c]⟩ 0 (L.length - 1) ⟨(joinC c L).toArray⟩ = B at hB
    subst hB
    unfold strs
    rw [List.map_map]
    rfl
  rw [hS] at hw
  rw [show L.length - 1 + 1 = L.length by omega] at he
  exact ⟨he, hw⟩
theorem parse_h : ParseH := by
  intro W u hu
  refine (Tryz.strconv_ParseUint_10_at32_ok ⟨(Lib.decDigits u).toArray⟩ (by
    show (Lib.decDigits u).toArray.size ≤ _
    rw [List.size_toArray]
    have := dec_len hu
    omega) u (parse_back u hu) W).mono fun e w' ⟨he, hw⟩ => ⟨he, ?_⟩
  rcases hw with rfl | rfl
  · exact .refl _ _
  · exact kept_of_below (Lib.bytesWorld_below W _ _)
theorem eo_walk (o1 o2 : Bool) (na : Option Addr) (nl : List NStp) (nc : Nat) (hw : Nat) (W : World) (nm : nl.length ≤ 140737488351232) (ns : SlNStepsC W na nl) (no : ∀ s ∈ nl, s.ok) (hhw : hw < 256) (hg : PowLaid W) (hs : W.ShapedOpen Tryz.prog) :
    Calls Tryz.prog 5 #[.agg #[.bool o1, .bool o2], .slice na nl.length nc, .int .u8 (hw : Int)] W fun e w' => e = .returned (.bool true) ∧ Below W.heap.size W w' :=
  (eonce_c o1 o2 na nl nc nl.length hw W rfl ns no hhw (fun V m F R N hk hn hf => all_c V hn hf (by decide) (hg.kept0 hk)) (fun V hk => tells10 V (hg.kept0 hk)) (split_h W hs) parse_h).mono fun _ _ h => ⟨h.1, h.2.below⟩
def laidO : List (String × DataW Unit) := [("math/bits.deBruijn32tab", Rows.laid_math_bits_deBruijn32tab), ("math/bits.deBruijn64tab", Rows.laid_math_bits_deBruijn64tab), ("internal/strconv.uint64pow10", Rows.laid_internal_strconv_uint64pow10), ("unicode/utf8.acceptRanges", Rows.laid_unicode_utf8_acceptRanges), ("strconv.ErrRange", Rows.laid_strconv_ErrRange), ("strconv.ErrSyntax", Rows.laid_strconv_ErrSyntax), ("unicode/utf8.first", Rows.laid_unicode_utf8_first)]
set_option maxRecDepth 100000 in
theorem door_metO (os : Os) (args : Array Value) : laidMetH Tryz.prog laidO ((World.laidAll Tryz.prog os laidO).forCall (fun _ _ => 0) ⟨#[], args, []⟩).memory := by
  rw [MakeChecks.laidMetH_plain _ _ _ (by kernel_rfl)]
  exact laidMet_laidAll _ (by kernel_rfl) (by kernel_rfl)
set_option maxRecDepth 100000 in
theorem laid_powO {W : World} (h : laidMetH Tryz.prog laidO W) : PowLaid W := by
  rw [MakeChecks.laidMetH_plain _ _ _ (by kernel_rfl)] at h
  obtain ⟨ps, ⟨_, _, _, _, _, _, _, _, _, _, ⟨_, _, _, _, _, _, _, _, _, _, ⟨g5, t5, cs5, f5, p5, q5, hg5, ht5, hv5, hd5, _⟩, _⟩, _⟩, _⟩ := h
  obtain rfl := Option.some.inj (gPow.symm.trans hg5)
  obtain rfl := Option.some.inj (tPow.symm.trans ht5)
  rw [pow_data] at hd5
  unfold PowLaid Lib.TabIs
  rw [hv5, ← Lib.cells_of_tab Tryz.underlying222 Tryz.underlying66 (by kernel_rfl) (by kernel_rfl) hd5]
/-- the plain wrap, with the world's shape and what is laid -/
theorem handed_both {H : Type} {enc : TypeId × Value → H} {a : Assume} {C : Checked} {os : Os} {f : FuncId} {fn : Func} {s : ChangeSpec} {conds : List PathCond} {apart fresh handsOn again : Bool} {X : World → Array Value → Prop}
    (hX : ∀ (w w' : World) (args : Array Value), w.heap = w'.heap → X w args → X w' args)
    (own : ownKnob C.prog.godebug = none) (started : os.Started) (noInit : C.prog.inits.idxOf? f = none) (hfn : C.prog.funcs[f]? = some fn)
    (witness : ∃ (w : World) (tape : Tape) (i : Input), w.os = os ∧ (w.forCall tape i).Shaped C.prog ∧ i.vars = [] ∧ Input.okWide C.prog (w.forCall tape i) .any w.heap.size f i ∧
      ((s.pre enc C.prog fn conds apart (w.forCall tape i).memory i.args ∧ X (w.forCall tape i).memory i.args) ∧ sizedMet enc C.prog fn (OpenSpec.ofChange s) apart (w.forCall tape i).memory i.args) ∧ a.holds C.prog (lone (Frame.enter C.prog f i.args .normal) [] (w.forCall tape i)))
    (contract : ∀ (W : World) (base : Nat) (args : Array Value) (ds gs : List (DataW H)) (before : List MemPlace),
      (∀ (j : Nat) t v, fn.params[j]? = some t → args[j]? = some v → Value.okWide C.prog W .any base t v) →
      DataW.Whole enc C.prog fn.params.toList s.vars apart W args.toList ds gs before →
      conds.all (PathCond.test C.prog ⟨fn.params.toList, ds, s.plain.varTypes C.prog, gs⟩) = true →
      (DataW.weightsEach C.prog (fn.params.toList ++ s.plain.varTypes C.prog) (ds ++ gs)).all (· ≤ reachBytes) = true → X W args → W.ShapedOpen C.prog →
      a.holds C.prog (lone (Frame.enter C.prog f args .normal) [] W) →
      Calls C.prog f args W fun e W' => ∃ v, e = .returned v ∧ s.post enc C.prog fn apart fresh handsOn again W args v W') :
    ReturnsInHanded a C os f .any (fun w args => (s.pre enc C.prog fn conds apart w args ∧ X w args) ∧ sizedMet enc C.prog fn (OpenSpec.ofChange s) apart w args) (s.post enc C.prog fn apart fresh handsOn again) := by
  refine returnsInHanded_of_calls own started noInit witness ?_
  intro w tape i _ hsh _ hok hpre hholds
  obtain ⟨_, _, _, fn', hfn', _, _, _, _, hval⟩ := hok
  have e : fn' = fn := Option.some.inj (hfn'.symm.trans hfn)
  subst e
  obtain ⟨⟨⟨ds, gs, before, hw, hc⟩, hx⟩, hz⟩ := hpre
  have hw' := DataW.Whole.of_heap (w' := w.forCall tape i) (by rfl) hw
  refine (contract (w.forCall tape i) w.heap.size i.args ds gs before hval hw' hc (hz.weights hw) (hX _ _ _ (by rfl) hx) hsh hholds).mono fun e W' ⟨v, he, hp⟩ => ?_
  subst he
  exact ChangeSpec.post_blind hp

set_option maxRecDepth 100000 in
theorem eo_lifted (os : Os) (started : os.Started) (H : Type) (enc : TypeId × Value → H) :
    ReturnsInHanded {} Tryz.checked os 5 .any (fun w args => (Rows.emitOnceSpec.pre enc Tryz.prog Tryz.f5 [] false w args ∧ laidMetH Tryz.prog laidO w) ∧ sizedMet enc Tryz.prog Tryz.f5 (OpenSpec.ofChange Rows.emitOnceSpec) false w args)
      (Rows.emitOnceSpec.post enc Tryz.prog Tryz.f5 false true false false) := by
  refine handed_both (C := Tryz.checked) (X := fun w _ => laidMetH Tryz.prog laidO w) (fun _ _ _ hh h => h.of_heap hh) own started (by kernel_rfl) Tryz.func5
    (ChangeSpec.witness_shaped (enc := enc) (C := Tryz.checked) (os := os) (X := fun w _ => laidMetH Tryz.prog laidO w) false (World.laidAll Tryz.prog os laidO) #[.agg #[.bool false, .bool false], .slice none 0 0, .int .u8 0] 8 rfl (World.shaped_of_ZipB (by kernel_rfl) (by kernel_rfl)) (by kernel_rfl) (by kernel_rfl) (by kernel_rfl) (door_metO os _)) ?_
  intro W base args ds gs before hval0 hW _ hsz0 hL hshape _
  have hg := laid_powO hL
  have hval : ∀ (j : Nat) t v, Tryz.f5.params[j]? = some t → args[j]? = some v → Value.okWide Tryz.prog W .any base t v := hval0
  have hend := fun W' (hb : Below W.heap.size W W') => law_post (s := Rows.emitOnceSpec) (fn := Tryz.f5) laidOut (by kernel_rfl) rfl ⟨4, rfl, Tryz.underlying4⟩ (fun l hl => by match l, hl with | [_, _, _], _ => rfl) hW hb
  obtain ⟨p, q, hA0, hV, rfl, hfz, hnd⟩ := hW
  have hA : DataW.TrodAll enc Tryz.prog W 0 (fun _ => true) true Tryz.f5.params.toList args.toList ds p := hA0
  have hsz : (DataW.weightsEach Tryz.prog (Tryz.f5.params.toList ++ Rows.emitOnceSpec.plain.varTypes Tryz.prog) (ds ++ gs)).all (· ≤ reachBytes) = true := hsz0
  rw [Tryz.params5] at hA hval hsz
  obtain ⟨v0, vs0, d0, ds0, p0, q0, hargs, rfl, rfl, h0, r0⟩ := trodAll_cons hA
  obtain ⟨v1, vs1, d1, ds1, p1, q1, rfl, rfl, rfl, h1, r1⟩ := trodAll_cons r0
  obtain ⟨v2, vs2, d2, ds2, p2, q2, rfl, rfl, rfl, h2, r2⟩ := trodAll_cons r1
  obtain ⟨rfl, rfl, rfl⟩ := trodAll_nil r2
  obtain rfl : args = #[v0, v1, v2] := by cases args; simp_all
  obtain ⟨rfl, rfl⟩ := trodVars_none hV
  obtain ⟨oa0, ob0, rfl⟩ := open_opts (hval 0 23 v0 rfl rfl) h0 (Sized.arg (j := 0) hsz rfl rfl)
  obtain ⟨na1, nl1, nc1, rfl, nm1, ns1, no1⟩ := open_nstepsc (hval 1 24 v1 rfl rfl) h1 (Sized.arg (j := 1) hsz rfl rfl)
  obtain ⟨a2, rfl, rfl, rfl, f2⟩ := open_int Tryz.underlying5 (hval 2 5 v2 rfl rfl) h2
  obtain ⟨a2, rfl, w2⟩ := wf_nat (m := 256) rfl rfl f2
  refine (eo_walk oa0 ob0 na1 nl1 nc1 a2 W nm1 ns1 no1 w2 hg hshape).mono fun e W' ⟨he, hb⟩ => ?_
  subst he
  exact hend W' hb

theorem eo_over : Rows.emitOnceRow.holds Tryz.pinned (OpenSpec.ofChange Rows.emitOnceSpec) :=
  OpenClaim.holds_of_wide 5 Tryz.f5 rfl rfl rfl rfl rfl rfl rfl ⟨rfl, rfl, rfl, rfl, rfl⟩ rfl rfl rfl rfl rfl (by kernel_rfl) Tryz.func5 (by kernel_rfl)
    (of_decide_eq_true (by kernel_rfl)) (by unfold Func.isWrapper; first | (rw [if_pos (by decide +kernel)]; kernel_rfl) | (rw [if_neg (by decide +kernel)]; exact ⟨rfl, rfl⟩))
    (fun os started H enc _ => eo_lifted os started H enc)

theorem emitOnce_said : Rows.EmitOnceSaid := eo_over
theorem emitOnce_holds : Rows.EmitOnceCardSaid :=
  Claim7.holds_tied_plain_at .later [] [.data, .data, .data, .data, .sentinel, .sentinel, .pinned] true (true, "200171d27cc9508a43092f07b931dc97c379839cf0d6d4ae6b57a68e63c87cb0") true
    emitOnce_said (fun _ h => by cases h) (by kernel_rfl) (fun _ h => by cases h) emitOnce_row_tie rfl ⟨rfl, rfl⟩ (by kernel_rfl) rfl
    (fun f fn hf hfn => by
      obtain rfl : f = 5 := Option.some.inj ((show Tryz.prog.funcNamed "orrery/orrerylaw10.EmitOnce" = some 5 by kernel_rfl).symm.trans hf) |>.symm
      obtain rfl : fn = Tryz.f5 := (Option.some.inj (Tryz.func5.symm.trans hfn)).symm
      exact ⟨by kernel_rfl, fun j t ht => by
        rw [Tryz.params5] at ht
        have hm : t ∈ ([23, 24, 5] : List TypeId) := by simpa using Array.mem_of_getElem? ht
        have hall : (([23, 24, 5] : List TypeId).all fun u => !Tryz.prog.wantsStandIn u) = true := by kernel_rfl
        exact (show Tryz.prog.wantsStandIn t = false by simpa using List.all_eq_true.1 hall t hm)⟩)
    (by kernel_rfl)
end Go.Proofs.YtnjoklcddodfeaaGreatDoor
