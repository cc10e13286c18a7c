/-
  EmitTells: the law's tied card. The text of any netlist, its size, its lines, however many of them are asked for, are the document's. Conditions: the laid variables hold what the program's text lays (the tie). Law 10: EmitTells, the walk.
-/
import Derived.Test.YtnjoklcddodfeaaGreatDoorQRefAll
import Derived.RangeFuncCalls
import Derived.RangeFuncBox
import Derived.RangeFuncNested
import Derived.Test.YtnjoklcddodfeaaGreatDoorQEmitCard
namespace Go.Proofs.YtnjoklcddodfeaaGreatDoor
open Go.ChangeShapes Go.WideShapes Go.ChangeAt Go.RowKit Go.Shelf
attribute [local go_sem] Oper.semAt_some
set_option linter.unusedVariables false
set_option linter.unusedSimpArgs false

variable {w w' W W' : World} {p n k : Nat} {F R F' R' S : List Nat} {g : Gr} {N : Nt}
theorem fn_not_nil (f : FuncId) (bx : Addr) (W : World) : (binOp .eql 57 (.func (.func f) #[] #[.pointer (some bx)]) .nilFunc).run Tryz.prog W = .ok (.bool false) W := by
  kernel_rfl
set_option maxHeartbeats 6400000 in
set_option maxRecDepth 100000 in
theorem etells_c (o1 o2 : Bool) (sa : Option Addr) (sl : List NStp) (sc len ln : Nat) (w : World) (hlen : sl.length = len) (hss : SlNStepsC w sa sl) (hso : ∀ s ∈ sl, s.ok) (hln : ln < 256) (hL : PowLaid w) :
    Calls Tryz.prog 4 #[.agg #[.bool o1, .bool o2], .slice sa len sc, .int .u8 (ln : Int)] w fun e w' => e = .returned (.bool true) ∧ Kept [] w w' := by
  have HB := Lib.hid (fun (V : World) (hV : Kept [] w V) => built10 o1 o2 sa sl sc len V hlen (SlNStepsC.kept0 hss hV) hso)
  obtain ⟨N, hN⟩ : ∃ N, N = builtN false o1 o2 sl 60 := ⟨_, rfl⟩
  have hf : NtFine 60 N := by rw [hN]; exact builtN_fine false o1 o2 sl 60
  unfold BuiltPost at HB
  rw [← hN] at HB
  have HF := Lib.hid hf
  have HL := Lib.hid hL
  have hfn := fn_not_nil 44
  clear hlen hss hso hN hf hL
  refine (callsIn_wide (n := 3)).1 ?_
  refine callsIn_of_wp_marks Tryz.func4 rfl trivial ?_ rfl
  simp only [Tryz.ntmps4, List.size_toArray, List.length_cons, List.length_nil, Nat.reduceAdd, Nat.reduceSub, Array.replicate_succ, Array.replicate_zero, List.push_toArray, List.append_toArray, List.nil_append, List.cons_append]
  gi_wp2_with fail
  obtain ⟨b3, hb3⟩ : ∃ b, b = w.heap.size := ⟨_, rfl⟩
  obtain ⟨V0, hV0⟩ : ∃ V, V = (((w.alloc (.cells #[.bool o1, .bool o2] 23)).alloc (.cells #[.int .u8 (ln : Int)] 5)).alloc (.cells #[.bool false] 4)) := ⟨_, rfl⟩
  have B5 := Lib.hid (show Boxed V0 (b3 + 1) 5 (.int .u8 (ln : Int)) from by
    have h := (Boxed.new (w.alloc (.cells #[.bool o1, .bool o2] 23)) 5 (.int .u8 (ln : Int))).alloc (.cells #[.bool false] 4)
    rw [World.size_alloc, ← hb3] at h
    rw [hV0]
    exact h)
  have B6 := Lib.hid (show Boxed V0 (b3 + 1 + 1) 4 (.bool false) from by
    have h := Boxed.new ((w.alloc (.cells #[.bool o1, .bool o2] 23)).alloc (.cells #[.int .u8 (ln : Int)] 5)) 4 (.bool false)
    rw [World.size_alloc, World.size_alloc, ← hb3] at h
    rw [hV0]
    exact h)
  have K0 := Lib.hid (show Kept [] w V0 from by rw [hV0]; exact (((Kept.refl [] w).alloc _).alloc _).alloc _)
  rw [← hb3, ← hV0]
  have HB3 := Lib.hid hb3
  clear hV0 hb3
  refine ⟨trivial, ?_⟩
  refine (callsIn_wide.2 (HB.out V0 K0.out)).mono ?_
  rintro e w1 ⟨n, F, R, q, F2, R2, rfl, hB⟩
  have K1 := Lib.hid hB.kept
  have N1 := Lib.hid hB.net
  have Q1 := Lib.hid hB.ref
  have HPW := Lib.hid (fun (V : World) (hV : Kept [] w1 V) => HL.out.kept0 ((K0.out.trans hB.kept).trans hV))
  have HLE := Lib.hid (lines_each HF.out (by decide))
  obtain ⟨L, hLL⟩ : ∃ L, L = linesN N := ⟨_, rfl⟩
  obtain ⟨tl, htl⟩ : ∃ tl, tl = (textL L).length := ⟨_, rfl⟩
  obtain ⟨cn, hcn⟩ : ∃ cn, cn = checkN N := ⟨_, rfl⟩
  have HLL := Lib.hid hLL
  have HTL := Lib.hid htl
  have HA1 := Lib.hid (all_c w1 N1.out HF.out (by decide) (HPW.out w1 (.refl [] _)))
  have HA2 := Lib.hid (fun (V : World) (hV : Kept [] w1 V) => all10 (Q1.out.kept0 hV) HF.out (by decide))
  have HA3 := Lib.hid (fun (V : World) (hV : Kept [] w1 V) => size_c V (N1.out.kept0 hV) HF.out (by decide) (HPW.out V hV))
  have HA4 := Lib.hid (fun (V : World) (hV : Kept [] w1 V) => lines10 (Q1.out.kept0 hV) HF.out (by decide))
  have HTE := Lib.hid (fun (V : World) (hV : Kept [] w1 V) => tells10 V (HPW.out V hV))
  unfold AllIs at HA1
  unfold All10 at HA2
  unfold SizeIs at HA3
  unfold LinesIs at HA4
  rw [← hcn, ← hLL, ← htl] at HA1
  simp only [← hcn, ← hLL, ← htl] at HA2 HA3 HA4
  clear hB hLL htl hcn
  gi_wp2_with fail
  refine ⟨trivial, ?_⟩
  refine (callsIn_wide.2 HA1.out).mono ?_
  rintro e u1 ⟨v1, rfl, r1, k1⟩
  obtain ⟨a1, c1, rfl⟩ := ownsRow_any r1
  have R1' := Lib.hid r1
  have U1 := Lib.hid k1
  clear r1 k1
  gi_wp2_with fail
  refine ⟨trivial, ?_⟩
  refine (callsIn_wide.2 (HA2.out u1 U1.out)).mono ?_
  rintro e u2 ⟨v2, B2, rfl, r2, k2⟩
  obtain ⟨a2, c2, rfl⟩ := ownsRowF_any r2
  have R2' := Lib.hid r2
  have U2 := Lib.hid (U1.out.trans k2)
  have U12 := Lib.hid k2
  clear r2 k2
  gi_wp2_with fail
  refine ⟨trivial, ?_⟩
  refine (callsIn_wide.2 (HA3.out u2 U2.out)).mono ?_
  rintro e u3 ⟨rfl, k3⟩
  have U3 := Lib.hid (U2.out.trans k3)
  have U23 := Lib.hid k3
  clear k3
  gi_wp2_with fail
  refine ⟨trivial, ?_⟩
  refine (callsIn_wide.2 (HA4.out u3 U3.out)).mono ?_
  rintro e u4 ⟨a4, m4, c4, rfl, hm4, o4⟩
  have O4 := Lib.hid o4
  have HM4 := Lib.hid hm4
  have U34 := Lib.hid o4.2.1
  clear o4 hm4
  have h1 := own_str0 (w := u4.alloc (.cells #[.slice a4 m4 c4] 55)) (l := textL L) (R1'.out.kept (kept_grown ((U12.out.trans U23.out).trans (U34.out.alloc _))) (Classical.em _)) HTL.out.symm
  have h2 := own_strF (w := u4.alloc (.cells #[.slice a4 m4 c4] 55)) (l := textL L) (R2'.out.kept (kept_grown (U23.out.trans (U34.out.alloc _))) (Classical.em _)) HTL.out.symm
  gi_wp2_with fail
  obtain ⟨b15, hb15⟩ : ∃ b, b = u4.heap.size := ⟨_, rfl⟩
  obtain ⟨V1, hV1⟩ : ∃ V, V = (u4.alloc (.cells #[.slice a4 m4 c4] 55)).alloc (.cells #[.int .i64 0] 3) := ⟨_, rfl⟩
  have B15 := Lib.hid (show Boxed V1 b15 55 (.slice a4 m4 c4) from by rw [hV1, hb15]; exact (Boxed.new u4 _ _).alloc _)
  have B16 := Lib.hid (show Boxed V1 (b15 + 1) 3 (.int .i64 0) from by
    have h := Boxed.new (u4.alloc (.cells #[.slice a4 m4 c4] 55)) 3 (.int .i64 0)
    rw [World.size_alloc, ← hb15] at h
    rw [hV1]
    exact h)
  have K41 := Lib.hid (show Kept [] u4 V1 from by rw [hV1]; exact ((Kept.refl [] u4).alloc _).alloc _)
  have HB15 := Lib.hid hb15
  clear h1 h2
  rw [← hV1, ← hb15]
  clear hb15 hV1
  refine ⟨trivial, ?_⟩
  refine (callsIn_wide.2 (lines_c V1)).mono ?_
  rintro e V2 ⟨rfl, hV2⟩
  have K42 := Lib.hid (show Kept [] V1 V2 from by rw [hV2]; exact (Kept.refl [] V1).alloc _)
  clear hV2
  gi_wp2_with fail
  refine ⟨trivial, ?_⟩
  refine (callsIn_wide.2 (lines_c V2)).mono ?_
  rintro e W0 ⟨rfl, hW0⟩
  have K40 := Lib.hid (show Kept [] V1 W0 from by rw [hW0]; exact K42.out.alloc _)
  have C0 := Lib.hid (show W0.cell? ⟨V2.heap.size, 0, none⟩ = some (.pointer (some ⟨n, 0, none⟩)) ∧ V2.heap.size < W0.heap.size from by
    rw [hW0]
    exact ⟨(cell_new_l _ _ _).1, by simp⟩)
  clear hW0
  gi_wp2_with fail
  have KW := Lib.hid (show Kept [] w1 W0 from (U3.out.trans U34.out).trans (K41.out.trans K40.out))
  have KU := Lib.hid (show Kept [] u4 W0 from K41.out.trans K40.out)
  have hne1 : b15 + 1 < W0.heap.size := by
    have h1 := B16.out.lt
    have h2 := K40.out.size
    omega
  have KV := Lib.hid (show Kept [] V0 W0 from K1.out.trans KW.out)
  have hb5 : b3 + 1 + 1 < b15 := by
    have h1 := B6.out.lt
    have h2 := (K1.out.trans (U3.out.trans U34.out)).size
    have h3 := HB15.out
    omega
  have HCON := Lib.hid (fun (V : World) (x : LnOf N) => (show Calls Tryz.prog 19 #[.string ⟨x.1.toArray⟩, .string ⟨#[10]⟩] V (fun e w' => e = .returned (.bool false) ∧ w' = V) from by
    have h := Tryz.strings_Contains_one ⟨x.1.toArray⟩ 10 V
    have e : decide (0 ≤ Lib.indexByte (⟨x.1.toArray⟩ : ByteArray).data.toList 10) = false := index_no (lines_no HF.out _ x.2)
    rw [e] at h
    exact h))
  have hmb : m4 ≤ 6000 := by rw [HM4.out, HLL.out]; exact HLE.out.2.1
  refine wpIn_rangeFunc_ownF rfl (by decide) (gf := 44) (lb := #[.pointer (some ⟨V2.heap.size, 0, none⟩)]) rfl trivial (enters_of Tryz.func44 (by kernel_rfl) rfl)
    (lines_stops (n₀ := w1.heap.size) (3 - 1) V2.heap.size W0 (N1.out.kept0 KW.out) HF.out (by decide) (fun b hb => by
      rcases List.mem_append.1 hb with h | h
      · exact N1.out.lt.1 b h
      · exact N1.out.lt.2 b h) (HPW.out W0 KW.out) (HPW.out w1 (.refl [] _)).lt KW.out.size C0.out.1 C0.out.2) kpL_t (kpL_b KW.out.size) (Below.refl _ _) (fun _ => rfl)
    (fun pre W => (Boxed W (b15 + 1) 3 (.int .i64 (pre.length : Int)) ∧ lnv pre = L.take pre.length) ∧ Kept [b15 + 1] W0 W)
    (fun c pre W => (c = .ret ∧ ¬ (lnv pre <+: L)) ∨ (c = .exit 0 ∧ Boxed W (b15 + 1) 3 (.int .i64 (ln : Int)) ∧ Kept [b15 + 1] W0 W))
    (fun s A B row hs hg hr => ⟨⟨hs.1.1.kept hg (fun e => by
        obtain ⟨_, o, ho, hc⟩ := hr _ e.symm
        rw [show A.heap[b15 + 1]? = _ from hs.1.1] at ho
        cases ho
        cases hc), hs.1.2⟩, hs.2.grown hg (fun k hk => .inr (hr k hk).1)⟩)
    (fun c s A B row hs hg hr => hs.imp id fun h => ⟨h.1, h.2.1.kept hg (fun e => by
        obtain ⟨_, o, ho, hc⟩ := hr _ e.symm
        rw [show A.heap[b15 + 1]? = _ from h.2.1] at ho
        cases ho
        cases hc), h.2.2.grown hg (fun k hk => .inr (hr k hk).1)⟩)
    ⟨⟨K40.out.heap B16.out (by simp), rfl⟩, .refl _ _⟩
    ?a1 ?assign ?body ?done ?stop
  case a1 => exact fun x => { tmps := #[Value.agg #[Value.bool o1, Value.bool o2], Value.slice sa len sc, Value.int IntKind.u8 ↑ln, Value.pointer (some { block := b3, off := 0 }), undef, Value.pointer (some { block := b3 + 1, off := 0 }), Value.pointer (some { block := b3 + 1 + 1, off := 0 }), Value.pointer (some { block := n, off := 0 }), Value.pointer (some { block := q, off := 0 }), Value.slice a1 tl c1, Value.int IntKind.i64 ↑cn, Value.slice a2 tl c2, Value.int IntKind.i64 ↑cn, Value.int IntKind.i64 ↑tl, Value.int IntKind.i64 ↑cn, Value.pointer (some { block := b15, off := 0 }), Value.pointer (some { block := b15 + 1, off := 0 }), Value.string { data := x.1.toArray }, Value.tuple #[Value.pointer (some { block := n, off := 0 }), Value.pointer (some { block := q, off := 0 })], Value.agg #[Value.bool o1, Value.bool o2], Value.slice sa len sc, Value.tuple #[Value.pointer (some { block := n, off := 0 }), Value.pointer (some { block := q, off := 0 })], Value.pointer (some { block := n, off := 0 }), Value.pointer (some { block := q, off := 0 }), Value.pointer (some { block := n, off := 0 }), Value.bool false, Value.tuple #[Value.slice a1 tl c1, Value.int IntKind.i64 ↑cn], Value.pointer (some { block := n, off := 0 }), Value.tuple #[Value.slice a1 tl c1, Value.int IntKind.i64 ↑cn], Value.slice a1 tl c1, Value.int IntKind.i64 ↑cn, Value.tuple #[Value.slice a2 tl c2, Value.int IntKind.i64 ↑cn], Value.pointer (some { block := q, off := 0 }), Value.tuple #[Value.slice a2 tl c2, Value.int IntKind.i64 ↑cn], Value.slice a2 tl c2, Value.int IntKind.i64 ↑cn, Value.tuple #[Value.int IntKind.i64 ↑tl, Value.int IntKind.i64 ↑cn], Value.pointer (some { block := n, off := 0 }), Value.tuple #[Value.int IntKind.i64 ↑tl, Value.int IntKind.i64 ↑cn], Value.int IntKind.i64 ↑tl, Value.int IntKind.i64 ↑cn, Value.pointer (some { block := q, off := 0 }), Value.slice a4 m4 c4, Value.slice a1 tl c1, Value.string { data := (textL L).toArray }, Value.slice a2 tl c2, Value.string { data := (textL L).toArray }, Value.bool false, Value.bool false, Value.int IntKind.i64 ↑cn, Value.int IntKind.i64 ↑cn, Value.bool false, Value.bool false, Value.bool false, Value.int IntKind.i64 ↑cn, Value.int IntKind.i64 ↑cn, Value.bool false, Value.bool false, Value.bool false, Value.int IntKind.i64 ↑tl, Value.slice a2 tl c2, Value.int IntKind.i64 ↑tl, Value.bool false, Value.bool false, Value.pointer (some { block := n, off := 0 }), Value.func (Fn.func 44) #[] #[Value.pointer (some { block := V1.heap.size, off := 0 })], Value.bool false, Value.pointer (some { block := n, off := 0 }), Value.func (Fn.func 44) #[] #[Value.pointer (some { block := V2.heap.size, off := 0 })], Value.string { data := x.1.toArray }, undef, undef, undef, undef, undef, undef, undef, undef, undef, undef, undef, undef, undef, undef, undef, undef, undef, undef, undef, undef, undef, undef, undef, undef, undef, undef, undef, undef, undef, undef, undef, undef, undef, undef, undef], defers := [] }
  case assign =>
    intro l x W K hK
    simp only [encL]
    gi_wp2
    exact hK
  case body =>
    rintro l pre x W ⟨⟨hb, hp⟩, hk⟩ hlt
    have hlt2 : pre.length < m4 := by rw [HM4.out, HLL.out]; exact hlt
    have hltL : pre.length < L.length := by rw [HLL.out]; exact hlt
    have c16 := hb.cell
    have f16 := hb.frozen
    have c15 : W.cell? ⟨b15, 0, none⟩ = some (.slice a4 m4 c4) := hk.cell ((K40.out.heap B15.out (by simp) |> fun (h : Boxed W0 b15 55 (.slice a4 m4 c4)) => h.cell)) (by simp)
    have hb5' : Boxed W (b3 + 1) 5 (.int .u8 (ln : Int)) := hk.heap (KV.out.heap B5.out (by simp)) (by simp; omega)
    have hb6' : Boxed W (b3 + 1 + 1) 4 (.bool false) := hk.heap (KV.out.heap B6.out (by simp)) (by simp; omega)
    have c5 := hb5'.cell
    have c6 := hb6'.cell
    have f6 := hb6'.frozen
    obtain ⟨g, hg, hcells⟩ := own3_form O4.out.1 (by omega)
    subst hg
    have hcl : W.cell? ⟨g, pre.length, none⟩ = some (.string ⟨(L[pre.length]).toArray⟩) := hk.cell (KU.out.cell (hcells pre.length _ (by simp [strV, List.getElem?_eq_getElem hltL])) (by simp)) (by
      have h1 := O4.out.1.lt g (by simp [ft])
      have h2 := HB15.out
      simp
      omega)
    have q0 : (0 : Int) ≤ (pre.length : Int) := by omega
    have q1 : (pre.length : Int) < (m4 : Int) := by omega
    have q2 : ¬ (m4 : Int) ≤ (pre.length : Int) := by omega
    have hpl : (pre ++ [x]).length = pre.length + 1 := by simp
    clear hcells
    by_cases hx : x.1 = L[pre.length]
    · rw [← hx] at hcl
      have HT := Lib.hid (show lnv (pre ++ [x]) = L.take (pre ++ [x]).length from by rw [lnv_snoc, hpl, List.take_succ_eq_append_getElem hltL, hp, hx])
      have hset := Boxed.set (.int .i64 ((pre.length : Int) + 1)) hb
      have c17 := hset.cell
      have c5' : (W.setCell ⟨b15 + 1, 0, none⟩ (.int .i64 ((pre.length : Int) + 1))).cell? ⟨b3 + 1, 0, none⟩ = some (.int .u8 (ln : Int)) := (hb5'.other (B' := b15 + 1) (by omega) _).cell
      clear hx
      gi_wp2_with fail
      refine ⟨trivial, ?_⟩
      refine (CallsIn.inRound l (callsIn_wide.2 (HCON.out _ x))).mono ?_
      rintro e w' ⟨rfl, rfl⟩
      have HBX := Lib.hid hset
      have HKX := Lib.hid (show Kept [b15 + 1] W0 (w'.setCell ⟨b15 + 1, 0, none⟩ (.int .i64 ((pre.length : Int) + 1))) from hk.setCell (.inl (by simp)) _)
      have HKP := Lib.hid (show KpL w1.heap.size V2.heap.size n w' (w'.setCell ⟨b15 + 1, 0, none⟩ (.int .i64 ((pre.length : Int) + 1))) from ⟨(Below.refl _ _).setCell (p := ⟨b15 + 1, 0, none⟩) (by show w1.heap.size ≤ b15 + 1; have h1 := (U3.out.trans U34.out).size; have h2 := HB15.out; omega) _, fun hc => by
        rw [World.cell?_setCell_other]
        · exact hc
        · have h1 := B16.out.lt
          have h2 := K42.out.size
          intro he
          injection he with he _ _
          omega⟩)
      by_cases hl : (pre.length : Int) + 1 = (ln : Int)
      · have HLX := Lib.hid hl
        clear hset hb hp hk hlt
        gi_wp2_with fail
        exact ⟨KeepsOthers.setCell _ _ _, .inr ⟨rfl, by rw [← HLX.out]; exact HBX.out, by rw [← HLX.out]; exact HKX.out⟩⟩
      · clear hset hb hp hk hlt
        gi_wp2_with fail
        exact ⟨KeepsOthers.setCell _ _ _, HKP.out, ⟨by rw [show (((pre ++ [x]).length : Nat) : Int) = (pre.length : Int) + 1 from by simp]; exact HBX.out, HT.out⟩, HKX.out⟩
    · have HNP := Lib.hid (show ¬ (lnv (pre ++ [x]) <+: L) from fun hpre => hx (by
        have h := List.prefix_iff_eq_take.1 hpre
        rw [lnv_snoc] at h
        have h2 := congrArg (fun l => l[pre.length]?) h
        rw [List.getElem?_append_right (by rw [lnv, List.length_map]; exact Nat.le_refl _), List.getElem?_take_of_lt (by simp [lnv]), List.getElem?_eq_getElem hltL] at h2
        simp [lnv] at h2
        exact h2))
      have hne : (⟨x.1.toArray⟩ : ByteArray) ≠ ⟨(L[pre.length]).toArray⟩ := fun h => hx (by
        injection h with h
        exact List.toArray_inj h)
      generalize L[pre.length] = y at *
      clear hx hb hp hk hlt
      gi_wp2_with fail
      · exfalso
        first
          | exact hne (by assumption)
          | simp_all
      · refine ⟨trivial, ?_⟩
        gi_wp2_with fail
        exact ⟨KeepsOthers.setCell _ _ _, .inl ⟨rfl, HNP.out⟩⟩
  case done =>
    rintro D ys W hD hys ⟨⟨hb, _⟩, hk⟩ hK
    have hyl : ys.length = m4 := by
      have h := congrArg List.length hys
      rw [HM4.out, HLL.out, ← h]
      simp [lnv]
    rw [hyl] at hb
    have KW2 := Lib.hid (kept_up KW.out hk (fun b hb => by simp at hb; subst hb; have h1 := (U3.out.trans U34.out).size; have h2 := HB15.out; omega))
    have HTW := Lib.hid (HTE.out W KW2.out)
    have hb6' : Boxed W (b3 + 1 + 1) 4 (.bool false) := hk.heap (KV.out.heap B6.out (by simp)) (by simp; omega)
    have HB6 := Lib.hid hb6'
    have c5 : W.cell? ⟨b3 + 1, 0, none⟩ = some (.int .u8 (ln : Int)) := (show Boxed W (b3 + 1) 5 (.int .u8 (ln : Int)) from hk.heap (KV.out.heap B5.out (by simp)) (by simp; omega)).cell
    have c15 : W.cell? ⟨b15, 0, none⟩ = some (.slice a4 m4 c4) := hk.cell ((show Boxed W0 b15 55 (.slice a4 m4 c4) from K40.out.heap B15.out (by simp)).cell) (by simp)
    have c16 := hb.cell
    have HDK := Lib.hid (And.intro hD hK)
    clear hb6'
    clear hb hk hK hD hyl
    gi_wp2_with fail
    refine ⟨trivial, ?_⟩
    refine (callsIn_wide.2 HTW.out).mono ?_
    rintro e W9 ⟨rfl, k9⟩
    have h9 : Boxed W9 (b3 + 1 + 1) 4 (.bool false) := k9.heap HB6.out (by simp)
    have c9 := h9.cell
    have f9 := h9.frozen
    have K9 := Lib.hid k9
    clear k9
    gi_wp2_with fail
    have hd : (W9.setCell ⟨b3 + 1 + 1, 0, none⟩ (.bool true)).heap[D]? = some (.deferred (some [])) := by
      rw [Below.heap_setCell]
      · exact K9.out.heap HDK.out.2 (by simp)
      · intro h
        have h1 := HDK.out.1
        simp only at h
        omega
    have hbx : Boxed (W9.setCell ⟨b3 + 1 + 1, 0, none⟩ (.bool true)) (b3 + 1 + 1) 4 (.bool true) := h9.set _
    have hc5 := cell_kept hbx.cell (grownBy_putObj' _ D (.deferred none)) (fun r e => by cases e; exact ⟨_, hd, rfl⟩)
    refine ⟨by simp, .inl ⟨_, _, rfl, run_takeDeferred hd, ?_⟩⟩
    refine ⟨.bool true, ?_, rfl, ?_⟩
    · simp [results, Tryz.results4, go_sem, hc5]
    · have hbb : Below w.heap.size w (W9.setCell ⟨b3 + 1 + 1, 0, none⟩ (.bool true)) := (((K0.out.trans K1.out).trans KW2.out).trans K9.out).below.setCell (p := ⟨b3 + 1 + 1, 0, none⟩) (by show w.heap.size ≤ b3 + 1 + 1; have := HB3.out; omega) _
      have h2 : w.heap.size ≤ D := by
        have h2 := HDK.out.1
        have h3 := (K0.out.trans KV.out).size
        omega
      exact .of_below (hbb.trans (belowK_b (w := w) (Nat.le_refl _) _ D _ _ h2 hd rfl rfl))
  case stop =>
    rintro D c pre W hD hpre (⟨rfl, h⟩ | ⟨rfl, hb, hk⟩) hK
    · exact absurd (show lnv pre <+: L from by rw [HLL.out]; exact hpre) h
    have KW2 := Lib.hid (kept_up KW.out hk (fun b hb => by simp at hb; subst hb; have h1 := (U3.out.trans U34.out).size; have h2 := HB15.out; omega))
    have HTW := Lib.hid (HTE.out W KW2.out)
    have hb6' : Boxed W (b3 + 1 + 1) 4 (.bool false) := hk.heap (KV.out.heap B6.out (by simp)) (by simp; omega)
    have HB6 := Lib.hid hb6'
    have c5 : W.cell? ⟨b3 + 1, 0, none⟩ = some (.int .u8 (ln : Int)) := (show Boxed W (b3 + 1) 5 (.int .u8 (ln : Int)) from hk.heap (KV.out.heap B5.out (by simp)) (by simp; omega)).cell
    have c15 : W.cell? ⟨b15, 0, none⟩ = some (.slice a4 m4 c4) := hk.cell ((show Boxed W0 b15 55 (.slice a4 m4 c4) from K40.out.heap B15.out (by simp)).cell) (by simp)
    have c16 := hb.cell
    have HDK := Lib.hid (And.intro hD hK)
    clear hb6'
    clear hb hk hK hD hpre
    gi_wp2_with fail
    all_goals
      refine ⟨trivial, ?_⟩
      refine (callsIn_wide.2 HTW.out).mono ?_
      rintro e W9 ⟨rfl, k9⟩
      have h9 : Boxed W9 (b3 + 1 + 1) 4 (.bool false) := k9.heap HB6.out (by simp)
      have c9 := h9.cell
      have f9 := h9.frozen
      have K9 := Lib.hid k9
      clear k9
      gi_wp2_with fail
      have hd : (W9.setCell ⟨b3 + 1 + 1, 0, none⟩ (.bool true)).heap[D]? = some (.deferred (some [])) := by
        rw [Below.heap_setCell]
        · exact K9.out.heap HDK.out.2 (by simp)
        · intro h
          have h1 := HDK.out.1
          simp only at h
          omega
      have hbx : Boxed (W9.setCell ⟨b3 + 1 + 1, 0, none⟩ (.bool true)) (b3 + 1 + 1) 4 (.bool true) := h9.set _
      have hc5 := cell_kept hbx.cell (grownBy_putObj' _ D (.deferred none)) (fun r e => by cases e; exact ⟨_, hd, rfl⟩)
      refine ⟨by simp, .inl ⟨_, _, rfl, run_takeDeferred hd, ?_⟩⟩
      refine ⟨.bool true, ?_, rfl, ?_⟩
      · simp [results, Tryz.results4, go_sem, hc5]
      · have hbb : Below w.heap.size w (W9.setCell ⟨b3 + 1 + 1, 0, none⟩ (.bool true)) := (((K0.out.trans K1.out).trans KW2.out).trans K9.out).below.setCell (p := ⟨b3 + 1 + 1, 0, none⟩) (by show w.heap.size ≤ b3 + 1 + 1; have := HB3.out; omega) _
        have h2 : w.heap.size ≤ D := by
          have h2 := HDK.out.1
          have h3 := (K0.out.trans KV.out).size
          omega
        exact .of_below (hbb.trans (belowK_b (w := w) (Nat.le_refl _) _ D _ _ h2 hd rfl rfl))
end Go.Proofs.YtnjoklcddodfeaaGreatDoor

namespace Go.Proofs.YtnjoklcddodfeaaGreatDoor
open Go.ChangeShapes Go.WideShapes Go.ChangeAt Go.WideMaps Go.WideElems Go.RowKit
set_option linter.unusedVariables false
set_option linter.unusedSimpArgs false

theorem et_walk (o1 o2 : Bool) (na : Option Addr) (nl : List NStp) (nc : Nat) (ln : Nat) (W : World) (nm : nl.length ≤ 140737488351232) (ns : SlNStepsC W na nl) (no : ∀ s ∈ nl, s.ok) (hln : ln < 256) (hg : PowLaid W) :
    Calls Tryz.prog 4 #[.agg #[.bool o1, .bool o2], .slice na nl.length nc, .int .u8 (ln : Int)] W fun e w' => e = .returned (.bool true) ∧ Below W.heap.size W w' :=
  (etells_c o1 o2 na nl nc nl.length ln W rfl ns no hln hg).mono fun _ _ h => ⟨h.1, h.2.below⟩

set_option maxRecDepth 100000 in
theorem et_lifted (os : Os) (started : os.Started) (H : Type) (enc : TypeId × Value → H) :
    ReturnsInHanded {} Tryz.checked os 4 .any (fun w args => (Rows.emitTellsSpec.pre enc Tryz.prog Tryz.f4 [] false w args ∧ laidMetH Tryz.prog laid3 w) ∧ sizedMet enc Tryz.prog Tryz.f4 (OpenSpec.ofChange Rows.emitTellsSpec) false w args)
      (Rows.emitTellsSpec.post enc Tryz.prog Tryz.f4 false true false false) := by
  refine returnsInHanded_of_change_and (C := Tryz.checked) (X := fun w _ => laidMetH Tryz.prog laid3 w) (fun _ _ _ hh h => h.of_heap hh) own started (by kernel_rfl) Tryz.func4
    (ChangeSpec.witness_shaped (enc := enc) (C := Tryz.checked) (os := os) (X := fun w _ => laidMetH Tryz.prog laid3 w) false (World.doorLaid Tryz.prog 400 os) #[.agg #[.bool false, .bool false], .slice none 0 0, .int .u8 0] 8 rfl (World.shaped_of_RefB (by kernel_rfl) (by kernel_rfl)) (by kernel_rfl) (by kernel_rfl) (by kernel_rfl) (door_met os _)) ?_
  intro W base args ds gs before hval0 hW _ hsz0 hL _
  have hg := laid_pow hL
  have hval : ∀ (j : Nat) t v, Tryz.f4.params[j]? = some t → args[j]? = some v → Value.okWide Tryz.prog W .any base t v := hval0
  have hend := fun W' (hb : Below W.heap.size W W') => law_post (s := Rows.emitTellsSpec) (fn := Tryz.f4) laidOut (by kernel_rfl) rfl ⟨4, rfl, Tryz.underlying4⟩ (fun l hl => by match l, hl with | [_, _, _], _ => rfl) hW hb
  obtain ⟨p, q, hA0, hV, rfl, hfz, hnd⟩ := hW
  have hA : DataW.TrodAll enc Tryz.prog W 0 (fun _ => true) true Tryz.f4.params.toList args.toList ds p := hA0
  have hsz : (DataW.weightsEach Tryz.prog (Tryz.f4.params.toList ++ Rows.emitTellsSpec.plain.varTypes Tryz.prog) (ds ++ gs)).all (· ≤ reachBytes) = true := hsz0
  rw [Tryz.params4] at hA hval hsz
  obtain ⟨v0, vs0, d0, ds0, p0, q0, hargs, rfl, rfl, h0, r0⟩ := trodAll_cons hA
  obtain ⟨v1, vs1, d1, ds1, p1, q1, rfl, rfl, rfl, h1, r1⟩ := trodAll_cons r0
  obtain ⟨v2, vs2, d2, ds2, p2, q2, rfl, rfl, rfl, h2, r2⟩ := trodAll_cons r1
  obtain ⟨rfl, rfl, rfl⟩ := trodAll_nil r2
  obtain rfl : args = #[v0, v1, v2] := by cases args; simp_all
  obtain ⟨rfl, rfl⟩ := trodVars_none hV
  obtain ⟨oa0, ob0, rfl⟩ := open_opts (hval 0 23 v0 rfl rfl) h0 (Sized.arg (j := 0) hsz rfl rfl)
  obtain ⟨na1, nl1, nc1, rfl, nm1, ns1, no1⟩ := open_nstepsc (hval 1 24 v1 rfl rfl) h1 (Sized.arg (j := 1) hsz rfl rfl)
  obtain ⟨a2, rfl, rfl, rfl, f2⟩ := open_int Tryz.underlying5 (hval 2 5 v2 rfl rfl) h2
  obtain ⟨a2, rfl, w2⟩ := wf_nat (m := 256) rfl rfl f2
  refine (et_walk oa0 ob0 na1 nl1 nc1 a2 W nm1 ns1 no1 w2 hg).mono fun e W' ⟨he, hb⟩ => ?_
  subst he
  exact hend W' hb

theorem et_over : Rows.emitTellsRow.holds Tryz.pinned (OpenSpec.ofChange Rows.emitTellsSpec) :=
  OpenClaim.holds_of_wide 4 Tryz.f4 rfl rfl rfl rfl rfl rfl rfl ⟨rfl, rfl, rfl, rfl, rfl⟩ rfl rfl rfl rfl rfl (by kernel_rfl) Tryz.func4 (by kernel_rfl)
    (of_decide_eq_true (by kernel_rfl)) (by unfold Func.isWrapper; first | (rw [if_pos (by decide +kernel)]; kernel_rfl) | (rw [if_neg (by decide +kernel)]; exact ⟨rfl, rfl⟩))
    (fun os started H enc _ => et_lifted os started H enc)

theorem emitTells_said : Rows.EmitTellsSaid := et_over
theorem emitTells_holds : Rows.EmitTellsCardSaid :=
  Claim7.holds_tied_plain_at .later [] [.data, .data, .data] true (true, "200171d27cc9508a43092f07b931dc97c379839cf0d6d4ae6b57a68e63c87cb0") true
    emitTells_said (fun _ h => by cases h) (by kernel_rfl) (fun _ h => by cases h) emitTells_row_tie rfl ⟨rfl, rfl⟩ (by kernel_rfl) rfl
    (fun f fn hf hfn => by
      obtain rfl : f = 4 := Option.some.inj ((show Tryz.prog.funcNamed "orrery/orrerylaw10.EmitTells" = some 4 by kernel_rfl).symm.trans hf) |>.symm
      obtain rfl : fn = Tryz.f4 := (Option.some.inj (Tryz.func4.symm.trans hfn)).symm
      exact ⟨by kernel_rfl, fun j t ht => by
        rw [Tryz.params4] at ht
        have hm : t ∈ ([23, 24, 5] : List TypeId) := by simpa using Array.mem_of_getElem? ht
        have hall : (([23, 24, 5] : List TypeId).all fun u => !Tryz.prog.wantsStandIn u) = true := by kernel_rfl
        exact (show Tryz.prog.wantsStandIn t = false by simpa using List.all_eq_true.1 hall t hm)⟩)
    (by kernel_rfl)
end Go.Proofs.YtnjoklcddodfeaaGreatDoor
