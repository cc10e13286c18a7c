/-
  Package emit: the whole text.
-/
import Derived.Test.YtnjoklcddodfeaaGreatDoorQEmitN
import Derived.Lib.BufStepsIn
import Derived.RangeFuncBox
import Derived.Maps.AppendAt
import Derived.Laws.MakeOwn
namespace Go.Proofs.YtnjoklcddodfeaaGreatDoor
open Go.ChangeShapes Go.WideShapes Go.ChangeAt Go.RowKit Go.Shelf
attribute [local go_sem] Oper.semAt_some
set_option linter.unusedVariables false
set_option linter.unusedSimpArgs false

variable {w w' w1 W W' : World} {n₀ : Nat} {nb k : Nat} {N : Nt} {F R : List Nat}
theorem ownsRow_any {W : World} {base : Nat} {e : TypeId} {size : Nat} {v : Value} {k : Nat} {xs : List Value} (h : W.ownsRow base e size v k xs) : ∃ ad cap, v = .slice ad k cap := by
  rcases h.2 with ⟨rfl, h0⟩ | ⟨g, cap, _, rfl, _⟩
  · exact ⟨none, 0, by rw [h0]⟩
  · exact ⟨_, cap, rfl⟩
theorem wpListIn_append_str {Fc : Fence} {n' : Nat} {P : Program} (w : World) {ops : Array Oper} {rest : List Oper} {o : Oper} {a : Act} {Q : Exit → Act → World → Prop} (hgd : o.guard = none) (sl x : Operand) (t u : TypeId)
    (ho : o.op = .call { callee := .builtin .append, args := #[sl, x], argTypes := #[t, u] })
    (base : Nat) (e : TypeId) (i : TypeInfo) (ht : P.underlying t = some (.slice e)) (hu : P.underlying u = some .string) (hi : P.info? e = some i) (hz : i.zero = some (.int .u8 0))
    (hsize : i.size = 1) (hby : i.bytes = 1)
    (v : Value) (n : Nat) (xs : List Value) (hs : a.eval sl = v) (hown : w.ownsRow base e 1 v n xs) (s : ByteArray) (hx : a.eval x = .string s)
    (h63 : n + s.size ≤ maxLen) (hbytes : n + s.size ≤ 140737488355328) (hbase : base ≤ w.heap.size)
    (h : ∀ v' w', w'.ownsRow base e 1 v' (n + s.size) (xs ++ Lib.strCells s) → w.grownBy w' v.ownBlock → wpListIn Fc n' P ops Q rest (a.put o.dst v') w') : wpListIn Fc n' P ops Q (o :: rest) a w := by
  refine wpListIn_plain hgd fun K hK => ?_
  obtain ⟨v', w', hr, h2, h3, h4⟩ := Lib.run_append_own_string (P := P) w base t u o.type e i ht hu hi hz hsize hby v n xs hown s h63 hbytes hbase
  unfold Oper.wpIn
  refine ⟨?_, ?_⟩
  · simp [Oper.about, ho, resolve, Target.leads, Sem.run_pure]
  · rw [Oper.semAt_plain Fc _ _ (by rw [ho]; intro c hc'; cases hc')]
    simp [execOp, ho, resolve, invoke, builtin, hs, hx, hr, Result.andThen]
    exact hK _ _ (h v' w' h2 h3)
theorem u8_all : ∃ i, Tryz.prog.info? 5 = some i ∧ i.zero = some (.int .u8 0) ∧ i.size = 1 ∧ i.bytes = 1 := by
  have u8i : (Tryz.prog.info? 5).map (fun i => (i.zero, i.size, i.bytes)) = some (some (.int .u8 0), 1, 1) := by kernel_rfl
  obtain ⟨i, hi, hiz, hisz, hib⟩ := info3 u8i
  exact ⟨i, hi, hiz, hisz, hib⟩
theorem make_buf (B n : Nat) (w : World) (hn : n ≤ 10000000) (hB : B ≤ w.heap.size) : ∃ W', (Instr.makeSlice 45 (.int .i64 0) (.int .i64 (n : Int))).run Tryz.prog w = .ok (.slice (some ⟨w.heap.size, 0, none⟩) 0 n) W' ∧ Kept [] w W' ∧ W'.ownsRow B 5 1 (.slice (some ⟨w.heap.size, 0, none⟩) 0 n) 0 [] := by
  obtain ⟨i, hi, hz, hs, hb⟩ := u8_all
  obtain ⟨W', h1, h2, h3⟩ := run_make_own (P := Tryz.prog) w B 45 5 i (.int .u8 0) 1 Tryz.underlying45 hi hz hs .i64 .i64 n (by rw [hb]; omega) (by unfold maxLen; omega) hB
  exact ⟨W', h1, ⟨h3.os, h3.tape, h3.output, h3.size, fun k hk _ => h3.block k hk (by simp)⟩, h2⟩
/-- two appends: the box lies as it lay -/
theorem box_two {w1 w2 : World} {b0 B k1 k2 : Nat} {v v1 u : Value} {o : Obj} {xs xs1 : List Value} (hv : Boxed W b0 45 u) (hrow : W.ownsRow B 5 1 v k1 xs) (hg1 : W.grownBy w1 v.ownBlock) (ho1 : w1.ownsRow B 5 1 v1 k2 xs1) (hg2 : (w1.alloc o).grownBy w2 v1.ownBlock) : Boxed w2 b0 45 u :=
  ((hv.kept hg1 (hv.not_row (by decide) hrow)).alloc o).kept hg2 (((hv.kept hg1 (hv.not_row (by decide) hrow)).alloc o).not_row (by decide) (ho1.alloc o))
theorem boxn_two {w1 w2 : World} {b0 B k1 k2 : Nat} {v v1 u : Value} {o : Obj} {xs xs1 : List Value} (hv : Boxed W b0 25 u) (hrow : W.ownsRow B 5 1 v k1 xs) (hg1 : W.grownBy w1 v.ownBlock) (ho1 : w1.ownsRow B 5 1 v1 k2 xs1) (hg2 : (w1.alloc o).grownBy w2 v1.ownBlock) : Boxed w2 b0 25 u :=
  ((hv.kept hg1 (hv.not_row (by decide) hrow)).alloc o).kept hg2 (((hv.kept hg1 (hv.not_row (by decide) hrow)).alloc o).not_row (by decide) (ho1.alloc o))
theorem brow_cells {w1 : World} {B k : Nat} {v : Value} {xs : List Value} (h : w1.ownsRow B 5 1 v k xs) : ∀ (j : Nat) (o : Obj), v.ownBlock = some j → w1.heap[j]? = some o → o.isCells = true := by
  intro j o hj ho
  rcases h.2 with ⟨rfl, _⟩ | ⟨g, cap, cur, rfl, _, hgb, _⟩
  · cases hj
  · injection hj with hj
    subst hj
    rw [hgb] at ho
    cases ho
    rfl
theorem two_keep {w1 w2 : World} {b0 B k1 k2 : Nat} {v v1 v2 : Value} {o : Obj} {xs xs1 : List Value} (hrow : W.ownsRow B 5 1 v k1 xs) (hg1 : W.grownBy w1 v.ownBlock) (ho1 : w1.ownsRow B 5 1 v1 k2 xs1) (hg2 : (w1.alloc o).grownBy w2 v1.ownBlock) (hB : B ≤ W.heap.size) (hb : B ≤ b0) :
    KeepsOthers W (w2.setCell ⟨b0, 0, none⟩ v2) ∧ Below B W (w2.setCell ⟨b0, 0, none⟩ v2) := by
  refine ⟨(((KeepsOthers.of_grownBy hg1 (brow_cells hrow)).trans (KeepsOthers.alloc _ _)).trans (KeepsOthers.of_grownBy hg2 (brow_cells (ho1.alloc o)))).trans (KeepsOthers.setCell _ _ _), ?_⟩
  have s1 := hg1.size
  have h1 : Below B W w1 := (Below.refl B W).grown hg1 hB (fun k hk => (hrow.lt k hk).1)
  have h2 : Below B W (w1.alloc o) := h1.alloc (by omega) _
  exact (h2.grown hg2 (by rw [World.size_alloc]; omega) (fun k hk => (ho1.lt k hk).1)).setCell (p := ⟨b0, 0, none⟩) hb _
def AllIs (N : Nt) (w : World) (e : Ending) (w' : World) : Prop := ∃ v, e = .returned (.tuple #[v, .int .i64 (checkN N : Nat)]) ∧ w'.ownsRow w.heap.size 5 1 v (textL (linesN N)).length (Lib.byteCells (textL (linesN N))) ∧ Kept [] w w'
/-- the invariant of All's loop -/
def BufI (b0 nb B : Nat) (w : World) (l : List UInt8) (W : World) : Prop := ((∃ v, Boxed W b0 45 v ∧ W.ownsRow B 5 1 v l.length (Lib.byteCells l) ∧ True) ∧ Boxed W (b0 + 1) 25 (.pointer (some ⟨nb, 0, none⟩))) ∧ Below B w W
set_option maxHeartbeats 3200000 in
set_option maxRecDepth 100000 in
theorem all_c (w : World) (h : NetAt w nb F R N) (hf : NtFine k N) (hk : k ≤ 60) (hL : PowLaid w) : Calls Tryz.prog 12 #[.pointer (some ⟨nb, 0, none⟩)] w (AllIs N w) := by
  have H := Lib.hid h
  have HL := Lib.hid hL
  have HCK := Lib.hid (size_c w h hf hk hL)
  have HF := Lib.hid hf
  have hlen := (lines_each hf hk).2.2
  have HLEN := Lib.hid hlen
  by_cases hck : checkN N = 0
  · unfold SizeIs at HCK
    rw [hck] at HCK
    have HCE := Lib.hid hck
    obtain ⟨len, hln⟩ : ∃ len, len = (textL (linesN N)).length := ⟨_, rfl⟩
    have HLN := Lib.hid hln
    rw [← hln] at HCK hlen
    clear h hL hf hck hln
    refine (callsIn_wide (n := 3)).1 ?_
    refine callsIn_of_wp_marks Tryz.func12 rfl trivial ?_ rfl
    simp only [Tryz.ntmps12, List.size_toArray, List.length_cons, List.length_nil, Nat.reduceAdd, Nat.reduceSub, Array.replicate_succ, Array.replicate_zero, List.push_toArray, List.append_toArray, List.nil_append, List.cons_append]
    gi_wp2_with fail
    refine ⟨trivial, ?_⟩
    refine (callsIn_wide.2 HCK.out).mono ?_
    rintro e W1 ⟨rfl, k1⟩
    have K1 := Lib.hid k1
    clear k1
    obtain ⟨W2, hmk, k2, hr2⟩ := make_buf w.heap.size len W1 (by omega) K1.out.size
    have hn : ¬ (16777216 : Int) < (len : Int) := by omega
    have hs1 : W1.heap.size + 1 ≤ W2.heap.size := by
      rcases hr2.2 with ⟨h, _⟩ | ⟨g, _, _, h, _, hg, _⟩
      · cases h
      · simp at h
        have := (Array.getElem?_eq_some_iff.1 hg).1
        omega
    have K2 := Lib.hid (show Kept [] w W2 from K1.out.trans k2)
    have HR2 := Lib.hid hr2
    clear k2 hr2
    gi_wp2_with fail
    refine ⟨trivial, ?_⟩
    refine (callsIn_wide.2 (lines_c _)).mono ?_
    rintro e W3 ⟨rfl, rfl⟩
    gi_wp2_with fail
    obtain ⟨v0, hv0⟩ : ∃ v, v = Value.slice (some ⟨W1.heap.size, 0, none⟩) 0 len := ⟨_, rfl⟩
    rw [← hv0] at HR2 ⊢
    obtain ⟨b0, hb0⟩ : ∃ b0, b0 = W2.heap.size := ⟨_, rfl⟩
    obtain ⟨W3, hW3⟩ : ∃ W3, W3 = ((W2.alloc (.cells #[v0] 45)).alloc (.cells #[.pointer (some ⟨nb, 0, none⟩)] 25)) := ⟨_, rfl⟩
    have hsz : W3.heap.size = b0 + 1 + 1 := by rw [hW3, hb0]; simp
    have e0 : Boxed W3 b0 45 v0 := by rw [hW3, hb0]; exact (Boxed.new W2 _ _).alloc _
    have e1 : Boxed W3 (b0 + 1) 25 (.pointer (some ⟨nb, 0, none⟩)) := by
      have h := Boxed.new (W2.alloc (.cells #[v0] 45)) 25 (.pointer (some ⟨nb, 0, none⟩))
      rw [hW3, hb0]
      rwa [World.size_alloc] at h
    have e2 : W3.ownsRow w.heap.size 5 1 v0 0 [] := by rw [hW3]; exact (HR2.out.alloc _).alloc _
    have hw1 : w.heap.size ≤ b0 := by rw [hb0]; exact K2.out.size
    have kW : Kept [] w W3 := by rw [hW3]; exact (K2.out.alloc _).alloc _
    rw [← hW3, ← hb0]
    clear hW3 hb0 hv0 HR2
    refine wpIn_rangeFunc_ownF rfl (by decide) (gf := 44) (lb := #[.pointer (some ⟨b0 + 1, 0, none⟩)]) rfl trivial (enters_of Tryz.func44 (by kernel_rfl) rfl)
      (lines_stops (n₀ := w.heap.size) (3 - 1) (b0 + 1) W3 (H.out.kept kW (by simp) (by simp)) HF.out hk (fun b hb => by
        rcases List.mem_append.1 hb with h | h
        · exact H.out.lt.1 b h
        · exact H.out.lt.2 b h) (HL.out.kept0 kW) HL.out.lt (by omega) e1.cell (by omega)) kpL_t (kpL_b (by omega)) (Below.refl _ _) (fun _ => rfl)
      (fun pre W => BufI b0 nb w.heap.size w (textL (lnv pre)) W)
      (fun _ _ _ => False)
      (OwnFrom.and (OwnFrom.and (Own.from (holdsRow_own w.heap.size b0 45 5 1 (fun pre => (textL (lnv pre)).length) (fun pre => Lib.byteCells (textL (lnv pre))) (fun _ _ => True)) _) (Own.from (fun s A B row hs hg hr => hs.kept hg (fun e => by
        obtain ⟨o, ho, hc⟩ := hr _ e.symm
        rw [show A.heap[b0 + 1]? = _ from hs] at ho
        cases ho
        cases hc)) _)) (ownFrom_below (Nat.le_refl _) (by omega)))
      (fun _ _ _ _ _ hs _ _ => hs)
      ⟨⟨⟨v0, e0, e2, trivial⟩, e1⟩, kW.below⟩
      ?a1 ?assign ?body ?done ?stop
    case a1 => exact fun x => { tmps := #[.pointer (some ⟨nb, 0, none⟩), undef, .slice none 0 0, .int .i64 0, .int .i64 len, .int .i64 0, .pointer (some ⟨b0, 0, none⟩), .string ⟨x.1.toArray⟩, .tuple #[.int .i64 len, .int .i64 0], .pointer (some ⟨nb, 0, none⟩), .tuple #[.int .i64 len, .int .i64 0], .int .i64 len, .int .i64 0, .bool false, .int .i64 0, .bool false, undef, .bool (decide ((16777216 : Int) < len)), .int .i64 len, .bool (decide ((16777216 : Int) < len)), .int .i64 len, v0, .pointer (some ⟨nb, 0, none⟩), .func (.func 44) #[] #[.pointer (some ⟨b0 + 1, 0, none⟩)], .string ⟨x.1.toArray⟩, undef, undef, undef, undef, undef, undef], defers := [] }
    case assign =>
      intro l x W K hK
      simp only [encL]
      gi_wp2
      exact hK
    case body =>
      rintro l pre x W ⟨⟨⟨v, hv, hrow, _⟩, hbx⟩, hB⟩ hlt
      have hl1 := lnv_len HF.out hk (pre ++ [x]) (by simp; omega)
      rw [lnv_snoc, textL_take] at hl1
      obtain ⟨iu, hi, hz, hs, hb⟩ := u8_all
      have hsb := hB.size
      obtain ⟨ad, cap, rfl⟩ := ownsRow_any hrow
      have L1 : (textL (lnv pre)).length + x.1.length + 1 ≤ maxLen := by unfold maxLen; omega
      have L2 : ((textL (lnv pre)).length + x.1.length + 1) * 1 ≤ 140737488355328 := by omega
      have NE : (45 : TypeId) ≠ 5 := by decide
      have ONE : ∀ u ∈ [Value.int .u8 10], u.oneCell' = true := by simp [Value.oneCell']
      have hc := hv.cell
      gi_wp2_with (first
        | (gi_at_builtin; refine wpListIn_append_str _ rfl _ _ 45 9 rfl w.heap.size 5 iu Tryz.underlying45 Tryz.underlying9 hi hz hs hb _ _ _ rfl hrow ⟨x.1.toArray⟩ rfl (by unfold maxLen; show _ + x.1.length ≤ _; omega) (by show _ + x.1.length ≤ _; omega) hsb ?_; intro v1 w1 ho0 hg1; have ho1 : w1.ownsRow w.heap.size 5 1 v1 ((textL (lnv pre)).length + x.1.length) (Lib.byteCells (textL (lnv pre) ++ x.1)) := by (rw [← str_cells]; exact ho0)
           obtain ⟨ad1, cap1, rfl⟩ := ownsRow_any ho1; have L3 := (show w.heap.size ≤ (w1.alloc (.cells #[.int .u8 10] 5)).heap.size from by (have := hg1.size; rw [World.size_alloc]; omega)))
        | (gi_at_builtin; go_loud (refine wpListIn_append_own (w1.alloc (.cells #[.int .u8 10] 5)) rfl (.tmp 27) (.tmp 28) 45 rfl w.heap.size 5 iu (.int .u8 0) 1 1 Tryz.underlying45 hi hz hs hb rfl Nat.one_pos (.slice ad1 ((textL (lnv pre)).length + x.1.length) cap1) ((textL (lnv pre)).length + x.1.length) (Lib.byteCells (textL (lnv pre) ++ x.1)) rfl (ho1.alloc _) ⟨w1.heap.size, 0, none⟩ 1 1 [.int .u8 10] rfl rfl (cell_one_new w1 (.int .u8 10) 5) ONE L1 L2 L3 ?_)
           go_loud (intro v2 w2 ho2 hg2 _)
           go_loud (obtain ⟨g2, cap2, rfl⟩ := ownsRow_succ ho2)
           have hv2 := box_two hv hrow hg1 ho1 hg2
           have hc2 := hv2.cell
           have hf2 := hv2.frozen))
      have hg1' : W.grownBy w1 (Value.slice ad (textL (lnv pre)).length cap).ownBlock := hg1
      obtain ⟨kk, kb⟩ := two_keep (v2 := .slice (some ⟨g2, 0, none⟩) ((textL (lnv pre)).length + x.1.length + 1) cap2) hrow hg1' ho1 hg2 hsb hw1
      have hbn := boxn_two hbx hrow hg1' ho1 hg2
      have hbn2 := hbn.other (B' := b0) (by omega) (.slice (some ⟨g2, 0, none⟩) ((textL (lnv pre)).length + x.1.length + 1) cap2)
      have hr3 := ho2.kept (grownBy_setCell' w2 b0 (.slice (some ⟨g2, 0, none⟩) ((textL (lnv pre)).length + x.1.length + 1) cap2)) (.inr (hv2.not_row (by decide) ho2).symm)
      refine ⟨kk, ⟨kb, fun _ => hbn2.cell⟩, ⟨⟨_, hv2.set _, ?_, trivial⟩, hbn2⟩, hB.trans kb⟩
      rw [lnv_snoc, textL_take, textL_snoc, ← List.append_assoc]
      have e : Lib.byteCells (textL (lnv pre) ++ x.1 ++ [10]) = Lib.byteCells (textL (lnv pre) ++ x.1) ++ [Value.int .u8 10] := by simp [Lib.byteCells]
      rw [e]
      exact hr3
    case done =>
      rintro D ys W hD hys ⟨⟨⟨v, hv, hrow, _⟩, _⟩, hB⟩ hK
      rw [hys] at hrow
      obtain ⟨ad, cap, rfl⟩ := ownsRow_any hrow
      have hc := hv.cell
      gi_wp2_with fail
      refine ⟨by simp, .inl ⟨_, _, rfl, run_takeDeferred hK, ?_⟩⟩
      refine ⟨_, results_tmp2 rfl _ _ _, _, ?_, ownsRow_putObj hrow _ hK rfl, .of_below (hB.trans (belowK_b (w := w) (Nat.le_refl _) W D _ _ (by omega) hK rfl rfl))⟩
      rw [HCE.out]
      rfl
    case stop =>
      rintro D c pre W _ _ h _
      exact h.elim
  · unfold SizeIs at HCK
    have HCE := Lib.hid (show ((checkN N : Nat) : Int) ≠ 0 from by omega)
    have HNIL := Lib.hid (show linesN N = [] from by unfold linesN; rw [if_neg hck])
    rw [HNIL.out] at HCK
    obtain ⟨cn, hcn⟩ : ∃ cn, cn = checkN N := ⟨_, rfl⟩
    have g0 : ((cn : Int) == 0) = false := by rw [beq_eq_false_iff_ne, hcn]; exact HCE.out
    have g1 : ((cn : Int) != 0) = true := by rw [bne_iff_ne, hcn]; exact HCE.out
    have HCN := Lib.hid hcn
    rw [← hcn] at HCK
    clear h hL hf hck hcn hlen
    go_enter Tryz.func12, Tryz.ntmps12
    go_wp2_with fail
    refine HCK.out.mono ?_
    rintro e W1 ⟨rfl, k1⟩
    go_wp2_with fail
    go_ret2
    refine ⟨.slice none 0 0, ?_, ?_, k1⟩
    · rw [← HCN.out]
      rfl
    · rw [HNIL.out]
      exact World.ownsRow_nil _ _ _ _
end Go.Proofs.YtnjoklcddodfeaaGreatDoor
