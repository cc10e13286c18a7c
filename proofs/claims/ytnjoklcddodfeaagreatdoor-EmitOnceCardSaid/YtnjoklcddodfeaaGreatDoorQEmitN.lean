/-
  Package emit: what Lines hands back; how long the text is.
-/
import Derived.Test.YtnjoklcddodfeaaGreatDoorQEmitK
import Derived.RangeFuncFrom
namespace Go.Proofs.YtnjoklcddodfeaaGreatDoor
open Go.ChangeShapes Go.WideShapes Go.ChangeAt Go.RowKit Go.Shelf
attribute [local go_sem] Oper.semAt_some
set_option linter.unusedVariables false
set_option linter.unusedSimpArgs false

variable {w w' w1 W W' : World} {n₀ : Nat} {nb k : Nat} {N : Nt} {F R : List Nat}
theorem cell_new_l (W : World) (v : Value) (t : TypeId) : (W.alloc (.cells #[v] t)).cell? ⟨W.heap.size, 0, none⟩ = some v ∧ (W.alloc (.cells #[v] t)).frozen? ⟨W.heap.size, 0, none⟩ = false := by
  have h := World.alloc_heap_new W (.cells #[v] t)
  unfold World.cell? World.frozen?
  rw [h]
  exact ⟨rfl, rfl⟩
theorem cell_alloc_l {W : World} {a : Addr} {v : Value} (o : Obj) (h : W.cell? a = some v) : (W.alloc o).cell? a = some v := cell_kept h (World.grownBy_alloc W o none) (fun r e => by cases e)
theorem frozen_alloc_l {W : World} {a : Addr} {v : Value} (o : Obj) (h : W.cell? a = some v) (hf : W.frozen? a = false) : (W.alloc o).frozen? a = false := (frozen_kept h (World.grownBy_alloc W o none) (fun r e => by cases e)).trans hf
theorem kept_grown {A B : World} (h : Kept [] A B) : A.grownBy B none := ⟨h.os, h.tape, h.output, h.size, fun k hk _ => h.block k hk (by simp)⟩
theorem PowLaid.lt (h : PowLaid w) : 3 < w.heap.size := by
  unfold PowLaid Lib.TabIs at h
  simp only [World.var?, gPow, Option.bind_some] at h
  split at h
  · rename_i c t fr hb
    exact (Array.getElem?_eq_some_iff.1 hb).1
  · cases h
/-- what a round must leave: all below a block, and the netlist's own box -/
def KpL (n₀ bx nb : Nat) (A B : World) : Prop := Below n₀ A B ∧ (A.cell? ⟨bx, 0, none⟩ = some (.pointer (some ⟨nb, 0, none⟩)) → B.cell? ⟨bx, 0, none⟩ = some (.pointer (some ⟨nb, 0, none⟩)))
theorem kpL_t {bx : Nat} {A B C : World} (h : KpL n₀ bx nb A B) (k : KpL n₀ bx nb B C) : KpL n₀ bx nb A C := ⟨h.1.trans k.1, fun hc => k.2 (h.2 hc)⟩
theorem kpL_b {bx : Nat} {w : World} (hn : n₀ ≤ w.heap.size) (W : World) (l : Nat) (o o' : Obj) (hl : w.heap.size ≤ l) (h : W.heap[l]? = some o) (h1 : o.isCells = false) (h2 : o.isWalk = false) : KpL n₀ bx nb W (W.putObj l o') :=
  ⟨belowK_b hn W l o o' hl h h1 h2, fun hc => cell_kept hc (grownBy_putObj' W l o') (fun r e => by cases e; exact ⟨o, h, h1⟩)⟩
/-- a line of the netlist -/
abbrev LnOf (N : Nt) : Type := { x : List UInt8 // x ∈ linesN N }
def encL (x : LnOf N) : Array Value := #[.string ⟨x.1.toArray⟩]
def lnv (l : List (LnOf N)) : List (List UInt8) := l.map (·.1)
theorem lnv_snoc (l : List (LnOf N)) (x : LnOf N) : lnv (l ++ [x]) = lnv l ++ [x.1] := by simp [lnv]
/-- what Lines hands back hands on the lines, all or a part -/
theorem lines_stops (n bx : Nat) (w : World) (hb : NetAt w nb F R N) (hf : NtFine k N) (hk : k ≤ 60) (hn0 : ∀ b ∈ F ++ R, b < n₀) (hL : PowLaid w) (hg : 3 < n₀) (hw : n₀ ≤ w.heap.size) (hbx : w.cell? ⟨bx, 0, none⟩ = some (.pointer (some ⟨nb, 0, none⟩))) (hlt : bx < w.heap.size) :
    SeqStopsK Fence.wide n Tryz.prog 44 #[.pointer (some ⟨bx, 0, none⟩)] (encL (N := N)) (KpL n₀ bx nb) (fun ys => lnv ys = linesN N) (fun pre => lnv pre <+: linesN N) (linesN N).length w := by
  obtain ⟨p, G, ia, ic, ra, rc, oa, oc, ri, ro, rfl, rfl, hc⟩ := hb
  intro l J Jx W hW hJ hJx hY h0
  have hbw : Below n₀ w W := hW.mono hw
  have hB : BoxNet W n₀ nb N p G ia ic ra rc oa oc ri ro := ⟨hc.kept (kept_up0 hbw) (fun b hb => not_up (hn0 b (by simp only [List.mem_append]; exact .inl hb))) (fun b hb => not_up (hn0 b (by simp only [List.mem_append] at hb ⊢; exact .inr hb))),
    fun b hb => hn0 b (by simp only [List.mem_append]; exact .inl hb), fun b hb => hn0 b (by simp only [List.mem_append] at hb ⊢; exact .inr hb), hL.below hbw hg, hg⟩
  have hbx' : W.cell? ⟨bx, 0, none⟩ = some (.pointer (some ⟨nb, 0, none⟩)) := (hW.cell (p := ⟨bx, 0, none⟩) hlt).trans hbx
  have hs : n₀ ≤ W.heap.size := Nat.le_trans hw hW.size
  refine (lines1_in n l N k hf hk (fun pre V => (∃ q : List (LnOf N), lnv q = pre ∧ J q V) ∧ V.cell? ⟨bx, 0, none⟩ = some (.pointer (some ⟨nb, 0, none⟩))) (fun pre V => ∃ q : List (LnOf N), lnv q = pre ∧ Jx q V) ?_ ?_ bx nb p (fun s A h => h.2) G ia ic ra rc oa oc ri ro W hB hs ⟨⟨[], rfl, h0⟩, hbx'⟩).mono ?_
  · rintro m pre x V ⟨⟨q, rfl, hq⟩, hc⟩ hpre
    refine YieldAt.any (m := n - 1) m ?_
    have hx : x ∈ linesN N := hpre.subset (by simp)
    have hlen : q.length < (linesN N).length := by
      have h := hpre.length_le
      simp [lnv] at h
      omega
    obtain ⟨fn, tmps, assign, body, hy, hR⟩ := hY q ⟨x, hx⟩ V hq hlen
    refine ⟨fn, tmps, assign, body, hy, hR.mono ?_⟩
    rintro e V' (⟨rfl, h1, h2⟩ | ⟨rfl, h1⟩)
    · exact .inl ⟨rfl, ⟨⟨_, lnv_snoc _ _, h1⟩, h2.2 hc⟩, h2.1⟩
    · exact .inr ⟨rfl, _, lnv_snoc _ _, h1⟩
  · rintro s A B ⟨⟨q, hq, h1⟩, h3⟩ hk
    exact ⟨⟨q, hq, hJ q A B none h1 (kept_grown hk) (fun r e => by cases e)⟩, hk.cell h3 List.not_mem_nil⟩
  · rintro e V ⟨h1, h2⟩
    refine ⟨h1, ?_⟩
    rcases h2 with ⟨ys, rfl, ⟨q, hq, h2⟩, _⟩ | ⟨pre, h2, q, rfl, h3⟩
    · exact .inl ⟨q, hq, h2⟩
    · exact .inr ⟨q, h2, h3⟩
/-- n boxed, and the function value that captures the box -/
theorem lines_c (w : World) : Calls Tryz.prog 18 #[.pointer (some ⟨nb, 0, none⟩)] w fun e w' => e = .returned (.func (.func 44) #[] #[.pointer (some ⟨w.heap.size, 0, none⟩)]) ∧ w' = w.alloc (.cells #[.pointer (some ⟨nb, 0, none⟩)] 25) := by
  go_enter Tryz.func18, Tryz.ntmps18
  go_wp2_with fail
  go_ret
  exact ⟨rfl, rfl⟩
theorem textL_take (l : List (List UInt8)) (x : List UInt8) : (textL (l ++ [x])).length = (textL l).length + (x.length + 1) := by rw [textL_snoc]; simp
theorem lnv_len (hf : NtFine k N) (hk : k ≤ 60) (l : List (LnOf N)) (h : l.length ≤ (linesN N).length) : (textL (lnv l)).length ≤ 9100000 := by
  have hb := lines_each hf hk
  have h1 := textL_len (l := lnv l) (c := 1500) (fun s hs => by
    obtain ⟨x, hx, rfl⟩ := List.mem_map.1 hs
    exact hb.1 _ x.2)
  have h2 : (1500 + 1) * (lnv l).length ≤ (1500 + 1) * 6000 := Nat.mul_le_mul_left _ (by simp only [lnv, List.length_map]; omega)
  omega
def SizeIs (N : Nt) (w : World) (e : Ending) (w' : World) : Prop := e = .returned (.tuple #[.int .i64 ((textL (linesN N)).length : Int), .int .i64 (checkN N : Nat)]) ∧ Kept [] w w'
set_option maxHeartbeats 3200000 in
set_option maxRecDepth 100000 in
theorem size_c (w : World) (h : NetAt w nb F R N) (hf : NtFine k N) (hk : k ≤ 60) (hL : PowLaid w) : Calls Tryz.prog 16 #[.pointer (some ⟨nb, 0, none⟩)] w (SizeIs N w) := by
  have H := Lib.hid h
  have HL := Lib.hid hL
  have HCK := Lib.hid (check_c h hf (by omega))
  have HF := Lib.hid hf
  have HLEN := Lib.hid (lines_each hf hk).2.2
  by_cases hck : checkN N = 0
  · rw [hck] at HCK
    have HCE := Lib.hid hck
    clear h hL hf hck
    refine (callsIn_wide (n := 3)).1 ?_
    refine callsIn_of_wp_marks Tryz.func16 rfl trivial ?_ rfl
    simp only [Tryz.ntmps16, List.size_toArray, List.length_cons, List.length_nil, Nat.reduceAdd, Nat.reduceSub, Array.replicate_succ, Array.replicate_zero, List.push_toArray, List.append_toArray, List.nil_append, List.cons_append]
    gi_wp2_with fail
    refine ⟨trivial, ?_⟩
    refine (callsIn_wide.2 HCK.out).mono ?_
    rintro e W1 ⟨rfl, k1⟩
    have K1 := Lib.hid k1
    clear k1
    gi_wp2_with fail
    refine ⟨trivial, ?_⟩
    refine (callsIn_wide.2 (lines_c _)).mono ?_
    rintro e W2 ⟨rfl, rfl⟩
    gi_wp2_with fail
    obtain ⟨b0, hb0⟩ : ∃ b0, b0 = W1.heap.size := ⟨_, rfl⟩
    obtain ⟨W2, hW2⟩ : ∃ W2, W2 = ((W1.alloc (.cells #[.int .i64 0] 3)).alloc (.cells #[.pointer (some ⟨nb, 0, none⟩)] 25)) := ⟨_, rfl⟩
    have hsz : W2.heap.size = b0 + 1 + 1 := by rw [hW2, hb0]; simp
    have e0 : W2.cell? ⟨b0, 0, none⟩ = some (.int .i64 0) := by
      rw [hW2, hb0]
      exact cell_alloc_l _ (cell_new_l W1 _ _).1
    have f0 : W2.frozen? ⟨b0, 0, none⟩ = false := by
      rw [hW2, hb0]
      exact frozen_alloc_l _ (cell_new_l W1 _ _).1 (cell_new_l W1 _ _).2
    have e1 : W2.cell? ⟨b0 + 1, 0, none⟩ = some (.pointer (some ⟨nb, 0, none⟩)) := by
      have h := (cell_new_l (W1.alloc (.cells #[.int .i64 0] 3)) (.pointer (some ⟨nb, 0, none⟩)) 25).1
      rw [hW2, hb0]
      rwa [World.size_alloc] at h
    have hw1 : w.heap.size ≤ b0 := by rw [hb0]; exact K1.out.size
    have kW : Kept [] w W2 := by rw [hW2]; exact (K1.out.alloc _).alloc _
    rw [← hW2, ← hb0]
    clear hW2 hb0
    refine wpIn_rangeFunc_ownF rfl (by decide) (gf := 44) (lb := #[.pointer (some ⟨b0 + 1, 0, none⟩)]) rfl trivial (enters_of Tryz.func44 (by kernel_rfl) rfl)
      (lines_stops (n₀ := w.heap.size) (3 - 1) (b0 + 1) W2 (H.out.kept kW (by simp) (by simp)) HF.out hk (fun b hb => by
        rcases List.mem_append.1 hb with h | h
        · exact H.out.lt.1 b h
        · exact H.out.lt.2 b h) (HL.out.kept0 kW) HL.out.lt (by omega) e1 (by omega)) kpL_t (kpL_b (by omega)) (Below.refl _ _) (fun _ => rfl)
      (fun pre W => ((W.cell? ⟨b0, 0, none⟩ = some (.int .i64 ((textL (lnv pre)).length : Int)) ∧ W.frozen? ⟨b0, 0, none⟩ = false)) ∧ Below w.heap.size w W)
      (fun _ _ _ => False)
      (OwnFrom.and (Own.from (fun s A B row hs hg hr => ⟨cell_kept hs.1 hg hr, (frozen_kept hs.1 hg hr).trans hs.2⟩) _) (ownFrom_below (Nat.le_refl _) (by omega)))
      (fun _ _ _ _ _ hs _ _ => hs)
      ⟨⟨e0, f0⟩, kW.below⟩
      ?a1 ?assign ?body ?done ?stop
    case a1 => exact fun x => { tmps := #[.pointer (some ⟨nb, 0, none⟩), undef, .int .i64 0, .int .i64 0, .int .i64 0, .pointer (some ⟨b0, 0, none⟩), .string ⟨x.1.toArray⟩, .pointer (some ⟨nb, 0, none⟩), .int .i64 0, .int .i64 0, .bool false, undef, .pointer (some ⟨nb, 0, none⟩), .func (.func 44) #[] #[.pointer (some ⟨b0 + 1, 0, none⟩)], .string ⟨x.1.toArray⟩, undef, undef, undef, undef, undef, undef], defers := [] }
    case assign =>
      intro l x W K hK
      simp only [encL]
      gi_wp2
      exact hK
    case body =>
      rintro l pre x W ⟨⟨hc, hf⟩, hB⟩ hlt
      have hl1 := lnv_len HF.out hk (pre ++ [x]) (by simp; omega)
      rw [lnv_snoc, textL_take] at hl1
      have hadd : (((textL (lnv pre)).length : Int) + ((x.1.length : Int) + 1)) = ((textL (lnv (pre ++ [x]))).length : Int) := by
        rw [lnv_snoc, textL_take]
        omega
      gi_wp2_with fail
      refine ⟨KeepsOthers.setCell _ _ _, ⟨(Below.refl w.heap.size W).setCell (p := ⟨b0, 0, none⟩) hw1 _, fun hc => ?_⟩, ⟨World.cell?_setCell_same' _ _ _ (by rw [hc]; rfl), by rw [World.frozen?_setCell]; exact hf⟩, hB.setCell (p := ⟨b0, 0, none⟩) hw1 _⟩
      rw [World.cell?_setCell_other]
      · exact hc
      · simp
    case done =>
      rintro D ys W hD hys ⟨⟨hc, _⟩, hB⟩ hK
      rw [hys] at hc
      gi_wp2_with fail
      refine ⟨by simp, .inl ⟨_, _, rfl, run_takeDeferred hK, ?_⟩⟩
      refine ⟨_, results_tmp2 rfl _ _ _, ?_, .of_below (hB.trans (belowK_b (w := w) (Nat.le_refl _) W D _ _ (by omega) hK rfl rfl))⟩
      rw [HCE.out]
      rfl
    case stop =>
      rintro D c pre W _ _ h _
      exact h.elim
  · have HCE := Lib.hid (show ((checkN N : Nat) : Int) ≠ 0 from by omega)
    have HNIL := Lib.hid (show linesN N = [] from by unfold linesN; rw [if_neg hck])
    obtain ⟨cn, hcn⟩ : ∃ cn, cn = checkN N := ⟨_, rfl⟩
    have g0 : ((cn : Int) == 0) = false := by rw [beq_eq_false_iff_ne, hcn]; exact HCE.out
    have g1 : ((cn : Int) != 0) = true := by rw [bne_iff_ne, hcn]; exact HCE.out
    have HCN := Lib.hid hcn
    rw [← hcn] at HCK
    clear h hL hf hck hcn
    go_enter Tryz.func16, Tryz.ntmps16
    go_wp2_with fail
    refine HCK.out.mono ?_
    rintro e W1 ⟨rfl, k1⟩
    go_wp2_with fail
    go_ret2
    refine ⟨?_, k1⟩
    rw [HNIL.out, ← HCN.out]
    rfl
end Go.Proofs.YtnjoklcddodfeaaGreatDoor
