/-
  Packages orreryref02 and orreryref03: what a gate comes to; gates, inputs, what two literals come to.
-/
import Derived.Test.YtdmcdhkkbkgnbaaGreatP21
namespace Go.Proofs.YtdmcdhkkbkgnbaaGreat
open Go.ChangeShapes Go.WideShapes Go.ChangeAt Go.RowKit
open Go.Maps (Keyed)
open Go.WideMaps
set_option linter.unusedVariables false

variable {w w' : World} {q : Nat} {R S : List Nat} {g : Gr}
theorem ref_not (l : Nat) (w : World) (h : l < 4294967296) : Calls Tryz.prog 136 #[.int .u32 l] w fun e w' => e = .returned (.int .u32 (ntL l : Nat)) ∧ w = w' := by
  by_cases hl : l % 2 = 0
  · have HN := Lib.hid (show ((ntL l : Nat) : Int) = (l : Int) + 1 by unfold ntL; split <;> omega)
    have t1 : ((l : Int) % 2 == 0) = true := by simp; omega
    have b1 : (l : Int) + 1 < 4294967296 := by omega
    have u1 : IntKind.u32.wrap ((l : Int) + 1) = (l : Int) + 1 := by simp only [IntKind.wrap_u32]; omega
    clear hl
    go_enter Tryz.func136, Tryz.ntmps136
    go_wp2
    go_ret
    exact ⟨by rw [HN.out]; rfl, rfl⟩
  · have HN := Lib.hid (show ((ntL l : Nat) : Int) = (l : Int) - 1 by unfold ntL; split <;> omega)
    have t1 : ((l : Int) % 2 == 0) = false := by simp; omega
    have b1 : 1 ≤ (l : Int) := by omega
    have u1 : IntKind.u32.wrap ((l : Int) - 1) = (l : Int) - 1 := by simp only [IntKind.wrap_u32]; omega
    clear hl
    go_enter Tryz.func136, Tryz.ntmps136
    go_wp2
    go_ret
    exact ⟨by rw [HN.out]; rfl, rfl⟩
theorem ntL_turn {a b : Nat} : a = ntL b ↔ b = ntL a := by unfold ntL; split <;> split <;> omega
def fv (a b : Nat) : Nat := if foldB a b then foldV a b else 0
set_option maxHeartbeats 1600000 in
theorem ref_fold {a b : Nat} (ha : a < 4294967296) (hb : b < 4294967296) (w : World) : Calls Tryz.prog 159 #[.int .u32 a, .int .u32 b] w fun e w' => e = .returned (.tuple #[.int .u32 (fv a b : Nat), .bool (foldB a b)]) ∧ w = w' := by
  have HNT := Lib.hid (ref_not b w hb)
  have hm : max a b = ntL (min a b) ↔ a = ntL b := by
    rcases Nat.le_total a b with h | h
    · rw [Nat.max_eq_right h, Nat.min_eq_left h]; exact ntL_turn
    · rw [Nat.max_eq_left h, Nat.min_eq_right h]
  have hV : foldV a b = if min a b = 0 ∨ a = ntL b then 0 else if min a b = 1 ∨ a = b then max a b else 0 := by unfold foldV; simp only [hm]
  have hB : foldB a b = decide (min a b = 0 ∨ a = ntL b ∨ min a b = 1 ∨ a = b) := by unfold foldB; simp only [hm]
  unfold fv
  rw [hV, hB]
  have hnb : ntL b < 4294967296 := by unfold ntL; split <;> omega
  clear hm hV hB
  generalize hnt : ntL b = nb at *
  have hn2 : nb = (if b % 2 = 0 then b + 1 else b - 1) := by rw [← hnt]; rfl
  clear hnt
  by_cases c1 : a = 0
  · have t_a0 : ((a : Int) == 0) = true := by simp; omega
    have HE := Lib.hid (show (if decide (min a b = 0 ∨ a = nb ∨ min a b = 1 ∨ a = b) = true then (if min a b = 0 ∨ a = nb then 0 else if min a b = 1 ∨ a = b then max a b else 0) else 0) = 0 ∧ decide (min a b = 0 ∨ a = nb ∨ min a b = 1 ∨ a = b) = true from by (refine ⟨?_, ?_⟩; (· (repeat' split) <;> simp at * <;> omega); (· simp; omega)))
    rw [HE.out.1, HE.out.2]
    clear hn2 HE
    (try clear c1)
    (try clear c2)
    (try clear c3)
    (try clear c4)
    (try clear c5)
    (try clear c6)
    go_enter Tryz.func159, Tryz.ntmps159
    go_wp2_with (go_at_call 136; refine HNT.out.mono ?_; rintro e w' ⟨rfl, rfl⟩)
    go_ret2
    exact ⟨rfl, rfl⟩
  · by_cases c2 : b = 0
    · have t_a0 : ((a : Int) == 0) = false := by simp; omega
      have t_b0 : ((b : Int) == 0) = true := by simp; omega
      have HE := Lib.hid (show (if decide (min a b = 0 ∨ a = nb ∨ min a b = 1 ∨ a = b) = true then (if min a b = 0 ∨ a = nb then 0 else if min a b = 1 ∨ a = b then max a b else 0) else 0) = 0 ∧ decide (min a b = 0 ∨ a = nb ∨ min a b = 1 ∨ a = b) = true from by (refine ⟨?_, ?_⟩; (· (repeat' split) <;> simp at * <;> omega); (· simp; omega)))
      rw [HE.out.1, HE.out.2]
      clear hn2 HE
      (try clear c1)
      (try clear c2)
      (try clear c3)
      (try clear c4)
      (try clear c5)
      (try clear c6)
      go_enter Tryz.func159, Tryz.ntmps159
      go_wp2_with (go_at_call 136; refine HNT.out.mono ?_; rintro e w' ⟨rfl, rfl⟩)
      go_ret2
      exact ⟨rfl, rfl⟩
    · by_cases c3 : a = nb
      · have t_a0 : ((a : Int) == 0) = false := by simp; omega
        have t_b0 : ((b : Int) == 0) = false := by simp; omega
        have t_anb : ((a : Int) == (nb : Int)) = true := by simp; omega
        have HE := Lib.hid (show (if decide (min a b = 0 ∨ a = nb ∨ min a b = 1 ∨ a = b) = true then (if min a b = 0 ∨ a = nb then 0 else if min a b = 1 ∨ a = b then max a b else 0) else 0) = 0 ∧ decide (min a b = 0 ∨ a = nb ∨ min a b = 1 ∨ a = b) = true from by (refine ⟨?_, ?_⟩; (· (repeat' split) <;> simp at * <;> omega); (· simp; omega)))
        rw [HE.out.1, HE.out.2]
        clear hn2 HE
        (try clear c1)
        (try clear c2)
        (try clear c3)
        (try clear c4)
        (try clear c5)
        (try clear c6)
        go_enter Tryz.func159, Tryz.ntmps159
        go_wp2_with (go_at_call 136; refine HNT.out.mono ?_; rintro e w' ⟨rfl, rfl⟩)
        go_ret2
        exact ⟨rfl, rfl⟩
      · by_cases c4 : a = 1
        · have t_a0 : ((a : Int) == 0) = false := by simp; omega
          have t_b0 : ((b : Int) == 0) = false := by simp; omega
          have t_anb : ((a : Int) == (nb : Int)) = false := by simp; omega
          have t_a1 : ((a : Int) == 1) = true := by simp; omega
          have HE := Lib.hid (show (if decide (min a b = 0 ∨ a = nb ∨ min a b = 1 ∨ a = b) = true then (if min a b = 0 ∨ a = nb then 0 else if min a b = 1 ∨ a = b then max a b else 0) else 0) = b ∧ decide (min a b = 0 ∨ a = nb ∨ min a b = 1 ∨ a = b) = true from by (refine ⟨?_, ?_⟩; (· (repeat' split) <;> simp at * <;> omega); (· simp; omega)))
          rw [HE.out.1, HE.out.2]
          clear hn2 HE
          (try clear c1)
          (try clear c2)
          (try clear c3)
          (try clear c4)
          (try clear c5)
          (try clear c6)
          go_enter Tryz.func159, Tryz.ntmps159
          go_wp2_with (go_at_call 136; refine HNT.out.mono ?_; rintro e w' ⟨rfl, rfl⟩)
          go_ret2
          exact ⟨rfl, rfl⟩
        · by_cases c5 : b = 1
          · have t_a0 : ((a : Int) == 0) = false := by simp; omega
            have t_b0 : ((b : Int) == 0) = false := by simp; omega
            have t_anb : ((a : Int) == (nb : Int)) = false := by simp; omega
            have t_a1 : ((a : Int) == 1) = false := by simp; omega
            have t_b1 : ((b : Int) == 1) = true := by simp; omega
            have HE := Lib.hid (show (if decide (min a b = 0 ∨ a = nb ∨ min a b = 1 ∨ a = b) = true then (if min a b = 0 ∨ a = nb then 0 else if min a b = 1 ∨ a = b then max a b else 0) else 0) = a ∧ decide (min a b = 0 ∨ a = nb ∨ min a b = 1 ∨ a = b) = true from by (refine ⟨?_, ?_⟩; (· (repeat' split) <;> simp at * <;> omega); (· simp; omega)))
            rw [HE.out.1, HE.out.2]
            clear hn2 HE
            (try clear c1)
            (try clear c2)
            (try clear c3)
            (try clear c4)
            (try clear c5)
            (try clear c6)
            go_enter Tryz.func159, Tryz.ntmps159
            go_wp2_with (go_at_call 136; refine HNT.out.mono ?_; rintro e w' ⟨rfl, rfl⟩)
            go_ret2
            exact ⟨rfl, rfl⟩
          · by_cases c6 : a = b
            · have t_a0 : ((a : Int) == 0) = false := by simp; omega
              have t_b0 : ((b : Int) == 0) = false := by simp; omega
              have t_anb : ((a : Int) == (nb : Int)) = false := by simp; omega
              have t_a1 : ((a : Int) == 1) = false := by simp; omega
              have t_b1 : ((b : Int) == 1) = false := by simp; omega
              have t_ab : ((a : Int) == (b : Int)) = true := by simp; omega
              have HE := Lib.hid (show (if decide (min a b = 0 ∨ a = nb ∨ min a b = 1 ∨ a = b) = true then (if min a b = 0 ∨ a = nb then 0 else if min a b = 1 ∨ a = b then max a b else 0) else 0) = a ∧ decide (min a b = 0 ∨ a = nb ∨ min a b = 1 ∨ a = b) = true from by (refine ⟨?_, ?_⟩; (· (repeat' split) <;> simp at * <;> omega); (· simp; omega)))
              rw [HE.out.1, HE.out.2]
              clear hn2 HE
              (try clear c1)
              (try clear c2)
              (try clear c3)
              (try clear c4)
              (try clear c5)
              (try clear c6)
              go_enter Tryz.func159, Tryz.ntmps159
              go_wp2_with (go_at_call 136; refine HNT.out.mono ?_; rintro e w' ⟨rfl, rfl⟩)
              go_ret2
              exact ⟨rfl, rfl⟩
            · have t_a0 : ((a : Int) == 0) = false := by simp; omega
              have t_b0 : ((b : Int) == 0) = false := by simp; omega
              have t_anb : ((a : Int) == (nb : Int)) = false := by simp; omega
              have t_a1 : ((a : Int) == 1) = false := by simp; omega
              have t_b1 : ((b : Int) == 1) = false := by simp; omega
              have t_ab : ((a : Int) == (b : Int)) = false := by simp; omega
              have HE := Lib.hid (show (if decide (min a b = 0 ∨ a = nb ∨ min a b = 1 ∨ a = b) = true then (if min a b = 0 ∨ a = nb then 0 else if min a b = 1 ∨ a = b then max a b else 0) else 0) = 0 ∧ decide (min a b = 0 ∨ a = nb ∨ min a b = 1 ∨ a = b) = false from by (refine ⟨?_, ?_⟩; (· (repeat' split) <;> simp at * <;> omega); (· simp; omega)))
              rw [HE.out.1, HE.out.2]
              clear hn2 HE
              (try clear c1)
              (try clear c2)
              (try clear c3)
              (try clear c4)
              (try clear c5)
              (try clear c6)
              go_enter Tryz.func159, Tryz.ntmps159
              go_wp2_with (go_at_call 136; refine HNT.out.mono ?_; rintro e w' ⟨rfl, rfl⟩)
              go_ret2
              exact ⟨rfl, rfl⟩

theorem Stepped.keep0 {a b c : World} {F F' : List Nat} (h : Stepped a b F F') (hk : Kept [] b c) : Stepped a c F F' := h.trans (⟨hk.more (by simp), fun _ h => .inl h⟩ : Stepped b c F' F')
/-! ### Nodes added -/
def RefPost (r : Gr × Nat) (w : World) (q : Nat) (R : List Nat) (e : Ending) (w' : World) : Prop := ∃ R', e = .returned (.tuple #[.int .u32 (r.2 : Nat), .int .i64 0]) ∧ RefAt w' q R' r.1 ∧ Stepped w w' R R'
theorem rnV_in {n : Nat} (h : 0 < n) : rnV n (2 * n, 2 * n) = [.bool true, .int .u32 0, .int .u32 0] := by
  unfold rnV
  rw [if_pos (by show 2 * n / 2 = n; omega), decide_eq_true (by omega)]
theorem rnV_gate {n a b : Nat} (h : a / 2 < n) : rnV n (a, b) = [.bool false, .int .u32 (a : Int), .int .u32 (b : Int)] := by
  unfold rnV
  rw [if_neg (by show a / 2 ≠ n; omega)]
/-- what stands when a node has been added -/
theorem ref_added {w1 : World} {an a1 : Option Addr} {c1 cn : Nat} {p : Nat × Nat} {news : List Value} (hb : w1.heap[q]? = some (.cells #[.bool g.fold, .bool g.hash, .slice an g.nodes.length cn] 103 (0, 0))) (hn : w1.ownsRow 0 124 3 (.slice a1 (g.nodes.length + 1) c1) (g.nodes.length + 1) (rcells g.nodes ++ news)) (hw : WF (g.nodes ++ [p])) (hr : rnV g.nodes.length p = news) (hst : Stepped w w1 (ft an) (ft a1)) :
    RefAt (w1.setCell ⟨q, 2, none⟩ (.slice a1 (g.nodes.length + 1) c1)) q (q :: ft a1) { g with nodes := g.nodes ++ [p] } ∧ Stepped w (w1.setCell ⟨q, 2, none⟩ (.slice a1 (g.nodes.length + 1) c1)) (q :: ft an) (q :: ft a1) := by
  subst hr
  rw [rcells_snoc] at hn
  have hq1 : q ∉ ft a1 := blk_apart hb hn (by decide)
  refine ⟨⟨a1, c1, rfl, ⟨?_, ?_, hw⟩⟩, (hst.behind [q]).setCell (p := ⟨q, 2, none⟩) (by simp) _⟩
  · have := blk_set hb 2 (.slice a1 (g.nodes.length + 1) c1)
    simpa using this
  · have := own_kept hn ((Kept.refl [q] w1).setCell (p := ⟨q, 2, none⟩) (.inl (by simp)) (.slice a1 (g.nodes.length + 1) c1)) (fun b hb h => hq1 (by simp at h; exact h ▸ hb))
    simpa using this
set_option maxHeartbeats 800000 in
set_option maxRecDepth 100000 in
theorem ref_input (hg : RefAt w q R g) (hm : g.nodes.length ≤ 100000) : Calls Tryz.prog 100 #[.pointer (some ⟨q, 0, none⟩)] w (RefPost (inputG g) w q R) := by
  have hp := hg.wf.pos
  obtain ⟨an, cn, rfl, hc⟩ := hg
  have c2 := hc.c2
  have HP := Lib.hid hc.blk
  have HN := Lib.hid hc.nodes
  have HQ := Lib.hid (blk_apart hc.blk hc.nodes (by decide))
  have HW := Lib.hid (hc.wf.snoc (.inl ⟨rfl, rfl⟩) : WF (g.nodes ++ [(2 * g.nodes.length, 2 * g.nodes.length)]))
  have HR := Lib.hid (rnV_in hp)
  have HX := Lib.hid (rcells_snoc g.nodes (2 * g.nodes.length, 2 * g.nodes.length))
  clear hc
  go_enter Tryz.func100, Tryz.ntmps100
  go_wp2_with (at_builtin; refine wpList_push2 (news := [.bool true, .int .u32 0, .int .u32 0]) rfl rfl Tryz.underlying101 rnode_info rfl (by omega) rfl rfl rfl HN.out rfl (by simp [Value.oneCell']) (by unfold maxLen; omega) (by omega) rfl ?_; intro a1 c1 w1 hown1 hst1; have hp1 := hst1.kept.heap (b := q) HP.out HQ.out; have d2 := blk_cell hp1 2; have f2 := blk_free hp1 2)
  go_ret2
  obtain ⟨h1, h2⟩ := ref_added hp1 hown1 HW.out HR.out hst1
  exact ⟨_, by simp [go_sem, inputG], h1, h2⟩
set_option maxHeartbeats 800000 in
set_option maxRecDepth 100000 in
theorem ref_gate {a b : Nat} (hg : RefAt w q R g) (hm : g.nodes.length ≤ 100000) (ha : g.ok a) (hb : g.ok b) : Calls Tryz.prog 160 #[.pointer (some ⟨q, 0, none⟩), .int .u32 a, .int .u32 b] w (RefPost (gateG g a b) w q R) := by
  have hp := hg.wf.pos
  have HGT := Lib.hid (ref_gates hg hm)
  have hile : (ins g.nodes).length ≤ g.nodes.length := insFrom_length 0 g.nodes
  have hgn : gatesN g ≤ 100000 := by unfold gatesN; omega
  obtain ⟨an, cn, rfl, hc⟩ := hg
  have c2 := hc.c2
  have HP := Lib.hid hc.blk
  have HN := Lib.hid hc.nodes
  have HQ := Lib.hid (blk_apart hc.blk hc.nodes (by decide))
  have ha' : a / 2 < g.nodes.length := ha
  have hb' : b / 2 < g.nodes.length := hb
  have HW := Lib.hid (hc.wf.snoc (a := max a b) (b := min a b) (.inr ⟨by omega, by omega⟩))
  have HR := Lib.hid (rnV_gate (n := g.nodes.length) (a := max a b) (b := min a b) (by omega))
  have HM := Lib.hid (show ∀ n, (w.drewN n).heap = w.heap from fun _ => rfl)
  clear hc ha hb hile
  generalize gatesN g = gn at *
  rcases Nat.lt_or_ge a b with hlt | hge
  · rw [Nat.max_eq_right (by omega), Nat.min_eq_left (by omega)] at HW HR
    have HGG := Lib.hid (show gateG g a b = ({ g with nodes := g.nodes ++ [(b, a)] }, 2 * g.nodes.length) by unfold gateG; rw [Nat.max_eq_right (by omega), Nat.min_eq_left (by omega)])
    go_enter Tryz.func160, Tryz.ntmps160
    go_wp2_with fail
    refine HGT.out.mono ?_
    rintro e v ⟨rfl, kd, hv⟩
    have HV := Lib.hid (show Kept [] w v from by rw [hv]; exact (Kept.refl [] w).drewN kd)
    have HPV := Lib.hid (HV.out.heap HP.out (by simp))
    have HNV := Lib.hid (own_kept HN.out HV.out (by simp))
    have cv2 : v.cell? ⟨q, 2, none⟩ = some (.slice an g.nodes.length cn) := blk_cell HPV.out 2
    clear hv c2
    go_wp2_with (at_builtin; refine wpList_push2 (news := [.bool false, .int .u32 (b : Int), .int .u32 (a : Int)]) rfl rfl Tryz.underlying101 rnode_info rfl (by omega) rfl rfl rfl HNV.out rfl (by simp [Value.oneCell']) (by unfold maxLen; omega) (by omega) rfl ?_; intro a1 c1 w1 hown1 hst1; have hp1 := hst1.kept.heap (b := q) HPV.out HQ.out; have d2 := blk_cell hp1 2; have f2 := blk_free hp1 2)
    go_ret2
    obtain ⟨h1, h2⟩ := ref_added (w := w) hp1 hown1 HW.out HR.out (((Stepped.refl w (ft an)).keep0 HV.out).trans hst1)
    rw [HGG.out]
    exact ⟨_, by simp [go_sem], h1, h2⟩
  · rw [Nat.max_eq_left (by omega), Nat.min_eq_right (by omega)] at HW HR
    have HGG := Lib.hid (show gateG g a b = ({ g with nodes := g.nodes ++ [(a, b)] }, 2 * g.nodes.length) by unfold gateG; rw [Nat.max_eq_left (by omega), Nat.min_eq_right (by omega)])
    go_enter Tryz.func160, Tryz.ntmps160
    go_wp2_with fail
    refine HGT.out.mono ?_
    rintro e v ⟨rfl, kd, hv⟩
    have HV := Lib.hid (show Kept [] w v from by rw [hv]; exact (Kept.refl [] w).drewN kd)
    have HPV := Lib.hid (HV.out.heap HP.out (by simp))
    have HNV := Lib.hid (own_kept HN.out HV.out (by simp))
    have cv2 : v.cell? ⟨q, 2, none⟩ = some (.slice an g.nodes.length cn) := blk_cell HPV.out 2
    clear hv c2
    go_wp2_with (at_builtin; refine wpList_push2 (news := [.bool false, .int .u32 (a : Int), .int .u32 (b : Int)]) rfl rfl Tryz.underlying101 rnode_info rfl (by omega) rfl rfl rfl HNV.out rfl (by simp [Value.oneCell']) (by unfold maxLen; omega) (by omega) rfl ?_; intro a1 c1 w1 hown1 hst1; have hp1 := hst1.kept.heap (b := q) HPV.out HQ.out; have d2 := blk_cell hp1 2; have f2 := blk_free hp1 2)
    go_ret2
    obtain ⟨h1, h2⟩ := ref_added (w := w) hp1 hown1 HW.out HR.out (((Stepped.refl w (ft an)).keep0 HV.out).trans hst1)
    rw [HGG.out]
    exact ⟨_, by simp [go_sem], h1, h2⟩
end Go.Proofs.YtdmcdhkkbkgnbaaGreat
