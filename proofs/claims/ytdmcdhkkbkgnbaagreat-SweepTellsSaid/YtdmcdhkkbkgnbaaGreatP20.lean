/-
  Law 04: Build: a graph of steps, and the document's.
  Package orreryref03: literals that are there; Raw. Two graphs side by side.
  Package orreryref03: And, Or, Xor, Raw of two that are there: the nodes that the program's graph has.
  Packages orreryref02 and orreryref03: what a gate comes to; gates, inputs, what two literals come to.
-/
import Derived.Test.YtdmcdhkkbkgnbaaGreatP19
import Derived.Deep.DeepCutAuto
import Derived.Outline
import Derived.Test.YtdmcdhkkbkgnbaaGreatP10
import Derived.Test.YtdmcdhkkbkgnbaaGreatP05
import Derived.Test.YtdmcdhkkbkgnbaaGreatP06
import Derived.Deep.LoopGhost
namespace Go.Proofs.YtdmcdhkkbkgnbaaGreat
open Go.ChangeShapes Go.WideShapes Go.ChangeAt Go.RowKit
open Go.Maps (Keyed)
open Go.WideMaps
set_option linter.unusedVariables false

variable {w w' : World} {q : Nat} {R S : List Nat} {g : Gr}
theorem ref_not (l : Nat) (w : World) (h : l < 4294967296) : Calls Tryz.prog 136 #[.int .u32 l] w fun e w' => e = .returned (.int .u32 (ntL l : Nat)) ∧ w = w' := by
  by_cases hl : l % 2 = 0
  · have HN := Lib.hid (show ((ntL l : Nat) : Int) = (l : Int) + 1 by unfold ntL; split <;> omega)
    have t1 : ((l : Int) % 2 == 0) = true := by simp; omega
    have b1 : (l : Int) + 1 < 4294967296 := by omega
    have u1 : IntKind.u32.wrap ((l : Int) + 1) = (l : Int) + 1 := by simp only [IntKind.wrap_u32]; omega
    clear hl
    go_enter Tryz.func136, Tryz.ntmps136
    go_wp2
    go_ret
    exact ⟨by rw [HN.out]; rfl, rfl⟩
  · have HN := Lib.hid (show ((ntL l : Nat) : Int) = (l : Int) - 1 by unfold ntL; split <;> omega)
    have t1 : ((l : Int) % 2 == 0) = false := by simp; omega
    have b1 : 1 ≤ (l : Int) := by omega
    have u1 : IntKind.u32.wrap ((l : Int) - 1) = (l : Int) - 1 := by simp only [IntKind.wrap_u32]; omega
    clear hl
    go_enter Tryz.func136, Tryz.ntmps136
    go_wp2
    go_ret
    exact ⟨by rw [HN.out]; rfl, rfl⟩
theorem ntL_turn {a b : Nat} : a = ntL b ↔ b = ntL a := by unfold ntL; split <;> split <;> omega
def fv (a b : Nat) : Nat := if foldB a b then foldV a b else 0
set_option maxHeartbeats 1600000 in
theorem ref_fold {a b : Nat} (ha : a < 4294967296) (hb : b < 4294967296) (w : World) : Calls Tryz.prog 159 #[.int .u32 a, .int .u32 b] w fun e w' => e = .returned (.tuple #[.int .u32 (fv a b : Nat), .bool (foldB a b)]) ∧ w = w' := by
  have HNT := Lib.hid (ref_not b w hb)
  have hm : max a b = ntL (min a b) ↔ a = ntL b := by
    rcases Nat.le_total a b with h | h
    · rw [Nat.max_eq_right h, Nat.min_eq_left h]; exact ntL_turn
    · rw [Nat.max_eq_left h, Nat.min_eq_right h]
  have hV : foldV a b = if min a b = 0 ∨ a = ntL b then 0 else if min a b = 1 ∨ a = b then max a b else 0 := by unfold foldV; simp only [hm]
  have hB : foldB a b = decide (min a b = 0 ∨ a = ntL b ∨ min a b = 1 ∨ a = b) := by unfold foldB; simp only [hm]
  unfold fv
  rw [hV, hB]
  have hnb : ntL b < 4294967296 := by unfold ntL; split <;> omega
  clear hm hV hB
  generalize hnt : ntL b = nb at *
  have hn2 : nb = (if b % 2 = 0 then b + 1 else b - 1) := by rw [← hnt]; rfl
  clear hnt
  by_cases c1 : a = 0
  · have t_a0 : ((a : Int) == 0) = true := by simp; omega
    have HE := Lib.hid (show (if decide (min a b = 0 ∨ a = nb ∨ min a b = 1 ∨ a = b) = true then (if min a b = 0 ∨ a = nb then 0 else if min a b = 1 ∨ a = b then max a b else 0) else 0) = 0 ∧ decide (min a b = 0 ∨ a = nb ∨ min a b = 1 ∨ a = b) = true from by (refine ⟨?_, ?_⟩; (· (repeat' split) <;> simp at * <;> omega); (· simp; omega)))
    rw [HE.out.1, HE.out.2]
    clear hn2 HE
    (try clear c1)
    (try clear c2)
    (try clear c3)
    (try clear c4)
    (try clear c5)
    (try clear c6)
    go_enter Tryz.func159, Tryz.ntmps159
    go_wp2_with (go_at_call 136; refine HNT.out.mono ?_; rintro e w' ⟨rfl, rfl⟩)
    go_ret2
    exact ⟨rfl, rfl⟩
  · by_cases c2 : b = 0
    · have t_a0 : ((a : Int) == 0) = false := by simp; omega
      have t_b0 : ((b : Int) == 0) = true := by simp; omega
      have HE := Lib.hid (show (if decide (min a b = 0 ∨ a = nb ∨ min a b = 1 ∨ a = b) = true then (if min a b = 0 ∨ a = nb then 0 else if min a b = 1 ∨ a = b then max a b else 0) else 0) = 0 ∧ decide (min a b = 0 ∨ a = nb ∨ min a b = 1 ∨ a = b) = true from by (refine ⟨?_, ?_⟩; (· (repeat' split) <;> simp at * <;> omega); (· simp; omega)))
      rw [HE.out.1, HE.out.2]
      clear hn2 HE
      (try clear c1)
      (try clear c2)
      (try clear c3)
      (try clear c4)
      (try clear c5)
      (try clear c6)
      go_enter Tryz.func159, Tryz.ntmps159
      go_wp2_with (go_at_call 136; refine HNT.out.mono ?_; rintro e w' ⟨rfl, rfl⟩)
      go_ret2
      exact ⟨rfl, rfl⟩
    · by_cases c3 : a = nb
      · have t_a0 : ((a : Int) == 0) = false := by simp; omega
        have t_b0 : ((b : Int) == 0) = false := by simp; omega
        have t_anb : ((a : Int) == (nb : Int)) = true := by simp; omega
        have HE := Lib.hid (show (if decide (min a b = 0 ∨ a = nb ∨ min a b = 1 ∨ a = b) = true then (if min a b = 0 ∨ a = nb then 0 else if min a b = 1 ∨ a = b then max a b else 0) else 0) = 0 ∧ decide (min a b = 0 ∨ a = nb ∨ min a b = 1 ∨ a = b) = true from by (refine ⟨?_, ?_⟩; (· (repeat' split) <;> simp at * <;> omega); (· simp; omega)))
        rw [HE.out.1, HE.out.2]
        clear hn2 HE
        (try clear c1)
        (try clear c2)
        (try clear c3)
        (try clear c4)
        (try clear c5)
        (try clear c6)
        go_enter Tryz.func159, Tryz.ntmps159
        go_wp2_with (go_at_call 136; refine HNT.out.mono ?_; rintro e w' ⟨rfl, rfl⟩)
        go_ret2
        exact ⟨rfl, rfl⟩
      · by_cases c4 : a = 1
        · have t_a0 : ((a : Int) == 0) = false := by simp; omega
          have t_b0 : ((b : Int) == 0) = false := by simp; omega
          have t_anb : ((a : Int) == (nb : Int)) = false := by simp; omega
          have t_a1 : ((a : Int) == 1) = true := by simp; omega
          have HE := Lib.hid (show (if decide (min a b = 0 ∨ a = nb ∨ min a b = 1 ∨ a = b) = true then (if min a b = 0 ∨ a = nb then 0 else if min a b = 1 ∨ a = b then max a b else 0) else 0) = b ∧ decide (min a b = 0 ∨ a = nb ∨ min a b = 1 ∨ a = b) = true from by (refine ⟨?_, ?_⟩; (· (repeat' split) <;> simp at * <;> omega); (· simp; omega)))
          rw [HE.out.1, HE.out.2]
          clear hn2 HE
          (try clear c1)
          (try clear c2)
          (try clear c3)
          (try clear c4)
          (try clear c5)
          (try clear c6)
          go_enter Tryz.func159, Tryz.ntmps159
          go_wp2_with (go_at_call 136; refine HNT.out.mono ?_; rintro e w' ⟨rfl, rfl⟩)
          go_ret2
          exact ⟨rfl, rfl⟩
        · by_cases c5 : b = 1
          · have t_a0 : ((a : Int) == 0) = false := by simp; omega
            have t_b0 : ((b : Int) == 0) = false := by simp; omega
            have t_anb : ((a : Int) == (nb : Int)) = false := by simp; omega
            have t_a1 : ((a : Int) == 1) = false := by simp; omega
            have t_b1 : ((b : Int) == 1) = true := by simp; omega
            have HE := Lib.hid (show (if decide (min a b = 0 ∨ a = nb ∨ min a b = 1 ∨ a = b) = true then (if min a b = 0 ∨ a = nb then 0 else if min a b = 1 ∨ a = b then max a b else 0) else 0) = a ∧ decide (min a b = 0 ∨ a = nb ∨ min a b = 1 ∨ a = b) = true from by (refine ⟨?_, ?_⟩; (· (repeat' split) <;> simp at * <;> omega); (· simp; omega)))
            rw [HE.out.1, HE.out.2]
            clear hn2 HE
            (try clear c1)
            (try clear c2)
            (try clear c3)
            (try clear c4)
            (try clear c5)
            (try clear c6)
            go_enter Tryz.func159, Tryz.ntmps159
            go_wp2_with (go_at_call 136; refine HNT.out.mono ?_; rintro e w' ⟨rfl, rfl⟩)
            go_ret2
            exact ⟨rfl, rfl⟩
          · by_cases c6 : a = b
            · have t_a0 : ((a : Int) == 0) = false := by simp; omega
              have t_b0 : ((b : Int) == 0) = false := by simp; omega
              have t_anb : ((a : Int) == (nb : Int)) = false := by simp; omega
              have t_a1 : ((a : Int) == 1) = false := by simp; omega
              have t_b1 : ((b : Int) == 1) = false := by simp; omega
              have t_ab : ((a : Int) == (b : Int)) = true := by simp; omega
              have HE := Lib.hid (show (if decide (min a b = 0 ∨ a = nb ∨ min a b = 1 ∨ a = b) = true then (if min a b = 0 ∨ a = nb then 0 else if min a b = 1 ∨ a = b then max a b else 0) else 0) = a ∧ decide (min a b = 0 ∨ a = nb ∨ min a b = 1 ∨ a = b) = true from by (refine ⟨?_, ?_⟩; (· (repeat' split) <;> simp at * <;> omega); (· simp; omega)))
              rw [HE.out.1, HE.out.2]
              clear hn2 HE
              (try clear c1)
              (try clear c2)
              (try clear c3)
              (try clear c4)
              (try clear c5)
              (try clear c6)
              go_enter Tryz.func159, Tryz.ntmps159
              go_wp2_with (go_at_call 136; refine HNT.out.mono ?_; rintro e w' ⟨rfl, rfl⟩)
              go_ret2
              exact ⟨rfl, rfl⟩
            · have t_a0 : ((a : Int) == 0) = false := by simp; omega
              have t_b0 : ((b : Int) == 0) = false := by simp; omega
              have t_anb : ((a : Int) == (nb : Int)) = false := by simp; omega
              have t_a1 : ((a : Int) == 1) = false := by simp; omega
              have t_b1 : ((b : Int) == 1) = false := by simp; omega
              have t_ab : ((a : Int) == (b : Int)) = false := by simp; omega
              have HE := Lib.hid (show (if decide (min a b = 0 ∨ a = nb ∨ min a b = 1 ∨ a = b) = true then (if min a b = 0 ∨ a = nb then 0 else if min a b = 1 ∨ a = b then max a b else 0) else 0) = 0 ∧ decide (min a b = 0 ∨ a = nb ∨ min a b = 1 ∨ a = b) = false from by (refine ⟨?_, ?_⟩; (· (repeat' split) <;> simp at * <;> omega); (· simp; omega)))
              rw [HE.out.1, HE.out.2]
              clear hn2 HE
              (try clear c1)
              (try clear c2)
              (try clear c3)
              (try clear c4)
              (try clear c5)
              (try clear c6)
              go_enter Tryz.func159, Tryz.ntmps159
              go_wp2_with (go_at_call 136; refine HNT.out.mono ?_; rintro e w' ⟨rfl, rfl⟩)
              go_ret2
              exact ⟨rfl, rfl⟩

theorem Stepped.keep0 {a b c : World} {F F' : List Nat} (h : Stepped a b F F') (hk : Kept [] b c) : Stepped a c F F' := h.trans (⟨hk.more (by simp), fun _ h => .inl h⟩ : Stepped b c F' F')
/-! ### Nodes added -/
def RefPost (r : Gr × Nat) (w : World) (q : Nat) (R : List Nat) (e : Ending) (w' : World) : Prop := ∃ R', e = .returned (.tuple #[.int .u32 (r.2 : Nat), .int .i64 0]) ∧ RefAt w' q R' r.1 ∧ Stepped w w' R R'
theorem rnV_in {n : Nat} (h : 0 < n) : rnV n (2 * n, 2 * n) = [.bool true, .int .u32 0, .int .u32 0] := by
  unfold rnV
  rw [if_pos (by show 2 * n / 2 = n; omega), decide_eq_true (by omega)]
theorem rnV_gate {n a b : Nat} (h : a / 2 < n) : rnV n (a, b) = [.bool false, .int .u32 (a : Int), .int .u32 (b : Int)] := by
  unfold rnV
  rw [if_neg (by show a / 2 ≠ n; omega)]
/-- what stands when a node has been added -/
theorem ref_added {w1 : World} {an a1 : Option Addr} {c1 cn : Nat} {p : Nat × Nat} {news : List Value} (hb : w1.heap[q]? = some (.cells #[.bool g.fold, .bool g.hash, .slice an g.nodes.length cn] 103 (0, 0))) (hn : w1.ownsRow 0 124 3 (.slice a1 (g.nodes.length + 1) c1) (g.nodes.length + 1) (rcells g.nodes ++ news)) (hw : WF (g.nodes ++ [p])) (hr : rnV g.nodes.length p = news) (hst : Stepped w w1 (ft an) (ft a1)) :
    RefAt (w1.setCell ⟨q, 2, none⟩ (.slice a1 (g.nodes.length + 1) c1)) q (q :: ft a1) { g with nodes := g.nodes ++ [p] } ∧ Stepped w (w1.setCell ⟨q, 2, none⟩ (.slice a1 (g.nodes.length + 1) c1)) (q :: ft an) (q :: ft a1) := by
  subst hr
  rw [rcells_snoc] at hn
  have hq1 : q ∉ ft a1 := blk_apart hb hn (by decide)
  refine ⟨⟨a1, c1, rfl, ⟨?_, ?_, hw⟩⟩, (hst.behind [q]).setCell (p := ⟨q, 2, none⟩) (by simp) _⟩
  · have := blk_set hb 2 (.slice a1 (g.nodes.length + 1) c1)
    simpa using this
  · have := own_kept hn ((Kept.refl [q] w1).setCell (p := ⟨q, 2, none⟩) (.inl (by simp)) (.slice a1 (g.nodes.length + 1) c1)) (fun b hb h => hq1 (by simp at h; exact h ▸ hb))
    simpa using this
set_option maxHeartbeats 800000 in
set_option maxRecDepth 100000 in
theorem ref_input (hg : RefAt w q R g) (hm : g.nodes.length ≤ 100000) : Calls Tryz.prog 100 #[.pointer (some ⟨q, 0, none⟩)] w (RefPost (inputG g) w q R) := by
  have hp := hg.wf.pos
  obtain ⟨an, cn, rfl, hc⟩ := hg
  have c2 := hc.c2
  have HP := Lib.hid hc.blk
  have HN := Lib.hid hc.nodes
  have HQ := Lib.hid (blk_apart hc.blk hc.nodes (by decide))
  have HW := Lib.hid (hc.wf.snoc (.inl ⟨rfl, rfl⟩) : WF (g.nodes ++ [(2 * g.nodes.length, 2 * g.nodes.length)]))
  have HR := Lib.hid (rnV_in hp)
  have HX := Lib.hid (rcells_snoc g.nodes (2 * g.nodes.length, 2 * g.nodes.length))
  clear hc
  go_enter Tryz.func100, Tryz.ntmps100
  go_wp2_with (at_builtin; refine wpList_push2 (news := [.bool true, .int .u32 0, .int .u32 0]) rfl rfl Tryz.underlying101 rnode_info rfl (by omega) rfl rfl rfl HN.out rfl (by simp [Value.oneCell']) (by unfold maxLen; omega) (by omega) rfl ?_; intro a1 c1 w1 hown1 hst1; have hp1 := hst1.kept.heap (b := q) HP.out HQ.out; have d2 := blk_cell hp1 2; have f2 := blk_free hp1 2)
  go_ret2
  obtain ⟨h1, h2⟩ := ref_added hp1 hown1 HW.out HR.out hst1
  exact ⟨_, by simp [go_sem, inputG], h1, h2⟩
set_option maxHeartbeats 800000 in
set_option maxRecDepth 100000 in
theorem ref_gate {a b : Nat} (hg : RefAt w q R g) (hm : g.nodes.length ≤ 100000) (ha : g.ok a) (hb : g.ok b) : Calls Tryz.prog 160 #[.pointer (some ⟨q, 0, none⟩), .int .u32 a, .int .u32 b] w (RefPost (gateG g a b) w q R) := by
  have hp := hg.wf.pos
  have HGT := Lib.hid (ref_gates hg hm)
  have hile : (ins g.nodes).length ≤ g.nodes.length := insFrom_length 0 g.nodes
  have hgn : gatesN g ≤ 100000 := by unfold gatesN; omega
  obtain ⟨an, cn, rfl, hc⟩ := hg
  have c2 := hc.c2
  have HP := Lib.hid hc.blk
  have HN := Lib.hid hc.nodes
  have HQ := Lib.hid (blk_apart hc.blk hc.nodes (by decide))
  have ha' : a / 2 < g.nodes.length := ha
  have hb' : b / 2 < g.nodes.length := hb
  have HW := Lib.hid (hc.wf.snoc (a := max a b) (b := min a b) (.inr ⟨by omega, by omega⟩))
  have HR := Lib.hid (rnV_gate (n := g.nodes.length) (a := max a b) (b := min a b) (by omega))
  have HM := Lib.hid (show ∀ n, (w.drewN n).heap = w.heap from fun _ => rfl)
  clear hc ha hb hile
  generalize gatesN g = gn at *
  rcases Nat.lt_or_ge a b with hlt | hge
  · rw [Nat.max_eq_right (by omega), Nat.min_eq_left (by omega)] at HW HR
    have HGG := Lib.hid (show gateG g a b = ({ g with nodes := g.nodes ++ [(b, a)] }, 2 * g.nodes.length) by unfold gateG; rw [Nat.max_eq_right (by omega), Nat.min_eq_left (by omega)])
    go_enter Tryz.func160, Tryz.ntmps160
    go_wp2_with fail
    refine HGT.out.mono ?_
    rintro e v ⟨rfl, kd, hv⟩
    have HV := Lib.hid (show Kept [] w v from by rw [hv]; exact (Kept.refl [] w).drewN kd)
    have HPV := Lib.hid (HV.out.heap HP.out (by simp))
    have HNV := Lib.hid (own_kept HN.out HV.out (by simp))
    have cv2 : v.cell? ⟨q, 2, none⟩ = some (.slice an g.nodes.length cn) := blk_cell HPV.out 2
    clear hv c2
    go_wp2_with (at_builtin; refine wpList_push2 (news := [.bool false, .int .u32 (b : Int), .int .u32 (a : Int)]) rfl rfl Tryz.underlying101 rnode_info rfl (by omega) rfl rfl rfl HNV.out rfl (by simp [Value.oneCell']) (by unfold maxLen; omega) (by omega) rfl ?_; intro a1 c1 w1 hown1 hst1; have hp1 := hst1.kept.heap (b := q) HPV.out HQ.out; have d2 := blk_cell hp1 2; have f2 := blk_free hp1 2)
    go_ret2
    obtain ⟨h1, h2⟩ := ref_added (w := w) hp1 hown1 HW.out HR.out (((Stepped.refl w (ft an)).keep0 HV.out).trans hst1)
    rw [HGG.out]
    exact ⟨_, by simp [go_sem], h1, h2⟩
  · rw [Nat.max_eq_left (by omega), Nat.min_eq_right (by omega)] at HW HR
    have HGG := Lib.hid (show gateG g a b = ({ g with nodes := g.nodes ++ [(a, b)] }, 2 * g.nodes.length) by unfold gateG; rw [Nat.max_eq_left (by omega), Nat.min_eq_right (by omega)])
    go_enter Tryz.func160, Tryz.ntmps160
    go_wp2_with fail
    refine HGT.out.mono ?_
    rintro e v ⟨rfl, kd, hv⟩
    have HV := Lib.hid (show Kept [] w v from by rw [hv]; exact (Kept.refl [] w).drewN kd)
    have HPV := Lib.hid (HV.out.heap HP.out (by simp))
    have HNV := Lib.hid (own_kept HN.out HV.out (by simp))
    have cv2 : v.cell? ⟨q, 2, none⟩ = some (.slice an g.nodes.length cn) := blk_cell HPV.out 2
    clear hv c2
    go_wp2_with (at_builtin; refine wpList_push2 (news := [.bool false, .int .u32 (a : Int), .int .u32 (b : Int)]) rfl rfl Tryz.underlying101 rnode_info rfl (by omega) rfl rfl rfl HNV.out rfl (by simp [Value.oneCell']) (by unfold maxLen; omega) (by omega) rfl ?_; intro a1 c1 w1 hown1 hst1; have hp1 := hst1.kept.heap (b := q) HPV.out HQ.out; have d2 := blk_cell hp1 2; have f2 := blk_free hp1 2)
    go_ret2
    obtain ⟨h1, h2⟩ := ref_added (w := w) hp1 hown1 HW.out HR.out (((Stepped.refl w (ft an)).keep0 HV.out).trans hst1)
    rw [HGG.out]
    exact ⟨_, by simp [go_sem], h1, h2⟩
end Go.Proofs.YtdmcdhkkbkgnbaaGreat

namespace Go.Proofs.YtdmcdhkkbkgnbaaGreat
open Go.ChangeShapes Go.WideShapes Go.ChangeAt Go.RowKit
open Go.Maps (Keyed)
open Go.WideMaps
set_option linter.unusedVariables false

variable {w w' : World} {q : Nat} {R S : List Nat} {g : Gr}
theorem gateG_sorted (a b : Nat) : gateG g (max a b) (min a b) = gateG g a b := by
  unfold gateG
  rw [show max (max a b) (min a b) = max a b by omega, show min (max a b) (min a b) = min a b by omega]
set_option maxHeartbeats 1600000 in
set_option maxRecDepth 100000 in
theorem ref_and {a b : Nat} (hg : RefAt w q R g) (hm : g.nodes.length ≤ 90000) (ha : g.ok a) (hb : g.ok b) : Calls Tryz.prog 149 #[.pointer (some ⟨q, 0, none⟩), .int .u32 a, .int .u32 b] w (RefPost (andG g a b) w q R) := by
  have a32 : a < 4294967296 := by unfold Gr.ok at ha; omega
  have b32 : b < 4294967296 := by unfold Gr.ok at hb; omega
  have HF := Lib.hid (ref_fold a32 b32 w)
  have HG := Lib.hid hg
  have hp := hg.wf.pos
  have c0 : w.cell? ⟨q, 0, none⟩ = some (.bool g.fold) := by obtain ⟨an, cn, rfl, hc⟩ := hg; exact hc.c0
  by_cases hf : foldB a b = true ∧ g.fold = true
  · have HA := Lib.hid (show andG g a b = (g, foldV a b) by unfold andG; rw [hf.1, hf.2]; rfl)
    have HV := Lib.hid (show fv a b = foldV a b by unfold fv; rw [if_pos hf.1])
    rw [hf.2] at c0
    rw [hf.1] at HF
    clear hg hf ha hb a32 b32
    go_enter Tryz.func149, Tryz.ntmps149
    go_wp2_with fail
    refine HF.out.mono ?_
    rintro e w' ⟨rfl, rfl⟩
    rw [HV.out]
    go_wp2_with fail
    go_ret2
    rw [HA.out]
    exact ⟨R, rfl, HG.out, .refl _ _⟩
  · obtain ⟨fb, hfb⟩ : ∃ fb, fb = foldB a b := ⟨_, rfl⟩
    obtain ⟨fo, hfo⟩ : ∃ fo, fo = g.fold := ⟨_, rfl⟩
    have hff : (fb && fo) = false := by rw [hfb, hfo]; cases h1 : foldB a b <;> cases h2 : g.fold <;> simp_all
    have HA := Lib.hid (show andG g a b = if (look g.nodes (max a b) (min a b)).isSome && g.hash then (g, (look g.nodes (max a b) (min a b)).getD 0) else gateG g a b by unfold andG; rw [← hfb, ← hfo, hff]; rfl)
    rw [← hfo] at c0
    rw [← hfb] at HF
    have HFF := Lib.hid hff
    clear hff hfb hfo hf
    have HOK := Lib.hid (show g.ok (max a b) ∧ g.ok (min a b) by unfold Gr.ok at *; constructor <;> omega)
    have HX := Lib.hid (show ∃ x y, x = max a b ∧ y = min a b ∧ x < 4294967296 ∧ y < 4294967296 from ⟨_, _, rfl, rfl, by omega, by omega⟩)
    clear hg ha hb
    go_enter Tryz.func149, Tryz.ntmps149
    go_upto_region 2 with (go_at_call 159; refine HF.out.mono ?_; rintro e w' ⟨rfl, rfl⟩)
    go_cut [23] (fun s wx => s = .bool false ∧ wx = w)
    case first =>
      have hff := HFF.out
      cases fb <;> cases fo <;> first | (exfalso; revert hff; decide) | skip
      all_goals
        clear hff HFF
        go_wp2_with fail
        go_meet
        exact ⟨rfl, rfl⟩
    case rest =>
      obtain ⟨rfl, rfl⟩ := hcut
      clear c0 HF HFF
      obtain ⟨w0, rfl⟩ : ∃ w0 : World, w0 = wc := ⟨_, rfl⟩
      go_upto_if 27 with (fail)
      go_cut [1, 2] (fun s1 s2 wx => s1 = .int .u32 ((max a b : Nat) : Int) ∧ s2 = .int .u32 ((min a b : Nat) : Int) ∧ wx = w0)
      case first =>
        by_cases hlt : a < b
        · have e1 := Lib.hid (show max a b = b ∧ min a b = a by omega)
          go_wp2_with fail
          go_meet
          rw [e1.out.1, e1.out.2]
          exact ⟨rfl, rfl, rfl⟩
        · have e1 := Lib.hid (show max a b = a ∧ min a b = b by omega)
          go_wp2_with fail
          go_meet
          rw [e1.out.1, e1.out.2]
          exact ⟨rfl, rfl, rfl⟩
      case rest =>
        obtain ⟨rfl, rfl, rfl⟩ := hcut
        obtain ⟨w1, rfl⟩ : ∃ w1 : World, w1 = wc := ⟨_, rfl⟩
        have HGT := Lib.hid (ref_gate HG.out (by omega) HOK.out.1 HOK.out.2)
        rw [gateG_sorted] at HGT
        obtain ⟨x, y, hx, hy, x32, y32⟩ := HX.out
        rw [← hx, ← hy] at HA HGT ⊢
        clear hx hy HOK HX a32 b32
        have hg := HG.out
        obtain ⟨an, cn, hR, hc⟩ := hg
        have c1 := hc.c1
        have c2 := hc.c2
        obtain ⟨gb, rfl, hcell⟩ := own3_form hc.nodes (by omega)
        have HC := Lib.hid hcell
        have HZ := Lib.hid (show look (g.nodes.take 1) x y = none by
          obtain ⟨p, r, hr⟩ : ∃ p r, g.nodes = p :: r := by cases h : g.nodes with | nil => rw [h] at hp; simp at hp | cons p r => exact ⟨p, r, rfl⟩
          have hz := hc.wf.zero
          rw [hr] at hz ⊢
          simp at hz
          subst hz
          simp only [List.take_succ_cons, List.take_zero, look, lookFrom]
          rw [if_neg (fun h => by have h1 := h.1; injection h1 with h1 h2; exact h.2 (by omega))])
        clear hc hcell hR
        obtain ⟨hh, hhh⟩ : ∃ hh, hh = g.hash := ⟨_, rfl⟩
        rw [← hhh] at c1 HA
        clear hhh
        cases hh
        · have HA2 := Lib.hid (show andG g a b = gateG g a b by rw [HA.out]; simp)
          clear HA HC HZ
          go_wp2_with fail
          go_loop [10] (fun i => ∃ k : Nat, i = .int .i64 k ∧ 1 ≤ k) (fun i => 0)
          case atStart => exact ⟨1, rfl, by omega⟩
          case round =>
            obtain ⟨k, rfl, hk⟩ := hrel
            go_wp2_with fail
            refine HGT.out.mono ?_
            rintro e w' ⟨R', rfl, h1, h2⟩
            go_wp2_with fail
            go_ret2
            rw [HA2.out]
            exact ⟨R', rfl, h1, h2⟩
        · go_wp2_with fail
          go_loop [10] (fun i => ∃ k : Nat, i = .int .i64 k ∧ 1 ≤ k ∧ k ≤ g.nodes.length ∧ Hid (look (g.nodes.take k) x y = none)) (fun i => g.nodes.length - (intOf i).toNat)
          case atStart => exact ⟨1, rfl, by omega, by omega, HZ⟩
          case round =>
            obtain ⟨k, rfl, hk1, hk, HL⟩ := hrel
            by_cases hlt : k < g.nodes.length
            · obtain ⟨p, hpk⟩ : ∃ p, g.nodes[k]? = some p := ⟨_, List.getElem?_eq_getElem hlt⟩
              obtain ⟨hcb, hcx⟩ := rnode_cells HC.out hpk
              obtain ⟨px, py⟩ := p
              dsimp only at hcb hcx
              by_cases hin : px / 2 = k
              · have HM := Lib.hid (look_miss HL.out hpk (by
                  by_cases h : (px, py) = (x, y)
                  · injection h with h1 h2; subst h1; exact .inr hin
                  · exact .inl h))
                have hb : (decide (px / 2 = k) && decide (k ≠ 0)) = true := by simp [hin]; omega
                rw [hb] at hcb
                clear hb hin hcx hpk
                go_wp2_with fail
                go_round
                case rel => exact ⟨k + 1, by go_num, by omega, by omega, Lib.hid HM.out⟩
                case measure => simp [intOf]; omega
              · obtain ⟨hca, hcb2⟩ := hcx hin
                have hb : (decide (px / 2 = k) && decide (k ≠ 0)) = false := by simp [hin]
                rw [hb] at hcb
                clear hb hcx
                by_cases hx : px = x
                · by_cases hy : py = y
                  · subst hx hy
                    have HHIT := Lib.hid (look_hit HL.out hpk hin)
                    have HA2 := Lib.hid (show andG g a b = (g, 2 * k) by rw [HA.out, HHIT.out]; rfl)
                    have u1 : IntKind.u32.wrap (2 * (k : Int)) = 2 * (k : Int) := by simp only [IntKind.wrap_u32]; omega
                    clear hin hpk HA HGT
                    go_wp2_with fail
                    go_ret2
                    rw [HA2.out]
                    exact ⟨R, by simp, HG.out, .refl _ _⟩
                  · have HM := Lib.hid (look_miss HL.out hpk (.inl (fun h => hy (by injection h))))
                    subst hx
                    have t2 : ((py : Int) == (y : Int)) = false := by simp; omega
                    clear hy hin hpk
                    go_wp2_with fail
                    go_round
                    case rel => exact ⟨k + 1, by go_num, by omega, by omega, Lib.hid HM.out⟩
                    case measure => simp [intOf]; omega
                · have HM := Lib.hid (look_miss HL.out hpk (.inl (fun h => hx (by injection h))))
                  have t1 : ((px : Int) == (x : Int)) = false := by simp; omega
                  clear hx hin hpk
                  go_wp2_with fail
                  go_round
                  case rel => exact ⟨k + 1, by go_num, by omega, by omega, Lib.hid HM.out⟩
                  case measure => simp [intOf]; omega
            · have HE := Lib.hid (show g.nodes.take k = g.nodes from List.take_of_length_le (by omega))
              have HA2 := Lib.hid (show andG g a b = gateG g a b by have h := HL.out; rw [HE.out] at h; rw [HA.out, h]; rfl)
              clear HL
              go_wp2_with fail
              refine HGT.out.mono ?_
              rintro e w' ⟨R', rfl, h1, h2⟩
              go_wp2_with fail
              go_ret2
              rw [HA2.out]
              exact ⟨R', rfl, h1, h2⟩
theorem ref_two1 {a b : Nat} (hg : RefAt w q R g) (hm : g.nodes.length ≤ 90000) (ha : g.ok a) (hb : g.ok b) : Calls Tryz.prog 132 #[.pointer (some ⟨q, 0, none⟩), .int .i64 1, .int .u32 a, .int .u32 b] w (RefPost (andG g a b) w q R) := by
  have H := Lib.hid (ref_and hg hm ha hb)
  clear hg ha hb
  generalize andG g a b = r at *
  go_enter Tryz.func132, Tryz.ntmps132
  go_wp2_with fail
  refine H.out.mono ?_
  rintro e w' ⟨R', rfl, h1, h2⟩
  go_wp2_with fail
  go_ret2
  exact ⟨R', rfl, h1, h2⟩
theorem ok32 {g : Gr} {a : Nat} (h : g.ok a) (hm : g.nodes.length ≤ 1000000) : a < 4294967296 := by unfold Gr.ok at h; omega
set_option maxHeartbeats 800000 in
theorem ref_two2 {a b : Nat} (hg : RefAt w q R g) (hm : g.nodes.length ≤ 80000) (ha : g.ok a) (hb : g.ok b) : Calls Tryz.prog 132 #[.pointer (some ⟨q, 0, none⟩), .int .i64 2, .int .u32 a, .int .u32 b] w (RefPost (orG g a b) w q R) := by
  have H := Lib.hid (ref_and hg (by omega) (ok_nt ha) (ok_nt hb))
  have N1 := Lib.hid (ref_not a w (ok32 ha (by omega)))
  have N2 := Lib.hid (ref_not b w (ok32 hb (by omega)))
  have hs := andG_spec hg.wf (ok_nt ha) (ok_nt hb)
  have hz := hs.2.1.le
  have h32 := ok32 hs.2.2 (by omega)
  have HO := Lib.hid (show orG g a b = ((andG g (ntL a) (ntL b)).1, ntL (andG g (ntL a) (ntL b)).2) from rfl)
  clear hg ha hb hs hz
  generalize andG g (ntL a) (ntL b) = r at *
  have N3 := Lib.hid (fun w => ref_not r.2 w h32)
  clear h32
  go_enter Tryz.func132, Tryz.ntmps132
  go_wp2_with fail
  refine N1.out.mono ?_
  rintro e w' ⟨rfl, rfl⟩
  go_wp2_with fail
  refine N2.out.mono ?_
  rintro e w' ⟨rfl, rfl⟩
  go_wp2_with fail
  refine H.out.mono ?_
  rintro e w1 ⟨R', rfl, h1, h2⟩
  go_wp2_with fail
  refine (N3.out _).mono ?_
  rintro e w' ⟨rfl, rfl⟩
  go_wp2_with fail
  go_ret2
  rw [HO.out]
  exact ⟨R', rfl, h1, h2⟩
set_option maxHeartbeats 800000 in
theorem ref_both {a b c d : Nat} (hg : RefAt w q R g) (hm : g.nodes.length ≤ 70000) (ha : g.ok a) (hb : g.ok b) (hc : g.ok c) (hd : g.ok d) : Calls Tryz.prog 150 #[.pointer (some ⟨q, 0, none⟩), .int .u32 a, .int .u32 b, .int .u32 c, .int .u32 d] w (RefPost (bothG g a b c d) w q R) := by
  have H1 := Lib.hid (ref_and hg (by omega) ha hb)
  have s1 := andG_spec hg.wf ha hb
  have z1 := s1.2.1.le
  have HB := Lib.hid (show bothG g a b c d = orG (andG (andG g a b).1 c d).1 (andG g a b).2 (andG (andG g a b).1 c d).2 from rfl)
  have c1 := s1.2.1.ok hc
  have d1 := s1.2.1.ok hd
  clear hg ha hb hc hd
  obtain ⟨⟨g1, x1⟩, e1⟩ : ∃ r, r = andG g a b := ⟨_, rfl⟩
  rw [← e1] at s1 z1 H1 HB c1 d1
  clear e1
  have s2 := andG_spec s1.1 c1 d1
  have z2 := s2.2.1.le
  have H2 := Lib.hid (fun (W : World) (R' : List Nat) (h : RefAt W q R' g1) => ref_and h (by dsimp only at z1; omega) c1 d1)
  have x2 := s2.2.1.ok s1.2.2
  obtain ⟨⟨g2, y2⟩, e2⟩ : ∃ r, r = andG g1 c d := ⟨_, rfl⟩
  dsimp only at *
  rw [← e2] at s2 z2 HB x2
  have H2' := Lib.hid (fun (W : World) (R' : List Nat) (h : RefAt W q R' g1) => (by rw [e2]; exact H2.out W R' h : Calls Tryz.prog 149 #[.pointer (some ⟨q, 0, none⟩), .int .u32 c, .int .u32 d] W (RefPost (g2, y2) W q R')))
  clear e2 H2
  dsimp only at *
  have H3 := Lib.hid (fun (W : World) (R' : List Nat) (h : RefAt W q R' g2) => ref_two2 h (by omega) x2 s2.2.2)
  clear s1 s2 z1 z2 c1 d1 x2
  rw [HB.out]
  clear HB
  generalize orG g2 x1 y2 = r at *
  go_enter Tryz.func150, Tryz.ntmps150
  go_wp2_with fail
  refine H1.out.mono ?_
  rintro e w1 ⟨R1, rfl, h1, k1⟩
  have G1 := Lib.hid h1
  have K1 := Lib.hid k1
  clear h1 k1
  go_wp2_with fail
  refine (H2'.out _ _ G1.out).mono ?_
  rintro e w2 ⟨R2, rfl, h2, k2⟩
  have G2 := Lib.hid h2
  have K2 := Lib.hid (K1.out.trans k2)
  clear h2 k2 G1 K1
  go_wp2_with fail
  refine (H3.out _ _ G2.out).mono ?_
  rintro e w3 ⟨R3, rfl, h3, k3⟩
  have K3 := Lib.hid (K2.out.trans k3)
  have G3 := Lib.hid h3
  clear h3 k3 G2 K2
  go_wp2_with fail
  go_ret2
  exact ⟨R3, rfl, G3.out, K3.out⟩
set_option maxHeartbeats 800000 in
theorem ref_two3 {a b : Nat} (hg : RefAt w q R g) (hm : g.nodes.length ≤ 70000) (ha : g.ok a) (hb : g.ok b) : Calls Tryz.prog 132 #[.pointer (some ⟨q, 0, none⟩), .int .i64 3, .int .u32 a, .int .u32 b] w (RefPost (xorG g a b) w q R) := by
  have H := Lib.hid (ref_both hg hm ha (ok_nt hb) (ok_nt ha) hb)
  have N1 := Lib.hid (ref_not a w (ok32 ha (by omega)))
  have N2 := Lib.hid (ref_not b w (ok32 hb (by omega)))
  have HO := Lib.hid (show xorG g a b = bothG g a (ntL b) (ntL a) b from rfl)
  rw [HO.out]
  clear hg ha hb HO
  generalize bothG g a (ntL b) (ntL a) b = r at *
  go_enter Tryz.func132, Tryz.ntmps132
  go_wp2_with fail
  refine N2.out.mono ?_
  rintro e w' ⟨rfl, rfl⟩
  go_wp2_with fail
  refine N1.out.mono ?_
  rintro e w' ⟨rfl, rfl⟩
  go_wp2_with fail
  refine H.out.mono ?_
  rintro e w1 ⟨R', rfl, h1, h2⟩
  go_wp2_with fail
  go_ret2
  exact ⟨R', rfl, h1, h2⟩
end Go.Proofs.YtdmcdhkkbkgnbaaGreat

namespace Go.Proofs.YtdmcdhkkbkgnbaaGreat
open Go.ChangeShapes Go.WideShapes Go.ChangeAt Go.RowKit
open Go.Maps (Keyed)
open Go.WideMaps
set_option linter.unusedVariables false

variable {w w' : World} {q p : Nat} {R F S : List Nat} {g : Gr}
set_option maxHeartbeats 800000 in
theorem ref_there (hg : RefAt w q R g) (hm : g.nodes.length ≤ 90000) (a : Option Addr) (c n : Nat) (l : List Nat) (hl : l.length = n) (hn : n ≤ 1000000) (hs : SlN w .u32 a l) (hok : ∀ x ∈ l, g.ok x) :
    Calls Tryz.prog 59 #[.pointer (some ⟨q, 0, none⟩), .slice a n c] w fun e w' => e = .returned (.bool true) ∧ ∃ k, w' = w.drewN k := by
  obtain ⟨an, cn, rfl, hc⟩ := hg
  have c2 := hc.c2
  have HL := Lib.hid hl
  have HS := Lib.hid hs
  have HOK := Lib.hid hok
  clear hc hl hs hok
  go_enter Tryz.func59, Tryz.ntmps59
  go_wp2_with fail
  go_loopw [5] (fun i wr => ∃ k m : Nat, k ≤ n ∧ i = .int .i64 k ∧ wr = w.drewN m) (fun i _ => n - (intOf i).toNat)
  case atStart => exact ⟨0, 0, Nat.zero_le _, rfl, rfl⟩
  case round =>
    obtain ⟨k, m, hk, rfl, rfl⟩ := hrel
    by_cases hlt : k < n
    · have hkl : k < l.length := by rw [HL.out]; exact hlt
      obtain ⟨ad, rfl, hcx⟩ := HS.out k hkl
      have hx := HOK.out _ (List.getElem_mem hkl)
      unfold Gr.ok at hx
      generalize l[k] = x at *
      have b1 : (x : Int) / 2 < (g.nodes.length : Int) := by omega
      have t1 : decide ((g.nodes.length : Int) ≤ (x : Int) / 2) = false := by simp; omega
      have t2 : decide (g.nodes.length ≤ x / 2) = false := by simp; omega
      go_wp2_with fail
      go_quiet (fail)
      go_wp2_with fail
      go_roundw
      case rel => exact ⟨k + 1, _, by omega, by go_num, rfl⟩
      case measure => simp [intOf]; omega
    · go_wp2_with fail
      go_ret
      exact ⟨rfl, m, rfl⟩

/-! ### The program's graph and the document's, side by side -/
theorem ref_apart {w1 w2 : World} {G G' : List Nat} (hg : RefAt w1 q R g) (hd : ∀ x ∈ R, x ∉ G) (hst : Stepped w1 w2 G G') : RefAt w2 q R g ∧ ∀ x ∈ R, x ∉ G' :=
  ⟨hg.kept hst.kept hd, fun x hx hf => by
    rcases hst.fresh x hf with h | h
    · exact hd x hx h
    · have := hg.lt x hx; omega⟩
theorem graph_apart {w1 w2 : World} {G G' : List Nat} (hg : GraphAt w1 p F g) (hd : ∀ x ∈ F, x ∉ G) (hst : Stepped w1 w2 G G') : GraphAt w2 p F g ∧ ∀ x ∈ F, x ∉ G' :=
  ⟨hg.kept hst.kept hd, fun x hx hf => by
    rcases hst.fresh x hf with h | h
    · exact hd x hx h
    · have := hg.lt x hx; omega⟩
structure Both (w0 w : World) (p : Nat) (F : List Nat) (q : Nat) (R : List Nat) (g : Gr) : Prop where
  graph : GraphAt w p F g
  ref : RefAt w q R g
  apart : ∀ x ∈ F, x ∉ R
  kept : Kept [] w0 w
  newF : ∀ x ∈ F, w0.heap.size ≤ x
  newR : ∀ x ∈ R, w0.heap.size ≤ x
theorem Both.kept0 {w0 w w' : World} {F R : List Nat} (h : Both w0 w p F q R g) (hk : Kept [] w w') : Both w0 w' p F q R g := ⟨h.graph.kept0 hk, h.ref.kept0 hk, h.apart, h.kept.trans hk, h.newF, h.newR⟩
/-- one step of each -/
theorem Both.step {w0 w w1 w2 : World} {F F' R R' : List Nat} {g' : Gr} (h : Both w0 w p F q R g) (h1 : GraphAt w1 p F' g') (s1 : Stepped w w1 F F') (h2 : RefAt w2 q R' g') (s2 : Stepped w1 w2 R R') : Both w0 w2 p F' q R' g' := by
  have a1 := ref_apart h.ref (fun x hx hf => h.apart x hf hx) s1
  have a2 := graph_apart h1 (fun x hx hf => a1.2 x hf hx) s2
  refine ⟨a2.1, h2, a2.2, ?_, ?_, ?_⟩
  · exact kept_up (kept_up h.kept s1.kept h.newF) s2.kept h.newR
  · intro x hx
    rcases s1.fresh x hx with h3 | h3
    · exact h.newF x h3
    · exact Nat.le_trans h.kept.size h3
  · intro x hx
    rcases s2.fresh x hx with h3 | h3
    · exact h.newR x h3
    · exact Nat.le_trans (Nat.le_trans h.kept.size s1.kept.size) h3
end Go.Proofs.YtdmcdhkkbkgnbaaGreat

namespace Go.Proofs.YtdmcdhkkbkgnbaaGreat
open Go.ChangeShapes Go.WideShapes Go.ChangeAt Go.RowKit
open Go.Maps (Keyed)
open Go.WideMaps
set_option linter.unusedVariables false
set_option linter.unusedSimpArgs false

variable {w w' : World} {q p : Nat} {R F S : List Nat} {g : Gr}
abbrev Stp := Int × Nat × Nat
/-- the slice at a holds the steps l -/
def SlSteps (w : World) (a : Option Addr) (l : List Stp) : Prop := ∀ k (h : k < l.length), ∃ b o, a = some ⟨b, o, none⟩ ∧ w.cell? ⟨b, o + k * 3, none⟩ = some (.int .i64 l[k].1) ∧ w.cell? ⟨b, o + k * 3 + 1, none⟩ = some (.int .u32 (l[k].2.1 : Int)) ∧ w.cell? ⟨b, o + k * 3 + 2, none⟩ = some (.int .u32 (l[k].2.2 : Int))
theorem SlSteps.kept0 {a : Option Addr} {l : List Stp} (h : SlSteps w a l) (hk : Kept [] w w') : SlSteps w' a l := fun k hl => by
  obtain ⟨b, o, h0, h1, h2, h3⟩ := h k hl
  exact ⟨b, o, h0, hk.cell h1 (by simp), hk.cell h2 (by simp), hk.cell h3 (by simp)⟩
def Stp.ok (s : Stp) : Prop := -9223372036854775808 ≤ s.1 ∧ s.1 ≤ 9223372036854775807 ∧ s.2.1 < 4294967296 ∧ s.2.2 < 4294967296
def stepG (g : Gr) (s : Stp) : Gr :=
  if s.1 = 0 then (inputG g).1
  else if s.1 = 3 then (orG g (s.2.1 % (2 * g.nodes.length)) (s.2.2 % (2 * g.nodes.length))).1
  else if s.1 = 4 then (xorG g (s.2.1 % (2 * g.nodes.length)) (s.2.2 % (2 * g.nodes.length))).1
  else if s.1 = 5 then (gateG g (s.2.1 % (2 * g.nodes.length)) (s.2.2 % (2 * g.nodes.length))).1
  else (andG g (s.2.1 % (2 * g.nodes.length)) (s.2.2 % (2 * g.nodes.length))).1
def buildTo (o1 o2 : Bool) (l : List Stp) (k : Nat) : Gr := (l.take k).foldl stepG { fold := o1, hash := o2, nodes := [(0, 0)] }
theorem buildTo_succ (o1 o2 : Bool) (l : List Stp) (k : Nat) (h : k < l.length) : buildTo o1 o2 l (k + 1) = stepG (buildTo o1 o2 l k) l[k] := by
  unfold buildTo
  rw [List.take_succ_eq_append_getElem h, List.foldl_append]
  rfl
theorem mod_ok {g : Gr} (hw : WF g.nodes) (x : Nat) : g.ok (x % (2 * g.nodes.length)) := by
  have := hw.pos
  have h := Nat.mod_lt x (show 0 < 2 * g.nodes.length by omega)
  unfold Gr.ok
  omega
theorem two_far' (hg : GraphAt w p F g) : ∀ b ∈ ft (some (⟨w.heap.size, 0, none⟩ : Addr)), b ∉ F := by intro b hb hF; simp [ft] at hb; subst hb; exact absurd (hg.lt _ hF) (Nat.lt_irrefl _)
theorem Twos.back {W : World} {r : Gr × Nat} {e : Ending} (hk : Kept [] w W) (h : Twos r W p F e w') : Twos r w p F e w' := by
  obtain ⟨F', h1, h2, h3⟩ := h
  exact ⟨F', h1, h2, (⟨hk.more (by simp), fun _ h => .inl h⟩ : Stepped w W F F).trans h3⟩
section
variable {x y : Nat}
theorem b_xor (hg : GraphAt w p F g) (hm : g.nodes.length ≤ 90000) (hx : g.ok x) (hy : g.ok y) : Calls Tryz.prog 97 #[.pointer (some ⟨p, 0, none⟩), .slice (some ⟨w.heap.size, 0, none⟩) 2 2] (w.alloc (.cells #[.int .u32 (x : Int), .int .u32 (y : Int)] 61)) (Twos (xorG g x y) w p F) :=
  (aig_Xor_ (hg.kept0 ((Kept.refl [] w).alloc _)) _ 2 2 [x, y] rfl (by omega) (sln_new w .u32 [x, y] 61) (by simp [hx, hy]) (two_far' hg)).mono fun _ _ h => Twos.back ((Kept.refl [] w).alloc _) h
theorem b_and (hg : GraphAt w p F g) (hm : g.nodes.length ≤ 90000) (hx : g.ok x) (hy : g.ok y) : Calls Tryz.prog 96 #[.pointer (some ⟨p, 0, none⟩), .slice (some ⟨w.heap.size, 0, none⟩) 2 2] (w.alloc (.cells #[.int .u32 (x : Int), .int .u32 (y : Int)] 61)) (Twos (andG g x y) w p F) :=
  (aig_And_ (hg.kept0 ((Kept.refl [] w).alloc _)) _ 2 2 [x, y] rfl (by omega) (sln_new w .u32 [x, y] 61) (by simp [hx, hy]) (two_far' hg)).mono fun _ _ h => Twos.back ((Kept.refl [] w).alloc _) h
end
/-- a step's graph: well formed, at most seven nodes more -/
theorem stepG_good (hw : WF g.nodes) (s : Stp) : WF (stepG g s).nodes ∧ (stepG g s).nodes.length ≤ g.nodes.length + 9 := by
  have hx := mod_ok hw s.2.1
  have hy := mod_ok hw s.2.2
  unfold stepG
  split
  · exact ⟨(inputG_spec hw).1, by simp [inputG]⟩
  split
  · have h := two_or g _ _ hw hx hy
    exact ⟨h.1, by have := h.2.1.le; omega⟩
  split
  · have h := two_xor g _ _ hw hx hy
    exact ⟨h.1, by have := h.2.1.le; omega⟩
  split
  · refine ⟨hw.snoc (.inr ⟨by omega, ?_⟩), by simp [gateG]⟩
    unfold Gr.ok at hx hy
    omega
  · have h := two_and g _ _ hw hx hy
    exact ⟨h.1, by have := h.2.1.le; omega⟩
theorem buildTo_good (o1 o2 : Bool) (l : List Stp) (k : Nat) : WF (buildTo o1 o2 l k).nodes ∧ (buildTo o1 o2 l k).nodes.length ≤ 1 + 9 * k := by
  induction k with
  | zero =>
    refine ⟨⟨rfl, fun i a b h => ?_⟩, by simp [buildTo]⟩
    cases i with
    | zero => simp [buildTo] at h; omega
    | succ i => simp [buildTo] at h
  | succ k ih =>
    by_cases h : k < l.length
    · rw [buildTo_succ o1 o2 l k h]
      have := stepG_good ih.1 l[k]
      exact ⟨this.1, by omega⟩
    · have e : buildTo o1 o2 l (k + 1) = buildTo o1 o2 l k := by unfold buildTo; rw [List.take_of_length_le (by omega), List.take_of_length_le (by omega)]
      rw [e]; exact ⟨ih.1, by omega⟩
def BuildPost (o1 o2 : Bool) (l : List Stp) (w : World) (e : Ending) (w' : World) : Prop := ∃ p F q R, e = .returned (.tuple #[.pointer (some ⟨p, 0, none⟩), .pointer (some ⟨q, 0, none⟩)]) ∧ Both w w' p F q R (buildTo o1 o2 l 60)
end Go.Proofs.YtdmcdhkkbkgnbaaGreat
