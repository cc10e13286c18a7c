/-
  Package orreryref03: And, Or, Xor, Raw of two that are there: the nodes that the program's graph has.
  Packages orreryref02 and orreryref03: what a gate comes to; gates, inputs, what two literals come to.
-/
import Derived.Test.YtnjoklcddodfeaaGreatDoorP08
import Derived.Deep.DeepCutAuto
import Derived.Outline
namespace Go.Proofs.YtnjoklcddodfeaaGreatDoor
open Go.ChangeShapes Go.WideShapes Go.ChangeAt Go.RowKit
open Go.Maps (Keyed)
open Go.WideMaps
set_option linter.unusedVariables false

variable {w w' : World} {q : Nat} {R S : List Nat} {g : Gr}
theorem ref_not (l : Nat) (w : World) (h : l < 4294967296) : Calls Tryz.prog 131 #[.int .u32 l] w fun e w' => e = .returned (.int .u32 (ntL l : Nat)) ∧ w = w' := by
  by_cases hl : l % 2 = 0
  · have HN := Lib.hid (show ((ntL l : Nat) : Int) = (l : Int) + 1 by unfold ntL; split <;> omega)
    have t1 : ((l : Int) % 2 == 0) = true := by simp; omega
    have b1 : (l : Int) + 1 < 4294967296 := by omega
    have u1 : IntKind.u32.wrap ((l : Int) + 1) = (l : Int) + 1 := by simp only [IntKind.wrap_u32]; omega
    clear hl
    go_enter Tryz.func131, Tryz.ntmps131
    go_wp2
    go_ret
    exact ⟨by rw [HN.out]; rfl, rfl⟩
  · have HN := Lib.hid (show ((ntL l : Nat) : Int) = (l : Int) - 1 by unfold ntL; split <;> omega)
    have t1 : ((l : Int) % 2 == 0) = false := by simp; omega
    have b1 : 1 ≤ (l : Int) := by omega
    have u1 : IntKind.u32.wrap ((l : Int) - 1) = (l : Int) - 1 := by simp only [IntKind.wrap_u32]; omega
    clear hl
    go_enter Tryz.func131, Tryz.ntmps131
    go_wp2
    go_ret
    exact ⟨by rw [HN.out]; rfl, rfl⟩
theorem ntL_turn {a b : Nat} : a = ntL b ↔ b = ntL a := by unfold ntL; split <;> split <;> omega
def fv (a b : Nat) : Nat := if foldB a b then foldV a b else 0
set_option maxHeartbeats 1600000 in
theorem ref_fold {a b : Nat} (ha : a < 4294967296) (hb : b < 4294967296) (w : World) : Calls Tryz.prog 145 #[.int .u32 a, .int .u32 b] w fun e w' => e = .returned (.tuple #[.int .u32 (fv a b : Nat), .bool (foldB a b)]) ∧ w = w' := by
  have HNT := Lib.hid (ref_not b w hb)
  have hm : max a b = ntL (min a b) ↔ a = ntL b := by
    rcases Nat.le_total a b with h | h
    · rw [Nat.max_eq_right h, Nat.min_eq_left h]; exact ntL_turn
    · rw [Nat.max_eq_left h, Nat.min_eq_right h]
  have hV : foldV a b = if min a b = 0 ∨ a = ntL b then 0 else if min a b = 1 ∨ a = b then max a b else 0 := by unfold foldV; simp only [hm]
  have hB : foldB a b = decide (min a b = 0 ∨ a = ntL b ∨ min a b = 1 ∨ a = b) := by unfold foldB; simp only [hm]
  unfold fv
  rw [hV, hB]
  have hnb : ntL b < 4294967296 := by unfold ntL; split <;> omega
  clear hm hV hB
  generalize hnt : ntL b = nb at *
  have hn2 : nb = (if b % 2 = 0 then b + 1 else b - 1) := by rw [← hnt]; rfl
  clear hnt
  by_cases c1 : a = 0
  · have t_a0 : ((a : Int) == 0) = true := by simp; omega
    have HE := Lib.hid (show (if decide (min a b = 0 ∨ a = nb ∨ min a b = 1 ∨ a = b) = true then (if min a b = 0 ∨ a = nb then 0 else if min a b = 1 ∨ a = b then max a b else 0) else 0) = 0 ∧ decide (min a b = 0 ∨ a = nb ∨ min a b = 1 ∨ a = b) = true from by (refine ⟨?_, ?_⟩; (· (repeat' split) <;> simp at * <;> omega); (· simp; omega)))
    rw [HE.out.1, HE.out.2]
    clear hn2 HE
    (try clear c1)
    (try clear c2)
    (try clear c3)
    (try clear c4)
    (try clear c5)
    (try clear c6)
    go_enter Tryz.func145, Tryz.ntmps145
    go_wp2_with (go_at_call 131; refine HNT.out.mono ?_; rintro e w' ⟨rfl, rfl⟩)
    go_ret2
    exact ⟨rfl, rfl⟩
  · by_cases c2 : b = 0
    · have t_a0 : ((a : Int) == 0) = false := by simp; omega
      have t_b0 : ((b : Int) == 0) = true := by simp; omega
      have HE := Lib.hid (show (if decide (min a b = 0 ∨ a = nb ∨ min a b = 1 ∨ a = b) = true then (if min a b = 0 ∨ a = nb then 0 else if min a b = 1 ∨ a = b then max a b else 0) else 0) = 0 ∧ decide (min a b = 0 ∨ a = nb ∨ min a b = 1 ∨ a = b) = true from by (refine ⟨?_, ?_⟩; (· (repeat' split) <;> simp at * <;> omega); (· simp; omega)))
      rw [HE.out.1, HE.out.2]
      clear hn2 HE
      (try clear c1)
      (try clear c2)
      (try clear c3)
      (try clear c4)
      (try clear c5)
      (try clear c6)
      go_enter Tryz.func145, Tryz.ntmps145
      go_wp2_with (go_at_call 131; refine HNT.out.mono ?_; rintro e w' ⟨rfl, rfl⟩)
      go_ret2
      exact ⟨rfl, rfl⟩
    · by_cases c3 : a = nb
      · have t_a0 : ((a : Int) == 0) = false := by simp; omega
        have t_b0 : ((b : Int) == 0) = false := by simp; omega
        have t_anb : ((a : Int) == (nb : Int)) = true := by simp; omega
        have HE := Lib.hid (show (if decide (min a b = 0 ∨ a = nb ∨ min a b = 1 ∨ a = b) = true then (if min a b = 0 ∨ a = nb then 0 else if min a b = 1 ∨ a = b then max a b else 0) else 0) = 0 ∧ decide (min a b = 0 ∨ a = nb ∨ min a b = 1 ∨ a = b) = true from by (refine ⟨?_, ?_⟩; (· (repeat' split) <;> simp at * <;> omega); (· simp; omega)))
        rw [HE.out.1, HE.out.2]
        clear hn2 HE
        (try clear c1)
        (try clear c2)
        (try clear c3)
        (try clear c4)
        (try clear c5)
        (try clear c6)
        go_enter Tryz.func145, Tryz.ntmps145
        go_wp2_with (go_at_call 131; refine HNT.out.mono ?_; rintro e w' ⟨rfl, rfl⟩)
        go_ret2
        exact ⟨rfl, rfl⟩
      · by_cases c4 : a = 1
        · have t_a0 : ((a : Int) == 0) = false := by simp; omega
          have t_b0 : ((b : Int) == 0) = false := by simp; omega
          have t_anb : ((a : Int) == (nb : Int)) = false := by simp; omega
          have t_a1 : ((a : Int) == 1) = true := by simp; omega
          have HE := Lib.hid (show (if decide (min a b = 0 ∨ a = nb ∨ min a b = 1 ∨ a = b) = true then (if min a b = 0 ∨ a = nb then 0 else if min a b = 1 ∨ a = b then max a b else 0) else 0) = b ∧ decide (min a b = 0 ∨ a = nb ∨ min a b = 1 ∨ a = b) = true from by (refine ⟨?_, ?_⟩; (· (repeat' split) <;> simp at * <;> omega); (· simp; omega)))
          rw [HE.out.1, HE.out.2]
          clear hn2 HE
          (try clear c1)
          (try clear c2)
          (try clear c3)
          (try clear c4)
          (try clear c5)
          (try clear c6)
          go_enter Tryz.func145, Tryz.ntmps145
          go_wp2_with (go_at_call 131; refine HNT.out.mono ?_; rintro e w' ⟨rfl, rfl⟩)
          go_ret2
          exact ⟨rfl, rfl⟩
        · by_cases c5 : b = 1
          · have t_a0 : ((a : Int) == 0) = false := by simp; omega
            have t_b0 : ((b : Int) == 0) = false := by simp; omega
            have t_anb : ((a : Int) == (nb : Int)) = false := by simp; omega
            have t_a1 : ((a : Int) == 1) = false := by simp; omega
            have t_b1 : ((b : Int) == 1) = true := by simp; omega
            have HE := Lib.hid (show (if decide (min a b = 0 ∨ a = nb ∨ min a b = 1 ∨ a = b) = true then (if min a b = 0 ∨ a = nb then 0 else if min a b = 1 ∨ a = b then max a b else 0) else 0) = a ∧ decide (min a b = 0 ∨ a = nb ∨ min a b = 1 ∨ a = b) = true from by (refine ⟨?_, ?_⟩; (· (repeat' split) <;> simp at * <;> omega); (· simp; omega)))
            rw [HE.out.1, HE.out.2]
            clear hn2 HE
            (try clear c1)
            (try clear c2)
            (try clear c3)
            (try clear c4)
            (try clear c5)
            (try clear c6)
            go_enter Tryz.func145, Tryz.ntmps145
            go_wp2_with (go_at_call 131; refine HNT.out.mono ?_; rintro e w' ⟨rfl, rfl⟩)
            go_ret2
            exact ⟨rfl, rfl⟩
          · by_cases c6 : a = b
            · have t_a0 : ((a : Int) == 0) = false := by simp; omega
              have t_b0 : ((b : Int) == 0) = false := by simp; omega
              have t_anb : ((a : Int) == (nb : Int)) = false := by simp; omega
              have t_a1 : ((a : Int) == 1) = false := by simp; omega
              have t_b1 : ((b : Int) == 1) = false := by simp; omega
              have t_ab : ((a : Int) == (b : Int)) = true := by simp; omega
              have HE := Lib.hid (show (if decide (min a b = 0 ∨ a = nb ∨ min a b = 1 ∨ a = b) = true then (if min a b = 0 ∨ a = nb then 0 else if min a b = 1 ∨ a = b then max a b else 0) else 0) = a ∧ decide (min a b = 0 ∨ a = nb ∨ min a b = 1 ∨ a = b) = true from by (refine ⟨?_, ?_⟩; (· (repeat' split) <;> simp at * <;> omega); (· simp; omega)))
              rw [HE.out.1, HE.out.2]
              clear hn2 HE
              (try clear c1)
              (try clear c2)
              (try clear c3)
              (try clear c4)
              (try clear c5)
              (try clear c6)
              go_enter Tryz.func145, Tryz.ntmps145
              go_wp2_with (go_at_call 131; refine HNT.out.mono ?_; rintro e w' ⟨rfl, rfl⟩)
              go_ret2
              exact ⟨rfl, rfl⟩
            · have t_a0 : ((a : Int) == 0) = false := by simp; omega
              have t_b0 : ((b : Int) == 0) = false := by simp; omega
              have t_anb : ((a : Int) == (nb : Int)) = false := by simp; omega
              have t_a1 : ((a : Int) == 1) = false := by simp; omega
              have t_b1 : ((b : Int) == 1) = false := by simp; omega
              have t_ab : ((a : Int) == (b : Int)) = false := by simp; omega
              have HE := Lib.hid (show (if decide (min a b = 0 ∨ a = nb ∨ min a b = 1 ∨ a = b) = true then (if min a b = 0 ∨ a = nb then 0 else if min a b = 1 ∨ a = b then max a b else 0) else 0) = 0 ∧ decide (min a b = 0 ∨ a = nb ∨ min a b = 1 ∨ a = b) = false from by (refine ⟨?_, ?_⟩; (· (repeat' split) <;> simp at * <;> omega); (· simp; omega)))
              rw [HE.out.1, HE.out.2]
              clear hn2 HE
              (try clear c1)
              (try clear c2)
              (try clear c3)
              (try clear c4)
              (try clear c5)
              (try clear c6)
              go_enter Tryz.func145, Tryz.ntmps145
              go_wp2_with (go_at_call 131; refine HNT.out.mono ?_; rintro e w' ⟨rfl, rfl⟩)
              go_ret2
              exact ⟨rfl, rfl⟩

theorem Stepped.keep0 {a b c : World} {F F' : List Nat} (h : Stepped a b F F') (hk : Kept [] b c) : Stepped a c F F' := h.trans (⟨hk.more (by simp), fun _ h => .inl h⟩ : Stepped b c F' F')
/-! ### Nodes added -/
def RefPost (r : Gr × Nat) (w : World) (q : Nat) (R : List Nat) (e : Ending) (w' : World) : Prop := ∃ R', e = .returned (.tuple #[.int .u32 (r.2 : Nat), .int .i64 0]) ∧ RefAt w' q R' r.1 ∧ Stepped w w' R R'
theorem rnV_in {n : Nat} (h : 0 < n) : rnV n (2 * n, 2 * n) = [.bool true, .int .u32 0, .int .u32 0] := by
  unfold rnV
  rw [if_pos (by show 2 * n / 2 = n; omega), decide_eq_true (by omega)]
theorem rnV_gate {n a b : Nat} (h : a / 2 < n) : rnV n (a, b) = [.bool false, .int .u32 (a : Int), .int .u32 (b : Int)] := by
  unfold rnV
  rw [if_neg (by show a / 2 ≠ n; omega)]
/-- what stands when a node has been added -/
theorem ref_added {w1 : World} {an a1 : Option Addr} {c1 cn : Nat} {p : Nat × Nat} {news : List Value} (hb : w1.heap[q]? = some (.cells #[.bool g.fold, .bool g.hash, .slice an g.nodes.length cn] 116 (0, 0))) (hn : w1.ownsRow 0 118 3 (.slice a1 (g.nodes.length + 1) c1) (g.nodes.length + 1) (rcells g.nodes ++ news)) (hw : WF (g.nodes ++ [p])) (hr : rnV g.nodes.length p = news) (hst : Stepped w w1 (ft an) (ft a1)) :
    RefAt (w1.setCell ⟨q, 2, none⟩ (.slice a1 (g.nodes.length + 1) c1)) q (q :: ft a1) { g with nodes := g.nodes ++ [p] } ∧ Stepped w (w1.setCell ⟨q, 2, none⟩ (.slice a1 (g.nodes.length + 1) c1)) (q :: ft an) (q :: ft a1) := by
  subst hr
  rw [rcells_snoc] at hn
  have hq1 : q ∉ ft a1 := blk_apart hb hn (by decide)
  refine ⟨⟨a1, c1, rfl, ⟨?_, ?_, hw⟩⟩, (hst.behind [q]).setCell (p := ⟨q, 2, none⟩) (by simp) _⟩
  · have := blk_set hb 2 (.slice a1 (g.nodes.length + 1) c1)
    simpa using this
  · have := own_kept hn ((Kept.refl [q] w1).setCell (p := ⟨q, 2, none⟩) (.inl (by simp)) (.slice a1 (g.nodes.length + 1) c1)) (fun b hb h => hq1 (by simp at h; exact h ▸ hb))
    simpa using this
set_option maxHeartbeats 800000 in
set_option maxRecDepth 100000 in
theorem ref_input (hg : RefAt w q R g) (hm : g.nodes.length ≤ 100000) : Calls Tryz.prog 73 #[.pointer (some ⟨q, 0, none⟩)] w (RefPost (inputG g) w q R) := by
  have hp := hg.wf.pos
  obtain ⟨an, cn, rfl, hc⟩ := hg
  have c2 := hc.c2
  have HP := Lib.hid hc.blk
  have HN := Lib.hid hc.nodes
  have HQ := Lib.hid (blk_apart hc.blk hc.nodes (by decide))
  have HW := Lib.hid (hc.wf.snoc (.inl ⟨rfl, rfl⟩) : WF (g.nodes ++ [(2 * g.nodes.length, 2 * g.nodes.length)]))
  have HR := Lib.hid (rnV_in hp)
  have HX := Lib.hid (rcells_snoc g.nodes (2 * g.nodes.length, 2 * g.nodes.length))
  clear hc
  go_enter Tryz.func73, Tryz.ntmps73
  go_wp2_with (at_builtin; refine wpList_push2 (news := [.bool true, .int .u32 0, .int .u32 0]) rfl rfl Tryz.underlying114 rnode_info rfl (by omega) rfl rfl rfl HN.out rfl (by simp [Value.oneCell']) (by unfold maxLen; omega) (by omega) rfl ?_; intro a1 c1 w1 hown1 hst1; have hp1 := hst1.kept.heap (b := q) HP.out HQ.out; have d2 := blk_cell hp1 2; have f2 := blk_free hp1 2)
  go_ret2
  obtain ⟨h1, h2⟩ := ref_added hp1 hown1 HW.out HR.out hst1
  exact ⟨_, by simp [go_sem, inputG], h1, h2⟩
set_option maxHeartbeats 800000 in
set_option maxRecDepth 100000 in
theorem ref_gate {a b : Nat} (hg : RefAt w q R g) (hm : g.nodes.length ≤ 100000) (ha : g.ok a) (hb : g.ok b) : Calls Tryz.prog 146 #[.pointer (some ⟨q, 0, none⟩), .int .u32 a, .int .u32 b] w (RefPost (gateG g a b) w q R) := by
  have hp := hg.wf.pos
  have HGT := Lib.hid (ref_gates hg hm)
  have hile : (ins g.nodes).length ≤ g.nodes.length := insFrom_length 0 g.nodes
  have hgn : gatesN g ≤ 100000 := by unfold gatesN; omega
  obtain ⟨an, cn, rfl, hc⟩ := hg
  have c2 := hc.c2
  have HP := Lib.hid hc.blk
  have HN := Lib.hid hc.nodes
  have HQ := Lib.hid (blk_apart hc.blk hc.nodes (by decide))
  have ha' : a / 2 < g.nodes.length := ha
  have hb' : b / 2 < g.nodes.length := hb
  have HW := Lib.hid (hc.wf.snoc (a := max a b) (b := min a b) (.inr ⟨by omega, by omega⟩))
  have HR := Lib.hid (rnV_gate (n := g.nodes.length) (a := max a b) (b := min a b) (by omega))
  have HM := Lib.hid (show ∀ n, (w.drewN n).heap = w.heap from fun _ => rfl)
  clear hc ha hb hile
  generalize gatesN g = gn at *
  rcases Nat.lt_or_ge a b with hlt | hge
  · rw [Nat.max_eq_right (by omega), Nat.min_eq_left (by omega)] at HW HR
    have HGG := Lib.hid (show gateG g a b = ({ g with nodes := g.nodes ++ [(b, a)] }, 2 * g.nodes.length) by unfold gateG; rw [Nat.max_eq_right (by omega), Nat.min_eq_left (by omega)])
    go_enter Tryz.func146, Tryz.ntmps146
    go_wp2_with fail
    refine HGT.out.mono ?_
    rintro e v ⟨rfl, kd, hv⟩
    have HV := Lib.hid (show Kept [] w v from by rw [hv]; exact (Kept.refl [] w).drewN kd)
    have HPV := Lib.hid (HV.out.heap HP.out (by simp))
    have HNV := Lib.hid (own_kept HN.out HV.out (by simp))
    have cv2 : v.cell? ⟨q, 2, none⟩ = some (.slice an g.nodes.length cn) := blk_cell HPV.out 2
    clear hv c2
    go_wp2_with (at_builtin; refine wpList_push2 (news := [.bool false, .int .u32 (b : Int), .int .u32 (a : Int)]) rfl rfl Tryz.underlying114 rnode_info rfl (by omega) rfl rfl rfl HNV.out rfl (by simp [Value.oneCell']) (by unfold maxLen; omega) (by omega) rfl ?_; intro a1 c1 w1 hown1 hst1; have hp1 := hst1.kept.heap (b := q) HPV.out HQ.out; have d2 := blk_cell hp1 2; have f2 := blk_free hp1 2)
    go_ret2
    obtain ⟨h1, h2⟩ := ref_added (w := w) hp1 hown1 HW.out HR.out (((Stepped.refl w (ft an)).keep0 HV.out).trans hst1)
    rw [HGG.out]
    exact ⟨_, by simp [go_sem], h1, h2⟩
  · rw [Nat.max_eq_left (by omega), Nat.min_eq_right (by omega)] at HW HR
    have HGG := Lib.hid (show gateG g a b = ({ g with nodes := g.nodes ++ [(a, b)] }, 2 * g.nodes.length) by unfold gateG; rw [Nat.max_eq_left (by omega), Nat.min_eq_right (by omega)])
    go_enter Tryz.func146, Tryz.ntmps146
    go_wp2_with fail
    refine HGT.out.mono ?_
    rintro e v ⟨rfl, kd, hv⟩
    have HV := Lib.hid (show Kept [] w v from by rw [hv]; exact (Kept.refl [] w).drewN kd)
    have HPV := Lib.hid (HV.out.heap HP.out (by simp))
    have HNV := Lib.hid (own_kept HN.out HV.out (by simp))
    have cv2 : v.cell? ⟨q, 2, none⟩ = some (.slice an g.nodes.length cn) := blk_cell HPV.out 2
    clear hv c2
    go_wp2_with (at_builtin; refine wpList_push2 (news := [.bool false, .int .u32 (a : Int), .int .u32 (b : Int)]) rfl rfl Tryz.underlying114 rnode_info rfl (by omega) rfl rfl rfl HNV.out rfl (by simp [Value.oneCell']) (by unfold maxLen; omega) (by omega) rfl ?_; intro a1 c1 w1 hown1 hst1; have hp1 := hst1.kept.heap (b := q) HPV.out HQ.out; have d2 := blk_cell hp1 2; have f2 := blk_free hp1 2)
    go_ret2
    obtain ⟨h1, h2⟩ := ref_added (w := w) hp1 hown1 HW.out HR.out (((Stepped.refl w (ft an)).keep0 HV.out).trans hst1)
    rw [HGG.out]
    exact ⟨_, by simp [go_sem], h1, h2⟩
end Go.Proofs.YtnjoklcddodfeaaGreatDoor

namespace Go.Proofs.YtnjoklcddodfeaaGreatDoor
open Go.ChangeShapes Go.WideShapes Go.ChangeAt Go.RowKit
open Go.Maps (Keyed)
open Go.WideMaps
set_option linter.unusedVariables false

variable {w w' : World} {q : Nat} {R S : List Nat} {g : Gr}
theorem gateG_sorted (a b : Nat) : gateG g (max a b) (min a b) = gateG g a b := by
  unfold gateG
  rw [show max (max a b) (min a b) = max a b by omega, show min (max a b) (min a b) = min a b by omega]
set_option maxHeartbeats 1600000 in
set_option maxRecDepth 100000 in
theorem ref_and {a b : Nat} (hg : RefAt w q R g) (hm : g.nodes.length ≤ 90000) (ha : g.ok a) (hb : g.ok b) : Calls Tryz.prog 130 #[.pointer (some ⟨q, 0, none⟩), .int .u32 a, .int .u32 b] w (RefPost (andG g a b) w q R) := by
  have a32 : a < 4294967296 := by unfold Gr.ok at ha; omega
  have b32 : b < 4294967296 := by unfold Gr.ok at hb; omega
  have HF := Lib.hid (ref_fold a32 b32 w)
  have HG := Lib.hid hg
  have hp := hg.wf.pos
  have c0 : w.cell? ⟨q, 0, none⟩ = some (.bool g.fold) := by obtain ⟨an, cn, rfl, hc⟩ := hg; exact hc.c0
  by_cases hf : foldB a b = true ∧ g.fold = true
  · have HA := Lib.hid (show andG g a b = (g, foldV a b) by unfold andG; rw [hf.1, hf.2]; rfl)
    have HV := Lib.hid (show fv a b = foldV a b by unfold fv; rw [if_pos hf.1])
    rw [hf.2] at c0
    rw [hf.1] at HF
    clear hg hf ha hb a32 b32
    go_enter Tryz.func130, Tryz.ntmps130
    go_wp2_with fail
    refine HF.out.mono ?_
    rintro e w' ⟨rfl, rfl⟩
    rw [HV.out]
    go_wp2_with fail
    go_ret2
    rw [HA.out]
    exact ⟨R, rfl, HG.out, .refl _ _⟩
  · obtain ⟨fb, hfb⟩ : ∃ fb, fb = foldB a b := ⟨_, rfl⟩
    obtain ⟨fo, hfo⟩ : ∃ fo, fo = g.fold := ⟨_, rfl⟩
    have hff : (fb && fo) = false := by rw [hfb, hfo]; cases h1 : foldB a b <;> cases h2 : g.fold <;> simp_all
    have HA := Lib.hid (show andG g a b = if (look g.nodes (max a b) (min a b)).isSome && g.hash then (g, (look g.nodes (max a b) (min a b)).getD 0) else gateG g a b by unfold andG; rw [← hfb, ← hfo, hff]; rfl)
    rw [← hfo] at c0
    rw [← hfb] at HF
    have HFF := Lib.hid hff
    clear hff hfb hfo hf
    have HOK := Lib.hid (show g.ok (max a b) ∧ g.ok (min a b) by unfold Gr.ok at *; constructor <;> omega)
    have HX := Lib.hid (show ∃ x y, x = max a b ∧ y = min a b ∧ x < 4294967296 ∧ y < 4294967296 from ⟨_, _, rfl, rfl, by omega, by omega⟩)
    clear hg ha hb
    go_enter Tryz.func130, Tryz.ntmps130
    go_upto_region 2 with (go_at_call 145; refine HF.out.mono ?_; rintro e w' ⟨rfl, rfl⟩)
    go_cut [23] (fun s wx => s = .bool false ∧ wx = w)
    case first =>
      have hff := HFF.out
      cases fb <;> cases fo <;> first | (exfalso; revert hff; decide) | skip
      all_goals
        clear hff HFF
        go_wp2_with fail
        go_meet
        exact ⟨rfl, rfl⟩
    case rest =>
      obtain ⟨rfl, rfl⟩ := hcut
      clear c0 HF HFF
      obtain ⟨w0, rfl⟩ : ∃ w0 : World, w0 = wc := ⟨_, rfl⟩
      go_upto_if 27 with (fail)
      go_cut [1, 2] (fun s1 s2 wx => s1 = .int .u32 ((max a b : Nat) : Int) ∧ s2 = .int .u32 ((min a b : Nat) : Int) ∧ wx = w0)
      case first =>
        by_cases hlt : a < b
        · have e1 := Lib.hid (show max a b = b ∧ min a b = a by omega)
          go_wp2_with fail
          go_meet
          rw [e1.out.1, e1.out.2]
          exact ⟨rfl, rfl, rfl⟩
        · have e1 := Lib.hid (show max a b = a ∧ min a b = b by omega)
          go_wp2_with fail
          go_meet
          rw [e1.out.1, e1.out.2]
          exact ⟨rfl, rfl, rfl⟩
      case rest =>
        obtain ⟨rfl, rfl, rfl⟩ := hcut
        obtain ⟨w1, rfl⟩ : ∃ w1 : World, w1 = wc := ⟨_, rfl⟩
        have HGT := Lib.hid (ref_gate HG.out (by omega) HOK.out.1 HOK.out.2)
        rw [gateG_sorted] at HGT
        obtain ⟨x, y, hx, hy, x32, y32⟩ := HX.out
        rw [← hx, ← hy] at HA HGT ⊢
        clear hx hy HOK HX a32 b32
        have hg := HG.out
        obtain ⟨an, cn, hR, hc⟩ := hg
        have c1 := hc.c1
        have c2 := hc.c2
        obtain ⟨gb, rfl, hcell⟩ := own3_form hc.nodes (by omega)
        have HC := Lib.hid hcell
        have HZ := Lib.hid (show look (g.nodes.take 1) x y = none by
          obtain ⟨p, r, hr⟩ : ∃ p r, g.nodes = p :: r := by cases h : g.nodes with | nil => rw [h] at hp; simp at hp | cons p r => exact ⟨p, r, rfl⟩
          have hz := hc.wf.zero
          rw [hr] at hz ⊢
          simp at hz
          subst hz
          simp only [List.take_succ_cons, List.take_zero, look, lookFrom]
          rw [if_neg (fun h => by have h1 := h.1; injection h1 with h1 h2; exact h.2 (by omega))])
        clear hc hcell hR
        obtain ⟨hh, hhh⟩ : ∃ hh, hh = g.hash := ⟨_, rfl⟩
        rw [← hhh] at c1 HA
        clear hhh
        cases hh
        · have HA2 := Lib.hid (show andG g a b = gateG g a b by rw [HA.out]; simp)
          clear HA HC HZ
          go_wp2_with fail
          go_loop [10] (fun i => ∃ k : Nat, i = .int .i64 k ∧ 1 ≤ k) (fun i => 0)
          case atStart => exact ⟨1, rfl, by omega⟩
          case round =>
            obtain ⟨k, rfl, hk⟩ := hrel
            go_wp2_with fail
            refine HGT.out.mono ?_
            rintro e w' ⟨R', rfl, h1, h2⟩
            go_wp2_with fail
            go_ret2
            rw [HA2.out]
            exact ⟨R', rfl, h1, h2⟩
        · go_wp2_with fail
          go_loop [10] (fun i => ∃ k : Nat, i = .int .i64 k ∧ 1 ≤ k ∧ k ≤ g.nodes.length ∧ Hid (look (g.nodes.take k) x y = none)) (fun i => g.nodes.length - (intOf i).toNat)
          case atStart => exact ⟨1, rfl, by omega, by omega, HZ⟩
          case round =>
            obtain ⟨k, rfl, hk1, hk, HL⟩ := hrel
            by_cases hlt : k < g.nodes.length
            · obtain ⟨p, hpk⟩ : ∃ p, g.nodes[k]? = some p := ⟨_, List.getElem?_eq_getElem hlt⟩
              obtain ⟨hcb, hcx⟩ := rnode_cells HC.out hpk
              obtain ⟨px, py⟩ := p
              dsimp only at hcb hcx
              by_cases hin : px / 2 = k
              · have HM := Lib.hid (look_miss HL.out hpk (by
                  by_cases h : (px, py) = (x, y)
                  · injection h with h1 h2; subst h1; exact .inr hin
                  · exact .inl h))
                have hb : (decide (px / 2 = k) && decide (k ≠ 0)) = true := by simp [hin]; omega
                rw [hb] at hcb
                clear hb hin hcx hpk
                go_wp2_with fail
                go_round
                case rel => exact ⟨k + 1, by go_num, by omega, by omega, Lib.hid HM.out⟩
                case measure => simp [intOf]; omega
              · obtain ⟨hca, hcb2⟩ := hcx hin
                have hb : (decide (px / 2 = k) && decide (k ≠ 0)) = false := by simp [hin]
                rw [hb] at hcb
                clear hb hcx
                by_cases hx : px = x
                · by_cases hy : py = y
                  · subst hx hy
                    have HHIT := Lib.hid (look_hit HL.out hpk hin)
                    have HA2 := Lib.hid (show andG g a b = (g, 2 * k) by rw [HA.out, HHIT.out]; rfl)
                    have u1 : IntKind.u32.wrap (2 * (k : Int)) = 2 * (k : Int) := by simp only [IntKind.wrap_u32]; omega
                    clear hin hpk HA HGT
                    go_wp2_with fail
                    go_ret2
                    rw [HA2.out]
                    exact ⟨R, by simp, HG.out, .refl _ _⟩
                  · have HM := Lib.hid (look_miss HL.out hpk (.inl (fun h => hy (by injection h))))
                    subst hx
                    have t2 : ((py : Int) == (y : Int)) = false := by simp; omega
                    clear hy hin hpk
                    go_wp2_with fail
                    go_round
                    case rel => exact ⟨k + 1, by go_num, by omega, by omega, Lib.hid HM.out⟩
                    case measure => simp [intOf]; omega
                · have HM := Lib.hid (look_miss HL.out hpk (.inl (fun h => hx (by injection h))))
                  have t1 : ((px : Int) == (x : Int)) = false := by simp; omega
                  clear hx hin hpk
                  go_wp2_with fail
                  go_round
                  case rel => exact ⟨k + 1, by go_num, by omega, by omega, Lib.hid HM.out⟩
                  case measure => simp [intOf]; omega
            · have HE := Lib.hid (show g.nodes.take k = g.nodes from List.take_of_length_le (by omega))
              have HA2 := Lib.hid (show andG g a b = gateG g a b by have h := HL.out; rw [HE.out] at h; rw [HA.out, h]; rfl)
              clear HL
              go_wp2_with fail
              refine HGT.out.mono ?_
              rintro e w' ⟨R', rfl, h1, h2⟩
              go_wp2_with fail
              go_ret2
              rw [HA2.out]
              exact ⟨R', rfl, h1, h2⟩
theorem ref_two1 {a b : Nat} (hg : RefAt w q R g) (hm : g.nodes.length ≤ 90000) (ha : g.ok a) (hb : g.ok b) : Calls Tryz.prog 111 #[.pointer (some ⟨q, 0, none⟩), .int .i64 1, .int .u32 a, .int .u32 b] w (RefPost (andG g a b) w q R) := by
  have H := Lib.hid (ref_and hg hm ha hb)
  clear hg ha hb
  generalize andG g a b = r at *
  go_enter Tryz.func111, Tryz.ntmps111
  go_wp2_with fail
  refine H.out.mono ?_
  rintro e w' ⟨R', rfl, h1, h2⟩
  go_wp2_with fail
  go_ret2
  exact ⟨R', rfl, h1, h2⟩
theorem ok32 {g : Gr} {a : Nat} (h : g.ok a) (hm : g.nodes.length ≤ 1000000) : a < 4294967296 := by unfold Gr.ok at h; omega
set_option maxHeartbeats 800000 in
theorem ref_two2 {a b : Nat} (hg : RefAt w q R g) (hm : g.nodes.length ≤ 80000) (ha : g.ok a) (hb : g.ok b) : Calls Tryz.prog 111 #[.pointer (some ⟨q, 0, none⟩), .int .i64 2, .int .u32 a, .int .u32 b] w (RefPost (orG g a b) w q R) := by
  have H := Lib.hid (ref_and hg (by omega) (ok_nt ha) (ok_nt hb))
  have N1 := Lib.hid (ref_not a w (ok32 ha (by omega)))
  have N2 := Lib.hid (ref_not b w (ok32 hb (by omega)))
  have hs := andG_spec hg.wf (ok_nt ha) (ok_nt hb)
  have hz := hs.2.1.le
  have h32 := ok32 hs.2.2 (by omega)
  have HO := Lib.hid (show orG g a b = ((andG g (ntL a) (ntL b)).1, ntL (andG g (ntL a) (ntL b)).2) from rfl)
  clear hg ha hb hs hz
  generalize andG g (ntL a) (ntL b) = r at *
  have N3 := Lib.hid (fun w => ref_not r.2 w h32)
  clear h32
  go_enter Tryz.func111, Tryz.ntmps111
  go_wp2_with fail
  refine N1.out.mono ?_
  rintro e w' ⟨rfl, rfl⟩
  go_wp2_with fail
  refine N2.out.mono ?_
  rintro e w' ⟨rfl, rfl⟩
  go_wp2_with fail
  refine H.out.mono ?_
  rintro e w1 ⟨R', rfl, h1, h2⟩
  go_wp2_with fail
  refine (N3.out _).mono ?_
  rintro e w' ⟨rfl, rfl⟩
  go_wp2_with fail
  go_ret2
  rw [HO.out]
  exact ⟨R', rfl, h1, h2⟩
set_option maxHeartbeats 800000 in
theorem ref_both {a b c d : Nat} (hg : RefAt w q R g) (hm : g.nodes.length ≤ 70000) (ha : g.ok a) (hb : g.ok b) (hc : g.ok c) (hd : g.ok d) : Calls Tryz.prog 132 #[.pointer (some ⟨q, 0, none⟩), .int .u32 a, .int .u32 b, .int .u32 c, .int .u32 d] w (RefPost (bothG g a b c d) w q R) := by
  have H1 := Lib.hid (ref_and hg (by omega) ha hb)
  have s1 := andG_spec hg.wf ha hb
  have z1 := s1.2.1.le
  have HB := Lib.hid (show bothG g a b c d = orG (andG (andG g a b).1 c d).1 (andG g a b).2 (andG (andG g a b).1 c d).2 from rfl)
  have c1 := s1.2.1.ok hc
  have d1 := s1.2.1.ok hd
  clear hg ha hb hc hd
  obtain ⟨⟨g1, x1⟩, e1⟩ : ∃ r, r = andG g a b := ⟨_, rfl⟩
  rw [← e1] at s1 z1 H1 HB c1 d1
  clear e1
  have s2 := andG_spec s1.1 c1 d1
  have z2 := s2.2.1.le
  have H2 := Lib.hid (fun (W : World) (R' : List Nat) (h : RefAt W q R' g1) => ref_and h (by dsimp only at z1; omega) c1 d1)
  have x2 := s2.2.1.ok s1.2.2
  obtain ⟨⟨g2, y2⟩, e2⟩ : ∃ r, r = andG g1 c d := ⟨_, rfl⟩
  dsimp only at *
  rw [← e2] at s2 z2 HB x2
  have H2' := Lib.hid (fun (W : World) (R' : List Nat) (h : RefAt W q R' g1) => (by rw [e2]; exact H2.out W R' h : Calls Tryz.prog 130 #[.pointer (some ⟨q, 0, none⟩), .int .u32 c, .int .u32 d] W (RefPost (g2, y2) W q R')))
  clear e2 H2
  dsimp only at *
  have H3 := Lib.hid (fun (W : World) (R' : List Nat) (h : RefAt W q R' g2) => ref_two2 h (by omega) x2 s2.2.2)
  clear s1 s2 z1 z2 c1 d1 x2
  rw [HB.out]
  clear HB
  generalize orG g2 x1 y2 = r at *
  go_enter Tryz.func132, Tryz.ntmps132
  go_wp2_with fail
  refine H1.out.mono ?_
  rintro e w1 ⟨R1, rfl, h1, k1⟩
  have G1 := Lib.hid h1
  have K1 := Lib.hid k1
  clear h1 k1
  go_wp2_with fail
  refine (H2'.out _ _ G1.out).mono ?_
  rintro e w2 ⟨R2, rfl, h2, k2⟩
  have G2 := Lib.hid h2
  have K2 := Lib.hid (K1.out.trans k2)
  clear h2 k2 G1 K1
  go_wp2_with fail
  refine (H3.out _ _ G2.out).mono ?_
  rintro e w3 ⟨R3, rfl, h3, k3⟩
  have K3 := Lib.hid (K2.out.trans k3)
  have G3 := Lib.hid h3
  clear h3 k3 G2 K2
  go_wp2_with fail
  go_ret2
  exact ⟨R3, rfl, G3.out, K3.out⟩
set_option maxHeartbeats 800000 in
theorem ref_two3 {a b : Nat} (hg : RefAt w q R g) (hm : g.nodes.length ≤ 70000) (ha : g.ok a) (hb : g.ok b) : Calls Tryz.prog 111 #[.pointer (some ⟨q, 0, none⟩), .int .i64 3, .int .u32 a, .int .u32 b] w (RefPost (xorG g a b) w q R) := by
  have H := Lib.hid (ref_both hg hm ha (ok_nt hb) (ok_nt ha) hb)
  have N1 := Lib.hid (ref_not a w (ok32 ha (by omega)))
  have N2 := Lib.hid (ref_not b w (ok32 hb (by omega)))
  have HO := Lib.hid (show xorG g a b = bothG g a (ntL b) (ntL a) b from rfl)
  rw [HO.out]
  clear hg ha hb HO
  generalize bothG g a (ntL b) (ntL a) b = r at *
  go_enter Tryz.func111, Tryz.ntmps111
  go_wp2_with fail
  refine N2.out.mono ?_
  rintro e w' ⟨rfl, rfl⟩
  go_wp2_with fail
  refine N1.out.mono ?_
  rintro e w' ⟨rfl, rfl⟩
  go_wp2_with fail
  refine H.out.mono ?_
  rintro e w1 ⟨R', rfl, h1, h2⟩
  go_wp2_with fail
  go_ret2
  exact ⟨R', rfl, h1, h2⟩
end Go.Proofs.YtnjoklcddodfeaaGreatDoor
