/-
  Package sim: Reset.
-/
import Derived.Test.YtdmcdhkkbkgnbaaGreatQSimA
import Derived.Test.YtdmcdhkkbkgnbaaGreatQGiveF
namespace Go.Proofs.YtdmcdhkkbkgnbaaGreat
open Go.ChangeShapes Go.WideShapes Go.ChangeAt Go.RowKit
open Go.Maps (Keyed)
open Go.WideMaps
set_option linter.unusedVariables false
set_option linter.unusedSimpArgs false

variable {w w' : World} {s p n : Nat} {F R S : List Nat} {g : Gr} {N : Nt} {σ : Sm}
/-- the first k words as they shall be, 0 behind -/
def resetTo (N : Nt) (k : Nat) : List Nat := (resetN N).take k ++ List.replicate (N.regs.length - k) 0
theorem resetTo_zero (N : Nt) : resetTo N 0 = List.replicate N.regs.length 0 := by simp [resetTo]
theorem resetN_length (N : Nt) : (resetN N).length = N.regs.length := by simp [resetN]
theorem resetTo_all (N : Nt) : resetTo N N.regs.length = resetN N := by
  unfold resetTo
  rw [List.take_of_length_le (by rw [resetN_length]; exact Nat.le_refl _)]
  simp
theorem resetTo_length (N : Nt) (k : Nat) (h : k ≤ N.regs.length) : (resetTo N k).length = N.regs.length := by
  simp [resetTo, resetN_length]; omega
theorem resetTo_succ (N : Nt) (k : Nat) (h : k < N.regs.length) : resetTo N (k + 1) = (resetTo N k).set k (if N.regs[k].init then 18446744073709551615 else 0) := by
  have hr : (resetN N)[k]? = some (if N.regs[k].init then 18446744073709551615 else 0) := by simp [resetN, List.getElem?_eq_getElem h]
  obtain ⟨m, hm⟩ : ∃ m, N.regs.length - k = m + 1 := ⟨N.regs.length - k - 1, by omega⟩
  have h1 : N.regs.length - (k + 1) = m := by omega
  have hl : ((resetN N).take k).length = k := by rw [List.length_take, resetN_length]; omega
  unfold resetTo
  rw [List.take_add_one, hr, hm, h1, List.replicate_succ, List.set_append_right _ _ (by omega), hl]
  simp
theorem resetTo_keep (N : Nt) (k : Nat) (h : k < N.regs.length) (hi : N.regs[k].init = false) : resetTo N (k + 1) = resetTo N k := by
  have hr : (resetN N)[k]? = some 0 := by simp [resetN, List.getElem?_eq_getElem h, hi]
  obtain ⟨m, hm⟩ : ∃ m, N.regs.length - k = m + 1 := ⟨N.regs.length - k - 1, by omega⟩
  have h1 : N.regs.length - (k + 1) = m := by omega
  unfold resetTo
  rw [List.take_add_one, hr, hm, h1, List.replicate_succ]
  simp
def simCells (n : Nat) (ra : Option Addr) (nr rc : Nat) (v2 v3 v4 : Value) : Array Value := #[.pointer (some ⟨n, 0, none⟩), .slice ra nr rc, v2, v3, v4]
def SimReset (s n : Nat) (N : Nt) (v2 : Value) (w : World) (e : Ending) (w' : World) : Prop :=
  ∃ ra rc, e = .returned (.int .i64 0) ∧ w'.heap[s]? = some (.cells (simCells n ra N.regs.length rc v2 (.slice none 0 0) (.int .i64 0)) 154 (0, 0)) ∧ Own w' 79 ra N.regs.length rc (nats .u64 (resetN N)) ∧ Kept [s] w w' ∧ ∀ b ∈ ft ra, w.heap.size ≤ b
set_option maxHeartbeats 1600000 in
set_option maxRecDepth 100000 in
theorem sim_reset {NF NR : List Nat} {v1 v2 v3 v4 : Value} (hb : w.heap[s]? = some (.cells #[.pointer (some ⟨n, 0, none⟩), v1, v2, v3, v4] 154 (0, 0))) (hn : NetAt w n NF NR N) (hnr : N.regs.length ≤ 1000000) (hs : s ∉ NF) :
    Calls Tryz.prog 81 #[.pointer (some ⟨s, 0, none⟩)] w (SimReset s n N v2 w) := by
  have HN := Lib.hid (sim_none (w := w) (s := s) (n := n) (blk_cell hb 0))
  obtain ⟨p, G, ia, ic, ra, rc, oa, oc, ri, ro, rfl, rfl, hc⟩ := hn
  obtain ⟨nr, hnr'⟩ : ∃ k, k = N.regs.length := ⟨_, rfl⟩
  have HSR := Lib.hid (regs_sl hnr'.symm (by rw [hnr']; exact hc.rb))
  have n3 := hc.c3
  have hsn : s ≠ n := fun h => hs (by rw [h]; simp)
  have hsr : s ∉ ft ra := fun h => hs (by simp [h])
  have HNR := Lib.hid hnr'
  rw [← hnr'] at n3 hnr
  have c0 := blk_cell hb 0
  have HB := Lib.hid hb
  have hslt := blk_lt hb
  clear hc hs hb hnr'
  go_enter Tryz.func81, Tryz.ntmps81
  go_wp2_with fail
  refine HN.out.mono ?_
  rintro e w' ⟨rfl, rfl⟩
  go_wp2_with (at_make; refine wpList_mk (n := nr) rfl rfl Tryz.underlying78 u64_info rfl rfl rfl (by omega) (by unfold maxLen; omega) ?_; intro w1 hown1 hst1; rw [nats_replicate] at hown1; have B1 := Lib.hid (hst1.kept.heap HB.out (by simp)); have c10 := blk_cell B1.out 0; have c11 := blk_cell B1.out 1; have c13 := blk_cell B1.out 3; have c14 := blk_cell B1.out 4; have cf1 := blk_free B1.out 1; have cf3 := blk_free B1.out 3; have cf4 := blk_free B1.out 4; have n31 := hst1.kept.cell n3 (by simp))
  obtain ⟨q, hq⟩ : ∃ q, q = w.heap.size := ⟨_, rfl⟩
  rw [← hq] at hown1 hst1 ⊢
  obtain ⟨w2, hw2⟩ : ∃ W, W = (((w1.setCell ⟨s, 1, none⟩ (.slice (some ⟨q, 0, none⟩) nr nr)).setCell ⟨s, 3, none⟩ (.slice none 0 0)).setCell ⟨s, 4, none⟩ (.int .i64 0)) := ⟨_, rfl⟩
  rw [← hw2]
  have hqs : q ≠ s := by omega
  have k12 : Kept [s] w1 w2 := by rw [hw2]; exact (((Kept.refl [s] w1).setCell (.inl (by simp)) _).setCell (.inl (by simp)) _).setCell (.inl (by simp)) _
  have K2 := Lib.hid (show Kept [s] w w2 from (hst1.kept.more (by simp)).trans k12)
  have HO2 := Lib.hid (show Own w2 79 (some ⟨q, 0, none⟩) nr nr (nats .u64 (resetTo N 0)) from by rw [resetTo_zero, ← HNR.out]; exact hown1.kept k12 (fun b hb hx => by rw [mem_ft] at hb; simp at hx hb; omega))
  have B2 := Lib.hid (show w2.heap[s]? = some (.cells (simCells n (some ⟨q, 0, none⟩) nr nr v2 (.slice none 0 0) (.int .i64 0)) 154 (0, 0)) from by
    rw [hw2]
    exact blk_set (blk_set (blk_set B1.out 1 _) 3 _) 4 _)
  have RS := Lib.hid (fun k (h : k < N.regs.length) => resetTo_succ N k h)
  have RK := Lib.hid (fun k (h : k < N.regs.length) => resetTo_keep N k h)
  have HQ := Lib.hid hq
  have HQS := Lib.hid hqs
  clear hq hqs k12 hown1 hst1 B1 c10 c11 c13 c14 cf1 cf3 cf4 n31 hw2 c0 HB
  go_loopw [33] (fun i wr => ∃ k : Nat, k ≤ nr ∧ i = .int .i64 k ∧ wr.heap[s]? = some (.cells (simCells n (some ⟨q, 0, none⟩) nr nr v2 (.slice none 0 0) (.int .i64 0)) 154 (0, 0)) ∧ Own wr 79 (some ⟨q, 0, none⟩) nr nr (nats .u64 (resetTo N k)) ∧ Kept [s] w wr) (fun i _ => nr - (intOf i).toNat)
  case atStart => exact ⟨0, Nat.zero_le _, rfl, B2.out, HO2.out, K2.out⟩
  case round =>
    obtain ⟨k, hk, rfl, hbr, hor, hkr⟩ := hrel
    have BR := Lib.hid hbr
    have HOR := Lib.hid hor
    have KR := Lib.hid hkr
    clear hbr hor hkr
    by_cases hlt : k < nr
    · have hkl : k < N.regs.length := by rw [← HNR.out]; exact hlt
      obtain ⟨b, rfl, h0, h1, h2, h3⟩ := (HSR.out.kept KR.out (fun b hb hx => hsr (by simp at hx; subst hx; exact hb))) k hkl
      have c1 : wr.cell? ⟨s, 1, none⟩ = some (.slice (some ⟨q, 0, none⟩) nr nr) := blk_cell BR.out 1
      have c1' := fun o => cell_alloc c1 o
      obtain ⟨⟨x0, hx0⟩, _, _⟩ := HOR.out.store hlt
      have hx0' := fun o => cell_alloc hx0 o
      have hfz := fun o => ((HOR.out.alloc o).store hlt).2.1
      have HST := Lib.hid (fun o => ((HOR.out.alloc o).store hlt).2.2)
      have h1' := RS.out k hkl
      have h2' := RK.out k hkl
      generalize N.regs[k].q = x1 at *
      generalize N.regs[k].d = x2 at *
      generalize N.regs[k].en = x3 at *
      generalize N.regs[k].init = x4 at *
      have H1 := Lib.hid h1'
      have H2 := Lib.hid h2'
      clear h1' h2'
      cases x4 with
      | true =>
        have hz : IntKind.u64.wrap 18446744073709551615 = 18446744073709551615 := rfl
        go_wp2_with fail
        go_roundw
        case rel => exact ⟨k + 1, by omega, by go_num, ((Kept.refl [q] wr).alloc _ |>.setCell (.inl (by simp)) _).heap BR.out (by simp; exact fun h => HQS.out h.symm), by rw [H1.out, ← nats_set]; exact HST.out _ _, ((KR.out.alloc _).setCell (.inr (by rw [← HQ.out]; exact Nat.le_refl _)) _)⟩
        case measure => simp [intOf]; omega
      | false =>
        have h := H2.out rfl
        have HH := Lib.hid h
        clear h
        go_wp2_with fail
        go_roundw
        case rel => exact ⟨k + 1, by omega, by go_num, ((Kept.refl [] wr).alloc _).heap BR.out (by simp), by rw [HH.out]; exact HOR.out.alloc _, KR.out.alloc _⟩
        case measure => simp [intOf]; omega
    · obtain rfl : k = nr := by omega
      have HF := Lib.hid (show resetTo N k = resetN N from by rw [HNR.out]; exact resetTo_all N)
      go_wp2_with fail
      go_ret
      exact ⟨some ⟨q, 0, none⟩, k, rfl, by rw [← HNR.out]; exact BR.out, by rw [← HF.out, ← HNR.out]; exact HOR.out, KR.out, fun b hb => by rw [mem_ft] at hb; simp at hb; have := HQ.out; omega⟩
end Go.Proofs.YtdmcdhkkbkgnbaaGreat
