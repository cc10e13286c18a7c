/-
  Law 15: a name, a reserved word or a type.
-/
import Derived.Test.YtjnjldbegngooaaDoorTokU
namespace Go.Proofs.YtjnjldbegngooaaDoor
open Go.ChangeShapes Go.WideShapes Go.ChangeAt Go.RowKit
set_option linter.unusedVariables false
set_option linter.unusedSimpArgs false

variable {w w' w1 W : World}
theorem nameB_eq (L s : List UInt8) (hs : s = L.takeWhile moB) : nameB L = if 32 < s.length then none else match typeB s with
    | some t => some ⟨3, s, 0, 0, t⟩
    | none => some ⟨if resB s then 2 else 1, s, 0, 0, noTy⟩ := by subst hs; rfl
set_option maxHeartbeats 3200000 in
set_option maxRecDepth 100000 in
theorem name_c (rb : Nat) (S : ByteArray) (k : Nat) (w : World) (hL : Laid w) (hr : RdS w rb S k) (hk : k ≤ S.size) (hS : S.size ≤ 140737488351232) :
    Calls Tryd.prog 27 #[.pointer (some ⟨rb, 0, none⟩)] w (OnePost (nameB (S.data.toList.drop k)) w) := by
  have HL := Lib.hid hL
  have c1 : w.cell? ⟨rb, 1, none⟩ = some (.int .i64 (k : Int)) := blk_cell hr 1
  obtain ⟨s, hs⟩ : ∃ s, s = (S.data.toList.drop k).takeWhile moB := ⟨_, rfl⟩
  have HN := Lib.hid (nameB_eq _ s hs)
  have hsl : s.length ≤ 140737488351232 := by
    have h1 := takeWhile_le moB (S.data.toList.drop k)
    rw [← hs, List.length_drop] at h1
    have h2 : S.data.toList.length = S.size := rfl
    omega
  have HRUN := Lib.hid (fun W (hW : Kept [] w W) => run_c 45 Tryd.call45 moB more_c rb S k k W (hr.kept hW (by simp)) hk hS)
  rw [← hs] at HRUN
  have HTY := Lib.hid (fun W hW => typeof_c s (by omega) W hW)
  have HRS := Lib.hid (fun W hW => reserved_c s hsl W hW)
  have hrl := blk_lt hr
  clear hr hs hL
  go_enter Tryd.func27, Tryd.ntmps27
  go_wp2_with fail
  refine (HRUN.out _ ((Kept.refl [] w).alloc _)).mono ?_
  rintro e w1 ⟨rfl, hw1⟩
  have HA := Lib.hid (show Kept [] w w1 from hw1 ▸ (Kept.refl [] w).alloc _)
  have HZ := Lib.hid (show w1.heap[w.heap.size]? = some (.cells #[.int .i64 0, .string ⟨#[]⟩, .int .i64 0, .int .u64 0, .bool false, .bool false, .int .i64 0] 37 (0, 0)) from hw1 ▸ heap_alloc_new w _)
  have HSZ := Lib.hid (show w1.heap.size = w.heap.size + 1 from hw1 ▸ (by simp))
  clear hw1
  simp only [strV]
  go_wp2_with fail
  refine (HTY.out _ (HL.out.kept0 (HA.out.alloc _))).mono ?_
  rintro e w2 ⟨rfl, k2⟩
  have HK2 := Lib.hid (((Kept.refl [] w1).alloc _).trans k2)
  have HX := Lib.hid (k2.heap (heap_alloc_new w1 (.cells #[.int .i64 1, .string ⟨s.toArray⟩, .int .i64 0, .int .u64 0, .bool false, .bool false, .int .i64 0] 37 (0, 0))) (by simp))
  clear k2
  have hx := HX.out
  have x0 := blk_cell hx 0
  have x4 := blk_cell hx 4
  have x5 := blk_cell hx 5
  have x6 := blk_cell hx 6
  simp only [List.getElem?_toArray, List.getElem?_cons_zero, List.getElem?_cons_succ] at x0 x4 x5 x6
  have f0 := blk_free hx 0
  have f4 := blk_free hx 4
  have f5 := blk_free hx 5
  have f6 := blk_free hx 6
  have hlx := blk_lt hx
  clear hx
  cases hty : typeB s with
  | some t =>
    have HN2 := Lib.hid (show nameB (S.data.toList.drop k) = if 32 < s.length then none else some ⟨3, s, 0, 0, t⟩ from by rw [HN.out, hty])
    simp only [getTy, Option.getD_some, Option.isSome_some, tyV]
    clear hty
    go_wp2_with fail
    go_region
    obtain ⟨tk, htk⟩ : ∃ tk : Tk, tk = ⟨3, s, 0, 0, t⟩ := ⟨_, rfl⟩
    obtain ⟨w5, hw5⟩ : ∃ v, v = (((((w2.setCell ⟨w1.heap.size, 0, none⟩ (.int .i64 3)).setCell ⟨w1.heap.size, 4, none⟩ (.bool t.b)).setCell ⟨w1.heap.size, 5, none⟩ (.bool t.sg)).setCell ⟨w1.heap.size, 6, none⟩ (.int .i64 t.w)).alloc (.cells #[.bool t.b, .bool t.sg, .int .i64 t.w] 34)).drew := ⟨_, rfl⟩
    rw [← hw5]
    have HX5 := Lib.hid (show w5.heap[w1.heap.size]? = some (.cells #[.int .i64 (tk.kind : Int), .string ⟨tk.text.toArray⟩, .int .i64 (tk.at_ : Int), .int .u64 (tk.n : Int), .bool tk.ty.b, .bool tk.ty.sg, .int .i64 tk.ty.w] 37 (0, 0)) from by
      rw [hw5, htk]
      exact (((Kept.refl [] _).alloc _).drew).heap (blk_set (blk_set (blk_set (blk_set HX.out 0 (.int .i64 3)) 4 (.bool t.b)) 5 (.bool t.sg)) 6 (.int .i64 t.w)) List.not_mem_nil)
    have HK5 := Lib.hid (show Kept [w1.heap.size] w2 w5 from by
      rw [hw5]
      exact ((((((Kept.refl [w1.heap.size] w2).setCell (.inl (by simp)) _).setCell (.inl (by simp)) _).setCell (.inl (by simp)) _).setCell (.inl (by simp)) _).alloc _).drew)
    have HN2 := Lib.hid (show nameB (S.data.toList.drop k) = if 32 < s.length then none else some tk from by rw [HN2.out, htk])
    clear hw5 htk
    have y0 := blk_cell HX5.out 0; have y1 := blk_cell HX5.out 1; have y2 := blk_cell HX5.out 2; have y3 := blk_cell HX5.out 3; have y4 := blk_cell HX5.out 4; have y5 := blk_cell HX5.out 5; have y6 := blk_cell HX5.out 6; simp only [List.getElem?_toArray, List.getElem?_cons_zero, List.getElem?_cons_succ] at y0 y1 y2 y3 y4 y5 y6
    have HZ5 := Lib.hid (HK5.out.heap (HK2.out.heap HZ.out List.not_mem_nil) (by have := HSZ.out; simp; omega))
    clear x0 x4 x5 x6 f0 f4 f5 f6
    by_cases h32 : s.length ≤ 32
    · have g32 : ((s.length : Nat) : Int) ≤ 32 := by omega
      go_wp2_with (refine wpList_tk rfl rfl w.heap.size rfl rfl HZ5.out ⟨rfl, rfl, rfl, rfl, rfl, rfl, rfl⟩ ?_)
      intro w6 hw5 k6; have K6 := Lib.hid k6; have e0 := blk_cell hw5 0; have e1 := blk_cell hw5 1; have e2 := blk_cell hw5 2; have e3 := blk_cell hw5 3; have e4 := blk_cell hw5 4; have e5 := blk_cell hw5 5; have e6 := blk_cell hw5 6; simp only [List.getElem?_toArray, List.getElem?_cons_zero, List.getElem?_cons_succ] at e0 e1 e2 e3 e4 e5 e6; clear hw5 k6 y0 y1 y2 y3 y4 y5 y6; go_wp2_with fail; refine bodyPost_ret (v := .tuple #[tkV tk, .bool (decide (s.length ≤ 32))]) (by simp [results, Tryd.results27, go_sem, tkV, e0, e1, e2, e3, e4, e5, e6, h32, g32] <;> omega) rfl ?_
      have hg : nameB (S.data.toList.drop k) = some tk := by rw [HN2.out, if_neg (by omega)]
      rw [hg]; exact ⟨⟨tk, by simp [h32], fun y hy => Option.some.inj hy⟩, kept_mix (kept_mix (HA.out.trans HK2.out) HK5.out (by have := HSZ.out; simp; omega)) K6.out (by simp)⟩
    · have g32 : ¬ ((s.length : Nat) : Int) ≤ 32 := by omega
      go_wp2_with (refine wpList_tk rfl rfl w.heap.size rfl rfl HZ5.out ⟨rfl, rfl, rfl, rfl, rfl, rfl, rfl⟩ ?_)
      intro w6 hw5 k6; have K6 := Lib.hid k6; have e0 := blk_cell hw5 0; have e1 := blk_cell hw5 1; have e2 := blk_cell hw5 2; have e3 := blk_cell hw5 3; have e4 := blk_cell hw5 4; have e5 := blk_cell hw5 5; have e6 := blk_cell hw5 6; simp only [List.getElem?_toArray, List.getElem?_cons_zero, List.getElem?_cons_succ] at e0 e1 e2 e3 e4 e5 e6; clear hw5 k6 y0 y1 y2 y3 y4 y5 y6; go_wp2_with fail; refine bodyPost_ret (v := .tuple #[tkV tk, .bool (decide (s.length ≤ 32))]) (by simp [results, Tryd.results27, go_sem, tkV, e0, e1, e2, e3, e4, e5, e6, h32, g32] <;> omega) rfl ?_
      have hg : nameB (S.data.toList.drop k) = none := by rw [HN2.out, if_pos (by omega)]
      rw [hg]; exact ⟨⟨tk, by simp [h32], fun y hy => nomatch hy⟩, kept_mix (kept_mix (HA.out.trans HK2.out) HK5.out (by have := HSZ.out; simp; omega)) K6.out (by simp)⟩
  | none =>
    have HN2 := Lib.hid (show nameB (S.data.toList.drop k) = if 32 < s.length then none else some ⟨if resB s then 2 else 1, s, 0, 0, noTy⟩ from by rw [HN.out, hty])
    simp only [getTy, Option.getD_none, Option.isSome_none, tyV, noTy]
    clear hty
    go_wp2_with fail
    refine (HRS.out _ (HL.out.kept0 ((HA.out.trans HK2.out).alloc _))).mono ?_
    rintro e w3 ⟨rfl, hw3⟩
    have HW3 := Lib.hid hw3
    clear hw3
    generalize hrb : resB s = rbv
    have HRB := Lib.hid hrb
    clear hrb
    have HX3 := Lib.hid (show w3.heap[w1.heap.size]? = some (.cells #[.int .i64 1, .string ⟨s.toArray⟩, .int .i64 0, .int .u64 0, .bool false, .bool false, .int .i64 0] 37 (0, 0)) from HW3.out ▸ ((Kept.refl [] w2).alloc _).heap HX.out List.not_mem_nil)
    have HK3 := Lib.hid (show Kept [w1.heap.size] w2 w3 from HW3.out ▸ ((Kept.refl _ w2).alloc _))
    clear x0 x4 x5 x6 f0 f4 f5 f6
    have x0 := blk_cell HX3.out 0
    simp only [List.getElem?_toArray, List.getElem?_cons_zero, List.getElem?_cons_succ] at x0
    have f0 := blk_free HX3.out 0
    obtain ⟨tk, htk⟩ : ∃ tk : Tk, tk = ⟨if rbv then 2 else 1, s, 0, 0, noTy⟩ := ⟨_, rfl⟩
    have HN2 := Lib.hid (show nameB (S.data.toList.drop k) = if 32 < s.length then none else some tk from by rw [HN2.out, htk, HRB.out])
    obtain ⟨w5, hw5⟩ : ∃ v, v = if rbv then w3.setCell ⟨w1.heap.size, 0, none⟩ (.int .i64 2) else w3 := ⟨_, rfl⟩
    have HX5 := Lib.hid (show w5.heap[w1.heap.size]? = some (.cells #[.int .i64 (tk.kind : Int), .string ⟨tk.text.toArray⟩, .int .i64 (tk.at_ : Int), .int .u64 (tk.n : Int), .bool tk.ty.b, .bool tk.ty.sg, .int .i64 tk.ty.w] 37 (0, 0)) from by
      rw [hw5, htk]
      cases rbv with
      | true => exact blk_set HX3.out 0 (.int .i64 2)
      | false => exact HX3.out)
    have HK5 := Lib.hid (show Kept [w1.heap.size] w2 w5 from by
      rw [hw5]
      cases rbv with
      | true => exact HK3.out.setCell (.inl (by simp)) _
      | false => exact HK3.out)
    clear htk
    have h32 := Nat.lt_or_ge 32 s.length
    cases rbv with
    | true =>
      rw [if_pos rfl] at hw5
      subst hw5
      have y0 := blk_cell HX5.out 0; have y1 := blk_cell HX5.out 1; have y2 := blk_cell HX5.out 2; have y3 := blk_cell HX5.out 3; have y4 := blk_cell HX5.out 4; have y5 := blk_cell HX5.out 5; have y6 := blk_cell HX5.out 6; simp only [List.getElem?_toArray, List.getElem?_cons_zero, List.getElem?_cons_succ] at y0 y1 y2 y3 y4 y5 y6
      have HZ5 := Lib.hid (HK5.out.heap (HK2.out.heap HZ.out List.not_mem_nil) (by have := HSZ.out; simp; omega))
      rcases h32 with h32 | h32
      · have h32 : ¬ s.length ≤ 32 := by omega
        have g32 : ¬ ((s.length : Nat) : Int) ≤ 32 := by omega
        go_wp2_with (refine wpList_tk rfl rfl w.heap.size rfl rfl HZ5.out ⟨rfl, rfl, rfl, rfl, rfl, rfl, rfl⟩ ?_)
        intro w6 hw5 k6; have K6 := Lib.hid k6; have e0 := blk_cell hw5 0; have e1 := blk_cell hw5 1; have e2 := blk_cell hw5 2; have e3 := blk_cell hw5 3; have e4 := blk_cell hw5 4; have e5 := blk_cell hw5 5; have e6 := blk_cell hw5 6; simp only [List.getElem?_toArray, List.getElem?_cons_zero, List.getElem?_cons_succ] at e0 e1 e2 e3 e4 e5 e6; clear hw5 k6 y0 y1 y2 y3 y4 y5 y6; go_wp2_with fail; refine bodyPost_ret (v := .tuple #[tkV tk, .bool (decide (s.length ≤ 32))]) (by simp [results, Tryd.results27, go_sem, tkV, e0, e1, e2, e3, e4, e5, e6, h32, g32] <;> omega) rfl ?_
        have hg : nameB (S.data.toList.drop k) = none := by rw [HN2.out, if_pos (by omega)]
        rw [hg]; exact ⟨⟨tk, by simp [h32], fun y hy => nomatch hy⟩, kept_mix (kept_mix (HA.out.trans HK2.out) HK5.out (by have := HSZ.out; simp; omega)) K6.out (by simp)⟩
      · have h32 : s.length ≤ 32 := by omega
        have g32 : ((s.length : Nat) : Int) ≤ 32 := by omega
        go_wp2_with (refine wpList_tk rfl rfl w.heap.size rfl rfl HZ5.out ⟨rfl, rfl, rfl, rfl, rfl, rfl, rfl⟩ ?_)
        intro w6 hw5 k6; have K6 := Lib.hid k6; have e0 := blk_cell hw5 0; have e1 := blk_cell hw5 1; have e2 := blk_cell hw5 2; have e3 := blk_cell hw5 3; have e4 := blk_cell hw5 4; have e5 := blk_cell hw5 5; have e6 := blk_cell hw5 6; simp only [List.getElem?_toArray, List.getElem?_cons_zero, List.getElem?_cons_succ] at e0 e1 e2 e3 e4 e5 e6; clear hw5 k6 y0 y1 y2 y3 y4 y5 y6; go_wp2_with fail; refine bodyPost_ret (v := .tuple #[tkV tk, .bool (decide (s.length ≤ 32))]) (by simp [results, Tryd.results27, go_sem, tkV, e0, e1, e2, e3, e4, e5, e6, h32, g32] <;> omega) rfl ?_
        have hg : nameB (S.data.toList.drop k) = some tk := by rw [HN2.out, if_neg (by omega)]
        rw [hg]; exact ⟨⟨tk, by simp [h32], fun y hy => Option.some.inj hy⟩, kept_mix (kept_mix (HA.out.trans HK2.out) HK5.out (by have := HSZ.out; simp; omega)) K6.out (by simp)⟩
    | false =>
      rw [if_neg (by simp)] at hw5
      subst hw5
      clear x0 f0
      have y0 := blk_cell HX5.out 0; have y1 := blk_cell HX5.out 1; have y2 := blk_cell HX5.out 2; have y3 := blk_cell HX5.out 3; have y4 := blk_cell HX5.out 4; have y5 := blk_cell HX5.out 5; have y6 := blk_cell HX5.out 6; simp only [List.getElem?_toArray, List.getElem?_cons_zero, List.getElem?_cons_succ] at y0 y1 y2 y3 y4 y5 y6
      have HZ5 := Lib.hid (HK5.out.heap (HK2.out.heap HZ.out List.not_mem_nil) (by have := HSZ.out; simp; omega))
      rcases h32 with h32 | h32
      · have h32 : ¬ s.length ≤ 32 := by omega
        have g32 : ¬ ((s.length : Nat) : Int) ≤ 32 := by omega
        go_wp2_with (refine wpList_tk rfl rfl w.heap.size rfl rfl HZ5.out ⟨rfl, rfl, rfl, rfl, rfl, rfl, rfl⟩ ?_)
        intro w6 hw5 k6; have K6 := Lib.hid k6; have e0 := blk_cell hw5 0; have e1 := blk_cell hw5 1; have e2 := blk_cell hw5 2; have e3 := blk_cell hw5 3; have e4 := blk_cell hw5 4; have e5 := blk_cell hw5 5; have e6 := blk_cell hw5 6; simp only [List.getElem?_toArray, List.getElem?_cons_zero, List.getElem?_cons_succ] at e0 e1 e2 e3 e4 e5 e6; clear hw5 k6 y0 y1 y2 y3 y4 y5 y6; go_wp2_with fail; refine bodyPost_ret (v := .tuple #[tkV tk, .bool (decide (s.length ≤ 32))]) (by simp [results, Tryd.results27, go_sem, tkV, e0, e1, e2, e3, e4, e5, e6, h32, g32] <;> omega) rfl ?_
        have hg : nameB (S.data.toList.drop k) = none := by rw [HN2.out, if_pos (by omega)]
        rw [hg]; exact ⟨⟨tk, by simp [h32], fun y hy => nomatch hy⟩, kept_mix (kept_mix (HA.out.trans HK2.out) HK5.out (by have := HSZ.out; simp; omega)) K6.out (by simp)⟩
      · have h32 : s.length ≤ 32 := by omega
        have g32 : ((s.length : Nat) : Int) ≤ 32 := by omega
        go_wp2_with (refine wpList_tk rfl rfl w.heap.size rfl rfl HZ5.out ⟨rfl, rfl, rfl, rfl, rfl, rfl, rfl⟩ ?_)
        intro w6 hw5 k6; have K6 := Lib.hid k6; have e0 := blk_cell hw5 0; have e1 := blk_cell hw5 1; have e2 := blk_cell hw5 2; have e3 := blk_cell hw5 3; have e4 := blk_cell hw5 4; have e5 := blk_cell hw5 5; have e6 := blk_cell hw5 6; simp only [List.getElem?_toArray, List.getElem?_cons_zero, List.getElem?_cons_succ] at e0 e1 e2 e3 e4 e5 e6; clear hw5 k6 y0 y1 y2 y3 y4 y5 y6; go_wp2_with fail; refine bodyPost_ret (v := .tuple #[tkV tk, .bool (decide (s.length ≤ 32))]) (by simp [results, Tryd.results27, go_sem, tkV, e0, e1, e2, e3, e4, e5, e6, h32, g32] <;> omega) rfl ?_
        have hg : nameB (S.data.toList.drop k) = some tk := by rw [HN2.out, if_neg (by omega)]
        rw [hg]; exact ⟨⟨tk, by simp [h32], fun y hy => Option.some.inj hy⟩, kept_mix (kept_mix (HA.out.trans HK2.out) HK5.out (by have := HSZ.out; simp; omega)) K6.out (by simp)⟩
end Go.Proofs.YtjnjldbegngooaaDoor
