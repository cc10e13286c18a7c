/-
  Law 15's document: one token: a name.
-/
import Derived.Test.YtjnjldbegngooaaDoorTokRd
import Derived.Test.YtjnjldbegngooaaDoorTokTyM
import Derived.Test.YtjnjldbegngooaaDoorTokV
namespace Go.Proofs.YtjnjldbegngooaaDoor
open Go.ChangeShapes Go.WideShapes Go.ChangeAt Go.RowKit
set_option linter.unusedVariables false
set_option linter.unusedSimpArgs false

variable {w w' w1 W : World}
/-- the document's token at a place -/
def ROnePost (r : Option Tk) (k : Nat) (w : World) (e : Ending) (w' : World) : Prop := (∃ x, (e = .returned (.tuple #[tkV x, .bool r.isSome]) ∧ ∀ y, r = some y → x = { y with at_ := k })) ∧ Kept [] w w'
set_option maxHeartbeats 3200000 in
set_option maxRecDepth 100000 in
theorem rone_name (S : ByteArray) (k : Nat) (hk : k < S.size) (hS : S.size ≤ 140737488351232) (hb : bgB (S[k]'hk) = true) (w : World) :
    Calls Tryd.prog 28 #[.string S, .int .i64 (k : Int)] w (ROnePost (nameB (S.data.toList.drop k)) k w) := by
  have hX := rletter_c (S[k]'hk).toNat (UInt8.toNat_lt _)
  rw [UInt8.ofNat_toNat, hb] at hX
  have HX := Lib.hid hX
  clear hX hb
  have HLG := Lib.hid (fun W => rlong_c false S k (by omega) hS W)
  obtain ⟨s, hs⟩ : ∃ s, s = (S.data.toList.drop k).takeWhile moB := ⟨_, rfl⟩
  have HN := Lib.hid (nameB_eq _ s hs)
  have hsl : k + s.length ≤ S.size := by
    have h1 := takeWhile_le moB (S.data.toList.drop k)
    rw [← hs, List.length_drop] at h1
    have h2 : S.data.toList.length = S.size := rfl
    omega
  have hext : S.extract k (k + s.length) = ⟨s.toArray⟩ := by
    rw [ext_list, hs]
    congr 2
    rw [Nat.add_sub_cancel_left]
    exact List.prefix_iff_eq_take.1 (List.takeWhile_prefix _) |>.symm
  simp only [longP, Bool.false_eq_true, if_false] at HLG
  rw [← hs] at HLG
  have HTY := Lib.hid (fun W => rtypeof_c s (by omega) W)
  have HRS := Lib.hid (fun W => rreserved_c s W)
  clear hs
  go_enter Tryd.func28, Tryd.ntmps28
  go_wp2_with fail
  refine (HX.out _).mono ?_
  rintro e w1 ⟨rfl, hw1⟩
  go_wp2_with fail
  refine (HLG.out _).mono ?_
  rintro e w2 ⟨rfl, hw2⟩
  obtain ⟨A, hA⟩ : ∃ A, A = w.heap.size := ⟨_, rfl⟩
  obtain ⟨B, hB⟩ : ∃ B, B = w.heap.size + 1 := ⟨_, rfl⟩
  have HA2 := Lib.hid (show w2.heap[A]? = some (.cells #[.int .i64 0, .string ⟨#[]⟩, .int .i64 0, .int .u64 0, .bool false, .bool false, .int .i64 0] 36 (0, 0)) from by
    rw [hw2, hA]
    exact ((Kept.refl [] _).alloc _).heap (heap_alloc_new w _) List.not_mem_nil)
  have HB2 := Lib.hid (show w2.heap[B]? = some (.cells #[.int .i64 0, .string ⟨#[]⟩, .int .i64 (k : Int), .int .u64 0, .bool false, .bool false, .int .i64 0] 36 (0, 0)) from by
    rw [hw2, hB]
    have h := heap_alloc_new (w.alloc (.cells #[.int .i64 0, .string ⟨#[]⟩, .int .i64 0, .int .u64 0, .bool false, .bool false, .int .i64 0] 36 (0, 0))) (.cells #[.int .i64 0, .string ⟨#[]⟩, .int .i64 (k : Int), .int .u64 0, .bool false, .bool false, .int .i64 0] 36 (0, 0))
    have e1 : ∀ o, (w.alloc o).heap.size = w.heap.size + 1 := fun o => by simp
    rw [e1] at h
    exact h)
  have K2 := Lib.hid (show Kept [] w w2 from by rw [hw2]; exact ((Kept.refl [] w).alloc _).alloc _)
  have hAB : A < B := by omega
  have HWA := Lib.hid (show w.heap.size ≤ A ∧ w.heap.size ≤ B from by omega)
  rw [← hB, ← hA]
  clear hw1 hw2 hA hB
  have b0 := blk_cell HB2.out 0
  have b1 := blk_cell HB2.out 1
  simp only [List.getElem?_toArray, List.getElem?_cons_zero, List.getElem?_cons_succ] at b0 b1
  have f0 := blk_free HB2.out 0
  have f1 := blk_free HB2.out 1
  have hlB := blk_lt HB2.out
  go_wp2_with fail
  refine (HTY.out _).mono ?_
  rintro e w3 ⟨rfl, k3⟩
  have KB3 := Lib.hid (show Kept [B] w2 w3 from kept_mix (((Kept.refl [B] w2).setCell (.inl (by simp)) (.string ⟨s.toArray⟩)).setCell (.inl (by simp)) (.int .i64 1)) k3 (by simp))
  have HB3 := Lib.hid (k3.heap (blk_set (blk_set HB2.out 1 (.string ⟨s.toArray⟩)) 0 (.int .i64 1)) List.not_mem_nil)
  clear k3 b0 b1 f0 f1
  have hlB3 := blk_lt HB3.out
  have f0 := blk_free HB3.out 0
  have f4 := blk_free HB3.out 4
  have f5 := blk_free HB3.out 5
  have f6 := blk_free HB3.out 6
  have hx := HB3.out
  simp only [List.setIfInBounds_toArray, List.set_cons_zero, List.set_cons_succ] at hx
  have HX3 := Lib.hid hx
  have b0 := blk_cell hx 0
  have b1 := blk_cell hx 1
  have b4 := blk_cell hx 4
  have b5 := blk_cell hx 5
  have b6 := blk_cell hx 6
  simp only [List.getElem?_toArray, List.getElem?_cons_zero, List.getElem?_cons_succ] at b0 b1 b4 b5 b6
  clear hx
  cases hty : typeB s with
  | some t =>
    have HN2 := Lib.hid (show nameB (S.data.toList.drop k) = if 32 < s.length then none else some ⟨3, s, 0, 0, t⟩ from by rw [HN.out, hty])
    have HNR := Lib.hid (show resB s = false from by
      obtain ⟨h1, h2⟩ := say_typeB hty
      rw [← h2]
      exact (say_more h1).2.2.2.1)
    simp only [getTy, Option.getD_some, Option.isSome_some, tyV]
    clear hty
    go_wp2_with fail
    refine (HRS.out _).mono ?_
    rintro e w5 ⟨rfl, k5⟩
    rw [HNR.out]
    obtain ⟨tk, htk⟩ : ∃ tk : Tk, tk = ⟨3, s, k, 0, t⟩ := ⟨_, rfl⟩
    have HX5 := Lib.hid (show w5.heap[B]? = some (.cells #[.int .i64 (tk.kind : Int), .string ⟨tk.text.toArray⟩, .int .i64 (tk.at_ : Int), .int .u64 (tk.n : Int), .bool tk.ty.b, .bool tk.ty.sg, .int .i64 tk.ty.w] 36 (0, 0)) from by
      rw [htk]
      exact k5.heap (((Kept.refl [] _).alloc _).heap (blk_set (blk_set (blk_set (blk_set HX3.out 0 (.int .i64 3)) 4 (.bool t.b)) 5 (.bool t.sg)) 6 (.int .i64 t.w)) List.not_mem_nil) List.not_mem_nil)
    have KB5 := Lib.hid (show Kept [B] w2 w5 from kept_mix ((((((KB3.out.setCell (.inl (by simp)) (.int .i64 3)).setCell (.inl (by simp)) (.bool t.b)).setCell (.inl (by simp)) (.bool t.sg)).setCell (.inl (by simp)) (.int .i64 t.w))).alloc (.cells #[.bool t.b, .bool t.sg, .int .i64 t.w] 34)) k5 (by simp))
    have HA5 := Lib.hid (KB5.out.heap HA2.out (by simp; omega))
    have HN3 := Lib.hid (show nameB (S.data.toList.drop k) = if 32 < s.length then none else some { tk with at_ := 0 } from by rw [HN2.out, htk])
    have HTT := Lib.hid (show tk.text = s ∧ tk.at_ = k from by rw [htk]; exact ⟨rfl, rfl⟩)
    clear htk k5 b0 b1 b4 b5 b6 f0 f4 f5 f6
    have y0 := blk_cell HX5.out 0; have y1 := blk_cell HX5.out 1; have y2 := blk_cell HX5.out 2; have y3 := blk_cell HX5.out 3; have y4 := blk_cell HX5.out 4; have y5 := blk_cell HX5.out 5; have y6 := blk_cell HX5.out 6; simp only [List.getElem?_toArray, List.getElem?_cons_zero, List.getElem?_cons_succ] at y0 y1 y2 y3 y4 y5 y6
    have a0 := blk_cell HA5.out 0; have a1 := blk_cell HA5.out 1; have a2 := blk_cell HA5.out 2; have a3 := blk_cell HA5.out 3; have a4 := blk_cell HA5.out 4; have a5 := blk_cell HA5.out 5; have a6 := blk_cell HA5.out 6; simp only [List.getElem?_toArray, List.getElem?_cons_zero, List.getElem?_cons_succ] at a0 a1 a2 a3 a4 a5 a6
    have g0 := blk_free HA5.out 0; have g1 := blk_free HA5.out 1; have g2 := blk_free HA5.out 2; have g3 := blk_free HA5.out 3; have g4 := blk_free HA5.out 4; have g5 := blk_free HA5.out 5; have g6 := blk_free HA5.out 6
    rw [HTT.out.1] at y1
    have hlA5 := blk_lt HA5.out
    have hlB5 := blk_lt HX5.out
    by_cases h32 : s.length ≤ 32
    · have g32 : ((s.length : Nat) : Int) ≤ 32 := by omega
      go_wp2_with fail
      go_region
      obtain ⟨w6, hw6⟩ : ∃ v, v = (((((((w5.setCell ⟨A, 0, none⟩ (.int .i64 (tk.kind : Int))).setCell ⟨A, 1, none⟩ (.string ⟨s.toArray⟩)).setCell ⟨A, 2, none⟩ (.int .i64 (tk.at_ : Int))).setCell ⟨A, 3, none⟩ (.int .u64 (tk.n : Int))).setCell ⟨A, 4, none⟩ (.bool tk.ty.b)).setCell ⟨A, 5, none⟩ (.bool tk.ty.sg)).setCell ⟨A, 6, none⟩ (.int .i64 tk.ty.w)).drew := ⟨_, rfl⟩
      rw [← hw6]; have hw5 : w6.heap[A]? = some (.cells #[.int .i64 (tk.kind : Int), .string ⟨s.toArray⟩, .int .i64 (tk.at_ : Int), .int .u64 (tk.n : Int), .bool tk.ty.b, .bool tk.ty.sg, .int .i64 tk.ty.w] 36 (0, 0)) := (by rw [hw6]; exact ((Kept.refl [] _).drew).heap (blk_set (blk_set (blk_set (blk_set (blk_set (blk_set (blk_set HA5.out 0 _) 1 _) 2 _) 3 _) 4 _) 5 _) 6 _) List.not_mem_nil)
      have K6 := Lib.hid (show Kept [A] w5 w6 from by rw [hw6]; exact ((((((((Kept.refl [A] w5).setCell (.inl (by simp)) _).setCell (.inl (by simp)) _).setCell (.inl (by simp)) _).setCell (.inl (by simp)) _).setCell (.inl (by simp)) _).setCell (.inl (by simp)) _).setCell (.inl (by simp)) _).drew)
      have KALL := Lib.hid (show Kept [] w w6 from kept_mix (kept_mix K2.out KB5.out (by have := HWA.out; simp; omega)) K6.out (by have := HWA.out; simp; omega)); have e0 := blk_cell hw5 0; have e1 := blk_cell hw5 1; have e2 := blk_cell hw5 2; have e3 := blk_cell hw5 3; have e4 := blk_cell hw5 4; have e5 := blk_cell hw5 5; have e6 := blk_cell hw5 6; simp only [List.getElem?_toArray, List.getElem?_cons_zero, List.getElem?_cons_succ] at e0 e1 e2 e3 e4 e5 e6; clear hw6 hw5 y0 y1 y2 y3 y4 y5 y6 a0 a1 a2 a3 a4 a5 a6 g0 g1 g2 g3 g4 g5 g6; go_wp2_with fail
      refine bodyPost_ret (v := .tuple #[tkV tk, .bool true]) (by simp [results, Tryd.results28, go_sem, tkV, HTT.out.1, e0, e1, e2, e3, e4, e5, e6]) rfl ?_
      rw [HN3.out, if_neg (by omega)]; exact ⟨⟨tk, rfl, fun y hy => by have hy := Option.some.inj hy; rw [← hy, ← HTT.out.2]⟩, KALL.out⟩
    · have g32 : ¬ ((s.length : Nat) : Int) ≤ 32 := by omega
      go_wp2_with fail
      go_region
      obtain ⟨w6, hw6⟩ : ∃ v, v = (((((((w5.setCell ⟨A, 0, none⟩ (.int .i64 (tk.kind : Int))).setCell ⟨A, 1, none⟩ (.string ⟨s.toArray⟩)).setCell ⟨A, 2, none⟩ (.int .i64 (tk.at_ : Int))).setCell ⟨A, 3, none⟩ (.int .u64 (tk.n : Int))).setCell ⟨A, 4, none⟩ (.bool tk.ty.b)).setCell ⟨A, 5, none⟩ (.bool tk.ty.sg)).setCell ⟨A, 6, none⟩ (.int .i64 tk.ty.w)).drew := ⟨_, rfl⟩
      rw [← hw6]; have hw5 : w6.heap[A]? = some (.cells #[.int .i64 (tk.kind : Int), .string ⟨s.toArray⟩, .int .i64 (tk.at_ : Int), .int .u64 (tk.n : Int), .bool tk.ty.b, .bool tk.ty.sg, .int .i64 tk.ty.w] 36 (0, 0)) := (by rw [hw6]; exact ((Kept.refl [] _).drew).heap (blk_set (blk_set (blk_set (blk_set (blk_set (blk_set (blk_set HA5.out 0 _) 1 _) 2 _) 3 _) 4 _) 5 _) 6 _) List.not_mem_nil)
      have K6 := Lib.hid (show Kept [A] w5 w6 from by rw [hw6]; exact ((((((((Kept.refl [A] w5).setCell (.inl (by simp)) _).setCell (.inl (by simp)) _).setCell (.inl (by simp)) _).setCell (.inl (by simp)) _).setCell (.inl (by simp)) _).setCell (.inl (by simp)) _).setCell (.inl (by simp)) _).drew)
      have KALL := Lib.hid (show Kept [] w w6 from kept_mix (kept_mix K2.out KB5.out (by have := HWA.out; simp; omega)) K6.out (by have := HWA.out; simp; omega)); have e0 := blk_cell hw5 0; have e1 := blk_cell hw5 1; have e2 := blk_cell hw5 2; have e3 := blk_cell hw5 3; have e4 := blk_cell hw5 4; have e5 := blk_cell hw5 5; have e6 := blk_cell hw5 6; simp only [List.getElem?_toArray, List.getElem?_cons_zero, List.getElem?_cons_succ] at e0 e1 e2 e3 e4 e5 e6; clear hw6 hw5 y0 y1 y2 y3 y4 y5 y6 a0 a1 a2 a3 a4 a5 a6 g0 g1 g2 g3 g4 g5 g6; go_wp2_with fail
      refine bodyPost_ret (v := .tuple #[tkV tk, .bool false]) (by simp [results, Tryd.results28, go_sem, tkV, HTT.out.1, e0, e1, e2, e3, e4, e5, e6] <;> omega) rfl ?_
      rw [HN3.out, if_pos (by omega)]; exact ⟨⟨tk, rfl, fun y hy => nomatch hy⟩, KALL.out⟩
  | none =>
    have HN2 := Lib.hid (show nameB (S.data.toList.drop k) = if 32 < s.length then none else some ⟨if resB s then 2 else 1, s, 0, 0, noTy⟩ from by rw [HN.out, hty])
    simp only [getTy, Option.getD_none, Option.isSome_none, tyV, noTy]
    clear hty
    go_wp2_with fail
    refine (HRS.out _).mono ?_
    rintro e w4 ⟨rfl, k4⟩
    have HX4 := Lib.hid (k4.heap (((Kept.refl [] w3).alloc (.cells #[.bool false, .bool false, .int .i64 0] 34)).heap HX3.out List.not_mem_nil) List.not_mem_nil)
    have KB4 := Lib.hid (show Kept [B] w2 w4 from kept_mix (KB3.out.alloc (.cells #[.bool false, .bool false, .int .i64 0] 34)) k4 (by simp))
    clear k4 b0 b1 b4 b5 b6 f0 f4 f5 f6
    have b0 := blk_cell HX4.out 0
    simp only [List.getElem?_toArray, List.getElem?_cons_zero, List.getElem?_cons_succ] at b0
    have f0 := blk_free HX4.out 0
    have hlB4 := blk_lt HX4.out
    cases hrb : resB s with
    | true =>
      obtain ⟨tk, htk⟩ : ∃ tk : Tk, tk = ⟨2, s, k, 0, noTy⟩ := ⟨_, rfl⟩
      have HN3 := Lib.hid (show nameB (S.data.toList.drop k) = if 32 < s.length then none else some { tk with at_ := 0 } from by rw [HN2.out, htk, hrb]; rfl)
      have HTT := Lib.hid (show tk.text = s ∧ tk.at_ = k from by rw [htk]; exact ⟨rfl, rfl⟩)
      obtain ⟨w5, hw5⟩ : ∃ v, v = w4.setCell ⟨B, 0, none⟩ (.int .i64 2) := ⟨_, rfl⟩
      have HX5 := Lib.hid (show w5.heap[B]? = some (.cells #[.int .i64 (tk.kind : Int), .string ⟨tk.text.toArray⟩, .int .i64 (tk.at_ : Int), .int .u64 (tk.n : Int), .bool tk.ty.b, .bool tk.ty.sg, .int .i64 tk.ty.w] 36 (0, 0)) from by
        rw [htk, hw5]
        exact blk_set HX4.out 0 (.int .i64 2))
      have KB5 := Lib.hid (show Kept [B] w2 w5 from by rw [hw5]; exact KB4.out.setCell (.inl (by simp)) _)
      have HA5 := Lib.hid (KB5.out.heap HA2.out (by simp; omega))
      have HW5 := Lib.hid hw5
      clear htk hw5 hrb
      by_cases h32 : s.length ≤ 32
      · have g32 : ((s.length : Nat) : Int) ≤ 32 := by omega
        go_wp2_with fail
        rw [← HW5.out]
        clear b0 f0
        have y0 := blk_cell HX5.out 0; have y1 := blk_cell HX5.out 1; have y2 := blk_cell HX5.out 2; have y3 := blk_cell HX5.out 3; have y4 := blk_cell HX5.out 4; have y5 := blk_cell HX5.out 5; have y6 := blk_cell HX5.out 6; simp only [List.getElem?_toArray, List.getElem?_cons_zero, List.getElem?_cons_succ] at y0 y1 y2 y3 y4 y5 y6
        have a0 := blk_cell HA5.out 0; have a1 := blk_cell HA5.out 1; have a2 := blk_cell HA5.out 2; have a3 := blk_cell HA5.out 3; have a4 := blk_cell HA5.out 4; have a5 := blk_cell HA5.out 5; have a6 := blk_cell HA5.out 6; simp only [List.getElem?_toArray, List.getElem?_cons_zero, List.getElem?_cons_succ] at a0 a1 a2 a3 a4 a5 a6
        have g0 := blk_free HA5.out 0; have g1 := blk_free HA5.out 1; have g2 := blk_free HA5.out 2; have g3 := blk_free HA5.out 3; have g4 := blk_free HA5.out 4; have g5 := blk_free HA5.out 5; have g6 := blk_free HA5.out 6
        rw [HTT.out.1] at y1
        go_region
        obtain ⟨w6, hw6⟩ : ∃ v, v = (((((((w5.setCell ⟨A, 0, none⟩ (.int .i64 (tk.kind : Int))).setCell ⟨A, 1, none⟩ (.string ⟨s.toArray⟩)).setCell ⟨A, 2, none⟩ (.int .i64 (tk.at_ : Int))).setCell ⟨A, 3, none⟩ (.int .u64 (tk.n : Int))).setCell ⟨A, 4, none⟩ (.bool tk.ty.b)).setCell ⟨A, 5, none⟩ (.bool tk.ty.sg)).setCell ⟨A, 6, none⟩ (.int .i64 tk.ty.w)).drew := ⟨_, rfl⟩
        rw [← hw6]; have hw5 : w6.heap[A]? = some (.cells #[.int .i64 (tk.kind : Int), .string ⟨s.toArray⟩, .int .i64 (tk.at_ : Int), .int .u64 (tk.n : Int), .bool tk.ty.b, .bool tk.ty.sg, .int .i64 tk.ty.w] 36 (0, 0)) := (by rw [hw6]; exact ((Kept.refl [] _).drew).heap (blk_set (blk_set (blk_set (blk_set (blk_set (blk_set (blk_set HA5.out 0 _) 1 _) 2 _) 3 _) 4 _) 5 _) 6 _) List.not_mem_nil)
        have K6 := Lib.hid (show Kept [A] w5 w6 from by rw [hw6]; exact ((((((((Kept.refl [A] w5).setCell (.inl (by simp)) _).setCell (.inl (by simp)) _).setCell (.inl (by simp)) _).setCell (.inl (by simp)) _).setCell (.inl (by simp)) _).setCell (.inl (by simp)) _).setCell (.inl (by simp)) _).drew)
        have KALL := Lib.hid (show Kept [] w w6 from kept_mix (kept_mix K2.out KB5.out (by have := HWA.out; simp; omega)) K6.out (by have := HWA.out; simp; omega)); have e0 := blk_cell hw5 0; have e1 := blk_cell hw5 1; have e2 := blk_cell hw5 2; have e3 := blk_cell hw5 3; have e4 := blk_cell hw5 4; have e5 := blk_cell hw5 5; have e6 := blk_cell hw5 6; simp only [List.getElem?_toArray, List.getElem?_cons_zero, List.getElem?_cons_succ] at e0 e1 e2 e3 e4 e5 e6; clear hw6 hw5 y0 y1 y2 y3 y4 y5 y6 a0 a1 a2 a3 a4 a5 a6 g0 g1 g2 g3 g4 g5 g6; go_wp2_with fail
        refine bodyPost_ret (v := .tuple #[tkV tk, .bool true]) (by simp [results, Tryd.results28, go_sem, tkV, HTT.out.1, e0, e1, e2, e3, e4, e5, e6]) rfl ?_
        rw [HN3.out, if_neg (by omega)]; exact ⟨⟨tk, rfl, fun y hy => by have hy := Option.some.inj hy; rw [← hy, ← HTT.out.2]⟩, KALL.out⟩
      · have g32 : ¬ ((s.length : Nat) : Int) ≤ 32 := by omega
        go_wp2_with fail
        rw [← HW5.out]
        clear b0 f0
        have y0 := blk_cell HX5.out 0; have y1 := blk_cell HX5.out 1; have y2 := blk_cell HX5.out 2; have y3 := blk_cell HX5.out 3; have y4 := blk_cell HX5.out 4; have y5 := blk_cell HX5.out 5; have y6 := blk_cell HX5.out 6; simp only [List.getElem?_toArray, List.getElem?_cons_zero, List.getElem?_cons_succ] at y0 y1 y2 y3 y4 y5 y6
        have a0 := blk_cell HA5.out 0; have a1 := blk_cell HA5.out 1; have a2 := blk_cell HA5.out 2; have a3 := blk_cell HA5.out 3; have a4 := blk_cell HA5.out 4; have a5 := blk_cell HA5.out 5; have a6 := blk_cell HA5.out 6; simp only [List.getElem?_toArray, List.getElem?_cons_zero, List.getElem?_cons_succ] at a0 a1 a2 a3 a4 a5 a6
        have g0 := blk_free HA5.out 0; have g1 := blk_free HA5.out 1; have g2 := blk_free HA5.out 2; have g3 := blk_free HA5.out 3; have g4 := blk_free HA5.out 4; have g5 := blk_free HA5.out 5; have g6 := blk_free HA5.out 6
        rw [HTT.out.1] at y1
        go_region
        obtain ⟨w6, hw6⟩ : ∃ v, v = (((((((w5.setCell ⟨A, 0, none⟩ (.int .i64 (tk.kind : Int))).setCell ⟨A, 1, none⟩ (.string ⟨s.toArray⟩)).setCell ⟨A, 2, none⟩ (.int .i64 (tk.at_ : Int))).setCell ⟨A, 3, none⟩ (.int .u64 (tk.n : Int))).setCell ⟨A, 4, none⟩ (.bool tk.ty.b)).setCell ⟨A, 5, none⟩ (.bool tk.ty.sg)).setCell ⟨A, 6, none⟩ (.int .i64 tk.ty.w)).drew := ⟨_, rfl⟩
        rw [← hw6]; have hw5 : w6.heap[A]? = some (.cells #[.int .i64 (tk.kind : Int), .string ⟨s.toArray⟩, .int .i64 (tk.at_ : Int), .int .u64 (tk.n : Int), .bool tk.ty.b, .bool tk.ty.sg, .int .i64 tk.ty.w] 36 (0, 0)) := (by rw [hw6]; exact ((Kept.refl [] _).drew).heap (blk_set (blk_set (blk_set (blk_set (blk_set (blk_set (blk_set HA5.out 0 _) 1 _) 2 _) 3 _) 4 _) 5 _) 6 _) List.not_mem_nil)
        have K6 := Lib.hid (show Kept [A] w5 w6 from by rw [hw6]; exact ((((((((Kept.refl [A] w5).setCell (.inl (by simp)) _).setCell (.inl (by simp)) _).setCell (.inl (by simp)) _).setCell (.inl (by simp)) _).setCell (.inl (by simp)) _).setCell (.inl (by simp)) _).setCell (.inl (by simp)) _).drew)
        have KALL := Lib.hid (show Kept [] w w6 from kept_mix (kept_mix K2.out KB5.out (by have := HWA.out; simp; omega)) K6.out (by have := HWA.out; simp; omega)); have e0 := blk_cell hw5 0; have e1 := blk_cell hw5 1; have e2 := blk_cell hw5 2; have e3 := blk_cell hw5 3; have e4 := blk_cell hw5 4; have e5 := blk_cell hw5 5; have e6 := blk_cell hw5 6; simp only [List.getElem?_toArray, List.getElem?_cons_zero, List.getElem?_cons_succ] at e0 e1 e2 e3 e4 e5 e6; clear hw6 hw5 y0 y1 y2 y3 y4 y5 y6 a0 a1 a2 a3 a4 a5 a6 g0 g1 g2 g3 g4 g5 g6; go_wp2_with fail
        refine bodyPost_ret (v := .tuple #[tkV tk, .bool false]) (by simp [results, Tryd.results28, go_sem, tkV, HTT.out.1, e0, e1, e2, e3, e4, e5, e6] <;> omega) rfl ?_
        rw [HN3.out, if_pos (by omega)]; exact ⟨⟨tk, rfl, fun y hy => nomatch hy⟩, KALL.out⟩
    | false =>
      obtain ⟨tk, htk⟩ : ∃ tk : Tk, tk = ⟨1, s, k, 0, noTy⟩ := ⟨_, rfl⟩
      have HN3 := Lib.hid (show nameB (S.data.toList.drop k) = if 32 < s.length then none else some { tk with at_ := 0 } from by rw [HN2.out, htk, hrb]; rfl)
      have HTT := Lib.hid (show tk.text = s ∧ tk.at_ = k from by rw [htk]; exact ⟨rfl, rfl⟩)
      obtain ⟨w5, hw5⟩ : ∃ v, v = w4 := ⟨_, rfl⟩
      have HX5 := Lib.hid (show w5.heap[B]? = some (.cells #[.int .i64 (tk.kind : Int), .string ⟨tk.text.toArray⟩, .int .i64 (tk.at_ : Int), .int .u64 (tk.n : Int), .bool tk.ty.b, .bool tk.ty.sg, .int .i64 tk.ty.w] 36 (0, 0)) from by
        rw [htk, hw5]
        exact HX4.out)
      have KB5 := Lib.hid (show Kept [B] w2 w5 from by rw [hw5]; exact KB4.out)
      have HA5 := Lib.hid (KB5.out.heap HA2.out (by simp; omega))
      have HW5 := Lib.hid hw5
      clear htk hw5 hrb
      by_cases h32 : s.length ≤ 32
      · have g32 : ((s.length : Nat) : Int) ≤ 32 := by omega
        go_wp2_with fail
        rw [← HW5.out]
        clear b0 f0
        have y0 := blk_cell HX5.out 0; have y1 := blk_cell HX5.out 1; have y2 := blk_cell HX5.out 2; have y3 := blk_cell HX5.out 3; have y4 := blk_cell HX5.out 4; have y5 := blk_cell HX5.out 5; have y6 := blk_cell HX5.out 6; simp only [List.getElem?_toArray, List.getElem?_cons_zero, List.getElem?_cons_succ] at y0 y1 y2 y3 y4 y5 y6
        have a0 := blk_cell HA5.out 0; have a1 := blk_cell HA5.out 1; have a2 := blk_cell HA5.out 2; have a3 := blk_cell HA5.out 3; have a4 := blk_cell HA5.out 4; have a5 := blk_cell HA5.out 5; have a6 := blk_cell HA5.out 6; simp only [List.getElem?_toArray, List.getElem?_cons_zero, List.getElem?_cons_succ] at a0 a1 a2 a3 a4 a5 a6
        have g0 := blk_free HA5.out 0; have g1 := blk_free HA5.out 1; have g2 := blk_free HA5.out 2; have g3 := blk_free HA5.out 3; have g4 := blk_free HA5.out 4; have g5 := blk_free HA5.out 5; have g6 := blk_free HA5.out 6
        rw [HTT.out.1] at y1
        go_region
        obtain ⟨w6, hw6⟩ : ∃ v, v = (((((((w5.setCell ⟨A, 0, none⟩ (.int .i64 (tk.kind : Int))).setCell ⟨A, 1, none⟩ (.string ⟨s.toArray⟩)).setCell ⟨A, 2, none⟩ (.int .i64 (tk.at_ : Int))).setCell ⟨A, 3, none⟩ (.int .u64 (tk.n : Int))).setCell ⟨A, 4, none⟩ (.bool tk.ty.b)).setCell ⟨A, 5, none⟩ (.bool tk.ty.sg)).setCell ⟨A, 6, none⟩ (.int .i64 tk.ty.w)).drew := ⟨_, rfl⟩
        rw [← hw6]; have hw5 : w6.heap[A]? = some (.cells #[.int .i64 (tk.kind : Int), .string ⟨s.toArray⟩, .int .i64 (tk.at_ : Int), .int .u64 (tk.n : Int), .bool tk.ty.b, .bool tk.ty.sg, .int .i64 tk.ty.w] 36 (0, 0)) := (by rw [hw6]; exact ((Kept.refl [] _).drew).heap (blk_set (blk_set (blk_set (blk_set (blk_set (blk_set (blk_set HA5.out 0 _) 1 _) 2 _) 3 _) 4 _) 5 _) 6 _) List.not_mem_nil)
        have K6 := Lib.hid (show Kept [A] w5 w6 from by rw [hw6]; exact ((((((((Kept.refl [A] w5).setCell (.inl (by simp)) _).setCell (.inl (by simp)) _).setCell (.inl (by simp)) _).setCell (.inl (by simp)) _).setCell (.inl (by simp)) _).setCell (.inl (by simp)) _).setCell (.inl (by simp)) _).drew)
        have KALL := Lib.hid (show Kept [] w w6 from kept_mix (kept_mix K2.out KB5.out (by have := HWA.out; simp; omega)) K6.out (by have := HWA.out; simp; omega)); have e0 := blk_cell hw5 0; have e1 := blk_cell hw5 1; have e2 := blk_cell hw5 2; have e3 := blk_cell hw5 3; have e4 := blk_cell hw5 4; have e5 := blk_cell hw5 5; have e6 := blk_cell hw5 6; simp only [List.getElem?_toArray, List.getElem?_cons_zero, List.getElem?_cons_succ] at e0 e1 e2 e3 e4 e5 e6; clear hw6 hw5 y0 y1 y2 y3 y4 y5 y6 a0 a1 a2 a3 a4 a5 a6 g0 g1 g2 g3 g4 g5 g6; go_wp2_with fail
        refine bodyPost_ret (v := .tuple #[tkV tk, .bool true]) (by simp [results, Tryd.results28, go_sem, tkV, HTT.out.1, e0, e1, e2, e3, e4, e5, e6]) rfl ?_
        rw [HN3.out, if_neg (by omega)]; exact ⟨⟨tk, rfl, fun y hy => by have hy := Option.some.inj hy; rw [← hy, ← HTT.out.2]⟩, KALL.out⟩
      · have g32 : ¬ ((s.length : Nat) : Int) ≤ 32 := by omega
        go_wp2_with fail
        rw [← HW5.out]
        clear b0 f0
        have y0 := blk_cell HX5.out 0; have y1 := blk_cell HX5.out 1; have y2 := blk_cell HX5.out 2; have y3 := blk_cell HX5.out 3; have y4 := blk_cell HX5.out 4; have y5 := blk_cell HX5.out 5; have y6 := blk_cell HX5.out 6; simp only [List.getElem?_toArray, List.getElem?_cons_zero, List.getElem?_cons_succ] at y0 y1 y2 y3 y4 y5 y6
        have a0 := blk_cell HA5.out 0; have a1 := blk_cell HA5.out 1; have a2 := blk_cell HA5.out 2; have a3 := blk_cell HA5.out 3; have a4 := blk_cell HA5.out 4; have a5 := blk_cell HA5.out 5; have a6 := blk_cell HA5.out 6; simp only [List.getElem?_toArray, List.getElem?_cons_zero, List.getElem?_cons_succ] at a0 a1 a2 a3 a4 a5 a6
        have g0 := blk_free HA5.out 0; have g1 := blk_free HA5.out 1; have g2 := blk_free HA5.out 2; have g3 := blk_free HA5.out 3; have g4 := blk_free HA5.out 4; have g5 := blk_free HA5.out 5; have g6 := blk_free HA5.out 6
        rw [HTT.out.1] at y1
        go_region
        obtain ⟨w6, hw6⟩ : ∃ v, v = (((((((w5.setCell ⟨A, 0, none⟩ (.int .i64 (tk.kind : Int))).setCell ⟨A, 1, none⟩ (.string ⟨s.toArray⟩)).setCell ⟨A, 2, none⟩ (.int .i64 (tk.at_ : Int))).setCell ⟨A, 3, none⟩ (.int .u64 (tk.n : Int))).setCell ⟨A, 4, none⟩ (.bool tk.ty.b)).setCell ⟨A, 5, none⟩ (.bool tk.ty.sg)).setCell ⟨A, 6, none⟩ (.int .i64 tk.ty.w)).drew := ⟨_, rfl⟩
        rw [← hw6]; have hw5 : w6.heap[A]? = some (.cells #[.int .i64 (tk.kind : Int), .string ⟨s.toArray⟩, .int .i64 (tk.at_ : Int), .int .u64 (tk.n : Int), .bool tk.ty.b, .bool tk.ty.sg, .int .i64 tk.ty.w] 36 (0, 0)) := (by rw [hw6]; exact ((Kept.refl [] _).drew).heap (blk_set (blk_set (blk_set (blk_set (blk_set (blk_set (blk_set HA5.out 0 _) 1 _) 2 _) 3 _) 4 _) 5 _) 6 _) List.not_mem_nil)
        have K6 := Lib.hid (show Kept [A] w5 w6 from by rw [hw6]; exact ((((((((Kept.refl [A] w5).setCell (.inl (by simp)) _).setCell (.inl (by simp)) _).setCell (.inl (by simp)) _).setCell (.inl (by simp)) _).setCell (.inl (by simp)) _).setCell (.inl (by simp)) _).setCell (.inl (by simp)) _).drew)
        have KALL := Lib.hid (show Kept [] w w6 from kept_mix (kept_mix K2.out KB5.out (by have := HWA.out; simp; omega)) K6.out (by have := HWA.out; simp; omega)); have e0 := blk_cell hw5 0; have e1 := blk_cell hw5 1; have e2 := blk_cell hw5 2; have e3 := blk_cell hw5 3; have e4 := blk_cell hw5 4; have e5 := blk_cell hw5 5; have e6 := blk_cell hw5 6; simp only [List.getElem?_toArray, List.getElem?_cons_zero, List.getElem?_cons_succ] at e0 e1 e2 e3 e4 e5 e6; clear hw6 hw5 y0 y1 y2 y3 y4 y5 y6 a0 a1 a2 a3 a4 a5 a6 g0 g1 g2 g3 g4 g5 g6; go_wp2_with fail
        refine bodyPost_ret (v := .tuple #[tkV tk, .bool false]) (by simp [results, Tryd.results28, go_sem, tkV, HTT.out.1, e0, e1, e2, e3, e4, e5, e6] <;> omega) rfl ?_
        rw [HN3.out, if_pos (by omega)]; exact ⟨⟨tk, rfl, fun y hy => nomatch hy⟩, KALL.out⟩
end Go.Proofs.YtjnjldbegngooaaDoor
