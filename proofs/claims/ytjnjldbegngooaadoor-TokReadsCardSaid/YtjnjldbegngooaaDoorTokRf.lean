/-
  Law 15's document: one token: a sign.
-/
import Derived.Test.YtjnjldbegngooaaDoorTokRe
namespace Go.Proofs.YtjnjldbegngooaaDoor
open Go.ChangeShapes Go.WideShapes Go.ChangeAt Go.RowKit
set_option linter.unusedVariables false
set_option linter.unusedSimpArgs false

variable {w w' w1 W : World}
def twoL : List (List UInt8) := [[45, 62], [60, 60], [62, 62], [60, 61], [62, 61], [60, 62]]
def onesL : List UInt8 := [40, 41, 44, 59, 58, 61, 60, 62, 43, 45, 42]
theorem sign_two (c d : UInt8) (r : List UInt8) (h : [c, d] ∈ twoL) : signB (c :: d :: r) = some ⟨6, [c, d], 0, 0, noTy⟩ := by
  simp only [twoL, List.mem_cons, List.cons.injEq, List.not_mem_nil, or_false, and_true] at h
  rcases h with ⟨rfl, rfl⟩ | ⟨rfl, rfl⟩ | ⟨rfl, rfl⟩ | ⟨rfl, rfl⟩ | ⟨rfl, rfl⟩ | ⟨rfl, rfl⟩ <;> simp [signB, signsL, List.find?, List.isPrefixOf]
theorem sign_one (c : UInt8) (r : List UInt8) (h : ∀ d q, r = d :: q → [c, d] ∉ twoL) : signB (c :: r) = if c ∈ onesL then some ⟨6, [c], 0, 0, noTy⟩ else none := by
  have hp : ∀ x ∈ twoL, x.isPrefixOf (c :: r) = false := by
    intro x hx
    cases hxb : x.isPrefixOf (c :: r) with
    | false => rfl
    | true =>
      exfalso
      have hl : ∀ x ∈ twoL, ∃ a b, x = [a, b] := by
        intro x hx
        simp only [twoL, List.mem_cons, List.not_mem_nil, or_false] at hx
        rcases hx with rfl | rfl | rfl | rfl | rfl | rfl <;> exact ⟨_, _, rfl⟩
      obtain ⟨a, b, rfl⟩ := hl x hx
      cases r with
      | nil => simp [List.isPrefixOf] at hxb
      | cons d q =>
        simp [List.isPrefixOf] at hxb
        obtain ⟨rfl, rfl⟩ := hxb
        exact h _ _ rfl hx
  have hs : signsL = twoL ++ onesL.map fun x => [x] := rfl
  unfold signB
  rw [hs, List.find?_append]
  have h0 : twoL.find? (fun s => s.isPrefixOf (c :: r)) = none := by
    rw [List.find?_eq_none]
    intro x hx
    rw [hp x hx]
    simp
  rw [h0, Option.none_or]
  have h1 : ∀ L : List UInt8, (L.map fun x => [x]).find? (fun s => s.isPrefixOf (c :: r)) = if c ∈ L then some [c] else none := by
    intro L
    induction L with
    | nil => simp
    | cons x L ih =>
      rw [List.map_cons, List.find?_cons]
      by_cases hx : x = c
      · subst hx
        simp [List.isPrefixOf]
      · have : ([x] : List UInt8).isPrefixOf (c :: r) = false := by simp [List.isPrefixOf, hx]
        rw [this]
        simp only
        rw [ih]
        simp [Ne.symm hx]
  rw [h1 onesL]
  split <;> rfl
set_option maxHeartbeats 3200000 in
set_option maxRecDepth 100000 in
theorem rone_sign (S : ByteArray) (k : Nat) (hk : k < S.size) (hS : S.size ≤ 140737488351232) (hb : bgB (S[k]'hk) = false) (hd : dgB (S[k]'hk) = false) (w : World) :
    Calls Tryd.prog 28 #[.string S, .int .i64 (k : Int)] w (ROnePost (signB (S.data.toList.drop k)) k w) := by
  have hX := rletter_c (S[k]'hk).toNat (UInt8.toNat_lt _)
  rw [UInt8.ofNat_toNat, hb] at hX
  have HX := Lib.hid hX
  have hY := rdigit_c (S[k]'hk).toNat (UInt8.toNat_lt _)
  rw [UInt8.ofNat_toNat, hd] at hY
  have HY := Lib.hid hY
  have HDR := Lib.hid (drop_head S k hk)
  clear hX hb hY hd
  go_enter Tryd.func28, Tryd.ntmps28
  go_wp2_with fail
  refine (HX.out _).mono ?_
  rintro e w1 ⟨rfl, hw1⟩
  go_wp2_with fail
  refine (HY.out _).mono ?_
  rintro e w2 ⟨rfl, hw2⟩
  obtain ⟨A, hA⟩ : ∃ A, A = w.heap.size := ⟨_, rfl⟩
  obtain ⟨B, hB⟩ : ∃ B, B = w.heap.size + 1 := ⟨_, rfl⟩
  have HA2 := Lib.hid (show w2.heap[A]? = some (.cells #[.int .i64 0, .string ⟨#[]⟩, .int .i64 0, .int .u64 0, .bool false, .bool false, .int .i64 0] 36 (0, 0)) from by
    rw [hw2, hA]
    exact ((Kept.refl [] _).alloc _).heap (heap_alloc_new w _) List.not_mem_nil)
  have HB2 := Lib.hid (show w2.heap[B]? = some (.cells #[.int .i64 0, .string ⟨#[]⟩, .int .i64 (k : Int), .int .u64 0, .bool false, .bool false, .int .i64 0] 36 (0, 0)) from by
    rw [hw2, hB]
    have h := heap_alloc_new (w.alloc (.cells #[.int .i64 0, .string ⟨#[]⟩, .int .i64 0, .int .u64 0, .bool false, .bool false, .int .i64 0] 36 (0, 0))) (.cells #[.int .i64 0, .string ⟨#[]⟩, .int .i64 (k : Int), .int .u64 0, .bool false, .bool false, .int .i64 0] 36 (0, 0))
    have e1 : ∀ o, (w.alloc o).heap.size = w.heap.size + 1 := fun o => by simp
    rw [e1] at h
    exact h)
  have K2 := Lib.hid (show Kept [] w w2 from by rw [hw2]; exact ((Kept.refl [] w).alloc _).alloc _)
  have hAB : A < B := by omega
  have HWA := Lib.hid (show w.heap.size ≤ A ∧ w.heap.size ≤ B from by omega)
  rw [← hB, ← hA]
  clear hw1 hw2 hA hB
  have b0 := blk_cell HB2.out 0; have b1 := blk_cell HB2.out 1; have b2 := blk_cell HB2.out 2; have b3 := blk_cell HB2.out 3; have b4 := blk_cell HB2.out 4; have b5 := blk_cell HB2.out 5; have b6 := blk_cell HB2.out 6; simp only [List.getElem?_toArray, List.getElem?_cons_zero, List.getElem?_cons_succ] at b0 b1 b2 b3 b4 b5 b6
  have a0 := blk_cell HA2.out 0; have a1 := blk_cell HA2.out 1; have a2 := blk_cell HA2.out 2; have a3 := blk_cell HA2.out 3; have a4 := blk_cell HA2.out 4; have a5 := blk_cell HA2.out 5; have a6 := blk_cell HA2.out 6; simp only [List.getElem?_toArray, List.getElem?_cons_zero, List.getElem?_cons_succ] at a0 a1 a2 a3 a4 a5 a6
  have g0 := blk_free HA2.out 0; have g1 := blk_free HA2.out 1; have g2 := blk_free HA2.out 2; have g3 := blk_free HA2.out 3; have g4 := blk_free HA2.out 4; have g5 := blk_free HA2.out 5; have g6 := blk_free HA2.out 6
  have f0 := blk_free HB2.out 0
  have f1 := blk_free HB2.out 1
  have hlB := blk_lt HB2.out
  have hlA := blk_lt HA2.out
  obtain ⟨c, hc⟩ : ∃ c, c = S[k]'hk := ⟨_, rfl⟩
  have hext1 : S.extract k (k + 1) = ⟨[c].toArray⟩ := by
    rw [ext_list, HDR.out, ← hc]
    simp
  by_cases h2 : k + 1 < S.size
  · obtain ⟨d, hd⟩ : ∃ d, d = S[k + 1]'h2 := ⟨_, rfl⟩
    have hext : S.extract k (k + 2) = ⟨[c, d].toArray⟩ := by
      rw [ext_list, HDR.out, drop_head S (k + 1) h2, ← hc, ← hd]
      simp
    by_cases ht : [c, d] ∈ twoL
    · have HSB := Lib.hid (show signB (S.data.toList.drop k) = some ⟨6, [c, d], 0, 0, noTy⟩ from by
        rw [HDR.out, drop_head S (k + 1) h2, ← hc, ← hd]
        exact sign_two c d _ ht)
      obtain ⟨t, htq⟩ : ∃ t, t = [c, d] := ⟨_, rfl⟩
      rw [← htq] at ht hext HSB
      clear htq hc hd
      simp only [twoL, List.mem_cons, List.not_mem_nil, or_false] at ht
      obtain ⟨u, hu⟩ : ∃ u, u = t := ⟨_, rfl⟩
      have HU := Lib.hid hu
      clear hu
      rcases ht with rfl | rfl | rfl | rfl | rfl | rfl
      all_goals
        go_wp2_with fail
        obtain ⟨w6, hw6⟩ : ∃ v, v = (((((((((w2.setCell ⟨B, 0, none⟩ (.int .i64 6)).setCell ⟨B, 1, none⟩ (.string ⟨u.toArray⟩)).setCell ⟨A, 0, none⟩ (.int .i64 6)).setCell ⟨A, 1, none⟩ (.string ⟨u.toArray⟩)).setCell ⟨A, 2, none⟩ (.int .i64 (k : Int))).setCell ⟨A, 3, none⟩ (.int .u64 0)).setCell ⟨A, 4, none⟩ (.bool false)).setCell ⟨A, 5, none⟩ (.bool false)).setCell ⟨A, 6, none⟩ (.int .i64 0)) := ⟨_, rfl⟩
        have hw5 : w6.heap[A]? = some (.cells #[.int .i64 6, .string ⟨u.toArray⟩, .int .i64 (k : Int), .int .u64 0, .bool false, .bool false, .int .i64 0] 36 (0, 0)) := (by rw [hw6]; exact blk_set (blk_set (blk_set (blk_set (blk_set (blk_set (blk_set ((((Kept.refl [B] w2).setCell (.inl (by simp)) _).setCell (.inl (by simp)) _).heap HA2.out (by simp; omega)) 0 _) 1 _) 2 _) 3 _) 4 _) 5 _) 6 _)
        have K6 := Lib.hid (show Kept [A, B] w2 w6 from by rw [hw6]; exact ((((((((((Kept.refl [A, B] w2).setCell (.inl (by simp)) _).setCell (.inl (by simp)) _).setCell (.inl (by simp)) _).setCell (.inl (by simp)) _).setCell (.inl (by simp)) _).setCell (.inl (by simp)) _).setCell (.inl (by simp)) _).setCell (.inl (by simp)) _).setCell (.inl (by simp)) _))
        rw [HU.out] at hw6; rw [← hw6]; have KALL := Lib.hid (show Kept [] w w6 from kept_mix K2.out K6.out (by have := HWA.out; simp; omega)); have e0 := blk_cell hw5 0; have e1 := blk_cell hw5 1; have e2 := blk_cell hw5 2; have e3 := blk_cell hw5 3; have e4 := blk_cell hw5 4; have e5 := blk_cell hw5 5; have e6 := blk_cell hw5 6; simp only [List.getElem?_toArray, List.getElem?_cons_zero, List.getElem?_cons_succ] at e0 e1 e2 e3 e4 e5 e6
        refine bodyPost_ret (v := .tuple #[tkV ⟨6, u, k, 0, noTy⟩, .bool true]) (by simp [results, Tryd.results28, go_sem, tkV, noTy, e0, e1, e2, e3, e4, e5, e6]) rfl ?_
        rw [HSB.out]; exact ⟨⟨⟨6, u, k, 0, noTy⟩, rfl, fun y hy => by have hy := Option.some.inj hy; rw [← hy, HU.out]⟩, KALL.out⟩
    · have HSB := Lib.hid (show signB (S.data.toList.drop k) = if c ∈ onesL then some ⟨6, [c], 0, 0, noTy⟩ else none from by
        rw [HDR.out, drop_head S (k + 1) h2, ← hc, ← hd]
        exact sign_one c _ (fun x q hx => by injection hx with hx _; rw [← hx]; exact ht))
      obtain ⟨t, htq⟩ : ∃ t, t = [c, d] := ⟨_, rfl⟩
      rw [← htq] at ht hext
      have HC := Lib.hid hc
      clear htq hc hd
      simp only [twoL, List.mem_cons, List.not_mem_nil, or_false, not_or] at ht
      obtain ⟨t1, t2, t3, t4, t5, t6⟩ := ht
      have q1 : (t == [45, 62]) = false := by rw [beq_eq_false_iff_ne]; exact t1
      have q2 : (t == [60, 60]) = false := by rw [beq_eq_false_iff_ne]; exact t2
      have q3 : (t == [62, 62]) = false := by rw [beq_eq_false_iff_ne]; exact t3
      have q4 : (t == [60, 61]) = false := by rw [beq_eq_false_iff_ne]; exact t4
      have q5 : (t == [62, 61]) = false := by rw [beq_eq_false_iff_ne]; exact t5
      have q6 : (t == [60, 62]) = false := by rw [beq_eq_false_iff_ne]; exact t6
      clear t1 t2 t3 t4 t5 t6
      go_wp2_with fail
      obtain ⟨wL, hwL⟩ : ∃ v, v = (w2.setCell ⟨B, 0, none⟩ (.int .i64 6)).setCell ⟨B, 1, none⟩ (.string ⟨[c].toArray⟩) := ⟨_, rfl⟩
      rw [← hwL]
      have HXL := Lib.hid (show wL.heap[B]? = some (.cells #[.int .i64 6, .string ⟨[c].toArray⟩, .int .i64 (k : Int), .int .u64 0, .bool false, .bool false, .int .i64 0] 36 (0, 0)) from by rw [hwL]; exact blk_set (blk_set HB2.out 0 _) 1 _)
      have KBL := Lib.hid (show Kept [B] w2 wL from by rw [hwL]; exact ((Kept.refl [B] w2).setCell (.inl (by simp)) _).setCell (.inl (by simp)) _)
      have HAL := Lib.hid (KBL.out.heap HA2.out (by simp; omega))
      clear b0 b1 b2 b3 b4 b5 b6 a0 a1 a2 a3 a4 a5 a6 g0 g1 g2 g3 g4 g5 g6 f0 f1 hwL hext1
      go_loopw [16] (fun iv wr => ∃ i : Nat, i ≤ 11 ∧ iv = .int .i64 i ∧ Kept [] wL wr ∧ ∀ j (h : j < onesL.length), j < i → onesL[j]'h ≠ c) (fun iv _ => 11 - (intOf iv).toNat)
      case atStart => exact ⟨0, by omega, rfl, .refl _ _, fun j h h2 => by omega⟩
      case round =>
        obtain ⟨i, hi, rfl, kr, hno⟩ := hrel
        have KR := Lib.hid kr
        have HNO := Lib.hid hno
        clear kr hno
        by_cases hlt : i < 11
        · have hix : i < (⟨#[40, 41, 44, 59, 58, 61, 60, 62, 43, 45, 42]⟩ : ByteArray).size := hlt
          have hio : i < onesL.length := hlt
          have hq : (⟨#[40, 41, 44, 59, 58, 61, 60, 62, 43, 45, 42]⟩ : ByteArray)[i]'hix = onesL[i]'hio := rfl
          by_cases hcq : onesL[i]'hio = c
          · have e1 : ((((⟨#[40, 41, 44, 59, 58, 61, 60, 62, 43, 45, 42]⟩ : ByteArray)[i]'hix).toNat : Int) == ((S[k]'hk).toNat : Int)) = true := by
              rw [hq, hcq, HC.out]
              exact beq_self_eq_true _
            have HS2 := Lib.hid (show signB (S.data.toList.drop k) = some ⟨6, [c], 0, 0, noTy⟩ from by
              rw [HSB.out, if_pos (by rw [← hcq]; exact List.getElem_mem hio)])
            clear hq hcq
            go_wp2_with fail
            go_quiet (fail)
            obtain ⟨wq, hwq⟩ : ∃ V : World, V = wr.drewN nq := ⟨_, rfl⟩
            rw [← hwq]
            have KQ := Lib.hid (show Kept [] wL wq from by rw [hwq]; exact KR.out.drewN _)
            clear hwq
            have HXQ := Lib.hid (KQ.out.heap HXL.out List.not_mem_nil)
            have HAQ := Lib.hid (KQ.out.heap HAL.out List.not_mem_nil)
            have b0 := blk_cell HXQ.out 0; have b1 := blk_cell HXQ.out 1; have b2 := blk_cell HXQ.out 2; have b3 := blk_cell HXQ.out 3; have b4 := blk_cell HXQ.out 4; have b5 := blk_cell HXQ.out 5; have b6 := blk_cell HXQ.out 6; simp only [List.getElem?_toArray, List.getElem?_cons_zero, List.getElem?_cons_succ] at b0 b1 b2 b3 b4 b5 b6
            have a0 := blk_cell HAQ.out 0; have a1 := blk_cell HAQ.out 1; have a2 := blk_cell HAQ.out 2; have a3 := blk_cell HAQ.out 3; have a4 := blk_cell HAQ.out 4; have a5 := blk_cell HAQ.out 5; have a6 := blk_cell HAQ.out 6; simp only [List.getElem?_toArray, List.getElem?_cons_zero, List.getElem?_cons_succ] at a0 a1 a2 a3 a4 a5 a6
            have g0 := blk_free HAQ.out 0; have g1 := blk_free HAQ.out 1; have g2 := blk_free HAQ.out 2; have g3 := blk_free HAQ.out 3; have g4 := blk_free HAQ.out 4; have g5 := blk_free HAQ.out 5; have g6 := blk_free HAQ.out 6
            have hlB := blk_lt HXQ.out
            have hlA := blk_lt HAQ.out
            go_wp2_with fail
            obtain ⟨w6, hw6⟩ : ∃ v, v = (((((((wq.setCell ⟨A, 0, none⟩ (.int .i64 6)).setCell ⟨A, 1, none⟩ (.string ⟨[c].toArray⟩)).setCell ⟨A, 2, none⟩ (.int .i64 (k : Int))).setCell ⟨A, 3, none⟩ (.int .u64 0)).setCell ⟨A, 4, none⟩ (.bool false)).setCell ⟨A, 5, none⟩ (.bool false)).setCell ⟨A, 6, none⟩ (.int .i64 0)) := ⟨_, rfl⟩
            have hw5 : w6.heap[A]? = some (.cells #[.int .i64 6, .string ⟨[c].toArray⟩, .int .i64 (k : Int), .int .u64 0, .bool false, .bool false, .int .i64 0] 36 (0, 0)) := (by rw [hw6]; exact blk_set (blk_set (blk_set (blk_set (blk_set (blk_set (blk_set HAQ.out 0 _) 1 _) 2 _) 3 _) 4 _) 5 _) 6 _)
            have K6 := Lib.hid (show Kept [A] wq w6 from by rw [hw6]; exact (((((((Kept.refl [A] wq).setCell (.inl (by simp)) _).setCell (.inl (by simp)) _).setCell (.inl (by simp)) _).setCell (.inl (by simp)) _).setCell (.inl (by simp)) _).setCell (.inl (by simp)) _).setCell (.inl (by simp)) _)
            rw [← hw6]; have KALL := Lib.hid (show Kept [] w w6 from kept_mix (kept_mix (kept_mix K2.out KBL.out (by have := HWA.out; simp; omega)) KQ.out (by simp)) K6.out (by have := HWA.out; simp; omega)); have e0 := blk_cell hw5 0; have e1 := blk_cell hw5 1; have e2 := blk_cell hw5 2; have e3 := blk_cell hw5 3; have e4 := blk_cell hw5 4; have e5 := blk_cell hw5 5; have e6 := blk_cell hw5 6; simp only [List.getElem?_toArray, List.getElem?_cons_zero, List.getElem?_cons_succ] at e0 e1 e2 e3 e4 e5 e6
            refine bodyPost_ret (v := .tuple #[tkV ⟨6, [c], k, 0, noTy⟩, .bool true]) (by simp [results, Tryd.results28, go_sem, tkV, noTy, e0, e1, e2, e3, e4, e5, e6]) rfl ?_
            rw [HS2.out]
            exact ⟨⟨⟨6, [c], k, 0, noTy⟩, rfl, fun y hy => by have hy := Option.some.inj hy; rw [← hy]⟩, KALL.out⟩
          · have e1 : ((((⟨#[40, 41, 44, 59, 58, 61, 60, 62, 43, 45, 42]⟩ : ByteArray)[i]'hix).toNat : Int) == ((S[k]'hk).toNat : Int)) = false := by
              rw [hq, ← HC.out, beq_eq_false_iff_ne]
              intro h
              exact hcq (UInt8.toNat_inj.1 (by exact_mod_cast h))
            have HCQ := Lib.hid hcq
            clear hq hcq
            go_wp2_with fail
            go_quiet (fail)
            go_wp2_with fail
            go_roundw
            case rel => exact ⟨i + 1, by omega, by go_num, KR.out.drewN _, fun j h h2 => by
              by_cases h3 : j < i
              · exact HNO.out j h h3
              · obtain rfl : j = i := by omega
                exact HCQ.out⟩
            case measure => simp [intOf]; omega
        · obtain rfl : i = 11 := by omega
          have HS2 := Lib.hid (show signB (S.data.toList.drop k) = none from by
            rw [HSB.out, if_neg (fun h => by
              obtain ⟨j, hj, hjc⟩ := List.getElem_of_mem h
              exact HNO.out j hj hj hjc)])
          have HXQ := Lib.hid (KR.out.heap HXL.out List.not_mem_nil)
          have HAQ := Lib.hid (KR.out.heap HAL.out List.not_mem_nil)
          obtain ⟨wq, hwq⟩ : ∃ V : World, V = wr := ⟨_, rfl⟩
          rw [← hwq] at HXQ HAQ KR ⊢
          have KQ := KR
          clear hwq
          have b0 := blk_cell HXQ.out 0; have b1 := blk_cell HXQ.out 1; have b2 := blk_cell HXQ.out 2; have b3 := blk_cell HXQ.out 3; have b4 := blk_cell HXQ.out 4; have b5 := blk_cell HXQ.out 5; have b6 := blk_cell HXQ.out 6; simp only [List.getElem?_toArray, List.getElem?_cons_zero, List.getElem?_cons_succ] at b0 b1 b2 b3 b4 b5 b6
          have a0 := blk_cell HAQ.out 0; have a1 := blk_cell HAQ.out 1; have a2 := blk_cell HAQ.out 2; have a3 := blk_cell HAQ.out 3; have a4 := blk_cell HAQ.out 4; have a5 := blk_cell HAQ.out 5; have a6 := blk_cell HAQ.out 6; simp only [List.getElem?_toArray, List.getElem?_cons_zero, List.getElem?_cons_succ] at a0 a1 a2 a3 a4 a5 a6
          have g0 := blk_free HAQ.out 0; have g1 := blk_free HAQ.out 1; have g2 := blk_free HAQ.out 2; have g3 := blk_free HAQ.out 3; have g4 := blk_free HAQ.out 4; have g5 := blk_free HAQ.out 5; have g6 := blk_free HAQ.out 6
          have hlB := blk_lt HXQ.out
          have hlA := blk_lt HAQ.out
          go_wp2_with fail
          obtain ⟨w6, hw6⟩ : ∃ v, v = (((((((wq.setCell ⟨A, 0, none⟩ (.int .i64 6)).setCell ⟨A, 1, none⟩ (.string ⟨[c].toArray⟩)).setCell ⟨A, 2, none⟩ (.int .i64 (k : Int))).setCell ⟨A, 3, none⟩ (.int .u64 0)).setCell ⟨A, 4, none⟩ (.bool false)).setCell ⟨A, 5, none⟩ (.bool false)).setCell ⟨A, 6, none⟩ (.int .i64 0)) := ⟨_, rfl⟩
          have hw5 : w6.heap[A]? = some (.cells #[.int .i64 6, .string ⟨[c].toArray⟩, .int .i64 (k : Int), .int .u64 0, .bool false, .bool false, .int .i64 0] 36 (0, 0)) := (by rw [hw6]; exact blk_set (blk_set (blk_set (blk_set (blk_set (blk_set (blk_set HAQ.out 0 _) 1 _) 2 _) 3 _) 4 _) 5 _) 6 _)
          have K6 := Lib.hid (show Kept [A] wq w6 from by rw [hw6]; exact (((((((Kept.refl [A] wq).setCell (.inl (by simp)) _).setCell (.inl (by simp)) _).setCell (.inl (by simp)) _).setCell (.inl (by simp)) _).setCell (.inl (by simp)) _).setCell (.inl (by simp)) _).setCell (.inl (by simp)) _)
          rw [← hw6]; have KALL := Lib.hid (show Kept [] w w6 from kept_mix (kept_mix (kept_mix K2.out KBL.out (by have := HWA.out; simp; omega)) KQ.out (by simp)) K6.out (by have := HWA.out; simp; omega)); have e0 := blk_cell hw5 0; have e1 := blk_cell hw5 1; have e2 := blk_cell hw5 2; have e3 := blk_cell hw5 3; have e4 := blk_cell hw5 4; have e5 := blk_cell hw5 5; have e6 := blk_cell hw5 6; simp only [List.getElem?_toArray, List.getElem?_cons_zero, List.getElem?_cons_succ] at e0 e1 e2 e3 e4 e5 e6
          refine bodyPost_ret (v := .tuple #[tkV ⟨6, [c], k, 0, noTy⟩, .bool false]) (by simp [results, Tryd.results28, go_sem, tkV, noTy, e0, e1, e2, e3, e4, e5, e6]) rfl ?_
          rw [HS2.out]
          exact ⟨⟨⟨6, [c], k, 0, noTy⟩, rfl, fun y hy => nomatch hy⟩, KALL.out⟩
  · have HSB := Lib.hid (show signB (S.data.toList.drop k) = if c ∈ onesL then some ⟨6, [c], 0, 0, noTy⟩ else none from by
      have h3 : S.data.toList.drop (k + 1) = [] := List.drop_eq_nil_of_le (by have : S.data.toList.length = S.size := rfl; omega)
      rw [HDR.out, h3, ← hc]
      exact sign_one c _ (fun x q hx => by cases hx))
    have HC := Lib.hid hc
    clear hc
    go_wp2_with fail
    obtain ⟨wL, hwL⟩ : ∃ v, v = (w2.setCell ⟨B, 0, none⟩ (.int .i64 6)).setCell ⟨B, 1, none⟩ (.string ⟨[c].toArray⟩) := ⟨_, rfl⟩
    rw [← hwL]
    have HXL := Lib.hid (show wL.heap[B]? = some (.cells #[.int .i64 6, .string ⟨[c].toArray⟩, .int .i64 (k : Int), .int .u64 0, .bool false, .bool false, .int .i64 0] 36 (0, 0)) from by rw [hwL]; exact blk_set (blk_set HB2.out 0 _) 1 _)
    have KBL := Lib.hid (show Kept [B] w2 wL from by rw [hwL]; exact ((Kept.refl [B] w2).setCell (.inl (by simp)) _).setCell (.inl (by simp)) _)
    have HAL := Lib.hid (KBL.out.heap HA2.out (by simp; omega))
    clear b0 b1 b2 b3 b4 b5 b6 a0 a1 a2 a3 a4 a5 a6 g0 g1 g2 g3 g4 g5 g6 f0 f1 hwL hext1
    go_loopw [16] (fun iv wr => ∃ i : Nat, i ≤ 11 ∧ iv = .int .i64 i ∧ Kept [] wL wr ∧ ∀ j (h : j < onesL.length), j < i → onesL[j]'h ≠ c) (fun iv _ => 11 - (intOf iv).toNat)
    case atStart => exact ⟨0, by omega, rfl, .refl _ _, fun j h h2 => by omega⟩
    case round =>
      obtain ⟨i, hi, rfl, kr, hno⟩ := hrel
      have KR := Lib.hid kr
      have HNO := Lib.hid hno
      clear kr hno
      by_cases hlt : i < 11
      · have hix : i < (⟨#[40, 41, 44, 59, 58, 61, 60, 62, 43, 45, 42]⟩ : ByteArray).size := hlt
        have hio : i < onesL.length := hlt
        have hq : (⟨#[40, 41, 44, 59, 58, 61, 60, 62, 43, 45, 42]⟩ : ByteArray)[i]'hix = onesL[i]'hio := rfl
        by_cases hcq : onesL[i]'hio = c
        · have e1 : ((((⟨#[40, 41, 44, 59, 58, 61, 60, 62, 43, 45, 42]⟩ : ByteArray)[i]'hix).toNat : Int) == ((S[k]'hk).toNat : Int)) = true := by
            rw [hq, hcq, HC.out]
            exact beq_self_eq_true _
          have HS2 := Lib.hid (show signB (S.data.toList.drop k) = some ⟨6, [c], 0, 0, noTy⟩ from by
            rw [HSB.out, if_pos (by rw [← hcq]; exact List.getElem_mem hio)])
          clear hq hcq
          go_wp2_with fail
          go_quiet (fail)
          obtain ⟨wq, hwq⟩ : ∃ V : World, V = wr.drewN nq := ⟨_, rfl⟩
          rw [← hwq]
          have KQ := Lib.hid (show Kept [] wL wq from by rw [hwq]; exact KR.out.drewN _)
          clear hwq
          have HXQ := Lib.hid (KQ.out.heap HXL.out List.not_mem_nil)
          have HAQ := Lib.hid (KQ.out.heap HAL.out List.not_mem_nil)
          have b0 := blk_cell HXQ.out 0; have b1 := blk_cell HXQ.out 1; have b2 := blk_cell HXQ.out 2; have b3 := blk_cell HXQ.out 3; have b4 := blk_cell HXQ.out 4; have b5 := blk_cell HXQ.out 5; have b6 := blk_cell HXQ.out 6; simp only [List.getElem?_toArray, List.getElem?_cons_zero, List.getElem?_cons_succ] at b0 b1 b2 b3 b4 b5 b6
          have a0 := blk_cell HAQ.out 0; have a1 := blk_cell HAQ.out 1; have a2 := blk_cell HAQ.out 2; have a3 := blk_cell HAQ.out 3; have a4 := blk_cell HAQ.out 4; have a5 := blk_cell HAQ.out 5; have a6 := blk_cell HAQ.out 6; simp only [List.getElem?_toArray, List.getElem?_cons_zero, List.getElem?_cons_succ] at a0 a1 a2 a3 a4 a5 a6
          have g0 := blk_free HAQ.out 0; have g1 := blk_free HAQ.out 1; have g2 := blk_free HAQ.out 2; have g3 := blk_free HAQ.out 3; have g4 := blk_free HAQ.out 4; have g5 := blk_free HAQ.out 5; have g6 := blk_free HAQ.out 6
          have hlB := blk_lt HXQ.out
          have hlA := blk_lt HAQ.out
          go_wp2_with fail
          obtain ⟨w6, hw6⟩ : ∃ v, v = (((((((wq.setCell ⟨A, 0, none⟩ (.int .i64 6)).setCell ⟨A, 1, none⟩ (.string ⟨[c].toArray⟩)).setCell ⟨A, 2, none⟩ (.int .i64 (k : Int))).setCell ⟨A, 3, none⟩ (.int .u64 0)).setCell ⟨A, 4, none⟩ (.bool false)).setCell ⟨A, 5, none⟩ (.bool false)).setCell ⟨A, 6, none⟩ (.int .i64 0)) := ⟨_, rfl⟩
          have hw5 : w6.heap[A]? = some (.cells #[.int .i64 6, .string ⟨[c].toArray⟩, .int .i64 (k : Int), .int .u64 0, .bool false, .bool false, .int .i64 0] 36 (0, 0)) := (by rw [hw6]; exact blk_set (blk_set (blk_set (blk_set (blk_set (blk_set (blk_set HAQ.out 0 _) 1 _) 2 _) 3 _) 4 _) 5 _) 6 _)
          have K6 := Lib.hid (show Kept [A] wq w6 from by rw [hw6]; exact (((((((Kept.refl [A] wq).setCell (.inl (by simp)) _).setCell (.inl (by simp)) _).setCell (.inl (by simp)) _).setCell (.inl (by simp)) _).setCell (.inl (by simp)) _).setCell (.inl (by simp)) _).setCell (.inl (by simp)) _)
          rw [← hw6]; have KALL := Lib.hid (show Kept [] w w6 from kept_mix (kept_mix (kept_mix K2.out KBL.out (by have := HWA.out; simp; omega)) KQ.out (by simp)) K6.out (by have := HWA.out; simp; omega)); have e0 := blk_cell hw5 0; have e1 := blk_cell hw5 1; have e2 := blk_cell hw5 2; have e3 := blk_cell hw5 3; have e4 := blk_cell hw5 4; have e5 := blk_cell hw5 5; have e6 := blk_cell hw5 6; simp only [List.getElem?_toArray, List.getElem?_cons_zero, List.getElem?_cons_succ] at e0 e1 e2 e3 e4 e5 e6
          refine bodyPost_ret (v := .tuple #[tkV ⟨6, [c], k, 0, noTy⟩, .bool true]) (by simp [results, Tryd.results28, go_sem, tkV, noTy, e0, e1, e2, e3, e4, e5, e6]) rfl ?_
          rw [HS2.out]
          exact ⟨⟨⟨6, [c], k, 0, noTy⟩, rfl, fun y hy => by have hy := Option.some.inj hy; rw [← hy]⟩, KALL.out⟩
        · have e1 : ((((⟨#[40, 41, 44, 59, 58, 61, 60, 62, 43, 45, 42]⟩ : ByteArray)[i]'hix).toNat : Int) == ((S[k]'hk).toNat : Int)) = false := by
            rw [hq, ← HC.out, beq_eq_false_iff_ne]
            intro h
            exact hcq (UInt8.toNat_inj.1 (by exact_mod_cast h))
          have HCQ := Lib.hid hcq
          clear hq hcq
          go_wp2_with fail
          go_quiet (fail)
          go_wp2_with fail
          go_roundw
          case rel => exact ⟨i + 1, by omega, by go_num, KR.out.drewN _, fun j h h2 => by
            by_cases h3 : j < i
            · exact HNO.out j h h3
            · obtain rfl : j = i := by omega
              exact HCQ.out⟩
          case measure => simp [intOf]; omega
      · obtain rfl : i = 11 := by omega
        have HS2 := Lib.hid (show signB (S.data.toList.drop k) = none from by
          rw [HSB.out, if_neg (fun h => by
            obtain ⟨j, hj, hjc⟩ := List.getElem_of_mem h
            exact HNO.out j hj hj hjc)])
        have HXQ := Lib.hid (KR.out.heap HXL.out List.not_mem_nil)
        have HAQ := Lib.hid (KR.out.heap HAL.out List.not_mem_nil)
        obtain ⟨wq, hwq⟩ : ∃ V : World, V = wr := ⟨_, rfl⟩
        rw [← hwq] at HXQ HAQ KR ⊢
        have KQ := KR
        clear hwq
        have b0 := blk_cell HXQ.out 0; have b1 := blk_cell HXQ.out 1; have b2 := blk_cell HXQ.out 2; have b3 := blk_cell HXQ.out 3; have b4 := blk_cell HXQ.out 4; have b5 := blk_cell HXQ.out 5; have b6 := blk_cell HXQ.out 6; simp only [List.getElem?_toArray, List.getElem?_cons_zero, List.getElem?_cons_succ] at b0 b1 b2 b3 b4 b5 b6
        have a0 := blk_cell HAQ.out 0; have a1 := blk_cell HAQ.out 1; have a2 := blk_cell HAQ.out 2; have a3 := blk_cell HAQ.out 3; have a4 := blk_cell HAQ.out 4; have a5 := blk_cell HAQ.out 5; have a6 := blk_cell HAQ.out 6; simp only [List.getElem?_toArray, List.getElem?_cons_zero, List.getElem?_cons_succ] at a0 a1 a2 a3 a4 a5 a6
        have g0 := blk_free HAQ.out 0; have g1 := blk_free HAQ.out 1; have g2 := blk_free HAQ.out 2; have g3 := blk_free HAQ.out 3; have g4 := blk_free HAQ.out 4; have g5 := blk_free HAQ.out 5; have g6 := blk_free HAQ.out 6
        have hlB := blk_lt HXQ.out
        have hlA := blk_lt HAQ.out
        go_wp2_with fail
        obtain ⟨w6, hw6⟩ : ∃ v, v = (((((((wq.setCell ⟨A, 0, none⟩ (.int .i64 6)).setCell ⟨A, 1, none⟩ (.string ⟨[c].toArray⟩)).setCell ⟨A, 2, none⟩ (.int .i64 (k : Int))).setCell ⟨A, 3, none⟩ (.int .u64 0)).setCell ⟨A, 4, none⟩ (.bool false)).setCell ⟨A, 5, none⟩ (.bool false)).setCell ⟨A, 6, none⟩ (.int .i64 0)) := ⟨_, rfl⟩
        have hw5 : w6.heap[A]? = some (.cells #[.int .i64 6, .string ⟨[c].toArray⟩, .int .i64 (k : Int), .int .u64 0, .bool false, .bool false, .int .i64 0] 36 (0, 0)) := (by rw [hw6]; exact blk_set (blk_set (blk_set (blk_set (blk_set (blk_set (blk_set HAQ.out 0 _) 1 _) 2 _) 3 _) 4 _) 5 _) 6 _)
        have K6 := Lib.hid (show Kept [A] wq w6 from by rw [hw6]; exact (((((((Kept.refl [A] wq).setCell (.inl (by simp)) _).setCell (.inl (by simp)) _).setCell (.inl (by simp)) _).setCell (.inl (by simp)) _).setCell (.inl (by simp)) _).setCell (.inl (by simp)) _).setCell (.inl (by simp)) _)
        rw [← hw6]; have KALL := Lib.hid (show Kept [] w w6 from kept_mix (kept_mix (kept_mix K2.out KBL.out (by have := HWA.out; simp; omega)) KQ.out (by simp)) K6.out (by have := HWA.out; simp; omega)); have e0 := blk_cell hw5 0; have e1 := blk_cell hw5 1; have e2 := blk_cell hw5 2; have e3 := blk_cell hw5 3; have e4 := blk_cell hw5 4; have e5 := blk_cell hw5 5; have e6 := blk_cell hw5 6; simp only [List.getElem?_toArray, List.getElem?_cons_zero, List.getElem?_cons_succ] at e0 e1 e2 e3 e4 e5 e6
        refine bodyPost_ret (v := .tuple #[tkV ⟨6, [c], k, 0, noTy⟩, .bool false]) (by simp [results, Tryd.results28, go_sem, tkV, noTy, e0, e1, e2, e3, e4, e5, e6]) rfl ?_
        rw [HS2.out]
        exact ⟨⟨⟨6, [c], k, 0, noTy⟩, rfl, fun y hy => nomatch hy⟩, KALL.out⟩
end Go.Proofs.YtjnjldbegngooaaDoor
