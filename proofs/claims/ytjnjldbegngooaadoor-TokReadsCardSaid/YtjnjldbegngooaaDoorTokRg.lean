/-
  Law 15's document: one token: a number or a literal.
-/
import Derived.Test.YtjnjldbegngooaaDoorTokRf
import Derived.Test.YtjnjldbegngooaaDoorTokW
import Derived.Deep.RegionHeld3
import Derived.Deep.RegionWith
import Derived.Deep.DeepCutAuto
import Derived.Deep.CutBlock
namespace Go.Proofs.YtjnjldbegngooaaDoor
open Go.ChangeShapes Go.WideShapes Go.ChangeAt Go.RowKit
set_option linter.unusedVariables false
set_option linter.unusedSimpArgs false

variable {w w' w1 W : World}
theorem hold_sg (n j v : Nat) (h : n = j + 1) : holdB ⟨false, true, (n : Int)⟩ v = (!decide (v / 2 ^ j % 2 = 1) && decide (v < 2 ^ n)) := by
  subst h
  unfold holdB
  simp only [if_true, Int.toNat_natCast]
  rw [show j + 1 - 1 = j by omega, Bool.eq_iff_iff]
  simp only [decide_eq_true_eq, Bool.and_eq_true, Bool.not_eq_true', decide_eq_false_iff_not]
  have hp := Nat.two_pow_pos j
  have h2 : 2 ^ (j + 1) = 2 * 2 ^ j := by rw [Nat.pow_succ]; omega
  constructor
  · intro h
    rw [Nat.div_eq_of_lt h]
    exact ⟨by omega, by omega⟩
  · rintro ⟨h3, h4⟩
    have h5 : v / 2 ^ j < 2 := by rw [Nat.div_lt_iff_lt_mul hp]; omega
    have h6 : v / 2 ^ j = 0 := by
      generalize v / 2 ^ j = q at h3 h5
      omega
    exact (Nat.div_eq_zero_iff_lt hp).1 h6
theorem hold_un (n v : Nat) : holdB ⟨false, false, (n : Int)⟩ v = decide (v < 2 ^ n) := rfl
theorem numB_val (L d m : List UInt8) (hd : d = L.takeWhile dgB) (hm : m = (L.drop d.length).takeWhile moB) : numB L = match valO d with
  | none => none
  | some v => if m = [] then some ⟨4, d, 0, v, noTy⟩ else match typeB m with
    | none => none
    | some t => if !t.b && holdB t v then some ⟨5, d ++ m, 0, v, t⟩ else none := by
  rw [numB_eq L d m hd hm]
  unfold valO
  by_cases h : 20 < d.length ∨ 18446744073709551616 ≤ valL d
  · rw [if_pos h, if_pos h]
  · rw [if_neg h, if_neg h]
    rfl
theorem valO_lt (d : List UInt8) : (valO d).getD 0 < 18446744073709551616 := by
  unfold valO
  split
  · simp
  · simp; omega
set_option maxHeartbeats 6400000 in
set_option maxRecDepth 100000 in
theorem rone_num (S : ByteArray) (k : Nat) (hk : k < S.size) (hS : S.size ≤ 140737488351232) (hb : bgB (S[k]'hk) = false) (hd : dgB (S[k]'hk) = true) (w : World) :
    Calls Tryd.prog 28 #[.string S, .int .i64 (k : Int)] w (ROnePost (numB (S.data.toList.drop k)) k w) := by
  have hX := rletter_c (S[k]'hk).toNat (UInt8.toNat_lt _)
  rw [UInt8.ofNat_toNat, hb] at hX
  have HX := Lib.hid hX
  have hY := rdigit_c (S[k]'hk).toNat (UInt8.toNat_lt _)
  rw [UInt8.ofNat_toNat, hd] at hY
  have HY := Lib.hid hY
  clear hX hb hY hd
  obtain ⟨d, hd⟩ : ∃ d, d = (S.data.toList.drop k).takeWhile dgB := ⟨_, rfl⟩
  obtain ⟨m, hm⟩ : ∃ m, m = ((S.data.toList.drop k).drop d.length).takeWhile moB := ⟨_, rfl⟩
  have HN := Lib.hid (numB_val _ d m hd hm)
  have hlen : S.data.toList.length = S.size := rfl
  have hdl : k + d.length ≤ S.size := by
    have h1 := takeWhile_le dgB (S.data.toList.drop k)
    rw [← hd, List.length_drop] at h1
    omega
  have hml : k + d.length + m.length ≤ S.size := by
    have h1 := takeWhile_le moB ((S.data.toList.drop k).drop d.length)
    rw [← hm, List.length_drop, List.length_drop] at h1
    omega
  have hdig : DigL d := by rw [hd]; exact takeWhile_all _ _
  have hextd : S.extract k (k + d.length) = ⟨d.toArray⟩ := by
    rw [ext_list, Nat.add_sub_cancel_left]
    congr 2
    conv => rhs; rw [hd]
    rw [hd]
    exact (List.prefix_iff_eq_take.1 (List.takeWhile_prefix _)).symm
  have hextm : S.extract (k + d.length) (k + d.length + m.length) = ⟨m.toArray⟩ := by
    rw [ext_list, Nat.add_sub_cancel_left, ← List.drop_drop]
    congr 2
    conv => rhs; rw [hm]
    rw [hm]
    exact (List.prefix_iff_eq_take.1 (List.takeWhile_prefix _)).symm
  have hextdm : S.extract k (k + d.length + m.length) = ⟨(d ++ m).toArray⟩ := by
    have h1 : ∀ (L : List UInt8) (a b : Nat), L.take (a + b) = L.take a ++ (L.drop a).take b := fun L a b => List.take_add
    have e1 : (S.data.toList.drop k).take d.length = d := by
      conv => rhs; rw [hd]
      rw [hd]
      exact (List.prefix_iff_eq_take.1 (List.takeWhile_prefix _)).symm
    have e2 : ((S.data.toList.drop k).drop d.length).take m.length = m := by
      conv => rhs; rw [hm]
      rw [hm]
      exact (List.prefix_iff_eq_take.1 (List.takeWhile_prefix _)).symm
    rw [ext_list, show k + d.length + m.length - k = d.length + m.length by omega, h1, e1, e2]
  have HLG := Lib.hid (fun W => rlong_c true S k (by omega) hS W)
  have HLG2 := Lib.hid (fun W => rlong_c false S (k + d.length) hdl hS W)
  simp only [longP, Bool.false_eq_true, if_false, if_true] at HLG HLG2
  rw [← hd] at HLG
  rw [← List.drop_drop, ← hm] at HLG2
  have HLG2 := Lib.hid (fun W => (show Calls Tryd.prog 48 #[.string S, .int .i64 ((k : Int) + (d.length : Int)), .bool false] W fun e w' => e = .returned (.int .i64 (m.length : Int)) ∧ w' = W from by
    have h1 := HLG2.out W
    rw [Int.natCast_add] at h1
    exact h1))
  have HVL := Lib.hid (fun W => rvalue_c d hdig (by omega) W)
  unfold ValPost at HVL
  have HTY := Lib.hid (fun W => rtypeof_c m (by omega) W)
  unfold TypePost at HTY
  have hv64 := valO_lt d
  generalize hvo : valO d = vo at *
  clear hvo hd hm hdig hlen
  go_enter Tryd.func28, Tryd.ntmps28
  go_wp2_with fail
  refine (HX.out _).mono ?_
  rintro e w1 ⟨rfl, hw1⟩
  go_wp2_with fail
  refine (HY.out _).mono ?_
  rintro e w2 ⟨rfl, hw2⟩
  obtain ⟨A, hA⟩ : ∃ A, A = w.heap.size := ⟨_, rfl⟩
  obtain ⟨B, hB⟩ : ∃ B, B = w.heap.size + 1 := ⟨_, rfl⟩
  have HA2 := Lib.hid (show w2.heap[A]? = some (.cells #[.int .i64 0, .string ⟨#[]⟩, .int .i64 0, .int .u64 0, .bool false, .bool false, .int .i64 0] 36 (0, 0)) from by
    rw [hw2, hA]
    exact ((Kept.refl [] _).alloc _).heap (heap_alloc_new w _) List.not_mem_nil)
  have HB2 := Lib.hid (show w2.heap[B]? = some (.cells #[.int .i64 0, .string ⟨#[]⟩, .int .i64 (k : Int), .int .u64 0, .bool false, .bool false, .int .i64 0] 36 (0, 0)) from by
    rw [hw2, hB]
    have h := heap_alloc_new (w.alloc (.cells #[.int .i64 0, .string ⟨#[]⟩, .int .i64 0, .int .u64 0, .bool false, .bool false, .int .i64 0] 36 (0, 0))) (.cells #[.int .i64 0, .string ⟨#[]⟩, .int .i64 (k : Int), .int .u64 0, .bool false, .bool false, .int .i64 0] 36 (0, 0))
    have e1 : ∀ o, (w.alloc o).heap.size = w.heap.size + 1 := fun o => by simp
    rw [e1] at h
    exact h)
  have K2 := Lib.hid (show Kept [] w w2 from by rw [hw2]; exact ((Kept.refl [] w).alloc _).alloc _)
  have hAB : A < B := by omega
  have HWA := Lib.hid (show w.heap.size ≤ A ∧ w.heap.size ≤ B from by omega)
  rw [← hB, ← hA]
  clear hw1 hw2 hA hB
  go_wp2_with fail
  refine (HLG.out _).mono ?_
  rintro e w3 ⟨rfl, rfl⟩
  go_wp2_with fail
  refine (HVL.out _).mono ?_
  rintro e w3 ⟨rfl, rfl⟩
  obtain ⟨v, hv⟩ : ∃ v, v = vo.getD 0 := ⟨_, rfl⟩
  rw [← hv] at hv64 ⊢
  have HV := Lib.hid hv
  clear hv
  have HXQ := HB2
  have HAQ := HA2
  have b0 := blk_cell HXQ.out 0; have b1 := blk_cell HXQ.out 1; have b2 := blk_cell HXQ.out 2; have b3 := blk_cell HXQ.out 3; have b4 := blk_cell HXQ.out 4; have b5 := blk_cell HXQ.out 5; have b6 := blk_cell HXQ.out 6; simp only [List.getElem?_toArray, List.getElem?_cons_zero, List.getElem?_cons_succ] at b0 b1 b2 b3 b4 b5 b6
  have f0 := blk_free HXQ.out 0; have f1 := blk_free HXQ.out 1; have f3 := blk_free HXQ.out 3; have f4 := blk_free HXQ.out 4; have f5 := blk_free HXQ.out 5; have f6 := blk_free HXQ.out 6
  have a0 := blk_cell HAQ.out 0; have a1 := blk_cell HAQ.out 1; have a2 := blk_cell HAQ.out 2; have a3 := blk_cell HAQ.out 3; have a4 := blk_cell HAQ.out 4; have a5 := blk_cell HAQ.out 5; have a6 := blk_cell HAQ.out 6; simp only [List.getElem?_toArray, List.getElem?_cons_zero, List.getElem?_cons_succ] at a0 a1 a2 a3 a4 a5 a6
  have g0 := blk_free HAQ.out 0; have g1 := blk_free HAQ.out 1; have g2 := blk_free HAQ.out 2; have g3 := blk_free HAQ.out 3; have g4 := blk_free HAQ.out 4; have g5 := blk_free HAQ.out 5; have g6 := blk_free HAQ.out 6
  have hlB := blk_lt HXQ.out
  have hlA := blk_lt HAQ.out
  go_wp2_with fail
  refine (HLG2.out _).mono ?_
  rintro e w4 ⟨rfl, rfl⟩
  by_cases hm0 : m = []
  · subst hm0
    have HN2 := Lib.hid (show numB (S.data.toList.drop k) = vo.map fun v => ⟨4, d, 0, v, noTy⟩ from by rw [HN.out]; cases vo <;> rfl)
    obtain ⟨tk, htk⟩ : ∃ tk : Tk, tk = ⟨4, d, k, v, noTy⟩ := ⟨_, rfl⟩
    have HTK := Lib.hid htk
    clear htk
    go_upto_region 20 with (fail)
    obtain ⟨wq, hwq⟩ : ∃ V, V = ((w3.setCell ⟨B, 3, none⟩ (.int .u64 (v : Int))).setCell ⟨B, 0, none⟩ (.int .i64 4)).setCell ⟨B, 1, none⟩ (.string ⟨d.toArray⟩) := ⟨_, rfl⟩
    try rw [← hwq]
    have KBQ := Lib.hid (show Kept [B] w3 wq from by rw [hwq]; exact (((Kept.refl [B] w3).setCell (.inl (by simp)) _).setCell (.inl (by simp)) _).setCell (.inl (by simp)) _)
    have HXQ := Lib.hid (show wq.heap[B]? = some (.cells #[.int .i64 (tk.kind : Int), .string ⟨tk.text.toArray⟩, .int .i64 (tk.at_ : Int), .int .u64 (tk.n : Int), .bool tk.ty.b, .bool tk.ty.sg, .int .i64 tk.ty.w] 36 (0, 0)) from by
      rw [HTK.out, hwq]
      exact blk_set (blk_set (blk_set HB2.out 3 (.int .u64 (v : Int))) 0 (.int .i64 4)) 1 (.string ⟨d.toArray⟩))
    have HAQ := Lib.hid (KBQ.out.heap HA2.out (by simp; omega))
    clear hwq
    clear b0 b1 b2 b3 b4 b5 b6 a0 a1 a2 a3 a4 a5 a6 g0 g1 g2 g3 g4 g5 g6 f0 f1 f3 f4 f5 f6
    have f0 := HN2
    have f1 := f0
    have f3 := f0
    have f4 := f0
    have f5 := f0
    have f6 := f0
    clear f0 f1 f3 f4 f5 f6; have b0 := blk_cell HXQ.out 0; have b1 := blk_cell HXQ.out 1; have b2 := blk_cell HXQ.out 2; have b3 := blk_cell HXQ.out 3; have b4 := blk_cell HXQ.out 4; have b5 := blk_cell HXQ.out 5; have b6 := blk_cell HXQ.out 6; simp only [List.getElem?_toArray, List.getElem?_cons_zero, List.getElem?_cons_succ] at b0 b1 b2 b3 b4 b5 b6; have a0 := blk_cell HAQ.out 0; have a1 := blk_cell HAQ.out 1; have a2 := blk_cell HAQ.out 2; have a3 := blk_cell HAQ.out 3; have a4 := blk_cell HAQ.out 4; have a5 := blk_cell HAQ.out 5; have a6 := blk_cell HAQ.out 6; simp only [List.getElem?_toArray, List.getElem?_cons_zero, List.getElem?_cons_succ] at a0 a1 a2 a3 a4 a5 a6; have g0 := blk_free HAQ.out 0; have g1 := blk_free HAQ.out 1; have g2 := blk_free HAQ.out 2; have g3 := blk_free HAQ.out 3; have g4 := blk_free HAQ.out 4; have g5 := blk_free HAQ.out 5; have g6 := blk_free HAQ.out 6; have hlB := blk_lt HXQ.out; have hlA := blk_lt HAQ.out
    go_wp2_with fail
    obtain ⟨w6, hw6⟩ : ∃ v, v = (((((((wq.setCell ⟨A, 0, none⟩ (.int .i64 (tk.kind : Int))).setCell ⟨A, 1, none⟩ (.string ⟨tk.text.toArray⟩)).setCell ⟨A, 2, none⟩ (.int .i64 (tk.at_ : Int))).setCell ⟨A, 3, none⟩ (.int .u64 (tk.n : Int))).setCell ⟨A, 4, none⟩ (.bool tk.ty.b)).setCell ⟨A, 5, none⟩ (.bool tk.ty.sg)).setCell ⟨A, 6, none⟩ (.int .i64 tk.ty.w)) := ⟨_, rfl⟩
    have hw5 : w6.heap[A]? = some (.cells #[.int .i64 (tk.kind : Int), .string ⟨tk.text.toArray⟩, .int .i64 (tk.at_ : Int), .int .u64 (tk.n : Int), .bool tk.ty.b, .bool tk.ty.sg, .int .i64 tk.ty.w] 36 (0, 0)) := (by rw [hw6]; exact blk_set (blk_set (blk_set (blk_set (blk_set (blk_set (blk_set HAQ.out 0 _) 1 _) 2 _) 3 _) 4 _) 5 _) 6 _)
    have K6 := Lib.hid (show Kept [A] wq w6 from by rw [hw6]; exact (((((((Kept.refl [A] wq).setCell (.inl (by simp)) _).setCell (.inl (by simp)) _).setCell (.inl (by simp)) _).setCell (.inl (by simp)) _).setCell (.inl (by simp)) _).setCell (.inl (by simp)) _).setCell (.inl (by simp)) _)
    rw [← hw6]; have KALL := Lib.hid (show Kept [] w w6 from kept_mix (kept_mix K2.out KBQ.out (by have := HWA.out; simp; omega)) K6.out (by have := HWA.out; simp; omega)); have e0 := blk_cell hw5 0; have e1 := blk_cell hw5 1; have e2 := blk_cell hw5 2; have e3 := blk_cell hw5 3; have e4 := blk_cell hw5 4; have e5 := blk_cell hw5 5; have e6 := blk_cell hw5 6; simp only [List.getElem?_toArray, List.getElem?_cons_zero, List.getElem?_cons_succ] at e0 e1 e2 e3 e4 e5 e6; clear b0 b1 b2 b3 b4 b5 b6 a0 a1 a2 a3 a4 a5 a6 g0 g1 g2 g3 g4 g5 g6
    refine bodyPost_ret (v := .tuple #[tkV tk, .bool vo.isSome]) (by simp [results, Tryd.results28, go_sem, tkV, e0, e1, e2, e3, e4, e5, e6]) rfl ?_
    rw [HN2.out]
    refine ⟨⟨tk, by rw [Option.isSome_map], fun y hy => ?_⟩, KALL.out⟩
    rw [HTK.out, HV.out]
    cases vo with
    | none => exact nomatch hy
    | some x =>
      have hy := Option.some.inj hy
      rw [← hy]
      rfl
  · have HM0 := Lib.hid hm0
    have hm1 : ((m.length : Nat) : Int) ≠ 0 := by
      intro h
      exact hm0 (List.eq_nil_of_length_eq_zero (by omega))
    have hm2 : (((m.length : Nat) : Int) == 0) = false := by rw [beq_eq_false_iff_ne]; exact hm1
    clear hm0
    go_wp2_with fail
    refine (HTY.out _).mono ?_
    rintro e w4 ⟨rfl, k4⟩
    obtain ⟨t, ht⟩ : ∃ t, t = getTy (typeB m) := ⟨_, rfl⟩
    obtain ⟨gi, hgi⟩ : ∃ gi, gi = (typeB m).isSome := ⟨_, rfl⟩
    rw [← ht, ← hgi]
    have HT := Lib.hid (show typeB m = if gi then some t else none from by rw [ht, hgi]; cases typeB m <;> rfl)
    have HB4 := Lib.hid (k4.heap (blk_set (blk_set (blk_set (blk_set HB2.out 3 (.int .u64 (v : Int))) 0 (.int .i64 4)) 1 (.string ⟨(d ++ m).toArray⟩)) 0 (.int .i64 5)) List.not_mem_nil)
    have KB4 := Lib.hid (show Kept [B] w3 w4 from kept_mix (((((Kept.refl [B] w3).setCell (.inl (by simp)) (.int .u64 (v : Int))).setCell (.inl (by simp)) (.int .i64 4)).setCell (.inl (by simp)) (.string ⟨(d ++ m).toArray⟩)).setCell (.inl (by simp)) (.int .i64 5)) k4 (by simp))
    clear ht hgi k4
    obtain ⟨tb, ts, tw⟩ := t
    simp only [tyV]
    obtain ⟨tk, htk⟩ : ∃ tk : Tk, tk = ⟨5, d ++ m, k, v, ⟨tb, ts, tw⟩⟩ := ⟨_, rfl⟩
    have HTK := Lib.hid htk
    clear htk
    clear b0 b1 b2 b3 b4 b5 b6 a0 a1 a2 a3 a4 a5 a6 g0 g1 g2 g3 g4 g5 g6 f0 f1 f3 f4 f5 f6
    have b4 := blk_cell HB4.out 4
    have b5 := blk_cell HB4.out 5
    have b6 := blk_cell HB4.out 6
    simp only [List.setIfInBounds_toArray, List.set_cons_zero, List.set_cons_succ, List.getElem?_toArray, List.getElem?_cons_zero, List.getElem?_cons_succ] at b4 b5 b6
    have f4 := blk_free HB4.out 4
    have f5 := blk_free HB4.out 5
    have f6 := blk_free HB4.out 6
    have hlB4 := blk_lt HB4.out
    go_upto_region 24 with (fail)
    obtain ⟨q, hq⟩ : ∃ q, q = w4.heap.size := ⟨_, rfl⟩
    obtain ⟨wq, hwq⟩ : ∃ V, V = (((w4.setCell ⟨B, 4, none⟩ (.bool tb)).setCell ⟨B, 5, none⟩ (.bool ts)).setCell ⟨B, 6, none⟩ (.int .i64 tw)).alloc (.cells #[.bool tb, .bool ts, .int .i64 tw] 34) := ⟨_, rfl⟩
    try rw [← hwq]
    try rw [← hq]
    have KBQ := Lib.hid (show Kept [B] w3 wq from by rw [hwq]; exact (((KB4.out.setCell (.inl (by simp)) _).setCell (.inl (by simp)) _).setCell (.inl (by simp)) _).alloc _)
    have HXQ := Lib.hid (show wq.heap[B]? = some (.cells #[.int .i64 (tk.kind : Int), .string ⟨tk.text.toArray⟩, .int .i64 (tk.at_ : Int), .int .u64 (tk.n : Int), .bool tk.ty.b, .bool tk.ty.sg, .int .i64 tk.ty.w] 36 (0, 0)) from by
      rw [HTK.out, hwq]
      exact ((Kept.refl [] _).alloc _).heap (blk_set (blk_set (blk_set HB4.out 4 (.bool tb)) 5 (.bool ts)) 6 (.int .i64 tw)) List.not_mem_nil)
    have HAQ := Lib.hid (KBQ.out.heap HA2.out (by simp; omega))
    have hcq : wq.heap[q]? = some (.cells #[.bool tb, .bool ts, .int .i64 tw] 34 (0, 0)) := by
      have h := heap_alloc_new (((w4.setCell ⟨B, 4, none⟩ (.bool tb)).setCell ⟨B, 5, none⟩ (.bool ts)).setCell ⟨B, 6, none⟩ (.int .i64 tw)) (.cells #[.bool tb, .bool ts, .int .i64 tw] 34 (0, 0))
      have e : (((w4.setCell ⟨B, 4, none⟩ (.bool tb)).setCell ⟨B, 5, none⟩ (.bool ts)).setCell ⟨B, 6, none⟩ (.int .i64 tw)).heap.size = w4.heap.size := by simp
      rw [e] at h
      rw [hwq, hq]
      exact h
    have HCQ := Lib.hid hcq
    have hBq : B < q := by omega
    clear hwq hq b4 b5 b6 f4 f5 f6
    have z0 := blk_cell hcq 0
    have z1 := blk_cell hcq 1
    have z2 := blk_cell hcq 2
    simp only [List.getElem?_toArray, List.getElem?_cons_zero, List.getElem?_cons_succ] at z0 z1 z2
    have hlC := blk_lt hcq
    clear hcq
    have b0 := blk_cell HXQ.out 0; have b1 := blk_cell HXQ.out 1; have b2 := blk_cell HXQ.out 2; have b3 := blk_cell HXQ.out 3; have b4 := blk_cell HXQ.out 4; have b5 := blk_cell HXQ.out 5; have b6 := blk_cell HXQ.out 6; simp only [List.getElem?_toArray, List.getElem?_cons_zero, List.getElem?_cons_succ] at b0 b1 b2 b3 b4 b5 b6
    have a0 := blk_cell HAQ.out 0; have a1 := blk_cell HAQ.out 1; have a2 := blk_cell HAQ.out 2; have a3 := blk_cell HAQ.out 3; have a4 := blk_cell HAQ.out 4; have a5 := blk_cell HAQ.out 5; have a6 := blk_cell HAQ.out 6; simp only [List.getElem?_toArray, List.getElem?_cons_zero, List.getElem?_cons_succ] at a0 a1 a2 a3 a4 a5 a6
    have g0 := blk_free HAQ.out 0; have g1 := blk_free HAQ.out 1; have g2 := blk_free HAQ.out 2; have g3 := blk_free HAQ.out 3; have g4 := blk_free HAQ.out 4; have g5 := blk_free HAQ.out 5; have g6 := blk_free HAQ.out 6
    have hlB := blk_lt HXQ.out
    have hlA := blk_lt HAQ.out
    cases vo with
    | none =>
      have HN2 := Lib.hid (show numB (S.data.toList.drop k) = none from HN.out)
      simp only [Option.isSome_none]
      go_wp2_with fail
      obtain ⟨w6, hw6⟩ : ∃ v, v = (((((((wq.setCell ⟨A, 0, none⟩ (.int .i64 (tk.kind : Int))).setCell ⟨A, 1, none⟩ (.string ⟨tk.text.toArray⟩)).setCell ⟨A, 2, none⟩ (.int .i64 (tk.at_ : Int))).setCell ⟨A, 3, none⟩ (.int .u64 (tk.n : Int))).setCell ⟨A, 4, none⟩ (.bool tk.ty.b)).setCell ⟨A, 5, none⟩ (.bool tk.ty.sg)).setCell ⟨A, 6, none⟩ (.int .i64 tk.ty.w)) := ⟨_, rfl⟩
      have hw5 : w6.heap[A]? = some (.cells #[.int .i64 (tk.kind : Int), .string ⟨tk.text.toArray⟩, .int .i64 (tk.at_ : Int), .int .u64 (tk.n : Int), .bool tk.ty.b, .bool tk.ty.sg, .int .i64 tk.ty.w] 36 (0, 0)) := (by rw [hw6]; exact blk_set (blk_set (blk_set (blk_set (blk_set (blk_set (blk_set HAQ.out 0 _) 1 _) 2 _) 3 _) 4 _) 5 _) 6 _)
      have K6 := Lib.hid (show Kept [A] wq w6 from by rw [hw6]; exact (((((((Kept.refl [A] wq).setCell (.inl (by simp)) _).setCell (.inl (by simp)) _).setCell (.inl (by simp)) _).setCell (.inl (by simp)) _).setCell (.inl (by simp)) _).setCell (.inl (by simp)) _).setCell (.inl (by simp)) _)
      rw [← hw6]; have KALL := Lib.hid (show Kept [] w w6 from kept_mix (kept_mix K2.out KBQ.out (by have := HWA.out; simp; omega)) K6.out (by have := HWA.out; simp; omega)); have e0 := blk_cell hw5 0; have e1 := blk_cell hw5 1; have e2 := blk_cell hw5 2; have e3 := blk_cell hw5 3; have e4 := blk_cell hw5 4; have e5 := blk_cell hw5 5; have e6 := blk_cell hw5 6; simp only [List.getElem?_toArray, List.getElem?_cons_zero, List.getElem?_cons_succ] at e0 e1 e2 e3 e4 e5 e6; clear b0 b1 b2 b3 b4 b5 b6 a0 a1 a2 a3 a4 a5 a6 g0 g1 g2 g3 g4 g5 g6
      refine bodyPost_ret (v := .tuple #[tkV tk, .bool false]) (by simp [results, Tryd.results28, go_sem, tkV, e0, e1, e2, e3, e4, e5, e6]) rfl ?_
      rw [HN2.out]
      exact ⟨⟨tk, rfl, fun y hy => nomatch hy⟩, KALL.out⟩
    | some x =>
      have hvx : v = x := HV.out
      subst hvx
      simp only [Option.isSome_some]
      cases gi with
      | false =>
        have HN2 := Lib.hid (show numB (S.data.toList.drop k) = none from by
          rw [HN.out]
          simp only
          rw [if_neg HM0.out, HT.out]
          rfl)
        go_wp2_with fail
        obtain ⟨w6, hw6⟩ : ∃ v, v = (((((((wq.setCell ⟨A, 0, none⟩ (.int .i64 (tk.kind : Int))).setCell ⟨A, 1, none⟩ (.string ⟨tk.text.toArray⟩)).setCell ⟨A, 2, none⟩ (.int .i64 (tk.at_ : Int))).setCell ⟨A, 3, none⟩ (.int .u64 (tk.n : Int))).setCell ⟨A, 4, none⟩ (.bool tk.ty.b)).setCell ⟨A, 5, none⟩ (.bool tk.ty.sg)).setCell ⟨A, 6, none⟩ (.int .i64 tk.ty.w)) := ⟨_, rfl⟩
        have hw5 : w6.heap[A]? = some (.cells #[.int .i64 (tk.kind : Int), .string ⟨tk.text.toArray⟩, .int .i64 (tk.at_ : Int), .int .u64 (tk.n : Int), .bool tk.ty.b, .bool tk.ty.sg, .int .i64 tk.ty.w] 36 (0, 0)) := (by rw [hw6]; exact blk_set (blk_set (blk_set (blk_set (blk_set (blk_set (blk_set HAQ.out 0 _) 1 _) 2 _) 3 _) 4 _) 5 _) 6 _)
        have K6 := Lib.hid (show Kept [A] wq w6 from by rw [hw6]; exact (((((((Kept.refl [A] wq).setCell (.inl (by simp)) _).setCell (.inl (by simp)) _).setCell (.inl (by simp)) _).setCell (.inl (by simp)) _).setCell (.inl (by simp)) _).setCell (.inl (by simp)) _).setCell (.inl (by simp)) _)
        rw [← hw6]; have KALL := Lib.hid (show Kept [] w w6 from kept_mix (kept_mix K2.out KBQ.out (by have := HWA.out; simp; omega)) K6.out (by have := HWA.out; simp; omega)); have e0 := blk_cell hw5 0; have e1 := blk_cell hw5 1; have e2 := blk_cell hw5 2; have e3 := blk_cell hw5 3; have e4 := blk_cell hw5 4; have e5 := blk_cell hw5 5; have e6 := blk_cell hw5 6; simp only [List.getElem?_toArray, List.getElem?_cons_zero, List.getElem?_cons_succ] at e0 e1 e2 e3 e4 e5 e6; clear b0 b1 b2 b3 b4 b5 b6 a0 a1 a2 a3 a4 a5 a6 g0 g1 g2 g3 g4 g5 g6
        refine bodyPost_ret (v := .tuple #[tkV tk, .bool false]) (by simp [results, Tryd.results28, go_sem, tkV, e0, e1, e2, e3, e4, e5, e6]) rfl ?_
        rw [HN2.out]
        exact ⟨⟨tk, rfl, fun y hy => nomatch hy⟩, KALL.out⟩
      | true =>
        have HN2 := Lib.hid (show numB (S.data.toList.drop k) = if !tb && holdB ⟨tb, ts, tw⟩ v then some { tk with at_ := 0 } else none from by
          rw [HN.out]
          simp only
          rw [if_neg HM0.out, HT.out, HTK.out]
          rfl)
        have HMT := Lib.hid (say_typeB (show typeB m = some ⟨tb, ts, tw⟩ from HT.out)).1
        cases tb with
        | true =>
          have HN2 := Lib.hid (show numB (S.data.toList.drop k) = none from HN2.out)
          go_wp2_with fail
          obtain ⟨w6, hw6⟩ : ∃ v, v = (((((((wq.setCell ⟨A, 0, none⟩ (.int .i64 (tk.kind : Int))).setCell ⟨A, 1, none⟩ (.string ⟨tk.text.toArray⟩)).setCell ⟨A, 2, none⟩ (.int .i64 (tk.at_ : Int))).setCell ⟨A, 3, none⟩ (.int .u64 (tk.n : Int))).setCell ⟨A, 4, none⟩ (.bool tk.ty.b)).setCell ⟨A, 5, none⟩ (.bool tk.ty.sg)).setCell ⟨A, 6, none⟩ (.int .i64 tk.ty.w)) := ⟨_, rfl⟩
          have hw5 : w6.heap[A]? = some (.cells #[.int .i64 (tk.kind : Int), .string ⟨tk.text.toArray⟩, .int .i64 (tk.at_ : Int), .int .u64 (tk.n : Int), .bool tk.ty.b, .bool tk.ty.sg, .int .i64 tk.ty.w] 36 (0, 0)) := (by rw [hw6]; exact blk_set (blk_set (blk_set (blk_set (blk_set (blk_set (blk_set HAQ.out 0 _) 1 _) 2 _) 3 _) 4 _) 5 _) 6 _)
          have K6 := Lib.hid (show Kept [A] wq w6 from by rw [hw6]; exact (((((((Kept.refl [A] wq).setCell (.inl (by simp)) _).setCell (.inl (by simp)) _).setCell (.inl (by simp)) _).setCell (.inl (by simp)) _).setCell (.inl (by simp)) _).setCell (.inl (by simp)) _).setCell (.inl (by simp)) _)
          rw [← hw6]; have KALL := Lib.hid (show Kept [] w w6 from kept_mix (kept_mix K2.out KBQ.out (by have := HWA.out; simp; omega)) K6.out (by have := HWA.out; simp; omega)); have e0 := blk_cell hw5 0; have e1 := blk_cell hw5 1; have e2 := blk_cell hw5 2; have e3 := blk_cell hw5 3; have e4 := blk_cell hw5 4; have e5 := blk_cell hw5 5; have e6 := blk_cell hw5 6; simp only [List.getElem?_toArray, List.getElem?_cons_zero, List.getElem?_cons_succ] at e0 e1 e2 e3 e4 e5 e6; clear b0 b1 b2 b3 b4 b5 b6 a0 a1 a2 a3 a4 a5 a6 g0 g1 g2 g3 g4 g5 g6
          refine bodyPost_ret (v := .tuple #[tkV tk, .bool false]) (by simp [results, Tryd.results28, go_sem, tkV, e0, e1, e2, e3, e4, e5, e6]) rfl ?_
          rw [HN2.out]
          exact ⟨⟨tk, rfl, fun y hy => nomatch hy⟩, KALL.out⟩
        | false =>
          have hmt := mayTy_num HMT.out rfl
          simp only at hmt
          obtain ⟨n, hn⟩ : ∃ n : Nat, tw = (n : Int) := ⟨tw.toNat, by omega⟩
          subst hn
          obtain ⟨h1, h2⟩ := hmt
          have h1 : 1 ≤ n := by omega
          have h2 : n ≤ 64 := by omega
          have HIS := Lib.hid (fun W => ris_c ts n v h1 h2 hv64 W)
          simp only [tyV] at HIS
          cases ts with
          | false =>
            have HN3 := Lib.hid (show numB (S.data.toList.drop k) = if decide (v < 2 ^ n) then some { tk with at_ := 0 } else none from HN2.out)
            generalize decide (v < 2 ^ n) = hb at *
            go_wp2_with fail
            go_quiet (fail)
            obtain ⟨wr, hwr⟩ : ∃ V : World, V = wq.drewN nq := ⟨_, rfl⟩
            rw [← hwr]
            have KQR := Lib.hid (show Kept [] wq wr from by rw [hwr]; exact (Kept.refl [] wq).drewN _)
            clear hwr
            have KBRD := Lib.hid (show Kept [B] w3 wr.drew from (kept_mix KBQ.out KQR.out (by simp)).drew)
            have HXR := Lib.hid (KQR.out.heap HXQ.out List.not_mem_nil)
            have HCR := Lib.hid (KQR.out.heap HCQ.out List.not_mem_nil)
            have HARD := Lib.hid (show wr.drew.heap[A]? = _ from KQR.out.heap HAQ.out List.not_mem_nil)
            clear b0 b1 b2 b3 b4 b5 b6 a0 a1 a2 a3 a4 a5 a6 g0 g1 g2 g3 g4 g5 g6 z0 z1 z2 hlA hlB hlC
            have b0 := blk_cell HXR.out 0
            have b1 := blk_cell HXR.out 1
            have b2 := blk_cell HXR.out 2
            have b3 := blk_cell HXR.out 3
            have b4 := blk_cell HXR.out 4
            have b5 := blk_cell HXR.out 5
            have b6 := blk_cell HXR.out 6
            have z0 := blk_cell HCR.out 0
            have z1 := blk_cell HCR.out 1
            have z2 := blk_cell HCR.out 2
            simp only [List.getElem?_toArray, List.getElem?_cons_zero, List.getElem?_cons_succ] at b0 b1 b2 b3 b4 b5 b6 z0 z1 z2
            have hlB := blk_lt HXR.out
            have hlC := blk_lt HCR.out
            go_wp2_with fail
            have b0d : wr.drew.cell? ⟨B, 0, none⟩ = some (.int .i64 (tk.kind : Int)) := b0
            have b1d : wr.drew.cell? ⟨B, 1, none⟩ = some (.string ⟨tk.text.toArray⟩) := b1
            have b2d : wr.drew.cell? ⟨B, 2, none⟩ = some (.int .i64 (tk.at_ : Int)) := b2
            have b3d : wr.drew.cell? ⟨B, 3, none⟩ = some (.int .u64 (tk.n : Int)) := b3
            have b4d : wr.drew.cell? ⟨B, 4, none⟩ = some (.bool tk.ty.b) := b4
            have b5d : wr.drew.cell? ⟨B, 5, none⟩ = some (.bool tk.ty.sg) := b5
            have b6d : wr.drew.cell? ⟨B, 6, none⟩ = some (.int .i64 tk.ty.w) := b6
            have z0d : wr.drew.cell? ⟨q, 0, none⟩ = some (.bool false) := z0
            have z1d : wr.drew.cell? ⟨q, 1, none⟩ = some (.bool false) := z1
            have z2d : wr.drew.cell? ⟨q, 2, none⟩ = some (.int .i64 (n : Int)) := z2
            have hBAn : B ≠ A := by omega
            have hqAn : q ≠ A := by omega
            go_region_held3 (fun V => V.cell? ⟨B, 0, none⟩ = some (.int .i64 (tk.kind : Int)) ∧ V.cell? ⟨B, 1, none⟩ = some (.string ⟨tk.text.toArray⟩) ∧ V.cell? ⟨B, 2, none⟩ = some (.int .i64 (tk.at_ : Int)) ∧ V.cell? ⟨B, 3, none⟩ = some (.int .u64 (tk.n : Int)) ∧ V.cell? ⟨B, 4, none⟩ = some (.bool tk.ty.b) ∧ V.cell? ⟨B, 5, none⟩ = some (.bool tk.ty.sg) ∧ V.cell? ⟨B, 6, none⟩ = some (.int .i64 tk.ty.w) ∧ V.cell? ⟨q, 0, none⟩ = some (.bool false) ∧ V.cell? ⟨q, 1, none⟩ = some (.bool false) ∧ V.cell? ⟨q, 2, none⟩ = some (.int .i64 (n : Int)))
              (refine ⟨?_, ?_, ?_, ?_, ?_, ?_, ?_, ?_, ?_, ?_⟩ <;> (repeat (first | with_reducible assumption | with_reducible apply cell_farT hBAn | with_reducible apply cell_farT hqAn | with_reducible refine k6n.cell ?_ List.not_mem_nil)))
              ((go_at_call 52; (with_reducible refine (HIS.out _).mono ?_); rintro e wq ⟨rfl, k6n⟩; (have HAQ := Lib.hid (k6n.heap HARD.out List.not_mem_nil)); have a0 := blk_cell HAQ.out 0; have a1 := blk_cell HAQ.out 1; have a2 := blk_cell HAQ.out 2; have a3 := blk_cell HAQ.out 3; have a4 := blk_cell HAQ.out 4; have a5 := blk_cell HAQ.out 5; have a6 := blk_cell HAQ.out 6; simp only [List.getElem?_toArray, List.getElem?_cons_zero, List.getElem?_cons_succ] at a0 a1 a2 a3 a4 a5 a6; have g0 := blk_free HAQ.out 0; have g1 := blk_free HAQ.out 1; have g2 := blk_free HAQ.out 2; have g3 := blk_free HAQ.out 3; have g4 := blk_free HAQ.out 4; have g5 := blk_free HAQ.out 5; have g6 := blk_free HAQ.out 6))
            have KBQ := Lib.hid (kept_mix KBRD.out k6n (by simp))
            clear k6n b0d b1d b2d b3d b4d b5d b6d z0d z1d z2d z0 z1 z2
            obtain ⟨w6, hw6⟩ : ∃ v, v = (((((((wq.setCell ⟨A, 0, none⟩ (.int .i64 (tk.kind : Int))).setCell ⟨A, 1, none⟩ (.string ⟨tk.text.toArray⟩)).setCell ⟨A, 2, none⟩ (.int .i64 (tk.at_ : Int))).setCell ⟨A, 3, none⟩ (.int .u64 (tk.n : Int))).setCell ⟨A, 4, none⟩ (.bool tk.ty.b)).setCell ⟨A, 5, none⟩ (.bool tk.ty.sg)).setCell ⟨A, 6, none⟩ (.int .i64 tk.ty.w)) := ⟨_, rfl⟩
            have hw5 : w6.heap[A]? = some (.cells #[.int .i64 (tk.kind : Int), .string ⟨tk.text.toArray⟩, .int .i64 (tk.at_ : Int), .int .u64 (tk.n : Int), .bool tk.ty.b, .bool tk.ty.sg, .int .i64 tk.ty.w] 36 (0, 0)) := (by rw [hw6]; exact blk_set (blk_set (blk_set (blk_set (blk_set (blk_set (blk_set HAQ.out 0 _) 1 _) 2 _) 3 _) 4 _) 5 _) 6 _)
            have K6 := Lib.hid (show Kept [A] wq w6 from by rw [hw6]; exact (((((((Kept.refl [A] wq).setCell (.inl (by simp)) _).setCell (.inl (by simp)) _).setCell (.inl (by simp)) _).setCell (.inl (by simp)) _).setCell (.inl (by simp)) _).setCell (.inl (by simp)) _).setCell (.inl (by simp)) _)
            rw [← hw6]; have KALL := Lib.hid (show Kept [] w w6 from kept_mix (kept_mix K2.out KBQ.out (by have := HWA.out; simp; omega)) K6.out (by have := HWA.out; simp; omega)); have e0 := blk_cell hw5 0; have e1 := blk_cell hw5 1; have e2 := blk_cell hw5 2; have e3 := blk_cell hw5 3; have e4 := blk_cell hw5 4; have e5 := blk_cell hw5 5; have e6 := blk_cell hw5 6; simp only [List.getElem?_toArray, List.getElem?_cons_zero, List.getElem?_cons_succ] at e0 e1 e2 e3 e4 e5 e6; clear b0 b1 b2 b3 b4 b5 b6 a0 a1 a2 a3 a4 a5 a6 g0 g1 g2 g3 g4 g5 g6
            go_wp2_with fail
            refine bodyPost_ret (v := .tuple #[tkV tk, .bool hb]) (by simp [results, Tryd.results28, go_sem, tkV, e0, e1, e2, e3, e4, e5, e6]) rfl ?_
            rw [HN3.out]
            refine ⟨⟨tk, ?_, fun y hy => ?_⟩, KALL.out⟩
            · cases hb <;> rfl
            · cases hb with
              | true =>
                have hy := Option.some.inj hy
                rw [← hy, HTK.out]
              | false => exact nomatch hy
          | true =>
            obtain ⟨j, hj⟩ : ∃ j, n = j + 1 := ⟨n - 1, by omega⟩
            have HJ := Lib.hid hj
            have hjn : j < n := by omega
            have hsub : IntKind.i64.wrap ((n : Int) - 1) = (j : Int) := by rw [show (n : Int) - 1 = (j : Int) by omega]; exact IntWalk.i64_in _ ⟨by omega, by omega⟩
            clear hj
            have HN3 := Lib.hid (show numB (S.data.toList.drop k) = if (!decide (v / 2 ^ j % 2 = 1) && decide (v < 2 ^ n)) then some { tk with at_ := 0 } else none from by rw [HN2.out, ← hold_sg n j v HJ.out]; rfl)
            have HBT := Lib.hid (fun W => rbits_c v n hv64 h2 W)
            obtain ⟨bt, hbt⟩ : ∃ bt, bt = v / 2 ^ j % 2 := ⟨_, rfl⟩
            have HBTQ := Lib.hid hbt
            clear hbt
            generalize decide (v < 2 ^ n) = hb at *
            go_upto_region 26 with (fail)
            obtain ⟨bq, hbq⟩ : ∃ bq, bq = decide (bt = 1) := ⟨_, rfl⟩
            have HBQ := Lib.hid hbq
            have hbq1 : ((bt : Int) == 1) = bq := by rw [hbq, Bool.eq_iff_iff]; simp; omega
            clear hbq
            go_cut [131] (fun bv wx => bv = .bool bq ∧ Kept [] wq wx)
            case first =>
              have z0d : wq.drew.cell? ⟨q, 0, none⟩ = some (.bool false) := z0
              have z1d : wq.drew.cell? ⟨q, 1, none⟩ = some (.bool true) := z1
              have z2d : wq.drew.cell? ⟨q, 2, none⟩ = some (.int .i64 (n : Int)) := z2
              go_region_with ((go_at_call 51; (with_reducible refine (HBT.out _).mono ?_); rintro e wr ⟨rfl, hb5, k5n⟩; (have q9 : wr.cell? ⟨wq.heap.size, j, none⟩ = some (.int .i64 (bt : Int)) := (BitsAt hb5 j hjn).trans (by rw [← HBTQ.out])); (have y0n := k5n.cell z0d List.not_mem_nil); (have y1n := k5n.cell z1d List.not_mem_nil); (have y2n := k5n.cell z2d List.not_mem_nil); clear hb5))
              all_goals
                (try simp only [Act.put, List.getElem_toArray, List.getElem_cons_succ, List.getElem_cons_zero, List.setIfInBounds_toArray, List.set_cons_zero, List.set_cons_succ])
                (try rw [hbq1])
                (try go_wp2_with fail)
                go_meet
                exact ⟨rfl, (show Kept [] wq wq.drew from (Kept.refl [] wq).drew).trans k5n⟩
            case rest =>
              obtain ⟨rfl, hk5⟩ := hcut
              clear hbq1 hsub
              cases bq with
              | true =>
                have HN4 := Lib.hid (show numB (S.data.toList.drop k) = none from by
                  rw [HN3.out, ← HBTQ.out, ← HBQ.out]
                  rfl)
                have KBQ := Lib.hid (kept_mix KBQ.out hk5 (by simp))
                have HXQ := Lib.hid (hk5.heap HXQ.out List.not_mem_nil)
                have HAQ := Lib.hid (hk5.heap HAQ.out List.not_mem_nil)
                obtain ⟨wq, rfl⟩ : ∃ v : World, v = wc := ⟨_, rfl⟩
                clear hk5 b0 b1 b2 b3 b4 b5 b6 a0 a1 a2 a3 a4 a5 a6 g0 g1 g2 g3 g4 g5 g6 z0 z1 z2 hlA hlB hlC
                have b0 := blk_cell HXQ.out 0; have b1 := blk_cell HXQ.out 1; have b2 := blk_cell HXQ.out 2; have b3 := blk_cell HXQ.out 3; have b4 := blk_cell HXQ.out 4; have b5 := blk_cell HXQ.out 5; have b6 := blk_cell HXQ.out 6; simp only [List.getElem?_toArray, List.getElem?_cons_zero, List.getElem?_cons_succ] at b0 b1 b2 b3 b4 b5 b6
                have a0 := blk_cell HAQ.out 0; have a1 := blk_cell HAQ.out 1; have a2 := blk_cell HAQ.out 2; have a3 := blk_cell HAQ.out 3; have a4 := blk_cell HAQ.out 4; have a5 := blk_cell HAQ.out 5; have a6 := blk_cell HAQ.out 6; simp only [List.getElem?_toArray, List.getElem?_cons_zero, List.getElem?_cons_succ] at a0 a1 a2 a3 a4 a5 a6
                have g0 := blk_free HAQ.out 0; have g1 := blk_free HAQ.out 1; have g2 := blk_free HAQ.out 2; have g3 := blk_free HAQ.out 3; have g4 := blk_free HAQ.out 4; have g5 := blk_free HAQ.out 5; have g6 := blk_free HAQ.out 6
                have hlB := blk_lt HXQ.out
                have hlA := blk_lt HAQ.out
                go_wp2_with fail
                obtain ⟨w6, hw6⟩ : ∃ v, v = (((((((wq.setCell ⟨A, 0, none⟩ (.int .i64 (tk.kind : Int))).setCell ⟨A, 1, none⟩ (.string ⟨tk.text.toArray⟩)).setCell ⟨A, 2, none⟩ (.int .i64 (tk.at_ : Int))).setCell ⟨A, 3, none⟩ (.int .u64 (tk.n : Int))).setCell ⟨A, 4, none⟩ (.bool tk.ty.b)).setCell ⟨A, 5, none⟩ (.bool tk.ty.sg)).setCell ⟨A, 6, none⟩ (.int .i64 tk.ty.w)) := ⟨_, rfl⟩
                have hw5 : w6.heap[A]? = some (.cells #[.int .i64 (tk.kind : Int), .string ⟨tk.text.toArray⟩, .int .i64 (tk.at_ : Int), .int .u64 (tk.n : Int), .bool tk.ty.b, .bool tk.ty.sg, .int .i64 tk.ty.w] 36 (0, 0)) := (by rw [hw6]; exact blk_set (blk_set (blk_set (blk_set (blk_set (blk_set (blk_set HAQ.out 0 _) 1 _) 2 _) 3 _) 4 _) 5 _) 6 _)
                have K6 := Lib.hid (show Kept [A] wq w6 from by rw [hw6]; exact (((((((Kept.refl [A] wq).setCell (.inl (by simp)) _).setCell (.inl (by simp)) _).setCell (.inl (by simp)) _).setCell (.inl (by simp)) _).setCell (.inl (by simp)) _).setCell (.inl (by simp)) _).setCell (.inl (by simp)) _)
                rw [← hw6]; have KALL := Lib.hid (show Kept [] w w6 from kept_mix (kept_mix K2.out KBQ.out (by have := HWA.out; simp; omega)) K6.out (by have := HWA.out; simp; omega)); have e0 := blk_cell hw5 0; have e1 := blk_cell hw5 1; have e2 := blk_cell hw5 2; have e3 := blk_cell hw5 3; have e4 := blk_cell hw5 4; have e5 := blk_cell hw5 5; have e6 := blk_cell hw5 6; simp only [List.getElem?_toArray, List.getElem?_cons_zero, List.getElem?_cons_succ] at e0 e1 e2 e3 e4 e5 e6; clear b0 b1 b2 b3 b4 b5 b6 a0 a1 a2 a3 a4 a5 a6 g0 g1 g2 g3 g4 g5 g6
                refine bodyPost_ret (v := .tuple #[tkV tk, .bool false]) (by simp [results, Tryd.results28, go_sem, tkV, e0, e1, e2, e3, e4, e5, e6]) rfl ?_
                rw [HN4.out]
                exact ⟨⟨tk, rfl, fun y hy => nomatch hy⟩, KALL.out⟩
              | false =>
                have HN3 := Lib.hid (show numB (S.data.toList.drop k) = if hb then some { tk with at_ := 0 } else none from by
                  rw [HN3.out, ← HBTQ.out, ← HBQ.out]
                  rfl)
                obtain ⟨wr, rfl⟩ : ∃ v : World, v = wc := ⟨_, rfl⟩
                have KQR := Lib.hid hk5
                clear hk5
                have KBRD := Lib.hid (show Kept [B] w3 wr.drew from (kept_mix KBQ.out KQR.out (by simp)).drew)
                have HXR := Lib.hid (KQR.out.heap HXQ.out List.not_mem_nil)
                have HCR := Lib.hid (KQR.out.heap HCQ.out List.not_mem_nil)
                have HARD := Lib.hid (show wr.drew.heap[A]? = _ from KQR.out.heap HAQ.out List.not_mem_nil)
                clear b0 b1 b2 b3 b4 b5 b6 a0 a1 a2 a3 a4 a5 a6 g0 g1 g2 g3 g4 g5 g6 z0 z1 z2 hlA hlB hlC
                have b0 := blk_cell HXR.out 0
                have b1 := blk_cell HXR.out 1
                have b2 := blk_cell HXR.out 2
                have b3 := blk_cell HXR.out 3
                have b4 := blk_cell HXR.out 4
                have b5 := blk_cell HXR.out 5
                have b6 := blk_cell HXR.out 6
                have z0 := blk_cell HCR.out 0
                have z1 := blk_cell HCR.out 1
                have z2 := blk_cell HCR.out 2
                simp only [List.getElem?_toArray, List.getElem?_cons_zero, List.getElem?_cons_succ] at b0 b1 b2 b3 b4 b5 b6 z0 z1 z2
                have hlB := blk_lt HXR.out
                have hlC := blk_lt HCR.out
                go_wp2_with fail
                have b0d : wr.drew.cell? ⟨B, 0, none⟩ = some (.int .i64 (tk.kind : Int)) := b0
                have b1d : wr.drew.cell? ⟨B, 1, none⟩ = some (.string ⟨tk.text.toArray⟩) := b1
                have b2d : wr.drew.cell? ⟨B, 2, none⟩ = some (.int .i64 (tk.at_ : Int)) := b2
                have b3d : wr.drew.cell? ⟨B, 3, none⟩ = some (.int .u64 (tk.n : Int)) := b3
                have b4d : wr.drew.cell? ⟨B, 4, none⟩ = some (.bool tk.ty.b) := b4
                have b5d : wr.drew.cell? ⟨B, 5, none⟩ = some (.bool tk.ty.sg) := b5
                have b6d : wr.drew.cell? ⟨B, 6, none⟩ = some (.int .i64 tk.ty.w) := b6
                have z0d : wr.drew.cell? ⟨q, 0, none⟩ = some (.bool false) := z0
                have z1d : wr.drew.cell? ⟨q, 1, none⟩ = some (.bool true) := z1
                have z2d : wr.drew.cell? ⟨q, 2, none⟩ = some (.int .i64 (n : Int)) := z2
                have hBAn : B ≠ A := by omega
                have hqAn : q ≠ A := by omega
                go_region_held3 (fun V => V.cell? ⟨B, 0, none⟩ = some (.int .i64 (tk.kind : Int)) ∧ V.cell? ⟨B, 1, none⟩ = some (.string ⟨tk.text.toArray⟩) ∧ V.cell? ⟨B, 2, none⟩ = some (.int .i64 (tk.at_ : Int)) ∧ V.cell? ⟨B, 3, none⟩ = some (.int .u64 (tk.n : Int)) ∧ V.cell? ⟨B, 4, none⟩ = some (.bool tk.ty.b) ∧ V.cell? ⟨B, 5, none⟩ = some (.bool tk.ty.sg) ∧ V.cell? ⟨B, 6, none⟩ = some (.int .i64 tk.ty.w) ∧ V.cell? ⟨q, 0, none⟩ = some (.bool false) ∧ V.cell? ⟨q, 1, none⟩ = some (.bool true) ∧ V.cell? ⟨q, 2, none⟩ = some (.int .i64 (n : Int)))
                  (refine ⟨?_, ?_, ?_, ?_, ?_, ?_, ?_, ?_, ?_, ?_⟩ <;> (repeat (first | with_reducible assumption | with_reducible apply cell_farT hBAn | with_reducible apply cell_farT hqAn | with_reducible refine k6n.cell ?_ List.not_mem_nil)))
                  ((go_at_call 52; (with_reducible refine (HIS.out _).mono ?_); rintro e wq ⟨rfl, k6n⟩; (have HAQ := Lib.hid (k6n.heap HARD.out List.not_mem_nil)); have a0 := blk_cell HAQ.out 0; have a1 := blk_cell HAQ.out 1; have a2 := blk_cell HAQ.out 2; have a3 := blk_cell HAQ.out 3; have a4 := blk_cell HAQ.out 4; have a5 := blk_cell HAQ.out 5; have a6 := blk_cell HAQ.out 6; simp only [List.getElem?_toArray, List.getElem?_cons_zero, List.getElem?_cons_succ] at a0 a1 a2 a3 a4 a5 a6; have g0 := blk_free HAQ.out 0; have g1 := blk_free HAQ.out 1; have g2 := blk_free HAQ.out 2; have g3 := blk_free HAQ.out 3; have g4 := blk_free HAQ.out 4; have g5 := blk_free HAQ.out 5; have g6 := blk_free HAQ.out 6))
                have KBQ := Lib.hid (kept_mix KBRD.out k6n (by simp))
                clear k6n b0d b1d b2d b3d b4d b5d b6d z0d z1d z2d z0 z1 z2
                obtain ⟨w6, hw6⟩ : ∃ v, v = (((((((wq.setCell ⟨A, 0, none⟩ (.int .i64 (tk.kind : Int))).setCell ⟨A, 1, none⟩ (.string ⟨tk.text.toArray⟩)).setCell ⟨A, 2, none⟩ (.int .i64 (tk.at_ : Int))).setCell ⟨A, 3, none⟩ (.int .u64 (tk.n : Int))).setCell ⟨A, 4, none⟩ (.bool tk.ty.b)).setCell ⟨A, 5, none⟩ (.bool tk.ty.sg)).setCell ⟨A, 6, none⟩ (.int .i64 tk.ty.w)) := ⟨_, rfl⟩
                have hw5 : w6.heap[A]? = some (.cells #[.int .i64 (tk.kind : Int), .string ⟨tk.text.toArray⟩, .int .i64 (tk.at_ : Int), .int .u64 (tk.n : Int), .bool tk.ty.b, .bool tk.ty.sg, .int .i64 tk.ty.w] 36 (0, 0)) := (by rw [hw6]; exact blk_set (blk_set (blk_set (blk_set (blk_set (blk_set (blk_set HAQ.out 0 _) 1 _) 2 _) 3 _) 4 _) 5 _) 6 _)
                have K6 := Lib.hid (show Kept [A] wq w6 from by rw [hw6]; exact (((((((Kept.refl [A] wq).setCell (.inl (by simp)) _).setCell (.inl (by simp)) _).setCell (.inl (by simp)) _).setCell (.inl (by simp)) _).setCell (.inl (by simp)) _).setCell (.inl (by simp)) _).setCell (.inl (by simp)) _)
                rw [← hw6]; have KALL := Lib.hid (show Kept [] w w6 from kept_mix (kept_mix K2.out KBQ.out (by have := HWA.out; simp; omega)) K6.out (by have := HWA.out; simp; omega)); have e0 := blk_cell hw5 0; have e1 := blk_cell hw5 1; have e2 := blk_cell hw5 2; have e3 := blk_cell hw5 3; have e4 := blk_cell hw5 4; have e5 := blk_cell hw5 5; have e6 := blk_cell hw5 6; simp only [List.getElem?_toArray, List.getElem?_cons_zero, List.getElem?_cons_succ] at e0 e1 e2 e3 e4 e5 e6; clear b0 b1 b2 b3 b4 b5 b6 a0 a1 a2 a3 a4 a5 a6 g0 g1 g2 g3 g4 g5 g6
                go_wp2_with fail
                refine bodyPost_ret (v := .tuple #[tkV tk, .bool hb]) (by simp [results, Tryd.results28, go_sem, tkV, e0, e1, e2, e3, e4, e5, e6]) rfl ?_
                rw [HN3.out]
                refine ⟨⟨tk, ?_, fun y hy => ?_⟩, KALL.out⟩
                · cases hb <;> rfl
                · cases hb with
                  | true =>
                    have hy := Option.some.inj hy
                    rw [← hy, HTK.out]
                  | false => exact nomatch hy
end Go.Proofs.YtjnjldbegngooaaDoor
