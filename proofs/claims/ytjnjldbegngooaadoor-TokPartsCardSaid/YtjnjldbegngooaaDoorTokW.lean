/-
  Law 15: a number or a literal.
-/
import Derived.Test.YtjnjldbegngooaaDoorTokV
namespace Go.Proofs.YtjnjldbegngooaaDoor
open Go.ChangeShapes Go.WideShapes Go.ChangeAt Go.RowKit
set_option linter.unusedVariables false
set_option linter.unusedSimpArgs false

variable {w w' w1 W : World}
theorem numB_eq (L d m : List UInt8) (hd : d = L.takeWhile dgB) (hm : m = (L.drop d.length).takeWhile moB) : numB L = if 20 < d.length ∨ 18446744073709551616 ≤ valL d then none else
  if m = [] then some ⟨4, d, 0, valL d, noTy⟩ else
  match typeB m with
  | none => none
  | some t => if !t.b && holdB t (valL d) then some ⟨5, d ++ m, 0, valL d, t⟩ else none := by subst hd hm; rfl
theorem cell_farT {b b' o o' : Nat} {v u : Value} (hne : b ≠ b') (h : w.cell? ⟨b, o, none⟩ = some v) : (w.setCell ⟨b', o', none⟩ u).cell? ⟨b, o, none⟩ = some v :=
  ((Kept.refl [b'] w).setCell (.inl (by simp)) u).cell h (by simpa using hne)
/-- ParseUint's answer: a number and no error, or an error -/
def PuPost (d : List UInt8) (w : World) (e : Ending) (w' : World) : Prop := ∃ (v : Nat) (err : Value), e = .returned (.tuple #[.int .u64 (v : Int), err]) ∧ Kept [] w w' ∧ ((valL d < 18446744073709551616 ∧ v = valL d ∧ err = .nilIface) ∨ (18446744073709551616 ≤ valL d ∧ ∃ te pe, err = .iface te pe))
theorem pu_c (d : List UInt8) (hd : DigL d) (hne : d ≠ []) (hl : d.length ≤ 140737488351232) (w : World) (hL : Laid w) : Calls Tryd.prog 44 #[.string ⟨d.toArray⟩, .int .i64 10, .int .i64 64] w (PuPost d w) := by
  obtain ⟨ev2, h2, g2⟩ := hL.rng
  have hp := parse_val d hd hne
  have es : (⟨d.toArray⟩ : ByteArray).size = d.length := rfl
  by_cases h : valL d < 18446744073709551616
  · rw [if_pos h] at hp
    refine (Tryd.strconv_ParseUint_10_at64_ok ⟨d.toArray⟩ (by omega) (valL d) hp w).mono ?_
    rintro e w1 ⟨rfl, hw⟩
    refine ⟨valL d, _, rfl, ?_, .inl ⟨h, rfl, rfl⟩⟩
    rcases hw with rfl | rfl
    · exact .refl _ _
    · exact .of_below (Lib.bytesWorld_below _ _ _)
  · rw [if_neg h] at hp
    refine (Tryd.strconv_ParseUint_10_at64_range ⟨d.toArray⟩ (by omega) hp ev2 w h2 g2).mono ?_
    rintro e w1 ⟨N, rfl, _, _, hb⟩
    exact ⟨18446744073709551615, _, rfl, .of_below hb, .inr ⟨by omega, _, _, rfl⟩⟩
set_option maxHeartbeats 3200000 in
set_option maxRecDepth 100000 in
theorem number_c (rb : Nat) (S : ByteArray) (k : Nat) (w : World) (hL : Laid w) (hr : RdS w rb S k) (hk : k < S.size) (hS : S.size ≤ 140737488351232) (hdg : dgB (S[k]'hk) = true) :
    Calls Tryd.prog 25 #[.pointer (some ⟨rb, 0, none⟩)] w (OnePost (numB (S.data.toList.drop k)) w) := by
  have HL := Lib.hid hL
  have c1 : w.cell? ⟨rb, 1, none⟩ = some (.int .i64 (k : Int)) := blk_cell hr 1
  obtain ⟨d, hd⟩ : ∃ d, d = (S.data.toList.drop k).takeWhile dgB := ⟨_, rfl⟩
  obtain ⟨m, hm⟩ : ∃ m, m = ((S.data.toList.drop k).drop d.length).takeWhile moB := ⟨_, rfl⟩
  have HN := Lib.hid (numB_eq _ d m hd hm)
  have hlen : S.data.toList.length = S.size := rfl
  have hdl : k + d.length ≤ S.size := by
    have h1 := takeWhile_le dgB (S.data.toList.drop k)
    rw [← hd, List.length_drop] at h1
    omega
  have hml : m.length ≤ 140737488351232 := by
    have h1 := takeWhile_le moB ((S.data.toList.drop k).drop d.length)
    rw [← hm, List.length_drop, List.length_drop] at h1
    omega
  have hdm : d.length + m.length ≤ 140737488351232 := by
    have h1 := takeWhile_le moB ((S.data.toList.drop k).drop d.length)
    rw [← hm, List.length_drop, List.length_drop] at h1
    omega
  have hne : d ≠ [] := by
    rw [hd, drop_head S k hk, List.takeWhile_cons, if_pos hdg]
    simp
  have hdig : DigL d := by rw [hd]; exact takeWhile_all _ _
  have HRUN := Lib.hid (fun W (hW : Kept [] w W) => run_c 24 Tryd.call24 dgB digit_c rb S k k W (hr.kept hW (by simp)) (by omega) hS)
  have HRUN2 := Lib.hid (fun W (hW : Kept [] w W) => run_c 45 Tryd.call45 moB more_c rb S (k + d.length) k W (hr.kept hW (by simp)) hdl hS)
  rw [← hd] at HRUN
  rw [← List.drop_drop, ← hm] at HRUN2
  have HRUN2 := Lib.hid (fun W (hW : Kept [] w W) => (show Calls Tryd.prog 42 #[.pointer (some ⟨rb, 0, none⟩), .int .i64 ((k : Int) + (d.length : Int)), .func (.func 45) #[] #[]] W fun e w' => e = .returned (strV m) ∧ w' = W from by
    have h1 := HRUN2.out W hW
    rw [Int.natCast_add] at h1
    exact h1))
  have HTY := Lib.hid (fun W hW => typeof_c m (by omega) W hW)
  have HPU := Lib.hid (fun W hW => pu_c d hdig hne (by omega) W hW)
  have hrl := blk_lt hr
  clear hr hd hm hdig hne hL hdg hlen
  go_enter Tryd.func25, Tryd.ntmps25
  go_wp2_with fail
  refine (HRUN.out _ ((Kept.refl [] w).alloc _)).mono ?_
  rintro e w1 ⟨rfl, hw1⟩
  have HA := Lib.hid (show Kept [] w w1 from hw1 ▸ (Kept.refl [] w).alloc _)
  have HZ := Lib.hid (show w1.heap[w.heap.size]? = some (.cells #[.int .i64 0, .string ⟨#[]⟩, .int .i64 0, .int .u64 0, .bool false, .bool false, .int .i64 0] 37 (0, 0)) from hw1 ▸ heap_alloc_new w _)
  clear hw1
  simp only [strV]
  go_wp2_with fail
  refine (HPU.out _ (HL.out.kept0 HA.out)).mono ?_
  rintro e w2 ⟨v, err, rfl, k2, hv⟩
  have HA2 := Lib.hid (HA.out.trans k2)
  have HZ2 := Lib.hid (k2.heap HZ.out List.not_mem_nil)
  have c2 := k2.cell (HA.out.cell c1 List.not_mem_nil) List.not_mem_nil
  have HV := Lib.hid hv
  clear k2
  by_cases h20 : d.length ≤ 20 ∧ valL d < 18446744073709551616
  · obtain ⟨h20, hv64⟩ := h20
    obtain ⟨hv1, rfl, rfl⟩ := hv.resolve_right (fun h => absurd h.1 (by omega))
    have g20 : ((d.length : Nat) : Int) ≤ 20 := by omega
    generalize hvd : valL d = v at *
    have HN2 := Lib.hid (show numB (S.data.toList.drop k) = if m = [] then some ⟨4, d, 0, v, noTy⟩ else match typeB m with
      | none => none
      | some t => if !t.b && holdB t v then some ⟨5, d ++ m, 0, v, t⟩ else none from by rw [HN.out, if_neg (by omega)])
    clear HN HV hv1 hvd
    go_wp2_with fail
    refine (HRUN2.out _ HA2.out).mono ?_
    rintro e w3 ⟨rfl, hw3⟩
    have HA3 := Lib.hid (show Kept [] w w3 from hw3 ▸ HA2.out)
    have HZ3 := Lib.hid (show w3.heap[w.heap.size]? = some (.cells #[.int .i64 0, .string ⟨#[]⟩, .int .i64 0, .int .u64 0, .bool false, .bool false, .int .i64 0] 37 (0, 0)) from hw3 ▸ HZ2.out)
    clear hw3 c2
    simp only [strV]
    by_cases hm0 : m = []
    · subst hm0
      have HN3 := Lib.hid (show numB (S.data.toList.drop k) = some ⟨4, d, 0, v, noTy⟩ from by rw [HN2.out, if_pos rfl])
      go_wp2_with (refine wpList_tk rfl rfl w.heap.size rfl rfl HZ3.out ⟨rfl, rfl, rfl, rfl, rfl, rfl, rfl⟩ ?_)
      intro w6 hw5 k6; have K6 := Lib.hid k6; have e0 := blk_cell hw5 0; have e1 := blk_cell hw5 1; have e2 := blk_cell hw5 2; have e3 := blk_cell hw5 3; have e4 := blk_cell hw5 4; have e5 := blk_cell hw5 5; have e6 := blk_cell hw5 6; simp only [List.getElem?_toArray, List.getElem?_cons_zero, List.getElem?_cons_succ] at e0 e1 e2 e3 e4 e5 e6; clear hw5 k6; go_wp2_with fail
      refine bodyPost_ret (v := .tuple #[tkV ⟨4, d, 0, v, noTy⟩, .bool true]) (by simp [results, Tryd.results25, go_sem, tkV, noTy, e0, e1, e2, e3, e4, e5, e6]) rfl ?_
      rw [HN3.out]
      exact ⟨⟨_, rfl, fun y hy => Option.some.inj hy⟩, kept_mix HA3.out K6.out (by simp)⟩
    · have HM0 := Lib.hid hm0
      have g0 : (m == []) = false := by rw [beq_eq_false_iff_ne]; exact hm0
      have g1 : m.isEmpty = false := by
        cases m with
        | nil => exact absurd rfl hm0
        | cons c m => rfl
      clear hm0
      go_wp2_with fail
      refine (HTY.out _ (HL.out.kept0 HA3.out)).mono ?_
      rintro e w4 ⟨rfl, k4⟩
      have HK4 := Lib.hid k4
      have HZ4 := Lib.hid (k4.heap HZ3.out List.not_mem_nil)
      have hz4 := HZ4.out
      have hlz := blk_lt hz4
      have z0 := blk_cell hz4 0; have z1 := blk_cell hz4 1; have z2 := blk_cell hz4 2; have z3 := blk_cell hz4 3; have z4 := blk_cell hz4 4; have z5 := blk_cell hz4 5; have z6 := blk_cell hz4 6; have f0 := blk_free hz4 0; have f1 := blk_free hz4 1; have f2 := blk_free hz4 2; have f3 := blk_free hz4 3; have f4 := blk_free hz4 4; have f5 := blk_free hz4 5; have f6 := blk_free hz4 6; simp only [List.getElem?_toArray, List.getElem?_cons_zero, List.getElem?_cons_succ] at z0 z1 z2 z3 z4 z5 z6
      clear k4 hz4
      cases hty : typeB m with
      | none =>
        have HN3 := Lib.hid (show numB (S.data.toList.drop k) = none from by rw [HN2.out, if_neg HM0.out, hty])
        simp only [getTy, Option.getD_none, Option.isSome_none, tyV, noTy]
        clear hty
        go_wp2_with fail
        go_region
        obtain ⟨tk, htk⟩ : ∃ tk : Tk, tk = ⟨5, d ++ m, 0, v, noTy⟩ := ⟨_, rfl⟩
        obtain ⟨w5, hw5⟩ : ∃ V, V = ((((((((w4.setCell ⟨w.heap.size, 0, none⟩ (.int .i64 5)).setCell ⟨w.heap.size, 1, none⟩ (.string (⟨d.toArray⟩ ++ ⟨m.toArray⟩))).setCell ⟨w.heap.size, 2, none⟩ (.int .i64 0)).setCell ⟨w.heap.size, 3, none⟩ (.int .u64 (v : Int))).setCell ⟨w.heap.size, 4, none⟩ (.bool false)).setCell ⟨w.heap.size, 5, none⟩ (.bool false)).setCell ⟨w.heap.size, 6, none⟩ (.int .i64 0)).alloc (.cells #[.bool false, .bool false, .int .i64 0] 34)).drew := ⟨_, rfl⟩
        rw [← hw5]
        have HX5 := Lib.hid (show w5.heap[w.heap.size]? = some (.cells #[.int .i64 (tk.kind : Int), .string ⟨tk.text.toArray⟩, .int .i64 (tk.at_ : Int), .int .u64 (tk.n : Int), .bool tk.ty.b, .bool tk.ty.sg, .int .i64 tk.ty.w] 37 (0, 0)) from by
          rw [hw5, htk, str_add]
          exact (((Kept.refl [] _).alloc _).drew).heap ((blk_set (blk_set (blk_set (blk_set (blk_set (blk_set (blk_set HZ4.out 0 (.int .i64 5)) 1 (.string ⟨(d ++ m).toArray⟩)) 2 (.int .i64 0)) 3 (.int .u64 (v : Int))) 4 (.bool false)) 5 (.bool false)) 6 (.int .i64 0))) List.not_mem_nil)
        have HK5 := Lib.hid (show Kept [w.heap.size] w4 w5 from by
          rw [hw5]
          exact (((((((((Kept.refl [w.heap.size] w4).setCell (.inl (by simp)) _).setCell (.inl (by simp)) _).setCell (.inl (by simp)) _).setCell (.inl (by simp)) _).setCell (.inl (by simp)) _).setCell (.inl (by simp)) _).setCell (.inl (by simp)) _).alloc _).drew)
        have hw5 := HX5.out
        clear z0 z1 z2 z3 z4 z5 z6 f0 f1 f2 f3 f4 f5 f6
        have e0 := blk_cell hw5 0; have e1 := blk_cell hw5 1; have e2 := blk_cell hw5 2; have e3 := blk_cell hw5 3; have e4 := blk_cell hw5 4; have e5 := blk_cell hw5 5; have e6 := blk_cell hw5 6; simp only [List.getElem?_toArray, List.getElem?_cons_zero, List.getElem?_cons_succ] at e0 e1 e2 e3 e4 e5 e6
        clear hw5
        go_wp2_with fail
        refine bodyPost_ret (v := .tuple #[tkV tk, .bool false]) (by simp [results, Tryd.results25, go_sem, tkV, e0, e1, e2, e3, e4, e5, e6]) rfl ?_
        rw [HN3.out]
        exact ⟨⟨_, rfl, fun y hy => nomatch hy⟩, kept_mix (HA3.out.trans HK4.out) HK5.out (by simp)⟩
      | some t =>
        have HMT := Lib.hid (say_typeB hty).1
        have HN3 := Lib.hid (show numB (S.data.toList.drop k) = if !t.b && holdB t v then some ⟨5, d ++ m, 0, v, t⟩ else none from by rw [HN2.out, if_neg HM0.out, hty])
        simp only [getTy, Option.getD_some, Option.isSome_some, tyV]
        clear hty
        obtain ⟨tb, ts, tw⟩ := t
        simp only at HN3 ⊢
        cases tb with
        | true =>
        have HN3 := Lib.hid (show numB (S.data.toList.drop k) = none from by rw [HN3.out]; rfl)
        go_wp2_with fail
        go_region
        obtain ⟨tk, htk⟩ : ∃ tk : Tk, tk = ⟨5, d ++ m, 0, v, ⟨true, ts, tw⟩⟩ := ⟨_, rfl⟩
        obtain ⟨w5, hw5⟩ : ∃ V, V = ((((((((w4.setCell ⟨w.heap.size, 0, none⟩ (.int .i64 5)).setCell ⟨w.heap.size, 1, none⟩ (.string (⟨d.toArray⟩ ++ ⟨m.toArray⟩))).setCell ⟨w.heap.size, 2, none⟩ (.int .i64 0)).setCell ⟨w.heap.size, 3, none⟩ (.int .u64 (v : Int))).setCell ⟨w.heap.size, 4, none⟩ (.bool true)).setCell ⟨w.heap.size, 5, none⟩ (.bool ts)).setCell ⟨w.heap.size, 6, none⟩ (.int .i64 tw)).alloc (.cells #[.bool true, .bool ts, .int .i64 tw] 34)).drew := ⟨_, rfl⟩
        rw [← hw5]
        have HX5 := Lib.hid (show w5.heap[w.heap.size]? = some (.cells #[.int .i64 (tk.kind : Int), .string ⟨tk.text.toArray⟩, .int .i64 (tk.at_ : Int), .int .u64 (tk.n : Int), .bool tk.ty.b, .bool tk.ty.sg, .int .i64 tk.ty.w] 37 (0, 0)) from by
          rw [hw5, htk, str_add]
          exact (((Kept.refl [] _).alloc _).drew).heap ((blk_set (blk_set (blk_set (blk_set (blk_set (blk_set (blk_set HZ4.out 0 (.int .i64 5)) 1 (.string ⟨(d ++ m).toArray⟩)) 2 (.int .i64 0)) 3 (.int .u64 (v : Int))) 4 (.bool true)) 5 (.bool ts)) 6 (.int .i64 tw))) List.not_mem_nil)
        have HK5 := Lib.hid (show Kept [w.heap.size] w4 w5 from by
          rw [hw5]
          exact (((((((((Kept.refl [w.heap.size] w4).setCell (.inl (by simp)) _).setCell (.inl (by simp)) _).setCell (.inl (by simp)) _).setCell (.inl (by simp)) _).setCell (.inl (by simp)) _).setCell (.inl (by simp)) _).setCell (.inl (by simp)) _).alloc _).drew)
        have hw5 := HX5.out
        clear z0 z1 z2 z3 z4 z5 z6 f0 f1 f2 f3 f4 f5 f6
        have e0 := blk_cell hw5 0; have e1 := blk_cell hw5 1; have e2 := blk_cell hw5 2; have e3 := blk_cell hw5 3; have e4 := blk_cell hw5 4; have e5 := blk_cell hw5 5; have e6 := blk_cell hw5 6; simp only [List.getElem?_toArray, List.getElem?_cons_zero, List.getElem?_cons_succ] at e0 e1 e2 e3 e4 e5 e6
        clear hw5
        go_wp2_with fail
        refine bodyPost_ret (v := .tuple #[tkV tk, .bool false]) (by simp [results, Tryd.results25, go_sem, tkV, e0, e1, e2, e3, e4, e5, e6]) rfl ?_
        rw [HN3.out]
        exact ⟨⟨_, rfl, fun y hy => nomatch hy⟩, kept_mix (HA3.out.trans HK4.out) HK5.out (by simp)⟩
        | false =>
        have HHO := Lib.hid (fun W => holds_c ⟨false, ts, tw⟩ v HMT.out rfl hv64 W)
        simp only [tyV] at HHO
        go_wp2_with fail
        have hcat3 : ∀ W, (Op.stringOp .add ⟨d.toArray⟩ ⟨m.toArray⟩).run Tryd.prog W = .ok (.string (⟨d.toArray⟩ ++ ⟨m.toArray⟩)) W := fun W => run_string_add_sum W _ _ (by show d.length + m.length ≤ 9223372036854775807; omega)
        clear z0 z1 z2 z3 z4 z5 z6 f0 f1 f2 f3 f4 f5 f6
        obtain ⟨q, hq⟩ : ∃ q, q = w4.heap.size := ⟨_, rfl⟩
        obtain ⟨wA, hwA⟩ : ∃ V, V = w4.alloc (.cells #[.bool false, .bool ts, .int .i64 tw] 34) := ⟨_, rfl⟩
        have hqa : wA.heap[q]? = some (.cells #[.bool false, .bool ts, .int .i64 tw] 34 (0, 0)) := by rw [hwA, hq]; exact heap_alloc_new w4 _
        have HKA := Lib.hid (show Kept [] w4 wA from hwA ▸ (Kept.refl [] w4).alloc _)
        have hqne : w.heap.size < q := by omega
        rw [← hq, ← hwA]
        have HZA := Lib.hid (HKA.out.heap HZ4.out List.not_mem_nil)
        have q0 := blk_cell hqa 0
        have q1 := blk_cell hqa 1
        have q2 := blk_cell hqa 2
        simp only [List.getElem?_toArray, List.getElem?_cons_zero, List.getElem?_cons_succ] at q0 q1 q2
        clear hq hwA hqa
        have hqnz : q ≠ w.heap.size := by omega
        have q0d : wA.drew.cell? ⟨q, 0, none⟩ = some (.bool false) := q0
        have q1d : wA.drew.cell? ⟨q, 1, none⟩ = some (.bool ts) := q1
        have q2d : wA.drew.cell? ⟨q, 2, none⟩ = some (.int .i64 tw) := q2
        have HZD := Lib.hid (show wA.drew.heap[w.heap.size]? = some (.cells #[.int .i64 0, .string ⟨#[]⟩, .int .i64 0, .int .u64 0, .bool false, .bool false, .int .i64 0] 37 (0, 0)) from HZA.out)
        have HKD := Lib.hid (show Kept [] w4 wA.drew from HKA.out.drew)
        generalize holdB ⟨false, ts, tw⟩ v = hb at *
        go_region_held3 (fun V => V.cell? ⟨q, 0, none⟩ = some (.bool false) ∧ V.cell? ⟨q, 1, none⟩ = some (.bool ts) ∧ V.cell? ⟨q, 2, none⟩ = some (.int .i64 tw))
          (refine ⟨?_, ?_, ?_⟩ <;> (repeat (first | with_reducible assumption | with_reducible apply cell_farT hqnz | with_reducible refine k6n.cell ?_ List.not_mem_nil)))
          ((go_at_call 46; (with_reducible refine (HHO.out _).mono ?_); rintro e w6 ⟨rfl, k6n⟩; (have hz4 := k6n.heap HZD.out List.not_mem_nil); have z0 := blk_cell hz4 0; have z1 := blk_cell hz4 1; have z2 := blk_cell hz4 2; have z3 := blk_cell hz4 3; have z4 := blk_cell hz4 4; have z5 := blk_cell hz4 5; have z6 := blk_cell hz4 6; have f0 := blk_free hz4 0; have f1 := blk_free hz4 1; have f2 := blk_free hz4 2; have f3 := blk_free hz4 3; have f4 := blk_free hz4 4; have f5 := blk_free hz4 5; have f6 := blk_free hz4 6; simp only [List.getElem?_toArray, List.getElem?_cons_zero, List.getElem?_cons_succ] at z0 z1 z2 z3 z4 z5 z6; clear hz4))
        have HK6 := Lib.hid (HKD.out.trans k6n)
        have HZ6 := Lib.hid (k6n.heap HZD.out List.not_mem_nil)
        obtain ⟨tk, htk⟩ : ∃ tk : Tk, tk = ⟨5, d ++ m, 0, v, ⟨false, ts, tw⟩⟩ := ⟨_, rfl⟩
        obtain ⟨w5, hw5⟩ : ∃ V, V = (((((((w6.setCell ⟨w.heap.size, 0, none⟩ (.int .i64 5)).setCell ⟨w.heap.size, 1, none⟩ (.string (⟨d.toArray⟩ ++ ⟨m.toArray⟩))).setCell ⟨w.heap.size, 2, none⟩ (.int .i64 0)).setCell ⟨w.heap.size, 3, none⟩ (.int .u64 (v : Int))).setCell ⟨w.heap.size, 4, none⟩ (.bool false)).setCell ⟨w.heap.size, 5, none⟩ (.bool ts)).setCell ⟨w.heap.size, 6, none⟩ (.int .i64 tw)) := ⟨_, rfl⟩
        rw [← hw5]
        have HX5 := Lib.hid (show w5.heap[w.heap.size]? = some (.cells #[.int .i64 (tk.kind : Int), .string ⟨tk.text.toArray⟩, .int .i64 (tk.at_ : Int), .int .u64 (tk.n : Int), .bool tk.ty.b, .bool tk.ty.sg, .int .i64 tk.ty.w] 37 (0, 0)) from by
          rw [hw5, htk, str_add]
          exact (blk_set (blk_set (blk_set (blk_set (blk_set (blk_set (blk_set HZ6.out 0 (.int .i64 5)) 1 (.string ⟨(d ++ m).toArray⟩)) 2 (.int .i64 0)) 3 (.int .u64 (v : Int))) 4 (.bool false)) 5 (.bool ts)) 6 (.int .i64 tw)))
        have HK5 := Lib.hid (show Kept [w.heap.size] w6 w5 from by
          rw [hw5]
          exact (((((((Kept.refl [w.heap.size] w6).setCell (.inl (by simp)) _).setCell (.inl (by simp)) _).setCell (.inl (by simp)) _).setCell (.inl (by simp)) _).setCell (.inl (by simp)) _).setCell (.inl (by simp)) _).setCell (.inl (by simp)) _)
        have hw5 := HX5.out
        clear z0 z1 z2 z3 z4 z5 z6 f0 f1 f2 f3 f4 f5 f6 k6n q0 q1 q2 q0d q1d q2d
        have e0 := blk_cell hw5 0; have e1 := blk_cell hw5 1; have e2 := blk_cell hw5 2; have e3 := blk_cell hw5 3; have e4 := blk_cell hw5 4; have e5 := blk_cell hw5 5; have e6 := blk_cell hw5 6; simp only [List.getElem?_toArray, List.getElem?_cons_zero, List.getElem?_cons_succ] at e0 e1 e2 e3 e4 e5 e6
        clear hw5
        go_wp2_with fail
        refine bodyPost_ret (v := .tuple #[tkV tk, .bool hb]) (by simp [results, Tryd.results25, go_sem, tkV, e0, e1, e2, e3, e4, e5, e6]) rfl ?_
        rw [HN3.out, ← htk]
        refine ⟨⟨tk, ?_, fun y hy => ?_⟩, kept_mix ((HA3.out.trans HK4.out).trans HK6.out) HK5.out (by simp)⟩
        · cases hb <;> rfl
        · cases hb with
          | true => exact Option.some.inj hy
          | false => exact nomatch hy
  · have HN2 := Lib.hid (show numB (S.data.toList.drop k) = none from by rw [HN.out, if_pos (by omega)])
    rcases hv with ⟨hv1, rfl, rfl⟩ | ⟨hv1, te, pe, rfl⟩
    · have g20 : ¬ ((d.length : Nat) : Int) ≤ 20 := by omega
      have h20' : ¬ d.length ≤ 20 := by omega
      clear hv1 HV h20
      go_wp2_with (refine wpList_tk rfl rfl w.heap.size rfl rfl HZ2.out ⟨rfl, rfl, rfl, rfl, rfl, rfl, rfl⟩ ?_)
      intro w6 hw5 k6; have K6 := Lib.hid k6; have e0 := blk_cell hw5 0; have e1 := blk_cell hw5 1; have e2 := blk_cell hw5 2; have e3 := blk_cell hw5 3; have e4 := blk_cell hw5 4; have e5 := blk_cell hw5 5; have e6 := blk_cell hw5 6; simp only [List.getElem?_toArray, List.getElem?_cons_zero, List.getElem?_cons_succ] at e0 e1 e2 e3 e4 e5 e6; clear hw5 k6; go_wp2_with fail
      refine bodyPost_ret (v := .tuple #[tkV ⟨0, [], 0, 0, noTy⟩, .bool false]) (by simp [results, Tryd.results25, go_sem, tkV, noTy, e0, e1, e2, e3, e4, e5, e6]) rfl ?_
      rw [HN2.out]
      exact ⟨⟨_, rfl, fun y hy => nomatch hy⟩, kept_mix HA2.out K6.out (by simp)⟩
    · clear hv1 HV h20
      go_wp2_with (refine wpList_tk rfl rfl w.heap.size rfl rfl HZ2.out ⟨rfl, rfl, rfl, rfl, rfl, rfl, rfl⟩ ?_)
      intro w6 hw5 k6; have K6 := Lib.hid k6; have e0 := blk_cell hw5 0; have e1 := blk_cell hw5 1; have e2 := blk_cell hw5 2; have e3 := blk_cell hw5 3; have e4 := blk_cell hw5 4; have e5 := blk_cell hw5 5; have e6 := blk_cell hw5 6; simp only [List.getElem?_toArray, List.getElem?_cons_zero, List.getElem?_cons_succ] at e0 e1 e2 e3 e4 e5 e6; clear hw5 k6; go_wp2_with fail
      refine bodyPost_ret (v := .tuple #[tkV ⟨0, [], 0, 0, noTy⟩, .bool false]) (by simp [results, Tryd.results25, go_sem, tkV, noTy, e0, e1, e2, e3, e4, e5, e6]) rfl ?_
      rw [HN2.out]
      exact ⟨⟨_, rfl, fun y hy => nomatch hy⟩, kept_mix HA2.out K6.out (by simp)⟩
end Go.Proofs.YtjnjldbegngooaaDoor
