/-
  TokTypes: the walk.
-/
import Derived.Test.YtjnjldbegngooaaDoorTokOp
import Derived.Test.YtjnjldbegngooaaDoorTokTyM
import Derived.Test.YtjnjldbegngooaaDoorTokKnW
import Derived.Test.YtjnjldbegngooaaDoorTokRa
import Derived.Test.YtjnjldbegngooaaDoorTokFaW
import Derived.Lib.ConvBytes
namespace Go.Proofs.YtjnjldbegngooaaDoor
open Go.ChangeShapes Go.WideShapes Go.ChangeAt Go.RowKit
set_option linter.unusedVariables false
set_option linter.unusedSimpArgs false

variable {w w' w1 W : World}
theorem wrap_mod (x : Int) : ∃ j : Nat, j < 64 ∧ (IntKind.u64.wrap x).tmod 64 = (j : Int) := by
  have h : IntKind.u64.wrap x = x % 18446744073709551616 := by simp [IntKind.wrap, IntKind.signed, IntKind.bits]
  rw [h, Int.tmod_eq_emod_of_nonneg (by omega)]
  exact ⟨((x % 18446744073709551616) % 64).toNat, by omega, by omega⟩
set_option maxHeartbeats 25600000 in
set_option maxRecDepth 100000 in
theorem types_c (t0 : Ty) (n : Nat) (l : List UInt8) (w : World) (h1 : -9223372036854775808 ≤ t0.w) (h2 : t0.w ≤ 9223372036854775807) (hn : n < 18446744073709551616) (hl : l.length ≤ 140737488351232) (hL : Laid w) :
    Calls Tryd.prog 6 #[tyV t0, .int .u64 (n : Int), .string ⟨l.toArray⟩] w (BoolIs true w) := by
  have HL := Lib.hid hL
  obtain ⟨s, hs⟩ : ∃ s, s = l.take 40 := ⟨_, rfl⟩
  have HS := Lib.hid hs
  have hsl : s.length ≤ 40 := by rw [hs, List.length_take]; omega
  have hmin : min ((l.length : Nat) : Int) 40 = ((min l.length 40 : Nat) : Int) := by omega
  have hext : (⟨l.toArray⟩ : ByteArray).extract 0 (min l.length 40) = ⟨s.toArray⟩ := by
    rw [ext_list, hs]
    congr 1
    simp [List.take_eq_take_iff]
    omega
  obtain ⟨tb, tg, tw⟩ := t0
  simp only at h1 h2
  simp only [tyV]
  clear hL hs
  have h3 : ∃ u : Ty, mayTy u = true ∧ ((tb = false ∧ ∃ j : Nat, j < 64 ∧ (IntKind.u64.wrap tw).tmod 64 = (j : Int) ∧ u = ⟨false, tg, 1 + (j : Int)⟩) ∨ (tb = true ∧ u = ⟨true, false, 1⟩)) := by
    cases tb with
    | false =>
      obtain ⟨j, hj, hm⟩ := wrap_mod tw
      refine ⟨⟨false, tg, 1 + (j : Int)⟩, ?_, .inl ⟨rfl, j, hj, hm, rfl⟩⟩
      unfold mayTy
      simp
      omega
    | true => exact ⟨⟨true, false, 1⟩, rfl, .inr ⟨rfl, rfl⟩⟩
  obtain ⟨u, hu, h3⟩ := h3
  obtain ⟨k, hk⟩ : ∃ k : Nat, u.w = k := by
    rcases h3 with ⟨_, j, hj, _, rfl⟩ | ⟨_, rfl⟩
    · exact ⟨1 + j, by simp⟩
    · exact ⟨1, rfl⟩
  have hk1 : 1 ≤ k ∧ k ≤ 64 := by
    rcases h3 with ⟨_, j, hj, _, rfl⟩ | ⟨_, rfl⟩
    · simp only at hk; omega
    · simp only at hk; omega
  obtain ⟨ub, us, uw⟩ := u
  simp only at hk
  subst hk
  have HU := Lib.hid hu
  have HWK := Lib.hid (fun W hW => wakes_c W hW)
  have HSM0 := Lib.hid (say_more hu)
  have HTB0 := Lib.hid (typeB_say hu)
  obtain ⟨Su, hSu⟩ : ∃ Su, Su = sayB ⟨ub, us, (k : Int)⟩ := ⟨_, rfl⟩
  have HSE := Lib.hid hSu
  have HSU := Lib.hid (fun W => (show Calls Tryd.prog 16 #[.agg #[.bool ub, .bool us, .int .i64 (k : Int)]] W fun e w' => e = .returned (.string ⟨Su.toArray⟩) ∧ Kept [] W w' from hSu ▸ says_c ⟨ub, us, (k : Int)⟩ W))
  have HSM := HSM0
  have HTB := HTB0
  rw [← hSu] at HSM HTB
  have HTU := Lib.hid (fun W hW => typeof_c Su (by have := HSM.out.2.2.2.2; omega) W hW)
  rw [HTB.out] at HTU
  have HTS := Lib.hid (fun W hW => typeof_c s (by omega) W hW)
  have HRU := Lib.hid (fun W hW => reserved_c Su (by have := HSM.out.2.2.2.2; omega) W hW)
  rw [HSM.out.2.2.2.1] at HRU
  clear hu hSu HSM0 HTB0
  rcases h3 with ⟨rfl, j, hj, hm, hu⟩ | ⟨rfl, hu⟩
  all_goals
    have HUE := Lib.hid (congrArg tyV hu).symm
    simp only [tyV] at HUE
    clear hu
    go_enter Tryd.func6, Tryd.ntmps6
    go_wp2_with fail
    try rw [show (.agg #[.bool false, .bool tg, .int .i64 (1 + (j : Int))] : Value) = .agg #[.bool ub, .bool us, .int .i64 (k : Int)] from HUE.out]
    try rw [show (.agg #[.bool true, .bool false, .int .i64 1] : Value) = .agg #[.bool ub, .bool us, .int .i64 (k : Int)] from HUE.out]
    try rw [show (w.alloc (.cells #[.bool false, .bool tg, .int .i64 (1 + (j : Int))] 34)) = w.alloc (.cells #[.bool ub, .bool us, .int .i64 (k : Int)] 34) from congrArg (fun v : Value => w.alloc (.cells v.cells 34)) HUE.out]
    try rw [show (w.alloc (.cells #[.bool true, .bool false, .int .i64 1] 34)) = w.alloc (.cells #[.bool ub, .bool us, .int .i64 (k : Int)] 34) from congrArg (fun v : Value => w.alloc (.cells v.cells 34)) HUE.out]
    try clear hm
    refine (HSU.out _).mono ?_
    rintro e w2 ⟨rfl, k2⟩
    have HB0 := Lib.hid (k2.heap (heap_alloc_new w (.cells #[.bool ub, .bool us, .int .i64 (k : Int)] 34)) (by simp))
    have K2 := Lib.hid (((Kept.refl [] w).alloc (.cells #[.bool ub, .bool us, .int .i64 (k : Int)] 34)).trans k2)
    clear k2
    go_wp2_with fail
    refine (HTU.out _ (HL.out.kept0 K2.out)).mono ?_
    rintro e w3 ⟨rfl, k3⟩
    have K3 := Lib.hid (K2.out.trans k3)
    have HB0a := Lib.hid (k3.heap HB0.out (by simp))
    clear k3
    simp only [getTy, Option.getD_some, Option.isSome_some, tyV]
    go_wp2_with fail
    refine (HWK.out _ (HL.out.kept0 (K3.out.alloc _))).mono ?_
    rintro e w4 ⟨rfl, k4⟩
    have K4 := Lib.hid ((K3.out.alloc (.cells #[.bool ub, .bool us, .int .i64 (k : Int)] 34)).trans k4)
    have hb0 := k4.heap (((Kept.refl [] w3).alloc (.cells #[.bool ub, .bool us, .int .i64 (k : Int)] 34)).heap HB0a.out (by simp)) (by simp)
    have hb1 := k4.heap (heap_alloc_new w3 (.cells #[.bool ub, .bool us, .int .i64 (k : Int)] 34)) (by simp)
    have HB0b := Lib.hid hb0
    have c0 := blk_cell hb0 0
    have c1 := blk_cell hb0 1
    have c2 := blk_cell hb0 2
    have d0 := blk_cell hb1 0
    have d1 := blk_cell hb1 1
    have d2 := blk_cell hb1 2
    simp only [List.getElem?_toArray, List.getElem?_cons_zero, List.getElem?_cons_succ] at c0 c1 c2 d0 d1 d2
    have hl0 := blk_lt hb0
    clear k4 hb0 hb1
    go_wp2_with fail
    refine (HSU.out _).mono ?_
    rintro e w5 ⟨rfl, k5⟩
    have K5 := Lib.hid (K4.out.trans k5)
    have HB0c := Lib.hid (k5.heap HB0b.out (by simp))
    clear k5 c0 c1 c2 d0 d1 d2 hl0
    go_wp2_with fail
    refine (HRU.out _ (HL.out.kept0 K5.out)).mono ?_
    rintro e w5' ⟨rfl, rfl⟩
    go_wp2_with fail
    refine (HTS.out _ (HL.out.kept0 K5.out)).mono ?_
    rintro e w6 ⟨rfl, k6⟩
    have K6 := Lib.hid (K5.out.trans k6)
    have HB0d := Lib.hid (k6.heap HB0c.out (by simp))
    clear k6
    have hdone : ∃ r, typeB s = r ∧ (r = none ∨ ∃ v, r = some v ∧ sayB v = l) := by
      refine ⟨typeB s, rfl, ?_⟩
      cases ht : typeB s with
      | none => exact .inl rfl
      | some v =>
        obtain ⟨q1, q2⟩ := say_typeB ht
        have q3 := (say_more q1).2.2.2.2
        refine .inr ⟨v, rfl, ?_⟩
        rw [q2, HS.out]
        rw [q2, HS.out, List.length_take] at q3
        exact List.take_of_length_le (by omega)
    obtain ⟨r, hr, hdone⟩ := hdone
    rw [hr]
    clear hr
    rcases hdone with rfl | ⟨v, rfl, hv⟩
    · simp only [getTy, Option.getD_none, Option.isSome_none, tyV, noTy]
      go_wp2_with fail
      have HKB := Lib.hid (K6.out.alloc (.cells #[.bool false, .bool false, .int .i64 0] 34))
      have HBB := Lib.hid (((Kept.refl [] w6).alloc (.cells #[.bool false, .bool false, .int .i64 0] 34)).heap HB0d.out (by simp))
      go_loopw [11, 12] (fun tv mv wr => ∃ (T : List UInt8) (m : Nat), tv = .string ⟨T.toArray⟩ ∧ mv = .int .u64 (m : Int) ∧ DigL T ∧ n = m * 10 ^ T.length + valL T ∧ T.length ≤ 20 ∧ Kept [] w wr ∧ wr.heap[w.heap.size]? = some (.cells #[.bool ub, .bool us, .int .i64 (k : Int)] 34 (0, 0))) (fun tv mv _ => (intOf mv).toNat + (match tv with | .string b => if b.size = 0 then 1 else 0 | _ => 0))
      case atStart => exact ⟨[], n, rfl, rfl, fun c hc => by simp at hc, by simp [valL], by simp, HKB.out, HBB.out⟩
      case round =>
        obtain ⟨T, m, rfl, rfl, hdg, hval, hlen, kr, hbr⟩ := hrel
        have HDG := Lib.hid hdg
        have HVAL := Lib.hid hval
        have KR := Lib.hid kr
        have HBR := Lib.hid hbr
        have hmn : m ≤ n := by
          have h5 : m * 1 ≤ m * 10 ^ T.length := Nat.mul_le_mul_left _ (Nat.pow_pos (by omega))
          omega
        have hml : 1 ≤ m → T.length ≤ 19 := fun h5 => by
          refine Nat.le_of_not_lt fun h6 => ?_
          have h7 : 10 ^ 20 ≤ 10 ^ T.length := Nat.pow_le_pow_right (by omega) (by omega)
          have h8 : 1 * 10 ^ T.length ≤ m * 10 ^ T.length := Nat.mul_le_mul_right _ h5
          have h9 : (10 : Nat) ^ 20 = 100000000000000000000 := by decide
          omega
        clear hdg hval kr hbr
        by_cases hgo : 1 ≤ m ∨ T = []
        · have hl19 : T.length ≤ 19 := by
            rcases hgo with h5 | h5
            · exact hml h5
            · rw [h5]; simp
          have hcv := conv_one wr (48 + m % 10) (by omega)
          rw [show (((48 + m % 10 : Nat)) : Int) = 48 + (m : Int) % 10 from by omega] at hcv
          have hu8 : ∀ x, UInt8.ofNat (48 + x) = 48 + UInt8.ofNat x := fun x => by rw [UInt8.ofNat_add]; rfl
          rw [hu8] at hcv
          have HC := Lib.hid (show dgB (48 + UInt8.ofNat (m % 10)) = true ∧ (48 + UInt8.ofNat (m % 10) : UInt8).toNat - 48 = m % 10 from by
            rw [← hu8]
            have e5 : (UInt8.ofNat (48 + m % 10)).toNat = 48 + m % 10 := by rw [UInt8.toNat_ofNat', Nat.mod_eq_of_lt (by simp; omega)]
            refine ⟨?_, by rw [e5]; omega⟩
            rw [dgB_iff, e5]
            omega)
          have HNX := Lib.hid (show n = m / 10 * 10 ^ ((48 + UInt8.ofNat (m % 10)) :: T).length + valL ((48 + UInt8.ofNat (m % 10)) :: T) from by
            rw [valL_cons, HC.out.2, HVAL.out, List.length_cons, Nat.pow_succ]
            have e5 := Nat.div_add_mod m 10
            have e6 : m / 10 * (10 ^ T.length * 10) = 10 * (m / 10) * 10 ^ T.length := by
              rw [Nat.mul_comm (10 ^ T.length) 10, ← Nat.mul_assoc, Nat.mul_comm (m / 10) 10]
            rw [e6]
            conv => lhs; rw [← e5, Nat.add_mul]
            omega)
          generalize hz : (48 + UInt8.ofNat (m % 10) : UInt8) = z at *
          have HSA := Lib.hid (str_add [z] T)
          have hzt : T.length + 1 ≤ 20 := by omega
          have hcat : ∀ W, (Op.stringOp .add ⟨#[z]⟩ ⟨T.toArray⟩).run Tryd.prog W = .ok (.string ⟨(z :: T).toArray⟩) W := fun W => by
            have h5 := run_string_add_sum (P := Tryd.prog) W ⟨#[z]⟩ ⟨T.toArray⟩ (by show 1 + T.length ≤ 9223372036854775807; omega)
            rw [show (⟨#[z]⟩ : ByteArray) ++ ⟨T.toArray⟩ = ⟨(z :: T).toArray⟩ from HSA.out] at h5
            exact h5
          clear hu8 hml
          by_cases hm1 : 1 ≤ m
          · have hm2 : (0 : Int) < (m : Int) := by omega
            clear hgo
            go_wp2_with fail
            go_roundw
            case rel => exact ⟨z :: T, m / 10, rfl, by go_num, digL_cons HC.out.1 HDG.out, HNX.out, by simp; omega, KR.out.alloc _, ((Kept.refl [] wr).alloc _).heap HBR.out (by simp)⟩
            case measure =>
              simp [intOf, ByteArray.size]
              omega
          · obtain rfl : m = 0 := by omega
            obtain rfl : T = [] := hgo.resolve_left (by omega)
            obtain rfl : z = 48 := by rw [← hz]; rfl
            rw [show (48 + ((0 : Nat) : Int) % 10) = 48 from rfl] at hcv
            clear hgo hm1 hz
            go_wp2_with fail
            go_roundw
            case rel => exact ⟨[48], 0, rfl, by go_num, digL_cons HC.out.1 HDG.out, HNX.out, by simp, KR.out.alloc _, ((Kept.refl [] wr).alloc _).heap HBR.out (by simp)⟩
            case measure => simp [intOf, ByteArray.size]
        · have hm0 : m = 0 := by omega
          subst hm0
          have hT0 : T ≠ [] := fun h => hgo (.inr h)
          have HT0 := Lib.hid hT0
          have g1 : (T == []) = false := by rw [beq_eq_false_iff_ne]; exact hT0
          have g2 : T.isEmpty = false := by
            cases T with
            | nil => exact absurd rfl hT0
            | cons c T => rfl
          have hv : valL T = n := by have := HVAL.out; omega
          have HNT := Lib.hid (num_text HDG.out hlen hv hn)
          have HNL := Lib.hid (num_lit HDG.out hlen hv hn HU.out)
          rw [← HSE.out] at HNL
          clear hgo hml hT0 hv
          obtain ⟨c8, W8, hcv8, hbt8, hk8⟩ := conv_bt wr T
          have HA8 := Lib.hid (all_c T (some ⟨wr.heap.size, 0, none⟩) c8 W8 (HL.out.kept0 (KR.out.trans hk8)) hbt8 (by omega))
          have HK8 := Lib.hid hk8
          have HRT := Lib.hid (show allR T = .ok [⟨4, T, 0, n, noTy⟩, endTk T.length] from by
            rw [allR_of T (by omega)]
            have hhd : ∃ c r, T = c :: r ∧ dgB c = true := by
              cases T with
              | nil => exact absurd rfl HT0.out
              | cons c r => exact ⟨c, r, rfl, HDG.out c (by simp)⟩
            rw [all_one hhd HNT.out rfl])
          clear hbt8 hk8
          go_wp2_with fail
          refine HA8.out.mono ?_
          intro e w9 hp
          rw [HRT.out] at hp
          obtain ⟨k9, a9, c9, rfl, ho9, _⟩ := hp
          have HO9 := Lib.hid ho9
          have K9 := Lib.hid ((KR.out.trans HK8.out).trans k9)
          have HB9 := Lib.hid ((HK8.out.trans k9).heap HBR.out (by simp))
          have c0 := blk_cell HB9.out 0
          have c1 := blk_cell HB9.out 1
          have c2 := blk_cell HB9.out 2
          simp only [List.getElem?_toArray, List.getElem?_cons_zero, List.getElem?_cons_succ] at c0 c1 c2
          have hl9 := blk_lt HB9.out
          clear k9 ho9 hcv8
          go_wp2_with fail
          refine (HSU.out _).mono ?_
          rintro e w10 ⟨rfl, k10⟩
          have HF9 := Lib.hid (k10.heap (heap_alloc_new w9 (.cells #[.int .i64 0, .int .i64 0] 26)) (by simp))
          have P10 := Lib.hid (show Kept [] w9 w10 from ((Kept.refl [] w9).alloc (.cells #[.int .i64 0, .int .i64 0] 26)).trans k10)
          have K10 := Lib.hid (K9.out.trans P10.out)
          have hul := HSM.out.2.2.2.2
          obtain ⟨TS, hTS⟩ : ∃ TS, TS = T ++ Su := ⟨_, rfl⟩
          have HTSE := Lib.hid hTS
          have hcat : ∀ W, (Op.stringOp .add ⟨T.toArray⟩ ⟨Su.toArray⟩).run Tryd.prog W = .ok (.string ⟨TS.toArray⟩) W := fun W => by
            have h5 := run_string_add_sum (P := Tryd.prog) W ⟨T.toArray⟩ ⟨Su.toArray⟩ (by show T.length + Su.length ≤ 9223372036854775807; omega)
            rw [str_add T Su] at h5
            rw [hTS]
            exact h5
          have htl : TS.length ≤ 24 := by rw [hTS, List.length_append]; omega
          rw [← hTS] at HNL
          clear hTS
          obtain ⟨c11, W11, hcv11, hbt11, hk11⟩ := conv_bt w10 TS
          have HA11 := Lib.hid (all_c TS (some ⟨w10.heap.size, 0, none⟩) c11 W11 (HL.out.kept0 (K10.out.trans hk11)) hbt11 (by omega))
          have HK11 := Lib.hid hk11
          have HHD := Lib.hid (show ∃ c r, TS = c :: r ∧ dgB c = true from by
            rw [HTSE.out]
            cases T with
            | nil => exact absurd rfl HT0.out
            | cons c r => exact ⟨c, r ++ Su, rfl, HDG.out c (by simp)⟩)
          clear k10 c0 c1 c2 hl9 hul hbt11 hk11
          have HW := Lib.hid (hold_le (t := ⟨ub, us, (k : Int)⟩) (k := k) (n := n) rfl hk1.1 hk1.2)
          simp only at HW
          have hones : (18446744073709551615 / 2 ^ (64 - k) : Int) = ((2 ^ k - 1 : Nat) : Int) := by
            rw [← ones_nat k hk1.2, Int.natCast_ediv, Int.natCast_pow]
            rfl
          obtain ⟨o, ho⟩ : ∃ o, o = 2 ^ k - 1 := ⟨_, rfl⟩
          rw [← ho] at HW hones
          obtain ⟨o2, ho2⟩ : ∃ o2, o2 = o / 2 := ⟨_, rfl⟩
          rw [← ho2] at HW
          have hh2 : ((o : Int) / 2) = (o2 : Int) := by rw [ho2, Int.natCast_ediv]; rfl
          clear ho ho2
          cases hcase : (!ub && holdB ⟨ub, us, (k : Int)⟩ n) with
          | true =>
            have hub : ub = false := by cases ub <;> simp_all
            subst hub
            have HHB := Lib.hid (show holdB ⟨false, us, (k : Int)⟩ n = true from by simpa using hcase)
            have HRX := Lib.hid (show allR TS = .ok [⟨5, TS, 0, n, ⟨false, us, (k : Int)⟩⟩, endTk TS.length] from by
              rw [allR_of _ (by omega), all_one HHD.out (by rw [HNL.out]; rw [show (!(⟨false, us, (k : Int)⟩ : Ty).b && holdB ⟨false, us, (k : Int)⟩ n) = true from hcase]; rfl) rfl])
            have hle : n ≤ if us = true then o2 else o := by
              have h5 := HW.out
              rw [HHB.out] at h5
              exact of_decide_eq_true h5.symm
            clear hcase
            go_wp2_with fail
            refine HA11.out.mono ?_
            intro e w12 hp
            rw [HRX.out] at hp
            obtain ⟨k12, a12, c12, rfl, ho12, _⟩ := hp
            have HO12 := Lib.hid ho12
            clear ho12
            have P12 := Lib.hid (HK11.out.trans k12)
            have K12 := Lib.hid (K10.out.trans P12.out)
            clear k12 hcv11
            have hb3 := (P10.out.trans P12.out).heap HB9.out (by simp)
            have c0 := blk_cell hb3 0
            have c1 := blk_cell hb3 1
            have c2 := blk_cell hb3 2
            have hlb3 := blk_lt hb3
            have hb4 := P12.out.heap HF9.out (by simp)
            have d0 := blk_cell hb4 0
            have d1 := blk_cell hb4 1
            have hlb4 := blk_lt hb4
            simp only [List.getElem?_toArray, List.getElem?_cons_zero, List.getElem?_cons_succ] at c0 c1 c2 d0 d1
            obtain ⟨g9, hg9, x9, _⟩ := tk_cell HO9.out 0 3 (by simp) (by omega)
            subst hg9
            simp only [List.getElem_cons_zero, List.getElem_cons_succ, tkCells, List.getElem?_cons_zero, List.getElem?_cons_succ, Nat.reduceMul, Nat.reduceAdd] at x9
            replace x9 := (P10.out.trans P12.out).cell x9 (by simp)
            have hlg9 := World.block_lt_of_cell? _ _ x9
            clear hb3 hb4
            obtain ⟨g12, hg12, y3, _⟩ := tk_cell HO12.out 0 3 (by simp) (by omega)
            subst hg12
            obtain ⟨_, e4, y4, _⟩ := tk_cell HO12.out 0 4 (by simp) (by omega)
            obtain rfl := (show g12 = _ from by injection e4 with e4; injection e4)
            obtain ⟨_, e5, y5, _⟩ := tk_cell HO12.out 0 5 (by simp) (by omega)
            obtain rfl := (show g12 = _ from by injection e5 with e5; injection e5)
            obtain ⟨_, e6, y6, _⟩ := tk_cell HO12.out 0 6 (by simp) (by omega)
            obtain rfl := (show g12 = _ from by injection e6 with e6; injection e6)
            obtain ⟨_, e0, y0, _⟩ := tk_cell HO12.out 0 0 (by simp) (by omega)
            obtain rfl := (show g12 = _ from by injection e0 with e0; injection e0)
            clear e4 e5 e6 e0
            simp only [List.getElem_cons_zero, List.getElem_cons_succ, tkCells, List.getElem?_cons_zero, List.getElem?_cons_succ, Nat.reduceMul, Nat.reduceAdd] at y0 y3 y4 y5 y6
            have hlg12 := World.block_lt_of_cell? _ _ y0
            cases us with
            | true =>
              simp only [if_true] at hle
              have hle2 : (n : Int) ≤ (o2 : Int) := by omega
              go_wp2_with fail
              go_quiet (fail)
              go_wp2_with fail
              go_ret
              exact ⟨rfl, (K12.out.alloc _).drewN _⟩
            | false =>
              simp only [Bool.false_eq_true, if_false] at hle
              have hle2 : (n : Int) ≤ (o : Int) := by omega
              go_wp2_with fail
              go_quiet (fail)
              go_wp2_with fail
              go_ret
              exact ⟨rfl, (K12.out.alloc _).drewN _⟩
          | false =>
            have HRX := Lib.hid (show allR TS = .error (20, 0) from by
              rw [allR_of _ (by omega), all_bad HHD.out (by rw [HNL.out]; rw [show (!(⟨ub, us, (k : Int)⟩ : Ty).b && holdB ⟨ub, us, (k : Int)⟩ n) = false from hcase]; rfl)])
            have hle : ub = false → ¬ n ≤ (if us = true then o2 else o) := fun h5 => by
              subst h5
              have h6 : holdB ⟨false, us, (k : Int)⟩ n = false := by simpa using hcase
              have h5 := HW.out
              rw [h6] at h5
              exact of_decide_eq_false h5.symm
            have hus : ub = true → us = false := fun h5 => by
              subst h5
              have h6 := HU.out
              unfold mayTy at h6
              simp at h6
              exact h6.1
            clear hcase
            go_wp2_with fail
            refine HA11.out.mono ?_
            intro e w12 hp
            rw [HRX.out] at hp
            obtain ⟨k12, he⟩ := hp
            have he' : e = .returned (.tuple #[.slice none 0 0, .agg #[.int .i64 20, .int .i64 0]]) := he
            subst he'
            clear he
            have P12 := Lib.hid (HK11.out.trans k12)
            have K12 := Lib.hid (K10.out.trans P12.out)
            clear k12 hcv11
            have hb3 := (P10.out.trans P12.out).heap HB9.out (by simp)
            have c0 := blk_cell hb3 0
            have c1 := blk_cell hb3 1
            have c2 := blk_cell hb3 2
            have hlb3 := blk_lt hb3
            have hb4 := P12.out.heap HF9.out (by simp)
            have d0 := blk_cell hb4 0
            have d1 := blk_cell hb4 1
            have hlb4 := blk_lt hb4
            simp only [List.getElem?_toArray, List.getElem?_cons_zero, List.getElem?_cons_succ] at c0 c1 c2 d0 d1
            obtain ⟨g9, hg9, x9, _⟩ := tk_cell HO9.out 0 3 (by simp) (by omega)
            subst hg9
            simp only [List.getElem_cons_zero, List.getElem_cons_succ, tkCells, List.getElem?_cons_zero, List.getElem?_cons_succ, Nat.reduceMul, Nat.reduceAdd] at x9
            replace x9 := (P10.out.trans P12.out).cell x9 (by simp)
            have hlg9 := World.block_lt_of_cell? _ _ x9
            clear hb3 hb4
            cases ub with
            | true =>
              obtain rfl := hus rfl
              clear hle hus
              go_wp2_with fail
              go_quiet (fail)
              go_wp2_with fail
              go_ret
              exact ⟨rfl, (K12.out.alloc _).drewN _⟩
            | false =>
              have hle := hle rfl
              clear hus
              cases us with
              | true =>
                simp only [if_true] at hle
                have hle2 : ¬ (n : Int) ≤ (o2 : Int) := by omega
                go_wp2_with fail
                go_quiet (fail)
                go_wp2_with fail
                go_ret
                exact ⟨rfl, (K12.out.alloc _).drewN _⟩
              | false =>
                simp only [Bool.false_eq_true, if_false] at hle
                have hle2 : ¬ (n : Int) ≤ (o : Int) := by omega
                go_wp2_with fail
                go_quiet (fail)
                go_wp2_with fail
                go_ret
                exact ⟨rfl, (K12.out.alloc _).drewN _⟩
    · simp only [getTy, Option.getD_some, Option.isSome_some, tyV]
      have HV := Lib.hid (fun W => (show Calls Tryd.prog 16 #[.agg #[.bool v.b, .bool v.sg, .int .i64 v.w]] W fun e w' => e = .returned (.string ⟨l.toArray⟩) ∧ Kept [] W w' from hv ▸ says_c v W))
      clear hv
      go_wp2_with fail
      refine (HV.out _).mono ?_
      rintro e w7 ⟨rfl, k7⟩
      have HKB := Lib.hid ((K6.out.alloc (.cells #[.bool v.b, .bool v.sg, .int .i64 v.w] 34)).trans k7)
      have HBB := Lib.hid (k7.heap (((Kept.refl [] w6).alloc (.cells #[.bool v.b, .bool v.sg, .int .i64 v.w] 34)).heap HB0d.out (by simp)) (by simp))
      clear k7
      go_wp2_with fail
      go_loopw [11, 12] (fun tv mv wr => ∃ (T : List UInt8) (m : Nat), tv = .string ⟨T.toArray⟩ ∧ mv = .int .u64 (m : Int) ∧ DigL T ∧ n = m * 10 ^ T.length + valL T ∧ T.length ≤ 20 ∧ Kept [] w wr ∧ wr.heap[w.heap.size]? = some (.cells #[.bool ub, .bool us, .int .i64 (k : Int)] 34 (0, 0))) (fun tv mv _ => (intOf mv).toNat + (match tv with | .string b => if b.size = 0 then 1 else 0 | _ => 0))
      case atStart => exact ⟨[], n, rfl, rfl, fun c hc => by simp at hc, by simp [valL], by simp, HKB.out, HBB.out⟩
      case round =>
        obtain ⟨T, m, rfl, rfl, hdg, hval, hlen, kr, hbr⟩ := hrel
        have HDG := Lib.hid hdg
        have HVAL := Lib.hid hval
        have KR := Lib.hid kr
        have HBR := Lib.hid hbr
        have hmn : m ≤ n := by
          have h5 : m * 1 ≤ m * 10 ^ T.length := Nat.mul_le_mul_left _ (Nat.pow_pos (by omega))
          omega
        have hml : 1 ≤ m → T.length ≤ 19 := fun h5 => by
          refine Nat.le_of_not_lt fun h6 => ?_
          have h7 : 10 ^ 20 ≤ 10 ^ T.length := Nat.pow_le_pow_right (by omega) (by omega)
          have h8 : 1 * 10 ^ T.length ≤ m * 10 ^ T.length := Nat.mul_le_mul_right _ h5
          have h9 : (10 : Nat) ^ 20 = 100000000000000000000 := by decide
          omega
        clear hdg hval kr hbr
        by_cases hgo : 1 ≤ m ∨ T = []
        · have hl19 : T.length ≤ 19 := by
            rcases hgo with h5 | h5
            · exact hml h5
            · rw [h5]; simp
          have hcv := conv_one wr (48 + m % 10) (by omega)
          rw [show (((48 + m % 10 : Nat)) : Int) = 48 + (m : Int) % 10 from by omega] at hcv
          have hu8 : ∀ x, UInt8.ofNat (48 + x) = 48 + UInt8.ofNat x := fun x => by rw [UInt8.ofNat_add]; rfl
          rw [hu8] at hcv
          have HC := Lib.hid (show dgB (48 + UInt8.ofNat (m % 10)) = true ∧ (48 + UInt8.ofNat (m % 10) : UInt8).toNat - 48 = m % 10 from by
            rw [← hu8]
            have e5 : (UInt8.ofNat (48 + m % 10)).toNat = 48 + m % 10 := by rw [UInt8.toNat_ofNat', Nat.mod_eq_of_lt (by simp; omega)]
            refine ⟨?_, by rw [e5]; omega⟩
            rw [dgB_iff, e5]
            omega)
          have HNX := Lib.hid (show n = m / 10 * 10 ^ ((48 + UInt8.ofNat (m % 10)) :: T).length + valL ((48 + UInt8.ofNat (m % 10)) :: T) from by
            rw [valL_cons, HC.out.2, HVAL.out, List.length_cons, Nat.pow_succ]
            have e5 := Nat.div_add_mod m 10
            have e6 : m / 10 * (10 ^ T.length * 10) = 10 * (m / 10) * 10 ^ T.length := by
              rw [Nat.mul_comm (10 ^ T.length) 10, ← Nat.mul_assoc, Nat.mul_comm (m / 10) 10]
            rw [e6]
            conv => lhs; rw [← e5, Nat.add_mul]
            omega)
          generalize hz : (48 + UInt8.ofNat (m % 10) : UInt8) = z at *
          have HSA := Lib.hid (str_add [z] T)
          have hzt : T.length + 1 ≤ 20 := by omega
          have hcat : ∀ W, (Op.stringOp .add ⟨#[z]⟩ ⟨T.toArray⟩).run Tryd.prog W = .ok (.string ⟨(z :: T).toArray⟩) W := fun W => by
            have h5 := run_string_add_sum (P := Tryd.prog) W ⟨#[z]⟩ ⟨T.toArray⟩ (by show 1 + T.length ≤ 9223372036854775807; omega)
            rw [show (⟨#[z]⟩ : ByteArray) ++ ⟨T.toArray⟩ = ⟨(z :: T).toArray⟩ from HSA.out] at h5
            exact h5
          clear hu8 hml
          by_cases hm1 : 1 ≤ m
          · have hm2 : (0 : Int) < (m : Int) := by omega
            clear hgo
            go_wp2_with fail
            go_roundw
            case rel => exact ⟨z :: T, m / 10, rfl, by go_num, digL_cons HC.out.1 HDG.out, HNX.out, by simp; omega, KR.out.alloc _, ((Kept.refl [] wr).alloc _).heap HBR.out (by simp)⟩
            case measure =>
              simp [intOf, ByteArray.size]
              omega
          · obtain rfl : m = 0 := by omega
            obtain rfl : T = [] := hgo.resolve_left (by omega)
            obtain rfl : z = 48 := by rw [← hz]; rfl
            rw [show (48 + ((0 : Nat) : Int) % 10) = 48 from rfl] at hcv
            clear hgo hm1 hz
            go_wp2_with fail
            go_roundw
            case rel => exact ⟨[48], 0, rfl, by go_num, digL_cons HC.out.1 HDG.out, HNX.out, by simp, KR.out.alloc _, ((Kept.refl [] wr).alloc _).heap HBR.out (by simp)⟩
            case measure => simp [intOf, ByteArray.size]
        · have hm0 : m = 0 := by omega
          subst hm0
          have hT0 : T ≠ [] := fun h => hgo (.inr h)
          have HT0 := Lib.hid hT0
          have g1 : (T == []) = false := by rw [beq_eq_false_iff_ne]; exact hT0
          have g2 : T.isEmpty = false := by
            cases T with
            | nil => exact absurd rfl hT0
            | cons c T => rfl
          have hv : valL T = n := by have := HVAL.out; omega
          have HNT := Lib.hid (num_text HDG.out hlen hv hn)
          have HNL := Lib.hid (num_lit HDG.out hlen hv hn HU.out)
          rw [← HSE.out] at HNL
          clear hgo hml hT0 hv
          obtain ⟨c8, W8, hcv8, hbt8, hk8⟩ := conv_bt wr T
          have HA8 := Lib.hid (all_c T (some ⟨wr.heap.size, 0, none⟩) c8 W8 (HL.out.kept0 (KR.out.trans hk8)) hbt8 (by omega))
          have HK8 := Lib.hid hk8
          have HRT := Lib.hid (show allR T = .ok [⟨4, T, 0, n, noTy⟩, endTk T.length] from by
            rw [allR_of T (by omega)]
            have hhd : ∃ c r, T = c :: r ∧ dgB c = true := by
              cases T with
              | nil => exact absurd rfl HT0.out
              | cons c r => exact ⟨c, r, rfl, HDG.out c (by simp)⟩
            rw [all_one hhd HNT.out rfl])
          clear hbt8 hk8
          go_wp2_with fail
          refine HA8.out.mono ?_
          intro e w9 hp
          rw [HRT.out] at hp
          obtain ⟨k9, a9, c9, rfl, ho9, _⟩ := hp
          have HO9 := Lib.hid ho9
          have K9 := Lib.hid ((KR.out.trans HK8.out).trans k9)
          have HB9 := Lib.hid ((HK8.out.trans k9).heap HBR.out (by simp))
          have c0 := blk_cell HB9.out 0
          have c1 := blk_cell HB9.out 1
          have c2 := blk_cell HB9.out 2
          simp only [List.getElem?_toArray, List.getElem?_cons_zero, List.getElem?_cons_succ] at c0 c1 c2
          have hl9 := blk_lt HB9.out
          clear k9 ho9 hcv8
          go_wp2_with fail
          refine (HSU.out _).mono ?_
          rintro e w10 ⟨rfl, k10⟩
          have HF9 := Lib.hid (k10.heap (heap_alloc_new w9 (.cells #[.int .i64 0, .int .i64 0] 26)) (by simp))
          have P10 := Lib.hid (show Kept [] w9 w10 from ((Kept.refl [] w9).alloc (.cells #[.int .i64 0, .int .i64 0] 26)).trans k10)
          have K10 := Lib.hid (K9.out.trans P10.out)
          have hul := HSM.out.2.2.2.2
          obtain ⟨TS, hTS⟩ : ∃ TS, TS = T ++ Su := ⟨_, rfl⟩
          have HTSE := Lib.hid hTS
          have hcat : ∀ W, (Op.stringOp .add ⟨T.toArray⟩ ⟨Su.toArray⟩).run Tryd.prog W = .ok (.string ⟨TS.toArray⟩) W := fun W => by
            have h5 := run_string_add_sum (P := Tryd.prog) W ⟨T.toArray⟩ ⟨Su.toArray⟩ (by show T.length + Su.length ≤ 9223372036854775807; omega)
            rw [str_add T Su] at h5
            rw [hTS]
            exact h5
          have htl : TS.length ≤ 24 := by rw [hTS, List.length_append]; omega
          rw [← hTS] at HNL
          clear hTS
          obtain ⟨c11, W11, hcv11, hbt11, hk11⟩ := conv_bt w10 TS
          have HA11 := Lib.hid (all_c TS (some ⟨w10.heap.size, 0, none⟩) c11 W11 (HL.out.kept0 (K10.out.trans hk11)) hbt11 (by omega))
          have HK11 := Lib.hid hk11
          have HHD := Lib.hid (show ∃ c r, TS = c :: r ∧ dgB c = true from by
            rw [HTSE.out]
            cases T with
            | nil => exact absurd rfl HT0.out
            | cons c r => exact ⟨c, r ++ Su, rfl, HDG.out c (by simp)⟩)
          clear k10 c0 c1 c2 hl9 hul hbt11 hk11
          have HW := Lib.hid (hold_le (t := ⟨ub, us, (k : Int)⟩) (k := k) (n := n) rfl hk1.1 hk1.2)
          simp only at HW
          have hones : (18446744073709551615 / 2 ^ (64 - k) : Int) = ((2 ^ k - 1 : Nat) : Int) := by
            rw [← ones_nat k hk1.2, Int.natCast_ediv, Int.natCast_pow]
            rfl
          obtain ⟨o, ho⟩ : ∃ o, o = 2 ^ k - 1 := ⟨_, rfl⟩
          rw [← ho] at HW hones
          obtain ⟨o2, ho2⟩ : ∃ o2, o2 = o / 2 := ⟨_, rfl⟩
          rw [← ho2] at HW
          have hh2 : ((o : Int) / 2) = (o2 : Int) := by rw [ho2, Int.natCast_ediv]; rfl
          clear ho ho2
          cases hcase : (!ub && holdB ⟨ub, us, (k : Int)⟩ n) with
          | true =>
            have hub : ub = false := by cases ub <;> simp_all
            subst hub
            have HHB := Lib.hid (show holdB ⟨false, us, (k : Int)⟩ n = true from by simpa using hcase)
            have HRX := Lib.hid (show allR TS = .ok [⟨5, TS, 0, n, ⟨false, us, (k : Int)⟩⟩, endTk TS.length] from by
              rw [allR_of _ (by omega), all_one HHD.out (by rw [HNL.out]; rw [show (!(⟨false, us, (k : Int)⟩ : Ty).b && holdB ⟨false, us, (k : Int)⟩ n) = true from hcase]; rfl) rfl])
            have hle : n ≤ if us = true then o2 else o := by
              have h5 := HW.out
              rw [HHB.out] at h5
              exact of_decide_eq_true h5.symm
            clear hcase
            go_wp2_with fail
            refine HA11.out.mono ?_
            intro e w12 hp
            rw [HRX.out] at hp
            obtain ⟨k12, a12, c12, rfl, ho12, _⟩ := hp
            have HO12 := Lib.hid ho12
            clear ho12
            have P12 := Lib.hid (HK11.out.trans k12)
            have K12 := Lib.hid (K10.out.trans P12.out)
            clear k12 hcv11
            have hb3 := (P10.out.trans P12.out).heap HB9.out (by simp)
            have c0 := blk_cell hb3 0
            have c1 := blk_cell hb3 1
            have c2 := blk_cell hb3 2
            have hlb3 := blk_lt hb3
            have hb4 := P12.out.heap HF9.out (by simp)
            have d0 := blk_cell hb4 0
            have d1 := blk_cell hb4 1
            have hlb4 := blk_lt hb4
            simp only [List.getElem?_toArray, List.getElem?_cons_zero, List.getElem?_cons_succ] at c0 c1 c2 d0 d1
            obtain ⟨g9, hg9, x9, _⟩ := tk_cell HO9.out 0 3 (by simp) (by omega)
            subst hg9
            simp only [List.getElem_cons_zero, List.getElem_cons_succ, tkCells, List.getElem?_cons_zero, List.getElem?_cons_succ, Nat.reduceMul, Nat.reduceAdd] at x9
            replace x9 := (P10.out.trans P12.out).cell x9 (by simp)
            have hlg9 := World.block_lt_of_cell? _ _ x9
            clear hb3 hb4
            obtain ⟨g12, hg12, y3, _⟩ := tk_cell HO12.out 0 3 (by simp) (by omega)
            subst hg12
            obtain ⟨_, e4, y4, _⟩ := tk_cell HO12.out 0 4 (by simp) (by omega)
            obtain rfl := (show g12 = _ from by injection e4 with e4; injection e4)
            obtain ⟨_, e5, y5, _⟩ := tk_cell HO12.out 0 5 (by simp) (by omega)
            obtain rfl := (show g12 = _ from by injection e5 with e5; injection e5)
            obtain ⟨_, e6, y6, _⟩ := tk_cell HO12.out 0 6 (by simp) (by omega)
            obtain rfl := (show g12 = _ from by injection e6 with e6; injection e6)
            obtain ⟨_, e0, y0, _⟩ := tk_cell HO12.out 0 0 (by simp) (by omega)
            obtain rfl := (show g12 = _ from by injection e0 with e0; injection e0)
            clear e4 e5 e6 e0
            simp only [List.getElem_cons_zero, List.getElem_cons_succ, tkCells, List.getElem?_cons_zero, List.getElem?_cons_succ, Nat.reduceMul, Nat.reduceAdd] at y0 y3 y4 y5 y6
            have hlg12 := World.block_lt_of_cell? _ _ y0
            cases us with
            | true =>
              simp only [if_true] at hle
              have hle2 : (n : Int) ≤ (o2 : Int) := by omega
              go_wp2_with fail
              go_quiet (fail)
              go_wp2_with fail
              go_ret
              exact ⟨rfl, (K12.out.alloc _).drewN _⟩
            | false =>
              simp only [Bool.false_eq_true, if_false] at hle
              have hle2 : (n : Int) ≤ (o : Int) := by omega
              go_wp2_with fail
              go_quiet (fail)
              go_wp2_with fail
              go_ret
              exact ⟨rfl, (K12.out.alloc _).drewN _⟩
          | false =>
            have HRX := Lib.hid (show allR TS = .error (20, 0) from by
              rw [allR_of _ (by omega), all_bad HHD.out (by rw [HNL.out]; rw [show (!(⟨ub, us, (k : Int)⟩ : Ty).b && holdB ⟨ub, us, (k : Int)⟩ n) = false from hcase]; rfl)])
            have hle : ub = false → ¬ n ≤ (if us = true then o2 else o) := fun h5 => by
              subst h5
              have h6 : holdB ⟨false, us, (k : Int)⟩ n = false := by simpa using hcase
              have h5 := HW.out
              rw [h6] at h5
              exact of_decide_eq_false h5.symm
            have hus : ub = true → us = false := fun h5 => by
              subst h5
              have h6 := HU.out
              unfold mayTy at h6
              simp at h6
              exact h6.1
            clear hcase
            go_wp2_with fail
            refine HA11.out.mono ?_
            intro e w12 hp
            rw [HRX.out] at hp
            obtain ⟨k12, he⟩ := hp
            have he' : e = .returned (.tuple #[.slice none 0 0, .agg #[.int .i64 20, .int .i64 0]]) := he
            subst he'
            clear he
            have P12 := Lib.hid (HK11.out.trans k12)
            have K12 := Lib.hid (K10.out.trans P12.out)
            clear k12 hcv11
            have hb3 := (P10.out.trans P12.out).heap HB9.out (by simp)
            have c0 := blk_cell hb3 0
            have c1 := blk_cell hb3 1
            have c2 := blk_cell hb3 2
            have hlb3 := blk_lt hb3
            have hb4 := P12.out.heap HF9.out (by simp)
            have d0 := blk_cell hb4 0
            have d1 := blk_cell hb4 1
            have hlb4 := blk_lt hb4
            simp only [List.getElem?_toArray, List.getElem?_cons_zero, List.getElem?_cons_succ] at c0 c1 c2 d0 d1
            obtain ⟨g9, hg9, x9, _⟩ := tk_cell HO9.out 0 3 (by simp) (by omega)
            subst hg9
            simp only [List.getElem_cons_zero, List.getElem_cons_succ, tkCells, List.getElem?_cons_zero, List.getElem?_cons_succ, Nat.reduceMul, Nat.reduceAdd] at x9
            replace x9 := (P10.out.trans P12.out).cell x9 (by simp)
            have hlg9 := World.block_lt_of_cell? _ _ x9
            clear hb3 hb4
            cases ub with
            | true =>
              obtain rfl := hus rfl
              clear hle hus
              go_wp2_with fail
              go_quiet (fail)
              go_wp2_with fail
              go_ret
              exact ⟨rfl, (K12.out.alloc _).drewN _⟩
            | false =>
              have hle := hle rfl
              clear hus
              cases us with
              | true =>
                simp only [if_true] at hle
                have hle2 : ¬ (n : Int) ≤ (o2 : Int) := by omega
                go_wp2_with fail
                go_quiet (fail)
                go_wp2_with fail
                go_ret
                exact ⟨rfl, (K12.out.alloc _).drewN _⟩
              | false =>
                simp only [Bool.false_eq_true, if_false] at hle
                have hle2 : ¬ (n : Int) ≤ (o : Int) := by omega
                go_wp2_with fail
                go_quiet (fail)
                go_wp2_with fail
                go_ret
                exact ⟨rfl, (K12.out.alloc _).drewN _⟩
end Go.Proofs.YtjnjldbegngooaaDoor
