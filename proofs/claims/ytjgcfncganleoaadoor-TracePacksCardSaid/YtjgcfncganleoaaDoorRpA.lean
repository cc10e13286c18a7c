/-
  Chapter 05's document: bits; words in lanes.
-/
import Derived.Test.YtjgcfncganleoaaDoorTpB
import Derived.Test.YtjgcfncganleoaaDoorLnL
import Derived.Test.YtjgcfncganleoaaDoorRtD
import Derived.StillTailTactics
namespace Go.Proofs.YtjgcfncganleoaaDoor
open Go.ChangeShapes Go.WideShapes Go.ChangeAt Go.RowKit
set_option linter.unusedVariables false
set_option linter.unusedSimpArgs false

variable {w w' w1 W : World}
set_option maxHeartbeats 800000 in
theorem rbit_c (n k : Nat) (hn : n < 18446744073709551616) (hk : k ≤ 64) (w : World) : Calls Tryd.prog 75 #[.int .u64 (n : Int), .int .i64 (k : Int)] w fun e w' => e = .returned (.int .u64 (bitOf n k : Int)) ∧ w = w' := by
  have HB := Lib.hid (show bitOf n k = n / 2 ^ k % 2 from rfl)
  go_enter Tryd.func75, Tryd.ntmps75
  go_wp2_with fail
  go_loop [0, 5] (fun nv i => ∃ j : Nat, j ≤ k ∧ i = .int .i64 j ∧ nv = .int .u64 ((n / 2 ^ j : Nat) : Int)) (fun _ i => k - (intOf i).toNat)
  case atStart => exact ⟨0, Nat.zero_le _, rfl, by simp⟩
  case round =>
    obtain ⟨j, hj, rfl, rfl⟩ := hrel
    have HS := Lib.hid (show n / 2 ^ (j + 1) = n / 2 ^ j / 2 from by rw [Nat.pow_succ, Nat.div_div_eq_div_mul])
    have hle : n / 2 ^ j ≤ n := Nat.div_le_self _ _
    obtain ⟨x, hx⟩ : ∃ x, x = n / 2 ^ j := ⟨_, rfl⟩
    have HX := Lib.hid hx
    rw [← hx] at hle ⊢
    clear hx
    by_cases hlt : j < k
    · have hdiv : (x : Int) / 2 = ((x / 2 : Nat) : Int) := by omega
      have HD := Lib.hid hdiv
      clear hdiv
      go_wp2_with fail
      go_round
      case rel => exact ⟨j + 1, by omega, by go_num, by rw [HS.out, ← HX.out, ← HD.out]⟩
      case measure => simp [intOf]; omega
    · obtain rfl : j = k := by omega
      go_wp2_with fail
      go_ret
      exact ⟨by rw [HB.out, ← HX.out]; simp, rfl⟩
/-- a word's lanes, one word at a time -/
theorem laneTo_add (l : List Nat) (i k : Nat) (hk : k ≤ 64) : laneTo l i (k + 1) = laneTo l i k + bitOf (l.getD k 0) i * 2 ^ k := by
  rw [laneTo]
  have h1 := laneTo_lt l i k hk
  have h2 := Nat.two_pow_add_eq_or_of_lt h1 (bitOf (l.getD k 0) i)
  rw [Nat.mul_comm, Nat.or_comm, ← h2, Nat.add_comm]
theorem packT_lanes {k : Nat} {l : List Nat} (hk : k ≤ 64) (h : l.length ≤ 64) (hW : Words l) : packT k l = (List.range k).map (laneW l) := by
  apply List.ext_getElem
  · rw [packT_len hk h hW]; simp
  · intro j h1 h2
    rw [packT_len hk h hW] at h1
    have hb := packT_bit hk h hW j h1
    have hg : (packT k l).getD j 0 = (packT k l)[j]'(by rw [packT_len hk h hW]; exact h1) := by
      rw [List.getD_eq_getElem?_getD, List.getElem?_eq_getElem (by rw [packT_len hk h hW]; exact h1)]; rfl
    rw [hg] at hb
    simp only [List.getElem_map, List.getElem_range]
    apply Nat.eq_of_testBit_eq
    intro i
    unfold laneW
    rw [laneTo_bit]
    by_cases hi : i < 64
    · rw [hb.2 i hi]
      by_cases hil : i < l.length
      · simp [hil]
      · rw [decide_eq_false hil, Bool.false_and, List.getD_eq_getElem?_getD, List.getElem?_eq_none (by omega)]
        simp
    · rw [decide_eq_false (by omega), Bool.false_and]
      exact Nat.testBit_lt_two_pow (Nat.lt_of_lt_of_le (show _ < 2 ^ 64 from hb.1) (Nat.pow_le_pow_right (by omega) (by omega)))
/-- rows as far as they are told -/
def outTo (x : Nat) (l : List Nat) (k i : Nat) : List Nat := (List.range x).map fun q => if q < i then laneTo l q (k + 1) else laneTo l q k
theorem outTo_len (x : Nat) (l : List Nat) (k i : Nat) : (outTo x l k i).length = x := by simp [outTo]
theorem outTo_get {x : Nat} {l : List Nat} {k i : Nat} (q : Nat) (hq : q < x) : (outTo x l k i).getD q 0 = if q < i then laneTo l q (k + 1) else laneTo l q k := by
  unfold outTo
  rw [List.getD_eq_getElem?_getD, List.getElem?_map, List.getElem?_range hq]
  rfl
theorem outTo_succ {x : Nat} {l : List Nat} {k i : Nat} (hi : i < x) : outTo x l k (i + 1) = (outTo x l k i).set i (laneTo l i (k + 1)) := by
  apply List.ext_getElem (by simp [outTo])
  intro q h1 h2
  rw [outTo_len] at h1
  rw [List.getElem_set]
  simp only [outTo, List.getElem_map, List.getElem_range]
  by_cases e : i = q
  · subst e; simp
  · rw [if_neg e]
    have : (q < i + 1) = (q < i) := propext ⟨fun h => by omega, fun h => by omega⟩
    simp only [this]
theorem outTo_next (x : Nat) (l : List Nat) (k : Nat) : outTo x l k x = outTo x l (k + 1) 0 := by
  apply List.ext_getElem (by simp [outTo])
  intro q h1 h2
  rw [outTo_len] at h1
  simp only [outTo, List.getElem_map, List.getElem_range]
  rw [if_pos h1, if_neg (by omega)]
theorem outTo_zero (x : Nat) (l : List Nat) : outTo x l 0 0 = List.replicate x 0 := by
  apply List.ext_getElem (by simp [outTo])
  intro q h1 h2
  simp [outTo, laneTo]
theorem outTo_end (x : Nat) (l : List Nat) : outTo x l l.length 0 = (List.range x).map (laneW l) := by
  unfold outTo laneW
  simp
theorem whole_ownT {e : TypeId} {gb n : Nat} {xs : List Value} (h : w.heap[gb]? = some (.cells xs.toArray e (0, 0))) (hl : xs.length = n) (hn : n ≤ maxLen) : Own w e (some ⟨gb, 0, none⟩) n n xs :=
  ⟨by rw [hl, Nat.mul_one], .inr ⟨gb, n, xs.toArray, rfl, Nat.zero_le _, h, Nat.le_refl _, hn, by simp [hl], by simp [← hl]⟩⟩
set_option maxHeartbeats 3200000 in
set_option maxRecDepth 100000 in
theorem rpack05_c (x : Nat) (a : Option Addr) (c n : Nat) (l : List Nat) (w : World) (hl : l.length = n) (hn : n ≤ 64) (hx1 : 1 ≤ x) (hx : x ≤ 64) (hs : SlN w .u64 a l) (hW : Words l) (hf : ∀ v ∈ l, fitsB (x : Int) v = true) :
    Calls Tryd.prog 55 #[.int .i64 (x : Int), .slice a n c] w fun e w' => ∃ g, e = .returned (.tuple #[.slice (some ⟨g, 0, none⟩) x x, .int .i64 0]) ∧ Own w' 27 (some ⟨g, 0, none⟩) x x (nats .u64 (packT x l)) ∧ Kept [] w w' ∧ w.heap.size ≤ g := by
  have HL := Lib.hid hl
  have HS := Lib.hid hs
  have HW := Lib.hid hW
  have HF := Lib.hid hf
  have HPK := Lib.hid (packT_lanes hx (show l.length ≤ 64 by rw [hl]; exact hn) hW)
  have HEND := Lib.hid (outTo_end x l)
  rw [hl] at HEND
  clear hl hs hW hf
  go_enter Tryd.func55, Tryd.ntmps55
  go_upto_region 4 with (at_make; refine wpList_mkT rfl rfl Tryd.underlying33 u64_info rfl rfl rfl (by omega) (by unfold maxLen; omega) ?_; intro w2 hown2 hst2; rw [nats_replT] at hown2)
  obtain ⟨g, hg⟩ : ∃ g, g = w.heap.size := ⟨_, rfl⟩
  rw [← hg] at hown2 hst2
  try rw [← hg]
  have HGW := Lib.hid hg
  have B2 := Lib.hid (show w2.heap[g]? = some (.cells (sqV (outTo x l 0 0)) 27 (0, 0)) from by
    rw [outTo_zero]
    exact own_wholeT hown2)
  have K2 := Lib.hid (show Kept [] w w2 from hst2.kept)
  clear hg hown2 hst2
  go_wp2_with fail
  go_loopw [7] (fun kv wr => ∃ (k : Nat), k ≤ n ∧ kv = .int .i64 k ∧ wr.heap[g]? = some (.cells (sqV (outTo x l k 0)) 27 (0, 0)) ∧ Kept [g] w2 wr) (fun kv _ => n - (intOf kv).toNat)
  case atStart => exact ⟨0, Nat.zero_le _, rfl, B2.out, .refl _ _⟩
  case round =>
    obtain ⟨k, hk, rfl, hb, hkr⟩ := hrel
    have HB := Lib.hid hb
    have KR := Lib.hid hkr
    have KW := Lib.hid (show Kept [] w wr from kept_up K2.out hkr (by rw [HGW.out]; simp))
    clear hb hkr
    by_cases hlt : k < n
    · have hkl : k < l.length := by rw [HL.out]; exact hlt
      obtain ⟨ad, rfl, x0⟩ := (HS.out.kept0 KW.out) k hkl
      have hv64 := HW.out _ (List.getElem_mem hkl)
      have HGT := Lib.hid (show l.getD k 0 = l[k] from by simp [List.getD, List.getElem?_eq_getElem hkl])
      have HFT := Lib.hid (fun (V : World) => rfits_c (x : Int) l[k] (by omega) (by omega) hv64 V)
      rw [HF.out _ (List.getElem_mem hkl)] at HFT
      have HX0 := Lib.hid (HS.out k hkl)
      obtain ⟨v, hv⟩ : ∃ v, v = l[k] := ⟨_, rfl⟩
      rw [← hv] at x0 hv64 HGT HFT HX0
      clear hv
      go_wp2_with fail
      refine (HFT.out _).mono ?_
      rintro e w3 ⟨rfl, rfl⟩
      obtain ⟨wA, rfl⟩ : ∃ v : World, v = wr := ⟨_, rfl⟩
      go_wp2_with fail
      clear x0
      go_loopw [8] (fun iv wr => ∃ (i : Nat), i ≤ x ∧ iv = .int .i64 i ∧ wr.heap[g]? = some (.cells (sqV (outTo x l k i)) 27 (0, 0)) ∧ Kept [g] w2 wr) (fun iv _ => x - (intOf iv).toNat)
      case atStart => exact ⟨0, Nat.zero_le _, rfl, HB.out, KR.out⟩
      case round =>
        obtain ⟨i, hi, rfl, hb, hkr⟩ := hrel
        have BQ := Lib.hid hb
        have KQ := Lib.hid hkr
        have KWQ := Lib.hid (show Kept [] w wr from kept_up K2.out hkr (by rw [HGW.out]; simp))
        clear hb hkr
        by_cases hix : i < x
        · obtain ⟨ad2, had, x1⟩ := HX0.out
          injection had with had
          subst had
          have y1 := KWQ.out.cell x1 (by simp)
          have HSU := Lib.hid (outTo_succ (l := l) (k := k) hix)
          have HAD := Lib.hid (laneTo_add l i k (by omega))
          have hlt2 := laneTo_lt l i (k + 1) (by omega)
          have HOG := Lib.hid (outTo_get (l := l) (k := k) (i := i) i hix)
          rw [if_neg (Nat.lt_irrefl i)] at HOG
          rw [HGT.out] at HAD
          have c1 : wr.cell? ⟨g, i, none⟩ = some (.int .u64 (laneTo l i k : Int)) := by
            rw [blk_cell BQ.out i, sqV_get (by rw [outTo_len]; exact hix), HOG.out]
          have f1 := blk_free BQ.out i
          have HBIT := Lib.hid (fun (V : World) => rbit_c v i hv64 (by omega) V)
          have HONE := Lib.hid (fun (V : World) => rone_c k (by omega) V)
          obtain ⟨lo, hlo⟩ : ∃ q, q = laneTo l i k := ⟨_, rfl⟩
          obtain ⟨nx, hnx⟩ : ∃ q, q = laneTo l i (k + 1) := ⟨_, rfl⟩
          obtain ⟨b, hb⟩ : ∃ q, q = bitOf v i := ⟨_, rfl⟩
          obtain ⟨p, hp⟩ : ∃ q, q = 2 ^ k := ⟨_, rfl⟩
          rw [← hlo] at c1 HAD
          rw [← hnx] at HAD hlt2 HSU
          rw [← hb] at HAD HBIT
          rw [← hp] at HAD HONE
          have hn64 : nx < 18446744073709551616 := Nat.lt_of_lt_of_le hlt2 (by
            rw [show (18446744073709551616 : Nat) = 2 ^ 64 from rfl]
            exact Nat.pow_le_pow_right (by omega) (by omega))
          have hbp : b * p ≤ nx := by have := HAD.out; omega
          obtain ⟨z, hz⟩ : ∃ z, z = b * p := ⟨_, rfl⟩
          have hmul : IntKind.u64.wrap ((b : Int) * (p : Int)) = (z : Int) := by
            have e1 : (b : Int) * (p : Int) = (z : Int) := by rw [hz]; simp
            rw [e1]
            exact IntWalk.u64_in _ ⟨by omega, by omega⟩
          have hadd : IntKind.u64.wrap ((lo : Int) + (z : Int)) = (nx : Int) := by
            have e1 : (lo : Int) + (z : Int) = (nx : Int) := by rw [HAD.out, hz]; simp
            rw [e1]
            exact IntWalk.u64_in _ ⟨by omega, by omega⟩
          clear hlo hnx hb hp hlt2 hbp hz
          go_wp2_with fail
          refine wp_region_still_tail 17 (by kernel_rfl) (by kernel_rfl) ?_
          simp only [List.take_succ_cons, List.take_zero, List.drop_succ_cons, List.drop_zero]
          repeat still_step
          still_call ((HBIT.out _).mono fun _ _ ⟨h1, h2⟩ => ⟨h1, h2.symm⟩)
          repeat still_step
          still_call ((HONE.out _).mono fun _ _ ⟨h1, h2⟩ => ⟨h1, h2.symm⟩)
          repeat still_step
          refine wpStill_nil ?_
          change wpList _ _ _ _ _ wr.drew
          go_wp2_with fail
          go_roundw
          case rel =>
            have b1 := blk_set BQ.out i (.int .u64 (nx : Int))
            rw [sqV_set, ← HSU.out] at b1
            exact ⟨i + 1, by omega, by go_num, b1, (KQ.out.setCell (.inl (by simp)) _).drew⟩
          case measure => simp [intOf]; omega
        · obtain rfl : i = x := by omega
          have HNX := Lib.hid (outTo_next i l k)
          go_wp2_with fail
          go_roundw
          case rel => exact ⟨k + 1, by omega, by go_num, by rw [← HNX.out]; exact BQ.out, KQ.out⟩
          case measure => simp [intOf]; omega
    · obtain rfl : k = n := by omega
      go_wp2_with fail
      go_ret2
      refine ⟨g, rfl, ?_, KW.out, Nat.le_of_eq HGW.out.symm⟩
      have h := HB.out
      rw [HEND.out, ← HPK.out] at h
      have hlen : (nats .u64 (packT x l)).length = x := by rw [nats_length, HPK.out]; simp
      exact whole_ownT h hlen (by unfold maxLen; omega)
end Go.Proofs.YtjgcfncganleoaaDoor
