/-
  Package lanes: Turn.
-/
import Derived.Test.YtjgcfncganleoaaDoorLnM
import Derived.Test.YtjgcfncganleoaaDoorTrcB
import Derived.Deep.QuietTactic
import Derived.BigQuiet
import Derived.Laws.BitsAllLaws
import Derived.Deep.DeepCutAuto
import Derived.Deep.CutBlock
namespace Go.Proofs.YtjgcfncganleoaaDoor
open Go.ChangeShapes Go.WideShapes Go.ChangeAt Go.RowKit
set_option linter.unusedVariables false
set_option linter.unusedSimpArgs false

variable {w w' w1 W : World}
def sqV (l : List Nat) : Array Value := (nats .u64 l).toArray
theorem sqV_size (l : List Nat) : (sqV l).size = l.length := by simp [sqV, nats]
theorem sqV_set (l : List Nat) (i x : Nat) : (sqV l).setIfInBounds i (.int .u64 (x : Int)) = sqV (l.set i x) := by
  unfold sqV
  rw [← nats_set]
  simp
theorem sqV_get {l : List Nat} {i : Nat} (h : i < l.length) : (sqV l)[i]? = some (.int .u64 ((l.getD i 0 : Nat) : Int)) := by
  simp [sqV, nats, List.getD, List.getElem?_eq_getElem h]
theorem Kept.setRowT {F : List Nat} {a w : World} (h : Kept F a w) {g : Nat} (hp : g ∈ F ∨ a.heap.size ≤ g) (cs : Array Value) : Kept F a (w.setRow g cs) :=
  ⟨h.os, h.tape, h.output, by simpa using h.size, fun k hk hn => (setRow_other _ _ _ _ (by rintro rfl; rcases hp with h | h; exact hn h; omega)).trans (h.block k hk hn)⟩
theorem i64_and_small : ∀ (r : Fin 6) (k : Fin 64), bits .and .i64 (k.1 : Int) (stV r.1 : Int) = ((k.1 &&& stV r.1 : Nat) : Int) ∧ bits .or .i64 (k.1 : Int) (stV r.1 : Int) = ((k.1 ||| stV r.1 : Nat) : Int) := by decide +kernel
set_option maxHeartbeats 3200000 in
set_option maxRecDepth 100000 in
theorem turn_c (l : List Nat) (hl : Sq l) (w : World) : Calls Tryd.prog 74 #[.agg (sqV l)] w fun e w' => e = .returned (.agg (sqV (turnTo 6 l))) ∧ Kept [] w w' := by
  have HL := Lib.hid hl
  clear hl
  go_enter Tryd.func74, Tryd.ntmps74
  go_wp2_with fail
  generalize hw2 : World.alloc (World.alloc w (.cells (sqV l) 125)) _ = w2
  obtain ⟨Z, hZ, hZs⟩ : ∃ Z : Array Value, w2 = (w.alloc (.cells (sqV l) 125)).alloc (.cells Z 125) ∧ Z.size = 64 := ⟨_, hw2.symm, by rfl⟩
  obtain ⟨p1, hp1⟩ : ∃ q, q = w.heap.size := ⟨_, rfl⟩
  obtain ⟨p2, hp2⟩ : ∃ q, q = w.heap.size + 1 := ⟨_, rfl⟩
  have K2 := Lib.hid (show Kept [] w w2 from by rw [hZ]; exact ((Kept.refl [] w).alloc _).alloc _)
  have B1 := Lib.hid (show w2.heap[p1]? = some (.cells (sqV l) 125 (0, 0)) from by rw [hZ, hp1]; exact ((Kept.refl [] _).alloc _).heap (heap_alloc_new _ _) (by simp))
  have B2 := Lib.hid (show w2.heap[p2]? = some (.cells Z 125 (0, 0)) from by
    rw [hZ, hp2]
    have h := heap_alloc_new (w.alloc (.cells (sqV l) 125)) (.cells Z 125)
    have hs : (w.alloc (.cells (sqV l) 125)).heap.size = w.heap.size + 1 := by simp
    rw [hs] at h
    exact h)
  have HP := Lib.hid (And.intro hp1 hp2)
  have HZS := Lib.hid hZs
  try rw [← hp2]
  try rw [← hp1]
  clear hw2 hZ hp1 hp2 hZs
  go_loopw [3, 4] (fun mv sv wr => ∃ (r : Nat), r ≤ 6 ∧ mv = .int .u64 (mV r : Int) ∧ sv = .int .i64 (stV r : Int) ∧ wr.heap[p1]? = some (.cells (sqV (turnTo r l)) 125 (0, 0)) ∧ Kept [p1] w2 wr) (fun _ s _ => (intOf s).toNat)
  case atStart => exact ⟨0, by omega, rfl, rfl, B1.out, .refl _ _⟩
  case round =>
    obtain ⟨r, hr, rfl, rfl, hb, hkr⟩ := hrel
    have HB := Lib.hid hb
    have KR := Lib.hid hkr
    clear hb hkr
    by_cases hlt : r < 6
    · have HSQ := Lib.hid (turn_is r (by omega) l HL.out).1
      have HST := Lib.hid (show 0 < stV r ∧ stV r ≤ 32 ∧ stV (r + 1) = stV r / 2 ∧ mV r < 18446744073709551616 from by
        have : ∀ a : Fin 6, 0 < stV a.1 ∧ stV a.1 ≤ 32 ∧ stV (a.1 + 1) = stV a.1 / 2 ∧ mV a.1 < 18446744073709551616 := by decide +kernel
        exact this ⟨r, hlt⟩)
      have HAO := Lib.hid (fun k (hk : k < 64) => i64_and_small ⟨r, hlt⟩ ⟨k, hk⟩)
      simp only at HAO
      obtain ⟨st, hst⟩ : ∃ st, st = stV r := ⟨_, rfl⟩
      obtain ⟨m, hm⟩ : ∃ m, m = mV r := ⟨_, rfl⟩
      have HSM := Lib.hid (And.intro hst hm)
      rw [← hst] at HST HAO ⊢
      rw [← hm] at HST ⊢
      have hs0 : 0 < st := HST.out.1
      have hs32 : st ≤ 32 := HST.out.2.1
      have hm64 : m < 18446744073709551616 := HST.out.2.2.2
      obtain ⟨l0, hl0⟩ : ∃ x, x = turnTo r l := ⟨_, rfl⟩
      have HL0 := Lib.hid hl0.symm
      rw [← hl0] at HSQ HB
      clear hl0
      clear hst hm
      go_wp2_with fail
      go_loopw [5] (fun i wq => ∃ (k : Nat), k ≤ 64 ∧ i = .int .i64 k ∧ wq.heap[p1]? = some (.cells (sqV (pairsTo st m l0 k)) 125 (0, 0)) ∧ Kept [p1] w2 wq) (fun i _ => 64 - (intOf i).toNat)
      case atStart => exact ⟨0, by omega, rfl, HB.out, KR.out⟩
      case round =>
        obtain ⟨k, hk, rfl, hb, hkr⟩ := hrel
        by_cases hk64 : k < 64
        · have hao := HAO.out k hk64
          have hand := hao.1
          have HPS := Lib.hid (pairsTo_succ st m l0 k)
          have hsq : Sq (pairsTo st m l0 k) := by
            obtain ⟨rfl, rfl⟩ := HSM.out
            exact pairs_sq hlt HSQ.out k hk
          generalize pairsTo st m l0 k = cur at *
          by_cases h0 : k &&& st = 0
          · rw [h0] at hand
            have hor := hao.2
            have hks : k ||| st < 64 := by
              obtain ⟨rfl, rfl⟩ := HSM.out
              exact ((dec_step ⟨r, hlt⟩ ⟨k, hk64⟩).1 h0).1
            have hkn : ¬ k = k ||| st := by
              obtain ⟨rfl, rfl⟩ := HSM.out
              exact ((dec_step ⟨r, hlt⟩ ⟨k, hk64⟩).1 h0).2.1
            have hkn2 : ¬ k ||| st = k := fun e => hkn e.symm
            have hki : (k : Int) < 64 := by omega
            have c1 : wr.cell? ⟨p1, k, none⟩ = some (.int .u64 ((cur.getD k 0 : Nat) : Int)) := by rw [blk_cell hb k]; exact sqV_get (by rw [hsq.1]; exact hk64)
            have c2 : wr.cell? ⟨p1, k ||| st, none⟩ = some (.int .u64 ((cur.getD (k ||| st) 0 : Nat) : Int)) := by rw [blk_cell hb (k ||| st)]; exact sqV_get (by rw [hsq.1]; exact hks)
            have f1 := blk_free hb k
            have f2 := blk_free hb (k ||| st)
            have hlo := hsq.2 k hk64
            have hhi := hsq.2 _ hks
            have HBB := Lib.hid hb
            have HKQ := Lib.hid hkr
            have HP2 := Lib.hid (show pairsTo st m l0 (k + 1) = (cur.set k (loP st m (cur.getD k 0) (cur.getD (k ||| st) 0))).set (k ||| st) (hiP st m (cur.getD k 0) (cur.getD (k ||| st) 0)) from by rw [HPS.out]; unfold pairS; rw [if_pos h0])
            clear HPS
            generalize cur.getD k 0 = low at *
            generalize cur.getD (k ||| st) 0 = high at *
            generalize k ||| st = ks at *
            have ha1 := u64_and_nat low m hlo hm64
            have ha2 := u64_and_nat high m hhi hm64
            obtain ⟨x, hx⟩ : ∃ x, x = (high &&& m) * 2 ^ st % 18446744073709551616 := ⟨_, rfl⟩
            have hx64 : x < 18446744073709551616 := by rw [hx]; exact Nat.mod_lt _ (by decide)
            have hsh : IntKind.u64.wrap (((high &&& m : Nat) : Int) * 2 ^ st) = (x : Int) := by
              rw [hx]
              simp [IntKind.wrap, IntKind.bits, IntKind.signed]
            have hlm : low &&& m < 18446744073709551616 := Nat.lt_of_le_of_lt Nat.and_le_left hlo
            have hor1 := u64_or_nat (low &&& m) x hlm hx64
            obtain ⟨y, hy⟩ : ∃ y, y = low / 2 ^ st := ⟨_, rfl⟩
            have hyl : y ≤ low := by rw [hy]; exact Nat.div_le_self _ _
            have hshr : (low : Int) / 2 ^ st = (y : Int) := by rw [hy]; simp
            have ha3 := u64_and_nat y m (by omega) hm64
            have hym : y &&& m < 18446744073709551616 := Nat.lt_of_le_of_lt Nat.and_le_left (by omega)
            have ha4 := u64_andNot_nat high m hhi hm64
            have hnm : high &&& (18446744073709551615 - m) < 18446744073709551616 := Nat.lt_of_le_of_lt Nat.and_le_left hhi
            have hor2 := u64_or_nat (y &&& m) (high &&& (18446744073709551615 - m)) hym hnm
            have HLO := Lib.hid (show (low &&& m) ||| x = loP st m low high from by rw [hx]; rfl)
            have HHI := Lib.hid (show (y &&& m) ||| (high &&& (18446744073709551615 - m)) = hiP st m low high from by rw [hy]; rfl)
            rw [HLO.out] at hor1
            rw [HHI.out] at hor2
            generalize loP st m low high = lo at *
            generalize hiP st m low high = hi at *
            have hksi : (ks : Int) < 64 := by omega
            clear hb hkr hao hx hy
            go_wp2_with fail
            go_quiet (fail)
            go_wp2_with fail
            go_roundw
            case rel =>
              have b1 := blk_set (w := wr.drewN nq) HBB.out k (.int .u64 (lo : Int))
              have b2 := blk_set (by simpa using b1) ks (.int .u64 (hi : Int))
              refine ⟨k + 1, by omega, by go_num, ?_, ((HKQ.out.drewN nq).setCell (.inl (by simp)) _).setCell (.inl (by simp)) _⟩
              rw [HP2.out, ← sqV_set, ← sqV_set]
              simpa using b2
            case measure => simp [intOf]; omega
          · have HP2 := Lib.hid (show pairsTo st m l0 (k + 1) = cur from by rw [HPS.out]; unfold pairS; rw [if_neg h0])
            have HBB := Lib.hid hb
            have HKQ := Lib.hid hkr
            clear HPS hb hkr hao
            generalize k &&& st = q at *
            have hq1 : ((q : Int) != 0) = true := by rw [bne_iff_ne]; omega
            go_wp2_with fail
            go_roundw
            case rel => exact ⟨k + 1, by omega, by go_num, by rw [HP2.out]; exact HBB.out, HKQ.out⟩
            case measure => simp [intOf]; omega
        · obtain rfl : k = 64 := by omega
          have HBB := Lib.hid hb
          have HKQ := Lib.hid hkr
          clear hb hkr
          have HMX := Lib.hid (show bits .xor .u64 (m : Int) (IntKind.u64.wrap ((m : Int) * 2 ^ (st / 2))) = (mV (r + 1) : Int) ∧ (st : Int) / 2 = (stV (r + 1) : Int) ∧ stV (r + 1) < st from by
            have : ∀ a : Fin 6, bits .xor .u64 (mV a.1 : Int) (IntKind.u64.wrap ((mV a.1 : Int) * 2 ^ (stV a.1 / 2))) = (mV (a.1 + 1) : Int) ∧ (stV a.1 : Int) / 2 = (stV (a.1 + 1) : Int) ∧ stV (a.1 + 1) < stV a.1 := by decide +kernel
            obtain ⟨rfl, rfl⟩ := HSM.out
            exact this ⟨r, hlt⟩)
          have HTN := Lib.hid (show pairsTo st m l0 64 = turnTo (r + 1) l from by
            obtain ⟨rfl, rfl⟩ := HSM.out
            show _ = pairsTo (stV r) (mV r) (turnTo r l) 64
            rw [HL0.out])
          go_wp2_with fail
          go_roundw
          case rel => exact ⟨r + 1, by omega, by rw [HMX.out.1], by rw [HMX.out.2.1], by rw [← HTN.out]; exact HBB.out, HKQ.out⟩
          case measure =>
            have h1 := HMX.out.2.1
            have h2 := HMX.out.2.2
            simp only [intOf, h1]
            omega
    · obtain rfl : r = 6 := by omega
      have hs : stV 6 = 0 := rfl
      rw [hs]
      clear hs
      have hne : p2 ∉ [p1] := by have := HP.out; simp; omega
      have B2r := Lib.hid (KR.out.heap B2.out hne)
      have HSZ := Lib.hid (show (sqV (turnTo 6 l)).size = 64 from by rw [sqV_size]; exact (turn_is 6 (Nat.le_refl _) l HL.out).1.1)
      have HONE := Lib.hid (show (sqV (turnTo 6 l)).all (·.oneCell') = true from by
        rw [Array.all_eq_true_iff_forall_mem]
        intro x hx
        exact nats_one .u64 (turnTo 6 l) x (by simpa [sqV] using hx))
      have HSI := Lib.hid (show (Tryd.prog.info? 125).map (·.size) = some 64 from by kernel_rfl)
      go_wp2_with (first
        | (refine wpList_load_row rfl 125 _ rfl p1 rfl _ _ (0, 0) _ HB.out Tryd.underlying125 rfl (by rw [HSI.out, HSZ.out]) ?_)
        | (refine wpList_store_row rfl 125 _ _ rfl p2 _ rfl rfl _ _ B2r.out (by rw [HSI.out, HSZ.out]) (by rw [HSZ.out, HZS.out]) HONE.out ?_))
      have hrow := setRow_heap wr p2 Z (sqV (turnTo 6 l)) 125 (0, 0) B2r.out
      have HKE := Lib.hid (show Kept [] w (wr.setRow p2 (sqV (turnTo 6 l))) from by
        have h1 := HP.out
        have h2 : Kept [p1, p2] w2 (wr.setRow p2 (sqV (turnTo 6 l))) := (KR.out.more (by simp)).setRowT (.inl (by simp)) _
        exact kept_up K2.out h2 (by simp; omega))
      generalize wr.setRow p2 (sqV (turnTo 6 l)) = wE at *
      refine bodyPost_ret (v := .agg (sqV (turnTo 6 l))) (results_cell_row Tryd.results74 _ wE p2 125 (sqV (turnTo 6 l)) (0, 0) _ rfl hrow Tryd.underlying125 rfl (by rw [HSI.out, HSZ.out])) rfl ?_
      exact ⟨rfl, HKE.out⟩
end Go.Proofs.YtjgcfncganleoaaDoor
