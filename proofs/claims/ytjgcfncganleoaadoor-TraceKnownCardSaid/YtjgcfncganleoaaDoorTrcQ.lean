/-
  Package trace: the reader's numbers: the closure of number, and number.
-/
import Derived.Test.YtjgcfncganleoaaDoorTrcP
import Derived.BigQuiet
namespace Go.Proofs.YtjgcfncganleoaaDoor
open Go.ChangeShapes Go.WideShapes Go.ChangeAt Go.RowKit
set_option linter.unusedVariables false
set_option linter.unusedSimpArgs false

variable {w w' w1 W : World}
theorem kept_mix {T S : List Nat} {w wr w2 : World} (h : Kept T w wr) (hk : Kept S wr w2) (hS : ∀ b ∈ S, b ∈ T ∨ w.heap.size ≤ b) : Kept T w w2 :=
  ⟨hk.os.trans h.os, hk.tape.trans h.tape, hk.output.trans h.output, Nat.le_trans h.size hk.size, fun k hk1 hk2 => by
    rw [← h.block k hk1 hk2]
    exact hk.block k (Nat.lt_of_lt_of_le hk1 h.size) (fun hm => by
      rcases hS k hm with h1 | h1
      · exact hk2 h1
      · omega)⟩
def digT (base c : Nat) : Option Nat := if 48 ≤ c ∧ c ≤ 57 then some (c - 48) else if base = 16 ∧ (97 ≤ c ∧ c ≤ 102) then some (c - 97 + 10) else none
def badT (base first most : Nat) (x : Nat × Nat) (d : Nat) : Prop := (x.2 = 0 ∧ d < first) ∨ (0 < x.2 ∧ x.1 = 0) ∨ most < d ∨ (most - d) / base < x.1
instance (base first most : Nat) (x : Nat × Nat) (d : Nat) : Decidable (badT base first most x d) := by unfold badT; infer_instance
def numSt (base first most : Nat) (x : Nat × Nat) (c : Nat) : Option (Option (Nat × Nat)) := match digT base c with
  | none => some none
  | some d => if badT base first most x d then none else some (some (x.1 * base + d, x.2 + 1))
def numT (base first most : Nat) (s : List UInt8) : PR Nat := match runT (numSt base first most) (0, 0) s with
  | .error k => .error k
  | .ok (x, r) => if x.2 = 0 then .error 5 else .ok (x.1, r)
/-- number's variables where they lie, and what holds of them -/
structure NumAt (w : World) (bb mb fb nb tb base first most : Nat) (x : Nat × Nat) : Prop where
  c1 : w.heap[bb]? = some (.cells #[.int .u64 (base : Int)] 27 (0, 0))
  c2 : w.heap[mb]? = some (.cells #[.int .i64 (x.2 : Int)] 3 (0, 0))
  c3 : w.heap[fb]? = some (.cells #[.int .u64 (first : Int)] 27 (0, 0))
  c4 : w.heap[nb]? = some (.cells #[.int .u64 (x.1 : Int)] 27 (0, 0))
  c5 : w.heap[tb]? = some (.cells #[.int .u64 (most : Int)] 27 (0, 0))
  m : most < 18446744073709551616
  n : x.1 ≤ most
  k : x.2 ≤ 1 ∨ 2 ^ (x.2 - 1) ≤ x.1
theorem NumAt.many {bb mb fb nb tb base first most : Nat} {x : Nat × Nat} (h : NumAt w bb mb fb nb tb base first most x) : x.2 ≤ 64 := by
  rcases h.k with h1 | h1
  · omega
  · have := h.m
    have := h.n
    rcases Nat.lt_or_ge 64 x.2 with h2 | h2
    · have h3 : 2 ^ 64 ≤ 2 ^ (x.2 - 1) := Nat.pow_le_pow_right (by omega) (by omega)
      have h4 : (2 : Nat) ^ 64 = 18446744073709551616 := by decide
      omega
    · exact h2
theorem num_grow {base most : Nat} {x : Nat × Nat} {first d : Nat} (hbase : 2 ≤ base) (hk : x.2 ≤ 1 ∨ 2 ^ (x.2 - 1) ≤ x.1) (h : ¬ badT base first most x d) : x.1 * base + d ≤ most ∧ (x.2 + 1 ≤ 1 ∨ 2 ^ (x.2 + 1 - 1) ≤ x.1 * base + d) := by
  unfold badT at h
  have hd : d ≤ most := by omega
  have hq : x.1 ≤ (most - d) / base := by omega
  have h1 : x.1 * base ≤ most - d := Nat.le_trans (Nat.mul_le_mul_right _ hq) (Nat.div_mul_le_self _ _)
  refine ⟨by omega, ?_⟩
  rcases Nat.eq_zero_or_pos x.2 with h0 | h0
  · left; omega
  · right
    have hx : 1 ≤ x.1 := by omega
    have h2 : 2 ^ (x.2 - 1) ≤ x.1 := by
      rcases hk with h3 | h3
      · have : x.2 - 1 = 0 := by omega
        rw [this]; omega
      · exact h3
    have h4 : 2 ^ (x.2 + 1 - 1) = 2 ^ (x.2 - 1) * 2 := by
      rw [← Nat.pow_succ]; congr 1; omega
    have h5 := Nat.mul_le_mul h2 hbase
    omega
theorem u8_nat (b : UInt8) : b.toNat < 256 := UInt8.toNat_lt b
theorem digT_some {base c d : Nat} (hc : c < 256) (h : digT base c = some d) : d < 16 ∧ ((48 ≤ c ∧ c ≤ 57 ∧ d = c - 48) ∨ (base = 16 ∧ 97 ≤ c ∧ c ≤ 102 ∧ d = c - 97 + 10)) := by
  unfold digT at h
  split at h
  · injection h; omega
  · split at h
    · injection h; omega
    · exact absurd h (by simp)
theorem NumAt.kept {bb mb fb nb tb base first most : Nat} {x : Nat × Nat} {S : List Nat} (h : NumAt w bb mb fb nb tb base first most x) (hk : Kept S w w') (h1 : bb ∉ S ∧ mb ∉ S ∧ fb ∉ S ∧ nb ∉ S ∧ tb ∉ S) : NumAt w' bb mb fb nb tb base first most x :=
  ⟨hk.heap h.c1 h1.1, hk.heap h.c2 h1.2.1, hk.heap h.c3 h1.2.2.1, hk.heap h.c4 h1.2.2.2.1, hk.heap h.c5 h1.2.2.2.2, h.m, h.n, h.k⟩
theorem NumAt.step {bb mb fb nb tb base first most x1 x2 M d : Nat} (h : NumAt w bb mb fb nb tb base first most (x1, x2)) (hd1 : mb ≠ nb) (hd2 : bb ≠ mb ∧ bb ≠ nb) (hd3 : fb ≠ mb ∧ fb ≠ nb) (hd4 : tb ≠ mb ∧ tb ≠ nb) (hn : x1 * base + d ≤ most) (hk : x2 + 1 ≤ 1 ∨ 2 ^ (x2 + 1 - 1) ≤ x1 * base + d) (hM : M = x1 * base) (j : Nat) :
    Kept [mb, nb] w (((w.drewN j).setCell ⟨nb, 0, none⟩ (.int .u64 ((M : Int) + (d : Int)))).setCell ⟨mb, 0, none⟩ (.int .i64 ((x2 : Int) + 1))) ∧ NumAt (((w.drewN j).setCell ⟨nb, 0, none⟩ (.int .u64 ((M : Int) + (d : Int)))).setCell ⟨mb, 0, none⟩ (.int .i64 ((x2 : Int) + 1))) bb mb fb nb tb base first most (x1 * base + d, x2 + 1) := by
  have e1 : ((M : Int) + (d : Int)) = ((x1 * base + d : Nat) : Int) := by rw [← hM]; simp
  have e2 : ((x2 : Int) + 1) = ((x2 + 1 : Nat) : Int) := by simp
  rw [e1, e2]
  have k0 := (Kept.refl [mb, nb] w).drewN j
  have k1 := k0.setCell (p := ⟨nb, 0, none⟩) (.inl (by simp)) (.int .u64 ((x1 * base + d : Nat) : Int))
  have k2 := k1.setCell (p := ⟨mb, 0, none⟩) (.inl (by simp)) (.int .i64 ((x2 + 1 : Nat) : Int))
  refine ⟨k2, k2.heap h.c1 (by simp [hd2]), ?_, k2.heap h.c3 (by simp [hd3]), ?_, k2.heap h.c5 (by simp [hd4]), h.m, hn, hk⟩
  · have b1 := (((Kept.refl [nb] w).drewN j).setCell (p := ⟨nb, 0, none⟩) (.inl (by simp)) (.int .u64 ((x1 * base + d : Nat) : Int))).heap h.c2 (by simp [hd1])
    simpa using blk_set b1 0 (.int .i64 ((x2 + 1 : Nat) : Int))
  · have b1 := blk_set (((Kept.refl [] w).drewN j).heap h.c4 (by simp)) 0 (.int .u64 ((x1 * base + d : Nat) : Int))
    exact ((Kept.refl [mb] _).setCell (p := ⟨mb, 0, none⟩) (.inl (by simp)) (.int .i64 ((x2 + 1 : Nat) : Int))).heap (by simpa using b1) (by simp [Ne.symm hd1])
set_option maxHeartbeats 6400000 in
set_option maxRecDepth 100000 in
/-- the closure of number at a byte -/
theorem num1_c (bb mb fb nb tb base first most : Nat) (x : Nat × Nat) (b : UInt8) (w : World) (h : NumAt w bb mb fb nb tb base first most x) (hd1 : mb ≠ nb) (hd2 : bb ≠ mb ∧ bb ≠ nb) (hd3 : fb ≠ mb ∧ fb ≠ nb) (hd4 : tb ≠ mb ∧ tb ≠ nb) (hbase : base = 10 ∨ base = 16) :
    Calls Tryd.prog 101 (#[.int .u8 (b.toNat : Int)] ++ #[.pointer (some ⟨bb, 0, none⟩), .pointer (some ⟨mb, 0, none⟩), .pointer (some ⟨fb, 0, none⟩), .pointer (some ⟨nb, 0, none⟩), .pointer (some ⟨tb, 0, none⟩)]) w (ClPost (fun x W => NumAt W bb mb fb nb tb base first most x) (fun x W => NumAt W bb mb fb nb tb base first most x) [mb, nb] x (numSt base first most x b.toNat) w) := by
  have c1 : w.cell? ⟨bb, 0, none⟩ = some (.int .u64 (base : Int)) := blk_cell h.c1 0
  have c2 : w.cell? ⟨mb, 0, none⟩ = some (.int .i64 (x.2 : Int)) := blk_cell h.c2 0
  have c3 : w.cell? ⟨fb, 0, none⟩ = some (.int .u64 (first : Int)) := blk_cell h.c3 0
  have c4 : w.cell? ⟨nb, 0, none⟩ = some (.int .u64 (x.1 : Int)) := blk_cell h.c4 0
  have c5 : w.cell? ⟨tb, 0, none⟩ = some (.int .u64 (most : Int)) := blk_cell h.c5 0
  have f2 := blk_free h.c2 0
  have f4 := blk_free h.c4 0
  have hm64 := h.many
  have hmost := h.m
  have hnm := h.n
  have hb256 := u8_nat b
  have HH := Lib.hid h
  obtain ⟨x1, x2⟩ := x
  simp only at c2 c4 hm64 hnm
  clear h
  rcases hdig : digT base b.toNat with _ | d
  · have HP := Lib.hid (show numSt base first most (x1, x2) b.toNat = some none from by simp [numSt, hdig])
    generalize b.toNat = c at *
    unfold digT at hdig
    by_cases h1 : 48 ≤ c ∧ c ≤ 57
    · exact absurd hdig (by simp [h1])
    rw [if_neg h1] at hdig
    by_cases h2 : base = 16 ∧ (97 ≤ c ∧ c ≤ 102)
    · exact absurd hdig (by simp [h2])
    clear hdig
    go_enter Tryd.func101, Tryd.ntmps101
    go_wp2_with fail
    all_goals
      go_ret
      rw [HP.out]
      exact ⟨rfl, .refl _ _, HH.out⟩
  · have HS := Lib.hid (show numSt base first most (x1, x2) b.toNat = if badT base first most (x1, x2) d then none else some (some (x1 * base + d, x2 + 1)) from by simp [numSt, hdig])
    obtain ⟨hd16, hca⟩ := digT_some hb256 hdig
    generalize b.toNat = c at *
    clear hdig
    rcases hca with ⟨ha1, ha2, ha3⟩ | ⟨ha0, ha1, ha2, ha3⟩
    · have hcd : (c : Int) - 48 = (d : Int) := by omega
      clear ha3 hb256
      by_cases hx2 : x2 = 0
      · have hx2i : ((x2 : Int) == 0) = true := beq_iff_eq.2 (by omega)
        have hx2d : decide (0 < x2) = false := decide_eq_false (by omega)
        have hx2p : ¬ 0 < x2 := by omega
        have HX2 := Lib.hid hx2
        by_cases hdf : d < first
        · have HB := Lib.hid (show badT base first most (x1, x2) d from by unfold badT; simp only; omega)
          have hdfd : decide (d < first) = true := decide_eq_true hdf
          clear hx2
          go_enter Tryd.func101, Tryd.ntmps101
          go_wp2_with fail; go_quiet (fail); go_wp2_with fail; refine ⟨rfl, ?_⟩; rw [HS.out, if_pos HB.out]; exact ⟨rfl, ((Kept.refl [] w).drewN _).more (by simp)⟩
        · have hdfd : decide (d < first) = false := decide_eq_false hdf
          by_cases hmd : most < d
          · have HB := Lib.hid (show badT base first most (x1, x2) d from by unfold badT; simp only; omega)
            clear hx2
            have hmdd : decide (most < d) = true := decide_eq_true hmd
            go_enter Tryd.func101, Tryd.ntmps101
            go_wp2_with fail; go_quiet (fail); go_wp2_with fail; refine ⟨rfl, ?_⟩; rw [HS.out, if_pos HB.out]; exact ⟨rfl, ((Kept.refl [] w).drewN _).more (by simp)⟩
          · have hmdd : decide (most < d) = false := decide_eq_false hmd
            by_cases hq : (most - d) / base < x1
            · have HB := Lib.hid (show badT base first most (x1, x2) d from by unfold badT; simp only; omega)
              have hqd : decide (((most : Int) - (d : Int)) / (base : Int) < (x1 : Int)) = true := decide_eq_true (by rw [← Int.ofNat_sub (by omega), ← Int.natCast_ediv]; omega)
              clear hx2
              have hqp : ((most : Int) - (d : Int)) / (base : Int) < (x1 : Int) := of_decide_eq_true hqd
              go_enter Tryd.func101, Tryd.ntmps101
              go_wp2_with fail; go_quiet (fail); go_wp2_with fail; refine ⟨rfl, ?_⟩; rw [HS.out, if_pos HB.out]; exact ⟨rfl, ((Kept.refl [] w).drewN _).more (by simp)⟩
            · have HB := Lib.hid (show ¬ badT base first most (x1, x2) d from by unfold badT; simp only; omega)
              have hqd : decide (((most : Int) - (d : Int)) / (base : Int) < (x1 : Int)) = false := decide_eq_false (by rw [← Int.ofNat_sub (by omega), ← Int.natCast_ediv]; omega)
              have hqp : ¬ ((most : Int) - (d : Int)) / (base : Int) < (x1 : Int) := of_decide_eq_false hqd
              have hgr := num_grow (first := first) (base := base) (most := most) (x := (x1, x2)) (d := d) (by omega) HH.out.k HB.out
              simp only at hgr
              obtain ⟨hg1, hg2⟩ := hgr
              have HG := Lib.hid hg2
              obtain ⟨M, hM⟩ : ∃ M, M = x1 * base := ⟨_, rfl⟩
              have HM := Lib.hid hM
              have hMi : (x1 : Int) * (base : Int) = (M : Int) := by rw [hM]; simp
              rw [← hM] at hg1
              clear hM hg2
              clear hx2
              go_enter Tryd.func101, Tryd.ntmps101
              go_wp2_with fail; go_quiet (fail); go_wp2_with fail; go_region; go_wp2_with fail; go_ret; rw [HS.out, if_neg HB.out]; exact ⟨rfl, HH.out.step hd1 hd2 hd3 hd4 (by rw [← HM.out]; exact hg1) HG.out HM.out _⟩
      · have hx2i : ((x2 : Int) == 0) = false := beq_eq_false_iff_ne.2 (by omega)
        have hx2p : 0 < x2 := by omega
        have hx2d : decide (0 < x2) = true := decide_eq_true hx2p
        by_cases hx1 : x1 = 0
        · have HB := Lib.hid (show badT base first most (x1, x2) d from by unfold badT; simp only; omega)
          have hx1i : ((x1 : Int) == 0) = true := beq_iff_eq.2 (by omega)
          clear hx1
          go_enter Tryd.func101, Tryd.ntmps101
          go_wp2_with fail; go_quiet (fail); go_wp2_with fail; refine ⟨rfl, ?_⟩; rw [HS.out, if_pos HB.out]; exact ⟨rfl, ((Kept.refl [] w).drewN _).more (by simp)⟩
        · have hx1i : ((x1 : Int) == 0) = false := beq_eq_false_iff_ne.2 (by omega)
          by_cases hmd : most < d
          · have HB := Lib.hid (show badT base first most (x1, x2) d from by unfold badT; simp only; omega)
            have hmdd : decide (most < d) = true := decide_eq_true hmd
            go_enter Tryd.func101, Tryd.ntmps101
            go_wp2_with fail; go_quiet (fail); go_wp2_with fail; refine ⟨rfl, ?_⟩; rw [HS.out, if_pos HB.out]; exact ⟨rfl, ((Kept.refl [] w).drewN _).more (by simp)⟩
          · have hmdd : decide (most < d) = false := decide_eq_false hmd
            by_cases hq : (most - d) / base < x1
            · have HB := Lib.hid (show badT base first most (x1, x2) d from by unfold badT; simp only; omega)
              have hqd : decide (((most : Int) - (d : Int)) / (base : Int) < (x1 : Int)) = true := decide_eq_true (by rw [← Int.ofNat_sub (by omega), ← Int.natCast_ediv]; omega)
              have hqp : ((most : Int) - (d : Int)) / (base : Int) < (x1 : Int) := of_decide_eq_true hqd
              go_enter Tryd.func101, Tryd.ntmps101
              go_wp2_with fail; go_quiet (fail); go_wp2_with fail; refine ⟨rfl, ?_⟩; rw [HS.out, if_pos HB.out]; exact ⟨rfl, ((Kept.refl [] w).drewN _).more (by simp)⟩
            · have HB := Lib.hid (show ¬ badT base first most (x1, x2) d from by unfold badT; simp only; omega)
              have hqd : decide (((most : Int) - (d : Int)) / (base : Int) < (x1 : Int)) = false := decide_eq_false (by rw [← Int.ofNat_sub (by omega), ← Int.natCast_ediv]; omega)
              have hqp : ¬ ((most : Int) - (d : Int)) / (base : Int) < (x1 : Int) := of_decide_eq_false hqd
              have hgr := num_grow (first := first) (base := base) (most := most) (x := (x1, x2)) (d := d) (by omega) HH.out.k HB.out
              simp only at hgr
              obtain ⟨hg1, hg2⟩ := hgr
              have HG := Lib.hid hg2
              obtain ⟨M, hM⟩ : ∃ M, M = x1 * base := ⟨_, rfl⟩
              have HM := Lib.hid hM
              have hMi : (x1 : Int) * (base : Int) = (M : Int) := by rw [hM]; simp
              rw [← hM] at hg1
              clear hM hg2
              go_enter Tryd.func101, Tryd.ntmps101
              go_wp2_with fail; go_quiet (fail); go_wp2_with fail; go_region; go_wp2_with fail; go_ret; rw [HS.out, if_neg HB.out]; exact ⟨rfl, HH.out.step hd1 hd2 hd3 hd4 (by rw [← HM.out]; exact hg1) HG.out HM.out _⟩
    · obtain ⟨d0, hd0⟩ : ∃ d0 : Nat, d = d0 + 10 := ⟨d - 10, by omega⟩
      have hcd : (c : Int) - 97 = (d0 : Int) := by omega
      have hcd2 : (d0 : Int) + 10 = (d : Int) := by omega
      have hd0b : d0 < 6 := by omega
      have hbi : ((base : Int) == 16) = true := beq_iff_eq.2 (by omega)
      have hc57 : ¬ c ≤ 57 := by omega
      clear ha3 hd0 hb256
      by_cases hx2 : x2 = 0
      · have hx2i : ((x2 : Int) == 0) = true := beq_iff_eq.2 (by omega)
        have hx2d : decide (0 < x2) = false := decide_eq_false (by omega)
        have hx2p : ¬ 0 < x2 := by omega
        have HX2 := Lib.hid hx2
        by_cases hdf : d < first
        · have HB := Lib.hid (show badT base first most (x1, x2) d from by unfold badT; simp only; omega)
          have hdfd : decide (d < first) = true := decide_eq_true hdf
          clear hx2
          clear ha0
          go_enter Tryd.func101, Tryd.ntmps101
          go_wp2_with fail; go_quiet (fail); go_wp2_with fail; refine ⟨rfl, ?_⟩; rw [HS.out, if_pos HB.out]; exact ⟨rfl, ((Kept.refl [] w).drewN _).more (by simp)⟩
        · have hdfd : decide (d < first) = false := decide_eq_false hdf
          by_cases hmd : most < d
          · have HB := Lib.hid (show badT base first most (x1, x2) d from by unfold badT; simp only; omega)
            clear hx2
            have hmdd : decide (most < d) = true := decide_eq_true hmd
            clear ha0
            go_enter Tryd.func101, Tryd.ntmps101
            go_wp2_with fail; go_quiet (fail); go_wp2_with fail; refine ⟨rfl, ?_⟩; rw [HS.out, if_pos HB.out]; exact ⟨rfl, ((Kept.refl [] w).drewN _).more (by simp)⟩
          · have hmdd : decide (most < d) = false := decide_eq_false hmd
            by_cases hq : (most - d) / base < x1
            · have HB := Lib.hid (show badT base first most (x1, x2) d from by unfold badT; simp only; omega)
              have hqd : decide (((most : Int) - (d : Int)) / (base : Int) < (x1 : Int)) = true := decide_eq_true (by rw [← Int.ofNat_sub (by omega), ← Int.natCast_ediv]; omega)
              clear hx2
              have hqp : ((most : Int) - (d : Int)) / (base : Int) < (x1 : Int) := of_decide_eq_true hqd
              clear ha0
              go_enter Tryd.func101, Tryd.ntmps101
              go_wp2_with fail; go_quiet (fail); go_wp2_with fail; refine ⟨rfl, ?_⟩; rw [HS.out, if_pos HB.out]; exact ⟨rfl, ((Kept.refl [] w).drewN _).more (by simp)⟩
            · have HB := Lib.hid (show ¬ badT base first most (x1, x2) d from by unfold badT; simp only; omega)
              have hqd : decide (((most : Int) - (d : Int)) / (base : Int) < (x1 : Int)) = false := decide_eq_false (by rw [← Int.ofNat_sub (by omega), ← Int.natCast_ediv]; omega)
              have hqp : ¬ ((most : Int) - (d : Int)) / (base : Int) < (x1 : Int) := of_decide_eq_false hqd
              have hgr := num_grow (first := first) (base := base) (most := most) (x := (x1, x2)) (d := d) (by omega) HH.out.k HB.out
              simp only at hgr
              obtain ⟨hg1, hg2⟩ := hgr
              have HG := Lib.hid hg2
              obtain ⟨M, hM⟩ : ∃ M, M = x1 * base := ⟨_, rfl⟩
              have HM := Lib.hid hM
              have hMi : (x1 : Int) * (base : Int) = (M : Int) := by rw [hM]; simp
              rw [← hM] at hg1
              clear hM hg2
              clear hx2
              clear ha0
              go_enter Tryd.func101, Tryd.ntmps101
              go_wp2_with fail; go_quiet (fail); go_wp2_with fail; go_region; go_wp2_with fail; go_ret; rw [HS.out, if_neg HB.out]; exact ⟨rfl, HH.out.step hd1 hd2 hd3 hd4 (by rw [← HM.out]; exact hg1) HG.out HM.out _⟩
      · have hx2i : ((x2 : Int) == 0) = false := beq_eq_false_iff_ne.2 (by omega)
        have hx2p : 0 < x2 := by omega
        have hx2d : decide (0 < x2) = true := decide_eq_true hx2p
        by_cases hx1 : x1 = 0
        · have HB := Lib.hid (show badT base first most (x1, x2) d from by unfold badT; simp only; omega)
          have hx1i : ((x1 : Int) == 0) = true := beq_iff_eq.2 (by omega)
          clear hx1
          clear ha0
          go_enter Tryd.func101, Tryd.ntmps101
          go_wp2_with fail; go_quiet (fail); go_wp2_with fail; refine ⟨rfl, ?_⟩; rw [HS.out, if_pos HB.out]; exact ⟨rfl, ((Kept.refl [] w).drewN _).more (by simp)⟩
        · have hx1i : ((x1 : Int) == 0) = false := beq_eq_false_iff_ne.2 (by omega)
          by_cases hmd : most < d
          · have HB := Lib.hid (show badT base first most (x1, x2) d from by unfold badT; simp only; omega)
            have hmdd : decide (most < d) = true := decide_eq_true hmd
            clear ha0
            go_enter Tryd.func101, Tryd.ntmps101
            go_wp2_with fail; go_quiet (fail); go_wp2_with fail; refine ⟨rfl, ?_⟩; rw [HS.out, if_pos HB.out]; exact ⟨rfl, ((Kept.refl [] w).drewN _).more (by simp)⟩
          · have hmdd : decide (most < d) = false := decide_eq_false hmd
            by_cases hq : (most - d) / base < x1
            · have HB := Lib.hid (show badT base first most (x1, x2) d from by unfold badT; simp only; omega)
              have hqd : decide (((most : Int) - (d : Int)) / (base : Int) < (x1 : Int)) = true := decide_eq_true (by rw [← Int.ofNat_sub (by omega), ← Int.natCast_ediv]; omega)
              have hqp : ((most : Int) - (d : Int)) / (base : Int) < (x1 : Int) := of_decide_eq_true hqd
              clear ha0
              go_enter Tryd.func101, Tryd.ntmps101
              go_wp2_with fail; go_quiet (fail); go_wp2_with fail; refine ⟨rfl, ?_⟩; rw [HS.out, if_pos HB.out]; exact ⟨rfl, ((Kept.refl [] w).drewN _).more (by simp)⟩
            · have HB := Lib.hid (show ¬ badT base first most (x1, x2) d from by unfold badT; simp only; omega)
              have hqd : decide (((most : Int) - (d : Int)) / (base : Int) < (x1 : Int)) = false := decide_eq_false (by rw [← Int.ofNat_sub (by omega), ← Int.natCast_ediv]; omega)
              have hqp : ¬ ((most : Int) - (d : Int)) / (base : Int) < (x1 : Int) := of_decide_eq_false hqd
              have hgr := num_grow (first := first) (base := base) (most := most) (x := (x1, x2)) (d := d) (by omega) HH.out.k HB.out
              simp only at hgr
              obtain ⟨hg1, hg2⟩ := hgr
              have HG := Lib.hid hg2
              obtain ⟨M, hM⟩ : ∃ M, M = x1 * base := ⟨_, rfl⟩
              have HM := Lib.hid hM
              have hMi : (x1 : Int) * (base : Int) = (M : Int) := by rw [hM]; simp
              rw [← hM] at hg1
              clear hM hg2
              clear ha0
              go_enter Tryd.func101, Tryd.ntmps101
              go_wp2_with fail; go_quiet (fail); go_wp2_with fail; go_region; go_wp2_with fail; go_ret; rw [HS.out, if_neg HB.out]; exact ⟨rfl, HH.out.step hd1 hd2 hd3 hd4 (by rw [← HM.out]; exact hg1) HG.out HM.out _⟩
end Go.Proofs.YtjgcfncganleoaaDoor
