/-
  Chapter 05, plain: a square of 64 words turned over by halves: bit j of word k is bit k of word j.
-/
import Derived.Test.YtjgcfncganleoaaDoorTrcM
namespace Go.Proofs.YtjgcfncganleoaaDoor
set_option linter.unusedVariables false
set_option linter.unusedSimpArgs false

def stV (r : Nat) : Nat := [32, 16, 8, 4, 2, 1, 0].getD r 0
def mV (r : Nat) : Nat := [4294967295, 281470681808895, 71777214294589695, 1085102592571150095, 3689348814741910323, 6148914691236517205, 0].getD r 0
def loP (st m low high : Nat) : Nat := (low &&& m) ||| ((high &&& m) * 2 ^ st % 18446744073709551616)
def hiP (st m low high : Nat) : Nat := ((low / 2 ^ st) &&& m) ||| (high &&& (18446744073709551615 - m))
def pairS (st m : Nat) (l : List Nat) (i : Nat) : List Nat :=
  if i &&& st = 0 then (l.set i (loP st m (l.getD i 0) (l.getD (i ||| st) 0))).set (i ||| st) (hiP st m (l.getD i 0) (l.getD (i ||| st) 0)) else l
def pairsTo (st m : Nat) (l : List Nat) (i : Nat) : List Nat := (List.range i).foldl (pairS st m) l
def turnTo : Nat → List Nat → List Nat
  | 0, l => l
  | r + 1, l => pairsTo (stV r) (mV r) (turnTo r l) 64
def sw (st k j : Nat) : Nat := if k &&& st = j &&& st then k else k ^^^ st
def kjTo : Nat → Nat → Nat → Nat × Nat
  | 0, k, j => (k, j)
  | r + 1, k, j => kjTo r (sw (stV r) k j) (sw (stV r) j k)
theorem kj_all (k j : Nat) (hk : k < 64) (hj : j < 64) : kjTo 6 k j = (j, k) := by
  have : ∀ a b : Fin 64, kjTo 6 a.1 b.1 = (b.1, a.1) := by decide +kernel
  exact this ⟨k, hk⟩ ⟨j, hj⟩
theorem sw_lt (r k j : Nat) (hr : r < 6) (hk : k < 64) : sw (stV r) k j < 64 := by
  unfold sw
  split
  · exact hk
  · have : ∀ (a : Fin 6) (b : Fin 64), b.1 ^^^ stV a.1 < 64 := by decide +kernel
    exact this ⟨r, hr⟩ ⟨k, hk⟩
def baseK (st k : Nat) : Nat := k &&& (63 - st)
/-- the arithmetic of a step, point by point -/
theorem dec_step : ∀ (r : Fin 6) (i : Fin 64), (i.1 &&& stV r.1 = 0 → i.1 ||| stV r.1 < 64 ∧ i.1 ≠ i.1 ||| stV r.1 ∧ (i.1 ||| stV r.1) = i.1 ^^^ stV r.1 ∧ (i.1 ||| stV r.1) ^^^ stV r.1 = i.1 ∧ (i.1 ||| stV r.1) &&& stV r.1 = stV r.1 ∧ stV r.1 ≠ 0 ∧ i.1 + stV r.1 = i.1 ^^^ stV r.1) ∧
    (i.1 &&& stV r.1 ≠ 0 → i.1 &&& stV r.1 = stV r.1 ∧ stV r.1 ≤ i.1 ∧ i.1 - stV r.1 = i.1 ^^^ stV r.1) ∧
    (mV r.1).testBit i.1 = decide (i.1 &&& stV r.1 = 0) ∧ (decide (stV r.1 ≤ i.1) && (mV r.1).testBit (i.1 - stV r.1)) = decide (i.1 &&& stV r.1 ≠ 0) ∧ (18446744073709551615 - mV r.1).testBit i.1 = decide (i.1 &&& stV r.1 ≠ 0) ∧ mV r.1 < 18446744073709551616 ∧ baseK (stV r.1) i.1 < 64 := by decide +kernel
theorem dec_base : ∀ (r : Fin 6) (i k : Fin 64), (baseK (stV r.1) k.1 = i.1 ↔ i.1 &&& stV r.1 = 0 ∧ (k.1 = i.1 ∨ k.1 = i.1 ||| stV r.1)) := by decide +kernel
theorem lo_lt {st m low high : Nat} (hl : low < 18446744073709551616) : loP st m low high < 18446744073709551616 := by
  unfold loP
  rw [show (18446744073709551616 : Nat) = 2 ^ 64 from rfl] at *
  exact Nat.or_lt_two_pow (Nat.lt_of_le_of_lt Nat.and_le_left hl) (Nat.mod_lt _ (by decide))
theorem hi_lt {st m low high : Nat} (hl : low < 18446744073709551616) (hh : high < 18446744073709551616) : hiP st m low high < 18446744073709551616 := by
  unfold hiP
  rw [show (18446744073709551616 : Nat) = 2 ^ 64 from rfl] at *
  exact Nat.or_lt_two_pow (Nat.lt_of_le_of_lt Nat.and_le_left (Nat.lt_of_le_of_lt (Nat.div_le_self ..) hl)) (Nat.lt_of_le_of_lt Nat.and_le_left hh)
theorem lo_bit (r j low high : Nat) (hr : r < 6) (hj : j < 64) : (loP (stV r) (mV r) low high).testBit j = if j &&& stV r = 0 then low.testBit j else high.testBit (j ^^^ stV r) := by
  have h := dec_step ⟨r, hr⟩ ⟨j, hj⟩
  simp only at h
  obtain ⟨h1, h2, h3, h4, h5, h6, h7⟩ := h
  unfold loP
  rw [show (18446744073709551616 : Nat) = 2 ^ 64 from rfl, Nat.testBit_or, Nat.testBit_and, h3, Nat.testBit_mod_two_pow, ← Nat.shiftLeft_eq, Nat.testBit_shiftLeft, Nat.testBit_and]
  by_cases h0 : j &&& stV r = 0
  · rw [if_pos h0]
    rw [show decide (j &&& stV r ≠ 0) = false from by simp [h0]] at h4
    rw [Bool.and_left_comm (decide (j ≥ stV r)), show (decide (j ≥ stV r) && (mV r).testBit (j - stV r)) = false from h4]
    simp [h0]
  · rw [if_neg h0]
    rw [show decide (j &&& stV r ≠ 0) = true from decide_eq_true h0] at h4
    rw [Bool.and_left_comm (decide (j ≥ stV r)), show (decide (j ≥ stV r) && (mV r).testBit (j - stV r)) = true from h4]
    simp [h0, hj, (h2 h0).2.2]
theorem hi_bit (r j low high : Nat) (hr : r < 6) (hj : j < 64) : (hiP (stV r) (mV r) low high).testBit j = if j &&& stV r = 0 then low.testBit (j ^^^ stV r) else high.testBit j := by
  have h := dec_step ⟨r, hr⟩ ⟨j, hj⟩
  simp only at h
  obtain ⟨h1, h2, h3, h4, h5, h6, h7⟩ := h
  unfold hiP
  rw [Nat.testBit_or, Nat.testBit_and, Nat.testBit_and, h3, h5, ← Nat.shiftRight_eq_div_pow, Nat.testBit_shiftRight]
  by_cases h0 : j &&& stV r = 0
  · rw [if_pos h0, Nat.add_comm, (h1 h0).2.2.2.2.2.2]
    simp [h0]
  · rw [if_neg h0]
    simp [h0]
def TurnIs (st : Nat) (l cur : List Nat) (i : Nat) : Prop :=
  cur.length = 64 ∧ ∀ k, k < 64 → cur.getD k 0 < 18446744073709551616 ∧ ∀ j, j < 64 → (cur.getD k 0).testBit j = if baseK st k < i then (l.getD (sw st k j) 0).testBit (sw st j k) else (l.getD k 0).testBit j
theorem getD_set {l : List Nat} {i k x : Nat} (hi : i < l.length) : (l.set i x).getD k 0 = if k = i then x else l.getD k 0 := by
  rw [List.getD_eq_getElem?_getD, List.getD_eq_getElem?_getD, List.getElem?_set]
  by_cases h : i = k
  · subst h; simp [hi]
  · simp [h, Ne.symm h]
theorem turn_step (r i : Nat) (l cur : List Nat) (hr : r < 6) (hi : i < 64) (h : TurnIs (stV r) l cur i) : TurnIs (stV r) l (pairS (stV r) (mV r) cur i) (i + 1) := by
  obtain ⟨hl, hb⟩ := h
  have hd := dec_step ⟨r, hr⟩ ⟨i, hi⟩
  simp only at hd
  have hbase := fun k (hk : k < 64) => dec_base ⟨r, hr⟩ ⟨i, hi⟩ ⟨k, hk⟩
  simp only at hbase
  unfold pairS
  by_cases h0 : i &&& stV r = 0
  · rw [if_pos h0]
    obtain ⟨d1, d2, d3, d4, d5, d6, d7⟩ := hd.1 h0
    refine ⟨by simp [hl], fun k hk => ?_⟩
    rw [getD_set (by rw [List.length_set, hl]; exact d1), getD_set (by rw [hl]; exact hi)]
    have bi := hb i hi
    have bs := hb _ d1
    have nb1 : ¬ baseK (stV r) i < i := by rw [(hbase i hi).2 ⟨h0, .inl rfl⟩]; omega
    have nb2 : ¬ baseK (stV r) (i ||| stV r) < i := by rw [(hbase _ d1).2 ⟨h0, .inr rfl⟩]; omega
    by_cases e1 : k = i ||| stV r
    · subst e1
      rw [if_pos rfl]
      refine ⟨hi_lt bi.1 bs.1, fun j hj => ?_⟩
      have hpos : baseK (stV r) (i ||| stV r) < i + 1 := by rw [(hbase _ d1).2 ⟨h0, .inr rfl⟩]; omega
      rw [if_pos hpos, hi_bit r j _ _ hr hj]
      have hjd := dec_step ⟨r, hr⟩ ⟨j, hj⟩
      simp only at hjd
      by_cases j0 : j &&& stV r = 0
      · rw [if_pos j0]
        have hx : sw (stV r) (i ||| stV r) j = i := by unfold sw; rw [d5, j0, if_neg d6, d4]
        have hy : sw (stV r) j (i ||| stV r) = j ^^^ stV r := by unfold sw; rw [d5, j0, if_neg (Ne.symm d6)]
        have hlt : j ^^^ stV r < 64 := by rw [← (hjd.1 j0).2.2.1]; exact (hjd.1 j0).1
        rw [hx, hy, bi.2 _ hlt, if_neg nb1]
      · rw [if_neg j0]
        have j1 := (hjd.2.1 j0).1
        have hx : sw (stV r) (i ||| stV r) j = i ||| stV r := by unfold sw; rw [d5, j1, if_pos rfl]
        have hy : sw (stV r) j (i ||| stV r) = j := by unfold sw; rw [d5, j1, if_pos rfl]
        rw [hx, hy, bs.2 _ hj, if_neg nb2]
    · rw [if_neg e1]
      by_cases e2 : k = i
      · subst e2
        rw [if_pos rfl]
        refine ⟨lo_lt bi.1, fun j hj => ?_⟩
        have hpos : baseK (stV r) k < k + 1 := by rw [(hbase _ hk).2 ⟨h0, .inl rfl⟩]; omega
        rw [if_pos hpos, lo_bit r j _ _ hr hj]
        have hjd := dec_step ⟨r, hr⟩ ⟨j, hj⟩
        simp only at hjd
        by_cases j0 : j &&& stV r = 0
        · rw [if_pos j0]
          have hx : sw (stV r) k j = k := by unfold sw; rw [h0, j0, if_pos rfl]
          have hy : sw (stV r) j k = j := by unfold sw; rw [h0, j0, if_pos rfl]
          rw [hx, hy, bi.2 _ hj, if_neg nb1]
        · rw [if_neg j0]
          have j1 := (hjd.2.1 j0).1
          have hx : sw (stV r) k j = k ||| stV r := by unfold sw; rw [h0, j1, if_neg (Ne.symm d6), d3]
          have hy : sw (stV r) j k = j ^^^ stV r := by unfold sw; rw [h0, j1, if_neg d6]
          have hlt : j ^^^ stV r < 64 := by rw [← (hjd.2.1 j0).2.2]; omega
          rw [hx, hy, bs.2 _ hlt, if_neg nb2]
      · rw [if_neg e2]
        refine ⟨(hb k hk).1, fun j hj => ?_⟩
        rw [(hb k hk).2 j hj]
        have hne : baseK (stV r) k ≠ i := fun e => by
          rcases ((hbase k hk).1 e).2 with h | h
          · exact e2 h
          · exact e1 h
        have : (baseK (stV r) k < i) = (baseK (stV r) k < i + 1) := propext ⟨fun h => by omega, fun h => by omega⟩
        simp only [this]
  · rw [if_neg h0]
    refine ⟨hl, fun k hk => ⟨(hb k hk).1, fun j hj => ?_⟩⟩
    rw [(hb k hk).2 j hj]
    have hne : baseK (stV r) k ≠ i := fun e => h0 ((hbase k hk).1 e).1
    have : (baseK (stV r) k < i) = (baseK (stV r) k < i + 1) := propext ⟨fun h => by omega, fun h => by omega⟩
    simp only [this]
theorem pairsTo_succ (st m : Nat) (l : List Nat) (i : Nat) : pairsTo st m l (i + 1) = pairS st m (pairsTo st m l i) i := by
  simp [pairsTo, List.range_succ]
def Sq (l : List Nat) : Prop := l.length = 64 ∧ ∀ k, k < 64 → l.getD k 0 < 18446744073709551616
theorem pairs_is (r : Nat) (l : List Nat) (hr : r < 6) (hl : Sq l) (i : Nat) (hi : i ≤ 64) : TurnIs (stV r) l (pairsTo (stV r) (mV r) l i) i := by
  induction i with
  | zero => exact ⟨hl.1, fun k hk => ⟨hl.2 k hk, fun j hj => by rw [if_neg (by omega)]; rfl⟩⟩
  | succ i ih =>
    rw [pairsTo_succ]
    exact turn_step r i l _ hr (by omega) (ih (by omega))
theorem pairs_sq {r : Nat} {l : List Nat} (hr : r < 6) (hl : Sq l) (i : Nat) (hi : i ≤ 64) : Sq (pairsTo (stV r) (mV r) l i) :=
  ⟨(pairs_is r l hr hl i hi).1, fun k hk => ((pairs_is r l hr hl i hi).2 k hk).1⟩
theorem turn_is (r : Nat) (hr : r ≤ 6) (l : List Nat) (hl : Sq l) : Sq (turnTo r l) ∧ ∀ k, k < 64 → ∀ j, j < 64 → ((turnTo r l).getD k 0).testBit j = (l.getD (kjTo r k j).1 0).testBit (kjTo r k j).2 := by
  induction r with
  | zero => exact ⟨hl, fun k _ j _ => rfl⟩
  | succ r ih =>
    obtain ⟨h1, h2⟩ := ih (by omega)
    have h3 := pairs_is r (turnTo r l) (by omega) h1 64 (Nat.le_refl _)
    refine ⟨⟨h3.1, fun k hk => (h3.2 k hk).1⟩, fun k hk j hj => ?_⟩
    have h4 := (h3.2 k hk).2 j hj
    have hb := dec_step ⟨r, by omega⟩ ⟨k, hk⟩
    rw [if_pos hb.2.2.2.2.2.2] at h4
    show ((pairsTo (stV r) (mV r) (turnTo r l) 64).getD k 0).testBit j = _
    rw [h4, h2 _ (sw_lt r k j (by omega) hk) _ (sw_lt r j k (by omega) hj)]
    rfl
/-- THE LAW: turned over -/
theorem turn_bits {l : List Nat} (hl : Sq l) : Sq (turnTo 6 l) ∧ ∀ k, k < 64 → ∀ j, j < 64 → ((turnTo 6 l).getD k 0).testBit j = (l.getD j 0).testBit k := by
  obtain ⟨h1, h2⟩ := turn_is 6 (Nat.le_refl _) l hl
  exact ⟨h1, fun k hk j hj => by rw [h2 k hk j hj, kj_all k j hk hj]⟩
end Go.Proofs.YtjgcfncganleoaaDoor
