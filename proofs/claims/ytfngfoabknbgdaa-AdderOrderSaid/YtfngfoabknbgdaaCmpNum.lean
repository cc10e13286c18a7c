/-
  CompareNumbers, the plain part: what each word tells, lane by lane.
-/
import Derived.Test.YtfngfoabknbgdaaCmpRows
import Derived.Test.YtfngfoabknbgdaaLane
namespace Go.Proofs.Ytfngfoabknbgdaa
set_option linter.unusedVariables false

variable {inp : List Nat} {o1 o2 : Bool} {n t : Nat}

theorem getD_take {l : List Nat} {i n : Nat} (h : i < n) : (l.take n).getD i 0 = l.getD i 0 := by
  simp only [List.getD_eq_getElem?_getD]
  rw [List.getElem?_take_of_lt h]
theorem getD_mid {l : List Nat} {i n : Nat} (h : i < n) : ((l.drop n).take n).getD i 0 = l.getD (n + i) 0 := by
  rw [getD_take h]
  simp only [List.getD_eq_getElem?_getD, List.getElem?_drop]
theorem lane_low (hl : 2 * n ≤ inp.length) : bitN (fun i => lane1 inp (freshG o1 o2 (2 * n + 1)) t ((rowL 1 n).getD i 0)) 0 n = laneN (inp.take n) t := by
  unfold laneN
  rw [show (inp.take n).length = n by rw [List.length_take]; omega]
  apply bitN_congr
  intro i _ h
  rw [rowL_getD (by omega), getD_take (by omega)]
  unfold lane1
  rw [show 2 * (1 + i) = 2 * (i + 1) by omega, freshG_val _ _ _ _ _ (by omega)]
theorem lane_high (hl : 2 * n ≤ inp.length) : bitN (fun i => lane1 inp (freshG o1 o2 (2 * n + 1)) t ((rowL (1 + n) n).getD i 0)) 0 n = laneN ((inp.drop n).take n) t := by
  unfold laneN
  rw [show ((inp.drop n).take n).length = n by rw [List.length_take, List.length_drop]; omega]
  apply bitN_congr
  intro i _ h
  rw [rowL_getD (by omega), getD_mid (by omega)]
  unfold lane1
  rw [show 2 * (1 + n + i) = 2 * (n + i + 1) by omega, freshG_val _ _ _ _ _ (by omega)]
theorem pick_flat (la lb : List Nat) (n : Nat) : pickX false n la lb = fun i => la.getD i 0 := by funext i; simp [pickX]
/-- as a signed one -/
def sgnV (v n : Nat) : Int := if v < 2 ^ (n - 1) then (v : Int) else (v : Int) - 2 ^ n
theorem laneI_eq (row : List Nat) (t : Nat) : laneI row t = sgnV (laneN row t) row.length := rfl
theorem sgn_lt (x y : Nat → Bool) (n : Nat) (h1 : 1 ≤ n) :
    (bitN (fun i => if i = n - 1 then y i else x i) 0 n < bitN (fun i => if i = n - 1 then x i else y i) 0 n) ↔ sgnV (bitN x 0 n) n < sgnV (bitN y 0 n) n := by
  obtain ⟨m, rfl⟩ : ∃ m, n = m + 1 := ⟨n - 1, by omega⟩
  have e : ∀ x y : Nat → Bool, bitN (fun i => if i = m + 1 - 1 then y i else x i) 0 (m + 1) = bitN x 0 m + (y m).toNat * 2 ^ m := by
    intro x y
    show bitN (fun i => if i = m + 1 - 1 then y i else x i) 0 m + (if 0 + m = m + 1 - 1 then y (0 + m) else x (0 + m)).toNat * 2 ^ m = _
    rw [if_pos (by omega), Nat.zero_add]
    congr 1
    exact bitN_congr (fun i _ h => by rw [if_neg (by omega)])
  have f : ∀ x : Nat → Bool, bitN x 0 (m + 1) = bitN x 0 m + (x m).toNat * 2 ^ m := by
    intro x
    show bitN x 0 m + (x (0 + m)).toNat * 2 ^ m = _
    rw [Nat.zero_add]
  rw [e, e, f, f]
  have lx := bitN_lt x 0 m
  have ly := bitN_lt y 0 m
  unfold sgnV
  rw [show m + 1 - 1 = m by omega]
  have hk : ((2 : Int) ^ (m + 1)) = ((2 * 2 ^ m : Nat) : Int) := by push_cast; rw [Int.pow_succ]; omega
  rw [hk]
  generalize bitN x 0 m = a at *
  generalize bitN y 0 m = b at *
  generalize 2 ^ m = M at *
  cases x m <;> cases y m <;> simp only [Bool.toNat_true, Bool.toNat_false, Nat.zero_mul, Nat.one_mul, Nat.add_zero]
  · rw [if_pos (by omega), if_pos (by omega)]; omega
  · rw [if_pos (by omega), if_neg (by omega)]; omega
  · rw [if_neg (by omega), if_pos (by omega)]; omega
  · rw [if_neg (by omega), if_neg (by omega)]; omega
theorem lane_sgn (hl : 2 * n ≤ inp.length) (h1 : 1 ≤ n) :
    (bitN (fun i => lane1 inp (freshG o1 o2 (2 * n + 1)) t (pickX true n (rowL 1 n) (rowL (1 + n) n) i)) 0 n < bitN (fun i => lane1 inp (freshG o1 o2 (2 * n + 1)) t (pickX true n (rowL (1 + n) n) (rowL 1 n) i)) 0 n) ↔ laneI (inp.take n) t < laneI ((inp.drop n).take n) t := by
  have h := sgn_lt (fun i => lane1 inp (freshG o1 o2 (2 * n + 1)) t ((rowL 1 n).getD i 0)) (fun i => lane1 inp (freshG o1 o2 (2 * n + 1)) t ((rowL (1 + n) n).getD i 0)) n h1
  rw [lane_low hl, lane_high hl] at h
  rw [laneI_eq, laneI_eq, show (inp.take n).length = n by rw [List.length_take]; omega, show ((inp.drop n).take n).length = n by rw [List.length_take, List.length_drop]; omega, ← h]
  have e : ∀ la lb : List Nat, (fun i => lane1 inp (freshG o1 o2 (2 * n + 1)) t (pickX true n la lb i)) = fun i => if i = n - 1 then lane1 inp (freshG o1 o2 (2 * n + 1)) t (lb.getD i 0) else lane1 inp (freshG o1 o2 (2 * n + 1)) t (la.getD i 0) := by
    intro la lb; funext i
    unfold pickX
    by_cases hi : i = n - 1
    · simp [hi]
    · simp [hi]
  rw [e, e]
theorem lane_sgn' (hl : 2 * n ≤ inp.length) (h1 : 1 ≤ n) :
    (bitN (fun i => lane1 inp (freshG o1 o2 (2 * n + 1)) t (pickX true n (rowL (1 + n) n) (rowL 1 n) i)) 0 n < bitN (fun i => lane1 inp (freshG o1 o2 (2 * n + 1)) t (pickX true n (rowL 1 n) (rowL (1 + n) n) i)) 0 n) ↔ laneI ((inp.drop n).take n) t < laneI (inp.take n) t := by
  have h := sgn_lt (fun i => lane1 inp (freshG o1 o2 (2 * n + 1)) t ((rowL (1 + n) n).getD i 0)) (fun i => lane1 inp (freshG o1 o2 (2 * n + 1)) t ((rowL 1 n).getD i 0)) n h1
  rw [lane_low hl, lane_high hl] at h
  rw [laneI_eq, laneI_eq, show (inp.take n).length = n by rw [List.length_take]; omega, show ((inp.drop n).take n).length = n by rw [List.length_take, List.length_drop]; omega, ← h]
  have e : ∀ la lb : List Nat, (fun i => lane1 inp (freshG o1 o2 (2 * n + 1)) t (pickX true n la lb i)) = fun i => if i = n - 1 then lane1 inp (freshG o1 o2 (2 * n + 1)) t (lb.getD i 0) else lane1 inp (freshG o1 o2 (2 * n + 1)) t (la.getD i 0) := by
    intro la lb; funext i
    unfold pickX
    by_cases hi : i = n - 1
    · simp [hi]
    · simp [hi]
  rw [e, e]
theorem bitN_zero (x : Nat → Bool) (n : Nat) (h : ∀ i, x i = false) : bitN x 0 n = 0 := by
  induction n with
  | zero => rfl
  | succ n ih => unfold bitN; rw [ih, h]; simp

/-- the six calls, one behind the other -/
structure Six (o1 o2 : Bool) (n : Nat) (g1 g2 g3 g4 g5 g6 : Gr) (x1 x2 x3 x4 x5 x6 : Nat) : Prop where
  e1 : eqG (freshG o1 o2 (2 * n + 1)) (rowL 1 n) (rowL (1 + n) n) = (g1, x1)
  e2 : lessG false g1 (rowL 1 n) (rowL (1 + n) n) = (g2, x2)
  e3 : lessG false g2 (rowL (1 + n) n) (rowL 1 n) = (g3, x3)
  e4 : lessG true g3 (rowL 1 n) (rowL (1 + n) n) = (g4, x4)
  e5 : lessG true g4 (rowL (1 + n) n) (rowL 1 n) = (g5, x5)
  e6 : eqG g5 (rowL 1 n) (List.replicate n 0) = (g6, x6)
  wf : WF g6.nodes
  x61 : g6.ok x1
  x62 : g6.ok x2
  x63 : g6.ok x3
  x64 : g6.ok x4
  x65 : g6.ok x5
  x66 : g6.ok x6
  l1 : g1.nodes.length ≤ 2 * n + 2 + 7 * n
  l2 : g2.nodes.length ≤ 2 * n + 2 + 14 * n
  l3 : g3.nodes.length ≤ 2 * n + 2 + 21 * n
  l4 : g4.nodes.length ≤ 2 * n + 2 + 28 * n
  l5 : g5.nodes.length ≤ 2 * n + 2 + 35 * n
  l6 : g6.nodes.length ≤ 2 * n + 2 + 42 * n
  ins : (ins g6.nodes).length = 2 * n + 1
  val : ∀ inp t, Words inp → t < 64 → 2 * n ≤ inp.length →
    lane1 inp g6 t x1 = decide (laneN (inp.take n) t = laneN ((inp.drop n).take n) t) ∧ lane1 inp g6 t x2 = decide (laneN (inp.take n) t < laneN ((inp.drop n).take n) t) ∧
    lane1 inp g6 t x3 = decide (laneN ((inp.drop n).take n) t < laneN (inp.take n) t) ∧ lane1 inp g6 t x4 = decide (laneI (inp.take n) t < laneI ((inp.drop n).take n) t) ∧
    lane1 inp g6 t x5 = decide (laneI ((inp.drop n).take n) t < laneI (inp.take n) t) ∧ lane1 inp g6 t x6 = decide (laneN (inp.take n) t = 0)
theorem ext_ins {c : Nat} {g g' : Gr} (h : Ext c g g') {k : Nat} (hk : (ins g.nodes).length = k) : (ins g'.nodes).length = k := by rw [h.ins, hk]
theorem six (o1 o2 : Bool) (n : Nat) (h1 : 1 ≤ n) : ∃ g1 g2 g3 g4 g5 g6 x1 x2 x3 x4 x5 x6, Six o1 o2 n g1 g2 g3 g4 g5 g6 x1 x2 x3 x4 x5 x6 := by
  have hw := (freshG_wf o1 o2 (2 * n + 1)).1
  have hi0 := (freshG_wf o1 o2 (2 * n + 1)).2
  have ka : ∀ x ∈ rowL 1 n, (freshG o1 o2 (2 * n + 1)).ok x := fun x hx => by obtain ⟨i, h1, h2⟩ := rowL_mem hx; exact freshG_ok _ _ (by omega)
  have kb : ∀ x ∈ rowL (1 + n) n, (freshG o1 o2 (2 * n + 1)).ok x := fun x hx => by obtain ⟨i, h1, h2⟩ := rowL_mem hx; exact freshG_ok _ _ (by omega)
  have lA := rowL_length 1 n
  have lB := rowL_length (1 + n) n
  have kz : ∀ x ∈ List.replicate n 0, (freshG o1 o2 (2 * n + 1)).ok x := fun x hx => by rw [(List.mem_replicate.1 hx).2]; exact freshG_ok _ _ (by omega)
  have lZ : (List.replicate n 0).length = n := List.length_replicate
  have hlen := freshG_length o1 o2 (2 * n + 1)
  have s1 := eqG_good hw ka kb (by omega) (by omega)
  have v1 := fun inp t hi ht => eqG_lane (inp := inp) (t := t) hi ht hw (Ext.refl _) ka kb (by omega) (by omega)
  obtain ⟨⟨g1, x1⟩, E1⟩ : ∃ r, eqG (freshG o1 o2 (2 * n + 1)) (rowL 1 n) (rowL (1 + n) n) = r := ⟨_, rfl⟩
  simp only [E1] at s1 v1
  have s2 := lessG_good (sg := false) s1.1 (fun x hx => s1.2.1.ok (ka x hx)) (fun x hx => s1.2.1.ok (kb x hx)) (by omega) (by omega)
  have v2 := fun inp t hi ht => lessG_lane (inp := inp) (t := t) (sg := false) hi ht s1.1 s1.2.1 ka kb (by omega) (by omega)
  obtain ⟨⟨g2, x2⟩, E2⟩ : ∃ r, lessG false g1 (rowL 1 n) (rowL (1 + n) n) = r := ⟨_, rfl⟩
  simp only [E2] at s2 v2
  have y2 := s1.2.1.trans s2.2.1
  have s3 := lessG_good (sg := false) s2.1 (fun x hx => y2.ok (kb x hx)) (fun x hx => y2.ok (ka x hx)) (by omega) (by omega)
  have v3 := fun inp t hi ht => lessG_lane (inp := inp) (t := t) (sg := false) hi ht s2.1 y2 kb ka (by omega) (by omega)
  obtain ⟨⟨g3, x3⟩, E3⟩ : ∃ r, lessG false g2 (rowL (1 + n) n) (rowL 1 n) = r := ⟨_, rfl⟩
  simp only [E3] at s3 v3
  have y3 := y2.trans s3.2.1
  have s4 := lessG_good (sg := true) s3.1 (fun x hx => y3.ok (ka x hx)) (fun x hx => y3.ok (kb x hx)) (by omega) (by omega)
  have v4 := fun inp t hi ht => lessG_lane (inp := inp) (t := t) (sg := true) hi ht s3.1 y3 ka kb (by omega) (by omega)
  obtain ⟨⟨g4, x4⟩, E4⟩ : ∃ r, lessG true g3 (rowL 1 n) (rowL (1 + n) n) = r := ⟨_, rfl⟩
  simp only [E4] at s4 v4
  have y4 := y3.trans s4.2.1
  have s5 := lessG_good (sg := true) s4.1 (fun x hx => y4.ok (kb x hx)) (fun x hx => y4.ok (ka x hx)) (by omega) (by omega)
  have v5 := fun inp t hi ht => lessG_lane (inp := inp) (t := t) (sg := true) hi ht s4.1 y4 kb ka (by omega) (by omega)
  obtain ⟨⟨g5, x5⟩, E5⟩ : ∃ r, lessG true g4 (rowL (1 + n) n) (rowL 1 n) = r := ⟨_, rfl⟩
  simp only [E5] at s5 v5
  have y5 := y4.trans s5.2.1
  have s6 := eqG_good s5.1 (fun x hx => y5.ok (ka x hx)) (fun x hx => y5.ok (kz x hx)) (by omega) (by omega)
  have v6 := fun inp t hi ht => eqG_lane (inp := inp) (t := t) hi ht s5.1 y5 ka kz (by omega) (by omega)
  obtain ⟨⟨g6, x6⟩, E6⟩ : ∃ r, eqG g5 (rowL 1 n) (List.replicate n 0) = r := ⟨_, rfl⟩
  simp only [E6] at s6 v6
  have y6 := y5.trans s6.2.1
  have b1 := s1.2.1.le
  have b2 := s2.2.1.le
  have b3 := s3.2.1.le
  have b4 := s4.2.1.le
  have b5 := s5.2.1.le
  have b6 := s6.2.1.le
  have w6 : Ext _ g1 g6 := ((((s2.2.1.trans s3.2.1).trans s4.2.1).trans s5.2.1).trans s6.2.1)
  have w62 : Ext _ g2 g6 := (((s3.2.1.trans s4.2.1).trans s5.2.1).trans s6.2.1)
  have w63 : Ext _ g3 g6 := ((s4.2.1.trans s5.2.1).trans s6.2.1)
  have w64 : Ext _ g4 g6 := (s5.2.1.trans s6.2.1)
  refine ⟨g1, g2, g3, g4, g5, g6, x1, x2, x3, x4, x5, x6, E1, E2, E3, E4, E5, E6, s6.1, w6.ok s1.2.2, w62.ok s2.2.2, w63.ok s3.2.2, w64.ok s4.2.2, s6.2.1.ok s5.2.2, s6.2.2, by omega, by omega, by omega, by omega, by omega, by omega, ext_ins y6 hi0, fun inp t hi ht hl => ?_⟩
  rw [lane_ext w6 s1.2.2, lane_ext w62 s2.2.2, lane_ext w63 s3.2.2, lane_ext w64 s4.2.2, lane_ext s6.2.1 s5.2.2, v1 inp t hi ht, v2 inp t hi ht, v3 inp t hi ht, v4 inp t hi ht, v5 inp t hi ht, v6 inp t hi ht]
  rw [lA, lB]
  simp only [pick_flat]
  rw [lane_low hl, lane_high hl]
  refine ⟨rfl, rfl, rfl, ?_, ?_, ?_⟩
  · rw [Bool.eq_iff_iff]; simp only [decide_eq_true_eq]; exact lane_sgn hl h1
  · rw [Bool.eq_iff_iff]; simp only [decide_eq_true_eq]; exact lane_sgn' hl h1
  · congr 2
    refine bitN_zero _ _ fun i => ?_
    rw [show (List.replicate n 0).getD i 0 = 0 from by rw [List.getD_eq_getElem?_getD, List.getElem?_replicate]; split <;> rfl]
    unfold lane1
    rw [lw_zero]
    simp
/-- just one of three is so, in each lane -/
theorem just_one {a b c : Nat} (ha : a < 18446744073709551616) (hb : b < 18446744073709551616) (hc : c < 18446744073709551616) (p q : Nat → Nat)
    (h : ∀ t, t < 64 → a.testBit t = decide (p t = q t) ∧ b.testBit t = decide (p t < q t) ∧ c.testBit t = decide (q t < p t)) : a ^^^ b ^^^ c = 18446744073709551615 ∧ (a &&& b) ||| (a &&& c) ||| (b &&& c) = 0 := by
  constructor
  · apply Nat.eq_of_testBit_eq; intro t
    rw [Nat.testBit_xor, Nat.testBit_xor, show 18446744073709551615 = 2 ^ 64 - 1 by rfl, Nat.testBit_two_pow_sub_one]
    by_cases ht : t < 64
    · obtain ⟨h1, h2, h3⟩ := h t ht
      rw [h1, h2, h3]
      rcases Nat.lt_trichotomy (p t) (q t) with h4 | h4 | h4
      · simp [h4, ht, Nat.ne_of_lt h4, Nat.lt_asymm h4]
      · simp [h4, ht]
      · simp [h4, ht, Nat.ne_of_gt h4, Nat.lt_asymm h4]
    · rw [word_high ha ht, word_high hb ht, word_high hc ht]; simp [ht]
  · apply Nat.eq_of_testBit_eq; intro t
    rw [Nat.testBit_or, Nat.testBit_or, Nat.testBit_and, Nat.testBit_and, Nat.testBit_and, Nat.zero_testBit]
    by_cases ht : t < 64
    · obtain ⟨h1, h2, h3⟩ := h t ht
      rw [h1, h2, h3]
      rcases Nat.lt_trichotomy (p t) (q t) with h4 | h4 | h4
      · simp [Nat.ne_of_lt h4, Nat.lt_asymm h4]
      · simp [h4]
      · simp [Nat.ne_of_gt h4, Nat.lt_asymm h4]
    · rw [word_high ha ht, word_high hb ht, word_high hc ht]; simp
end Go.Proofs.Ytfngfoabknbgdaa
