/-
  CompareTurned, the plain part.
-/
import Derived.Test.YtfngfoabknbgdaaCmpNum
namespace Go.Proofs.Ytfngfoabknbgdaa
set_option linter.unusedVariables false

variable {inp : List Nat} {o1 o2 : Bool} {n t : Nat}

theorem bitN_not (x : Nat → Bool) (k m : Nat) : bitN (fun i => !x i) k m + bitN x k m = 2 ^ m - 1 := by
  induction m with
  | zero => rfl
  | succ m ih =>
    have h := bitN_lt x k m
    have h' := bitN_lt (fun i => !x i) k m
    have hp : 0 < 2 ^ m := Nat.pow_pos (by omega)
    unfold bitN
    rw [Nat.pow_succ]
    cases x (k + m) <;> simp <;> omega
theorem not_lt_not (x y : Nat → Bool) (k m : Nat) : bitN (fun i => !y i) k m < bitN (fun i => !x i) k m ↔ bitN x k m < bitN y k m := by
  have h1 := bitN_not x k m
  have h2 := bitN_not y k m
  have h3 := bitN_lt x k m
  have h4 := bitN_lt y k m
  omega
theorem word_ext {a b : Nat} (ha : a < 18446744073709551616) (hb : b < 18446744073709551616) (h : ∀ t, t < 64 → a.testBit t = b.testBit t) : a = b := by
  apply Nat.eq_of_testBit_eq; intro t
  by_cases ht : t < 64
  · exact h t ht
  · rw [word_high ha ht, word_high hb ht]
/-- the highest literal turned -/
def flipL (n : Nat) (l : List Nat) : List Nat := l.set (n - 1) (ntL (l.getD (n - 1) 0))
theorem flipL_length (n : Nat) (l : List Nat) : (flipL n l).length = l.length := by simp [flipL]
theorem flipL_getD {n i : Nat} {l : List Nat} (hl : l.length = n) (hi : i < n) : (flipL n l).getD i 0 = if i = n - 1 then ntL (l.getD i 0) else l.getD i 0 := by
  unfold flipL
  simp only [List.getD_eq_getElem?_getD]
  by_cases h : i = n - 1
  · subst h
    rw [if_pos rfl, List.getElem?_set_self (by omega)]
    rfl
  · rw [if_neg h, List.getElem?_set_ne (by omega)]
theorem flipL_ok {g : Gr} {n : Nat} {l : List Nat} (hl : l.length = n) (h1 : 1 ≤ n) (h : ∀ x ∈ l, g.ok x) : ∀ x ∈ flipL n l, g.ok x := by
  intro x hx
  unfold flipL at hx
  rcases List.mem_or_eq_of_mem_set hx with h2 | h2
  · exact h x h2
  · rw [h2]; exact ok_ntL (h _ (getD_in (by omega)))
theorem turn_ok {g : Gr} {l : List Nat} (h : ∀ x ∈ l, g.ok x) : ∀ x ∈ l.map ntL, g.ok x := by
  intro x hx
  obtain ⟨y, hy, rfl⟩ := List.mem_map.1 hx
  exact ok_ntL (h y hy)
theorem turn_getD {i : Nat} {l : List Nat} (hi : i < l.length) : (l.map ntL).getD i 0 = ntL (l.getD i 0) := by
  simp [List.getD_eq_getElem?_getD, List.getElem?_eq_getElem hi]
/-- signed is unsigned with both highest bits turned -/
theorem flip_lt (x y : Nat → Bool) (n : Nat) (h1 : 1 ≤ n) :
    (bitN (fun i => if i = n - 1 then !x i else x i) 0 n < bitN (fun i => if i = n - 1 then !y i else y i) 0 n) ↔ (bitN (fun i => if i = n - 1 then y i else x i) 0 n < bitN (fun i => if i = n - 1 then x i else y i) 0 n) := by
  obtain ⟨m, rfl⟩ : ∃ m, n = m + 1 := ⟨n - 1, by omega⟩
  have e : ∀ x z : Nat → Bool, bitN (fun i => if i = m + 1 - 1 then z i else x i) 0 (m + 1) = bitN x 0 m + (z m).toNat * 2 ^ m := by
    intro x z
    show bitN (fun i => if i = m + 1 - 1 then z i else x i) 0 m + (if 0 + m = m + 1 - 1 then z (0 + m) else x (0 + m)).toNat * 2 ^ m = _
    rw [if_pos (by omega), Nat.zero_add]
    congr 1
    exact bitN_congr (fun i _ h => by rw [if_neg (by omega)])
  rw [e x (fun i => !x i), e y (fun i => !y i), e, e]
  have lx := bitN_lt x 0 m
  have ly := bitN_lt y 0 m
  generalize bitN x 0 m = a at *
  generalize bitN y 0 m = b at *
  generalize 2 ^ m = M at *
  cases x m <;> cases y m <;> simp <;> omega
theorem pick_true (la lb : List Nat) (n : Nat) (f : Nat → Bool) : (fun i => f (pickX true n la lb i)) = fun i => if i = n - 1 then f (lb.getD i 0) else f (la.getD i 0) := by
  funext i
  unfold pickX
  by_cases hi : i = n - 1
  · simp [hi]
  · simp [hi]
theorem pick_same (la : List Nat) (n : Nat) (f : Nat → Bool) : (fun i => f (pickX true n la la i)) = fun i => f (la.getD i 0) := by
  rw [pick_true]; funext i; split <;> rfl

structure Turn6 (o1 o2 : Bool) (n : Nat) (g1 g2 g3 g4 g5 g6 : Gr) (x1 x2 x3 x4 x5 x6 : Nat) : Prop where
  e1 : lessG false (freshG o1 o2 (2 * n + 1)) (rowL 1 n) (rowL (1 + n) n) = (g1, x1)
  e2 : lessG false g1 ((rowL (1 + n) n).map ntL) ((rowL 1 n).map ntL) = (g2, x2)
  e3 : lessG true g2 (rowL 1 n) (rowL (1 + n) n) = (g3, x3)
  e4 : lessG false g3 (flipL n (rowL 1 n)) (flipL n (rowL (1 + n) n)) = (g4, x4)
  e5 : lessG true g4 (rowL 1 n) (rowL 1 n) = (g5, x5)
  e6 : eqG g5 (rowL (1 + n) n) (rowL (1 + n) n) = (g6, x6)
  wf : WF g6.nodes
  z1 : ∃ c, Ext c (freshG o1 o2 (2 * n + 1)) g1
  z2 : ∃ c, Ext c g1 g2
  z3 : ∃ c, Ext c g2 g3
  z4 : ∃ c, Ext c g3 g4
  z5 : ∃ c, Ext c g4 g5
  x61 : g6.ok x1
  x62 : g6.ok x2
  x63 : g6.ok x3
  x64 : g6.ok x4
  x65 : g6.ok x5
  x66 : g6.ok x6
  l1 : g1.nodes.length ≤ 2 * n + 2 + 7 * n
  l2 : g2.nodes.length ≤ 2 * n + 2 + 14 * n
  l3 : g3.nodes.length ≤ 2 * n + 2 + 21 * n
  l4 : g4.nodes.length ≤ 2 * n + 2 + 28 * n
  l5 : g5.nodes.length ≤ 2 * n + 2 + 35 * n
  l6 : g6.nodes.length ≤ 2 * n + 2 + 42 * n
  ins : (ins g6.nodes).length = 2 * n + 1
  val : ∀ inp, Words inp → 2 * n ≤ inp.length → lw inp g6 x1 = lw inp g6 x2 ∧ lw inp g6 x3 = lw inp g6 x4 ∧ lw inp g6 x5 = 0 ∧ lw inp g6 x6 = 18446744073709551615
theorem turn6 (o1 o2 : Bool) (n : Nat) (h1 : 1 ≤ n) : ∃ g1 g2 g3 g4 g5 g6 x1 x2 x3 x4 x5 x6, Turn6 o1 o2 n g1 g2 g3 g4 g5 g6 x1 x2 x3 x4 x5 x6 := by
  have hw := (freshG_wf o1 o2 (2 * n + 1)).1
  have hi0 := (freshG_wf o1 o2 (2 * n + 1)).2
  have ka : ∀ x ∈ rowL 1 n, (freshG o1 o2 (2 * n + 1)).ok x := fun x hx => by obtain ⟨i, h1, h2⟩ := rowL_mem hx; exact freshG_ok _ _ (by omega)
  have kb : ∀ x ∈ rowL (1 + n) n, (freshG o1 o2 (2 * n + 1)).ok x := fun x hx => by obtain ⟨i, h1, h2⟩ := rowL_mem hx; exact freshG_ok _ _ (by omega)
  have lA := rowL_length 1 n
  have lB := rowL_length (1 + n) n
  have kat := turn_ok ka
  have kbt := turn_ok kb
  have kaf := flipL_ok lA h1 ka
  have kbf := flipL_ok lB h1 kb
  have lAt : ((rowL 1 n).map ntL).length = n := by rw [List.length_map, lA]
  have lBt : ((rowL (1 + n) n).map ntL).length = n := by rw [List.length_map, lB]
  have lAf : (flipL n (rowL 1 n)).length = n := by rw [flipL_length, lA]
  have lBf : (flipL n (rowL (1 + n) n)).length = n := by rw [flipL_length, lB]
  have hlen := freshG_length o1 o2 (2 * n + 1)
  have fAt : ∀ i, i < n → ((rowL 1 n).map ntL).getD i 0 = ntL ((rowL 1 n).getD i 0) := fun i hi => turn_getD (by omega)
  have fBt : ∀ i, i < n → ((rowL (1 + n) n).map ntL).getD i 0 = ntL ((rowL (1 + n) n).getD i 0) := fun i hi => turn_getD (by omega)
  have fAf : ∀ i, i < n → (flipL n (rowL 1 n)).getD i 0 = if i = n - 1 then ntL ((rowL 1 n).getD i 0) else (rowL 1 n).getD i 0 := fun i hi => flipL_getD lA hi
  have fBf : ∀ i, i < n → (flipL n (rowL (1 + n) n)).getD i 0 = if i = n - 1 then ntL ((rowL (1 + n) n).getD i 0) else (rowL (1 + n) n).getD i 0 := fun i hi => flipL_getD lB hi
  generalize hat : (rowL 1 n).map ntL = at' at *
  generalize hbt : (rowL (1 + n) n).map ntL = bt at *
  generalize haf : flipL n (rowL 1 n) = af at *
  generalize hbf : flipL n (rowL (1 + n) n) = bf at *
  have s1 := lessG_good (sg := false) hw ka kb (by omega) (by omega)
  have v1 := fun inp t hi ht => lessG_lane (inp := inp) (t := t) (sg := false) hi ht hw (Ext.refl _) ka kb (by omega) (by omega)
  obtain ⟨⟨g1, x1⟩, E1⟩ : ∃ r, lessG false (freshG o1 o2 (2 * n + 1)) (rowL 1 n) (rowL (1 + n) n) = r := ⟨_, rfl⟩
  simp only [E1] at s1 v1
  have s2 := lessG_good (sg := false) s1.1 (fun x hx => s1.2.1.ok (kbt x hx)) (fun x hx => s1.2.1.ok (kat x hx)) (by omega) (by omega)
  have v2 := fun inp t hi ht => lessG_lane (inp := inp) (t := t) (sg := false) hi ht s1.1 s1.2.1 kbt kat (by omega) (by omega)
  obtain ⟨⟨g2, x2⟩, E2⟩ : ∃ r, lessG false g1 bt at' = r := ⟨_, rfl⟩
  simp only [E2] at s2 v2
  have y2 := s1.2.1.trans s2.2.1
  have s3 := lessG_good (sg := true) s2.1 (fun x hx => y2.ok (ka x hx)) (fun x hx => y2.ok (kb x hx)) (by omega) (by omega)
  have v3 := fun inp t hi ht => lessG_lane (inp := inp) (t := t) (sg := true) hi ht s2.1 y2 ka kb (by omega) (by omega)
  obtain ⟨⟨g3, x3⟩, E3⟩ : ∃ r, lessG true g2 (rowL 1 n) (rowL (1 + n) n) = r := ⟨_, rfl⟩
  simp only [E3] at s3 v3
  have y3 := y2.trans s3.2.1
  have s4 := lessG_good (sg := false) s3.1 (fun x hx => y3.ok (kaf x hx)) (fun x hx => y3.ok (kbf x hx)) (by omega) (by omega)
  have v4 := fun inp t hi ht => lessG_lane (inp := inp) (t := t) (sg := false) hi ht s3.1 y3 kaf kbf (by omega) (by omega)
  obtain ⟨⟨g4, x4⟩, E4⟩ : ∃ r, lessG false g3 af bf = r := ⟨_, rfl⟩
  simp only [E4] at s4 v4
  have y4 := y3.trans s4.2.1
  have s5 := lessG_good (sg := true) s4.1 (fun x hx => y4.ok (ka x hx)) (fun x hx => y4.ok (ka x hx)) (by omega) (by omega)
  have v5 := fun inp t hi ht => lessG_lane (inp := inp) (t := t) (sg := true) hi ht s4.1 y4 ka ka (by omega) (by omega)
  obtain ⟨⟨g5, x5⟩, E5⟩ : ∃ r, lessG true g4 (rowL 1 n) (rowL 1 n) = r := ⟨_, rfl⟩
  simp only [E5] at s5 v5
  have y5 := y4.trans s5.2.1
  have s6 := eqG_good s5.1 (fun x hx => y5.ok (kb x hx)) (fun x hx => y5.ok (kb x hx)) (by omega) (by omega)
  have v6 := fun inp t hi ht => eqG_lane (inp := inp) (t := t) hi ht s5.1 y5 kb kb (by omega) (by omega)
  obtain ⟨⟨g6, x6⟩, E6⟩ : ∃ r, eqG g5 (rowL (1 + n) n) (rowL (1 + n) n) = r := ⟨_, rfl⟩
  simp only [E6] at s6 v6
  have y6 := y5.trans s6.2.1
  have b1 := s1.2.1.le
  have b2 := s2.2.1.le
  have b3 := s3.2.1.le
  have b4 := s4.2.1.le
  have b5 := s5.2.1.le
  have b6 := s6.2.1.le
  have w6 : Ext _ g1 g6 := ((((s2.2.1.trans s3.2.1).trans s4.2.1).trans s5.2.1).trans s6.2.1)
  have w62 : Ext _ g2 g6 := (((s3.2.1.trans s4.2.1).trans s5.2.1).trans s6.2.1)
  have w63 : Ext _ g3 g6 := ((s4.2.1.trans s5.2.1).trans s6.2.1)
  have w64 : Ext _ g4 g6 := (s5.2.1.trans s6.2.1)
  refine ⟨g1, g2, g3, g4, g5, g6, x1, x2, x3, x4, x5, x6, E1, by rw [hat, hbt]; exact E2, E3, by rw [haf, hbf]; exact E4, E5, E6, s6.1, ⟨_, s1.2.1⟩, ⟨_, s2.2.1⟩, ⟨_, s3.2.1⟩, ⟨_, s4.2.1⟩, ⟨_, s5.2.1⟩, w6.ok s1.2.2, w62.ok s2.2.2, w63.ok s3.2.2, w64.ok s4.2.2, s6.2.1.ok s5.2.2, s6.2.2, by omega, by omega, by omega, by omega, by omega, by omega, ext_ins y6 hi0, fun inp hi hl => ?_⟩
  have lwl : ∀ x, lw inp g6 x < 18446744073709551616 := fun x => lw_lt hi _ _
  refine ⟨word_ext (lwl _) (lwl _) fun t ht => ?_, word_ext (lwl _) (lwl _) fun t ht => ?_, word_ext (lwl _) (by omega) fun t ht => ?_, word_ext (lwl _) (by omega) fun t ht => ?_⟩
  · show lane1 inp g6 t x1 = lane1 inp g6 t x2
    rw [lane_ext w6 s1.2.2, lane_ext w62 s2.2.2, v1 inp t hi ht, v2 inp t hi ht, lA, lBt]
    simp only [pick_flat]
    rw [Bool.eq_iff_iff]
    simp only [decide_eq_true_eq]
    have e1 : bitN (fun i => lane1 inp (freshG o1 o2 (2 * n + 1)) t (bt.getD i 0)) 0 n = bitN (fun i => !lane1 inp (freshG o1 o2 (2 * n + 1)) t ((rowL (1 + n) n).getD i 0)) 0 n := bitN_congr fun i _ h => by rw [fBt i (by omega), lane_nt hi ht]
    have e2 : bitN (fun i => lane1 inp (freshG o1 o2 (2 * n + 1)) t (at'.getD i 0)) 0 n = bitN (fun i => !lane1 inp (freshG o1 o2 (2 * n + 1)) t ((rowL 1 n).getD i 0)) 0 n := bitN_congr fun i _ h => by rw [fAt i (by omega), lane_nt hi ht]
    rw [e1, e2]
    exact (not_lt_not _ _ _ _).symm
  · show lane1 inp g6 t x3 = lane1 inp g6 t x4
    rw [lane_ext w63 s3.2.2, lane_ext w64 s4.2.2, v3 inp t hi ht, v4 inp t hi ht, lA, lAf]
    simp only [pick_flat]
    rw [Bool.eq_iff_iff]
    simp only [decide_eq_true_eq]
    rw [pick_true (rowL 1 n) (rowL (1 + n) n) n (lane1 inp (freshG o1 o2 (2 * n + 1)) t), pick_true (rowL (1 + n) n) (rowL 1 n) n (lane1 inp (freshG o1 o2 (2 * n + 1)) t)]
    have e1 : bitN (fun i => lane1 inp (freshG o1 o2 (2 * n + 1)) t (af.getD i 0)) 0 n = bitN (fun i => if i = n - 1 then !lane1 inp (freshG o1 o2 (2 * n + 1)) t ((rowL 1 n).getD i 0) else lane1 inp (freshG o1 o2 (2 * n + 1)) t ((rowL 1 n).getD i 0)) 0 n := bitN_congr fun i _ h => by
      rw [fAf i (by omega)]
      split
      · rw [lane_nt hi ht]
      · rfl
    have e2 : bitN (fun i => lane1 inp (freshG o1 o2 (2 * n + 1)) t (bf.getD i 0)) 0 n = bitN (fun i => if i = n - 1 then !lane1 inp (freshG o1 o2 (2 * n + 1)) t ((rowL (1 + n) n).getD i 0) else lane1 inp (freshG o1 o2 (2 * n + 1)) t ((rowL (1 + n) n).getD i 0)) 0 n := bitN_congr fun i _ h => by
      rw [fBf i (by omega)]
      split
      · rw [lane_nt hi ht]
      · rfl
    rw [e1, e2]
    exact (flip_lt _ _ n h1).symm
  · show lane1 inp g6 t x5 = _
    rw [lane_ext s6.2.1 s5.2.2, v5 inp t hi ht]
    simp
  · show lane1 inp g6 t x6 = _
    rw [v6 inp t hi ht, show 18446744073709551615 = 2 ^ 64 - 1 by rfl, Nat.testBit_two_pow_sub_one]
    simp [ht]
end Go.Proofs.Ytfngfoabknbgdaa
