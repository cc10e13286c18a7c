/-
  Law 12: rows exchanged, opposite, nothing. Plain.
-/
import Derived.Test.YtfngfoabknbgdaaAddSumM
import Derived.Test.YtfngfoabknbgdaaCmpTurn
namespace Go.Proofs.Ytfngfoabknbgdaa
set_option linter.unusedVariables false
variable {g : Gr} {n : Nat} {inp : List Nat}
theorem car_comm (x y : Nat → Bool) (k m : Nat) (c : Bool) : car x y k m c = car y x k m c := by
  induction m with
  | zero => rfl
  | succ m ih => simp only [car]; rw [ih, Bool.and_comm, Bool.xor_comm]
theorem car_full (x y : Nat → Bool) (k m : Nat) (h : ∀ i, i < m → y (k + i) = !x (k + i)) : car x y k m true = true := by
  induction m with
  | zero => rfl
  | succ m ih =>
    simp only [car]
    rw [ih (fun i hi => h i (by omega)), h m (by omega)]
    cases x (k + m) <;> rfl
theorem car_none (x y : Nat → Bool) (k m : Nat) (h : ∀ i, i < m → y (k + i) = false) : car x y k m false = false := by
  induction m with
  | zero => rfl
  | succ m ih =>
    simp only [car]
    rw [ih (fun i hi => h i (by omega)), h m (by omega)]
    cases x (k + m) <;> rfl
theorem word_eq {a b : Nat} (ha : a < 18446744073709551616) (hb : b < 18446744073709551616) (h : ∀ t, t < 64 → a.testBit t = b.testBit t) : a = b := by
  apply Nat.eq_of_testBit_eq
  intro t
  by_cases ht : t < 64
  · exact h t ht
  · have hp : 2 ^ 64 ≤ 2 ^ t := Nat.pow_le_pow_right (by omega) (by omega)
    rw [Nat.testBit_lt_two_pow (by omega), Nat.testBit_lt_two_pow (by omega)]
theorem lane1_ext {t c l : Nat} {g' : Gr} (h : Ext c g g') (hl : g.ok l) : lane1 inp g' t l = lane1 inp g t l := by unfold lane1; rw [lw_ext h hl]
theorem lane1_zero {t : Nat} (hw : WF g.nodes) : lane1 inp g t 0 = false := by unfold lane1; rw [lw_zero]; simp
theorem lane1_one {t : Nat} (hi : Words inp) (ht : t < 64) (hw : WF g.nodes) : lane1 inp g t 1 = true := by
  have h := lane_nt (g := g) hi ht 0
  rw [lane1_zero hw] at h
  exact h
/-- all of a row's words in the last graph -/
def wordsOf (inp : List Nat) (g : Gr) (s : List Nat) (o : Nat) : List Nat := (s ++ [o]).map (lw inp g)
theorem wordsOf_low {s : List Nat} {o i : Nat} (hl : s.length = n) (hi : i < n) : (wordsOf inp g s o).getD i 0 = lw inp g (s.getD i 0) := by
  simp only [wordsOf, List.getD_eq_getElem?_getD, List.getElem?_map, List.getElem?_append_left (show i < s.length by omega)]
  rw [List.getElem?_eq_getElem (by omega)]
  rfl
theorem wordsOf_top {s : List Nat} {o : Nat} (hl : s.length = n) : (wordsOf inp g s o).getD n 0 = lw inp g o := by
  simp only [wordsOf, List.getD_eq_getElem?_getD, List.getElem?_map, List.getElem?_append_right (show s.length ≤ n by omega)]
  rw [hl]
  simp
theorem wordsOf_length {s : List Nat} {o : Nat} (hl : s.length = n) : (wordsOf inp g s o).length = n + 1 := by simp [wordsOf, hl]
theorem wordsOf_words {s : List Nat} {o : Nat} (hi : Words inp) : Words (wordsOf inp g s o) := by
  intro x hx
  obtain ⟨y, _, rfl⟩ := List.mem_map.1 hx
  exact lw_lt hi _ _
/-- the four sums, one behind the other -/
structure Four (o1 o2 : Bool) (how n : Nat) (g1 g2 g3 g4 : Gr) (s1 s2 s3 s4 : List Nat) (u1 u2 u3 u4 : Nat) : Prop where
  e1 : addG how (freshG o1 o2 (2 * n + 1)) (rowL 1 n) (rowL (1 + n) n) (2 * (1 + 2 * n)) n = (g1, s1, u1)
  e2 : addG how g1 (rowL (1 + n) n) (rowL 1 n) (2 * (1 + 2 * n)) n = (g2, s2, u2)
  e3 : addG how g2 (rowL 1 n) ((rowL 1 n).map ntL) 1 n = (g3, s3, u3)
  e4 : addG how g3 (rowL 1 n) (List.replicate n 0) 0 n = (g4, s4, u4)
  l1 : g1.nodes.length ≤ 8000
  l2 : g2.nodes.length ≤ 8000
  l3 : g3.nodes.length ≤ 8000
  l4 : g4.nodes.length ≤ 8000
  k1 : g1.ok (2 * (1 + 2 * n))
  k2 : g2.ok 1
  k3 : g3.ok 0
  a2 : ∀ x ∈ rowL 1 n, g2.ok x
  a2' : ∀ x ∈ (rowL 1 n).map ntL, g2.ok x
  a3 : ∀ x ∈ rowL 1 n, g3.ok x
  z3 : ∀ x ∈ List.replicate n 0, g3.ok x
  n1 : s1.length = n
  n2 : s2.length = n
  n3 : s3.length = n
  n4 : s4.length = n
  q1 : ∀ x ∈ s1 ++ [u1], g4.ok x
  q2 : ∀ x ∈ s2 ++ [u2], g4.ok x
  q3 : ∀ x ∈ s3 ++ [u3], g4.ok x
  q4 : ∀ x ∈ s4 ++ [u4], g4.ok x
  ins : (ins g4.nodes).length = 2 * n + 1
  same : ∀ inp, Words inp → wordsOf inp g4 s1 u1 = wordsOf inp g4 s2 u2
  low3 : ∀ inp i, Words inp → i < n → (wordsOf inp g4 s3 u3).getD i 0 = 0
  top3 : ∀ inp, Words inp → (wordsOf inp g4 s3 u3).getD n 0 = 18446744073709551615
  low4 : ∀ inp i, Words inp → i < n → (wordsOf inp g4 s4 u4).getD i 0 = inp.getD i 0
  top4 : ∀ inp, Words inp → (wordsOf inp g4 s4 u4).getD n 0 = 0
theorem app_ok {s : List Nat} {u : Nat} (h : ∀ x ∈ s, g.ok x) (h2 : g.ok u) : ∀ x ∈ s ++ [u], g.ok x := fun x hx => by
  rcases List.mem_append.1 hx with hx | hx
  · exact h x hx
  · rw [List.mem_singleton] at hx; subst hx; exact h2
theorem all_ext {c : Nat} {g' : Gr} {l : List Nat} (h : Ext c g g') (k : ∀ x ∈ l, g.ok x) : ∀ x ∈ l, g'.ok x := fun x hx => h.ok (k x hx)
theorem four (o1 o2 : Bool) (how : Nat) (h1 : 1 ≤ n) (hn : n ≤ 64) : ∃ g1 g2 g3 g4 s1 s2 s3 s4 u1 u2 u3 u4, Four o1 o2 how n g1 g2 g3 g4 s1 s2 s3 s4 u1 u2 u3 u4 := by
  have hw := (freshG_wf o1 o2 (2 * n + 1)).1
  have hi0 := (freshG_wf o1 o2 (2 * n + 1)).2
  obtain ⟨d1, d2⟩ := fresh_deep o1 o2 n
  have ka := fun x hx => (d1 x hx).1
  have kb := fun x hx => (d2 x hx).1
  have kc : (freshG o1 o2 (2 * n + 1)).ok (2 * (1 + 2 * n)) := freshG_ok _ _ (by omega)
  have lA := rowL_length 1 n
  have lB := rowL_length (1 + n) n
  have hlen := freshG_length o1 o2 (2 * n + 1)
  have r1 := addG_ok (how := how) hw ka kb kc lA lB hn
  obtain ⟨⟨g1, s1, u1⟩, E1⟩ : ∃ r, addG how (freshG o1 o2 (2 * n + 1)) (rowL 1 n) (rowL (1 + n) n) (2 * (1 + 2 * n)) n = r := ⟨_, rfl⟩
  rw [E1] at r1
  have x1 := r1.ext
  dsimp only at x1
  have r2 := addG_ok (how := how) r1.wf (all_ext x1 kb) (all_ext x1 ka) (x1.ok kc) lB lA hn
  obtain ⟨⟨g2, s2, u2⟩, E2⟩ : ∃ r, addG how g1 (rowL (1 + n) n) (rowL 1 n) (2 * (1 + 2 * n)) n = r := ⟨_, rfl⟩
  rw [E2] at r2
  have x2 := r2.ext
  dsimp only at x2
  have ka2 := all_ext x2 (all_ext x1 ka)
  have k1' : g2.ok 1 := by have := r2.wf.pos; unfold Gr.ok; dsimp only at this; omega
  have r3 := addG_ok (how := how) r2.wf ka2 (turn_ok ka2) k1' lA (by simp [lA]) hn
  obtain ⟨⟨g3, s3, u3⟩, E3⟩ : ∃ r, addG how g2 (rowL 1 n) ((rowL 1 n).map ntL) 1 n = r := ⟨_, rfl⟩
  rw [E3] at r3
  have x3 := r3.ext
  dsimp only at x3
  have ka3 := all_ext x3 ka2
  have k0 : g3.ok 0 := by have := r3.wf.pos; unfold Gr.ok; dsimp only at this; omega
  have kz : ∀ x ∈ List.replicate n 0, g3.ok x := fun x hx => by rw [(List.mem_replicate.1 hx).2]; exact k0
  have r4 := addG_ok (how := how) r3.wf ka3 kz k0 lA (by simp) hn
  obtain ⟨⟨g4, s4, u4⟩, E4⟩ : ∃ r, addG how g3 (rowL 1 n) (List.replicate n 0) 0 n = r := ⟨_, rfl⟩
  rw [E4] at r4
  have x4 := r4.ext
  dsimp only at x4
  have y1 := x1.le
  have y2 := x2.le
  have y3 := x3.le
  have y4 := x4.le
  have x34 := x3.trans x4
  have x24 := x2.trans x34
  have n1 : s1.length = n := r1.len
  have n2 : s2.length = n := r2.len
  have n3 : s3.length = n := r3.len
  have n4 : s4.length = n := r4.len
  refine ⟨g1, g2, g3, g4, s1, s2, s3, s4, u1, u2, u3, u4, E1, E2, E3, E4, by omega, by omega, by omega, by omega, x1.ok kc, k1', k0, ka2, turn_ok ka2, ka3, kz, n1, n2, n3, n4,
    all_ext x24 (app_ok r1.os r1.oc), all_ext x34 (app_ok r2.os r2.oc), all_ext x4 (app_ok r3.os r3.oc), app_ok r4.os r4.oc, ?_, ?_, ?_, ?_, ?_, ?_⟩
  · rw [x24.ins, x1.ins, hi0]
  · intro inp hi
    apply List.ext_getElem (by rw [wordsOf_length n1, wordsOf_length n2])
    intro i b1 b2
    have hin : i < n + 1 := by rw [wordsOf_length n1] at b1; exact b1
    have key : (wordsOf inp g4 s1 u1).getD i 0 = (wordsOf inp g4 s2 u2).getD i 0 := by
      apply word_eq (words_getD (wordsOf_words hi) i) (words_getD (wordsOf_words hi) i)
      intro t ht
      have v1 := r1.val inp t hi ht
      have v2 := r2.val inp t hi ht
      dsimp only at v1 v2
      have ea : ∀ i, lane1 inp g1 t ((rowL 1 n).getD i 0) = lane1 inp (freshG o1 o2 (2 * n + 1)) t ((rowL 1 n).getD i 0) := fun i => lane1_ext x1 (getD_ok hw ka i)
      have eb : ∀ i, lane1 inp g1 t ((rowL (1 + n) n).getD i 0) = lane1 inp (freshG o1 o2 (2 * n + 1)) t ((rowL (1 + n) n).getD i 0) := fun i => lane1_ext x1 (getD_ok hw kb i)
      have ec : lane1 inp g1 t (2 * (1 + 2 * n)) = lane1 inp (freshG o1 o2 (2 * n + 1)) t (2 * (1 + 2 * n)) := lane1_ext x1 kc
      simp only [ea, eb, ec] at v2
      by_cases hlt : i < n
      · rw [wordsOf_low n1 hlt, wordsOf_low n2 hlt]
        have a1 := lane1_ext (inp := inp) (t := t) x24 (r1.os _ (getD_in (l := s1) (i := i) (d := 0) (by omega)))
        have a2 := lane1_ext (inp := inp) (t := t) x34 (r2.os _ (getD_in (l := s2) (i := i) (d := 0) (by omega)))
        show lane1 inp g4 t _ = lane1 inp g4 t _
        rw [a1, a2, v1.1 i hlt, v2.1 i hlt, car_comm, Bool.xor_comm (lane1 inp _ t ((rowL 1 n).getD i 0))]
      · obtain rfl : i = n := by omega
        rw [wordsOf_top n1, wordsOf_top n2]
        show lane1 inp g4 t _ = lane1 inp g4 t _
        rw [lane1_ext x24 r1.oc, lane1_ext x34 r2.oc, v1.2, v2.2, car_comm]
    simpa [List.getD_eq_getElem?_getD, List.getElem?_eq_getElem b1, List.getElem?_eq_getElem b2] using key
  · intro inp i hi hin
    apply word_eq (words_getD (wordsOf_words hi) i) (by omega)
    intro t ht
    have v := r3.val inp t hi ht
    dsimp only at v
    rw [wordsOf_low n3 hin]
    show lane1 inp g4 t _ = _
    rw [lane1_ext x4 (r3.os _ (getD_in (l := s3) (i := i) (d := 0) (by omega))), v.1 i hin, lane1_one hi ht r2.wf, car_full _ _ _ _ (fun j hj => by rw [Nat.zero_add, turn_getD (by omega), lane_nt hi ht]), turn_getD (by omega), lane_nt hi ht]
    simp
  · intro inp hi
    apply word_eq (words_getD (wordsOf_words hi) n) (by omega)
    intro t ht
    have v := r3.val inp t hi ht
    dsimp only at v
    rw [wordsOf_top n3]
    show lane1 inp g4 t _ = _
    rw [lane1_ext x4 r3.oc, v.2, lane1_one hi ht r2.wf, car_full _ _ _ _ (fun j hj => by rw [Nat.zero_add, turn_getD (by omega), lane_nt hi ht])]
    rw [show 18446744073709551615 = 2 ^ 64 - 1 from rfl, Nat.testBit_two_pow_sub_one]
    simp [ht]
  · intro inp i hi hin
    apply word_eq (words_getD (wordsOf_words hi) i) (words_getD hi i)
    intro t ht
    have v := r4.val inp t hi ht
    dsimp only at v
    rw [wordsOf_low n4 hin]
    have ez : ∀ j, lane1 inp g3 t ((List.replicate n 0).getD j 0) = false := fun j => by
      have : (List.replicate n 0).getD j 0 = 0 := by
        rw [List.getD_eq_getElem?_getD, List.getElem?_replicate]; split <;> rfl
      rw [this]; exact lane1_zero r3.wf
    show lane1 inp g4 t _ = _
    rw [v.1 i hin, lane1_zero r3.wf, car_none _ _ _ _ (fun j hj => ez _), ez, lane1_ext x3 (getD_ok r2.wf ka2 i), lane1_ext x2 (getD_ok r1.wf (all_ext x1 ka) i), lane1_ext x1 (getD_ok hw ka i), rowL_getD hin]
    unfold lane1
    rw [show 2 * (1 + i) = 2 * (i + 1) by omega, freshG_val _ _ _ _ _ (by omega)]
    simp
  · intro inp hi
    apply word_eq (words_getD (wordsOf_words hi) n) (by omega)
    intro t ht
    have v := r4.val inp t hi ht
    dsimp only at v
    rw [wordsOf_top n4]
    have ez : ∀ j, lane1 inp g3 t ((List.replicate n 0).getD j 0) = false := fun j => by
      have : (List.replicate n 0).getD j 0 = 0 := by
        rw [List.getD_eq_getElem?_getD, List.getElem?_replicate]; split <;> rfl
      rw [this]; exact lane1_zero r3.wf
    show lane1 inp g4 t _ = _
    rw [v.2, lane1_zero r3.wf, car_none _ _ _ _ (fun j hj => ez _)]
    simp
end Go.Proofs.Ytfngfoabknbgdaa
