/-
  Package compare: what rows compared mean, lane by lane, and how deep it is. Plain mathematics.
-/
import Derived.Test.YtenhbhckhncamaaP18
import Derived.Test.YtenhbhckhncamaaP13
import Derived.Test.YtenhbhckhncamaaP15
namespace Go.Proofs.Ytenhbhckhncamaa
set_option linter.unusedVariables false

/-! ### Numbers of bits -/
def bitN (x : Nat → Bool) (k : Nat) : Nat → Nat
  | 0 => 0
  | m + 1 => bitN x k m + (x (k + m)).toNat * 2 ^ m
theorem bitN_lt (x : Nat → Bool) (k m : Nat) : bitN x k m < 2 ^ m := by
  induction m with
  | zero => simp [bitN]
  | succ m ih => unfold bitN; rw [Nat.pow_succ]; cases x (k + m) <;> simp <;> omega
theorem bitN_add (x : Nat → Bool) (k a b : Nat) : bitN x k (a + b) = bitN x k a + 2 ^ a * bitN x (k + a) b := by
  induction b with
  | zero => simp [bitN]
  | succ b ih =>
    rw [← Nat.add_assoc]
    show bitN x k (a + b) + (x (k + (a + b))).toNat * 2 ^ (a + b) = bitN x k a + 2 ^ a * (bitN x (k + a) b + (x (k + a + b)).toNat * 2 ^ b)
    rw [ih, Nat.mul_add, Nat.add_assoc k a b, Nat.pow_add, Nat.mul_left_comm (2 ^ a) (x (k + (a + b))).toNat, Nat.add_assoc]
theorem bitN_congr {x y : Nat → Bool} {k m : Nat} (h : ∀ i, k ≤ i → i < k + m → x i = y i) : bitN x k m = bitN y k m := by
  induction m with
  | zero => rfl
  | succ m ih => unfold bitN; rw [ih (fun i h1 h2 => h i h1 (by omega)), h (k + m) (by omega) (by omega)]
theorem split_lt {A a b p q : Nat} (hp : p < A) (hq : q < A) : (p + A * a < q + A * b ↔ a < b ∨ (a = b ∧ p < q)) := by
  rcases Nat.lt_trichotomy a b with h | h | h
  · refine ⟨fun _ => .inl h, fun _ => ?_⟩
    have : A * (a + 1) ≤ A * b := Nat.mul_le_mul_left _ h
    rw [Nat.mul_add, Nat.mul_one] at this
    omega
  · subst h; simp
  · refine ⟨fun h2 => ?_, fun h2 => by omega⟩
    have : A * (b + 1) ≤ A * a := Nat.mul_le_mul_left _ h
    rw [Nat.mul_add, Nat.mul_one] at this
    omega
theorem split_eq {A a b p q : Nat} (hp : p < A) (hq : q < A) : (p + A * a = q + A * b ↔ a = b ∧ p = q) := by
  have h1 := split_lt (a := a) (b := b) hp hq
  have h2 := split_lt (a := b) (b := a) hq hp
  omega

/-! ### One lane -/
def lane1 (inp : List Nat) (g : Gr) (t l : Nat) : Bool := (lw inp g l).testBit t
variable {inp : List Nat} {g g' : Gr} {t : Nat}
theorem lane_nt (hi : Words inp) (ht : t < 64) (l : Nat) : lane1 inp g t (ntL l) = !lane1 inp g t l := by
  unfold lane1; rw [lw_nt hi, noW_testBit _ _ (lw_lt hi _ _)]; simp [ht]
theorem lane_ext {c l : Nat} (h : Ext c g g') (hl : g.ok l) : lane1 inp g' t l = lane1 inp g t l := by unfold lane1; rw [lw_ext h hl]
theorem lane_and (hi : Words inp) (hw : WF g.nodes) {a b : Nat} (ha : g.ok a) (hb : g.ok b) : lane1 inp (andG g a b).1 t (andG g a b).2 = (lane1 inp g t a && lane1 inp g t b) := by
  unfold lane1; rw [andG_val hw hi ha hb, Nat.testBit_and]
theorem lane_or (hi : Words inp) (hw : WF g.nodes) {a b : Nat} (ha : g.ok a) (hb : g.ok b) : lane1 inp (orG g a b).1 t (orG g a b).2 = (lane1 inp g t a || lane1 inp g t b) := by
  unfold lane1; rw [orG_val hw hi ha hb, Nat.testBit_or]
theorem lane_xor (hi : Words inp) (hw : WF g.nodes) {a b : Nat} (ha : g.ok a) (hb : g.ok b) : lane1 inp (xorG g a b).1 t (xorG g a b).2 = (lane1 inp g t a ^^ lane1 inp g t b) := by
  unfold lane1; rw [xorG_val hw hi ha hb, Nat.testBit_xor]

/-- which row's bit stands for the first number's, sign turned -/
def pickX (sg : Bool) (n : Nat) (la lb : List Nat) (i : Nat) : Nat := if sg && decide (i = n - 1) then lb.getD i 0 else la.getD i 0
theorem bitG_val (hi : Words inp) (ht : t < 64) (hw : WF g.nodes) {x y : Nat} (so tu : Bool) (hx : g.ok x) (hy : g.ok y) :
    lane1 inp (bitG g so tu x y).1 t (bitG g so tu x y).2.1 = decide (lane1 inp g t (if tu then y else x) = lane1 inp g t (if tu then x else y)) ∧
    (so = false → lane1 inp (bitG g so tu x y).1 t (bitG g so tu x y).2.2 = (!lane1 inp g t (if tu then y else x) && lane1 inp g t (if tu then x else y))) := by
  have s1 := xorG_spec hw hx hy
  have e1 : lane1 inp (xorG g x y).1 t (ntL (xorG g x y).2) = decide (lane1 inp g t (if tu then y else x) = lane1 inp g t (if tu then x else y)) := by
    rw [lane_nt hi ht, lane_xor hi hw hx hy]
    cases tu <;> simp <;> cases lane1 inp g t x <;> cases lane1 inp g t y <;> rfl
  unfold bitG
  cases so with
  | true => exact ⟨e1, by simp⟩
  | false =>
    cases tu with
    | true =>
      have s2 := andG_spec s1.1 (ok_ntL (s1.2.1.ok hy)) (s1.2.1.ok hx)
      refine ⟨?_, fun _ => ?_⟩
      · simp only [Bool.false_eq_true, if_false, if_true]
        rw [lane_ext s2.2.1 (ok_ntL s1.2.2)]; exact e1
      · simp only [Bool.false_eq_true, if_false, if_true]
        rw [lane_and hi s1.1 (ok_ntL (s1.2.1.ok hy)) (s1.2.1.ok hx), lane_nt hi ht, lane_ext s1.2.1 hx, lane_ext s1.2.1 hy]
    | false =>
      have s2 := andG_spec s1.1 (ok_ntL (s1.2.1.ok hx)) (s1.2.1.ok hy)
      refine ⟨?_, fun _ => ?_⟩
      · simp only [Bool.false_eq_true, if_false]
        rw [lane_ext s2.2.1 (ok_ntL s1.2.2)]; exact e1
      · simp only [Bool.false_eq_true, if_false]
        rw [lane_and hi s1.1 (ok_ntL (s1.2.1.ok hx)) (s1.2.1.ok hy), lane_nt hi ht, lane_ext s1.2.1 hx, lane_ext s1.2.1 hy]
theorem joinG_val (hi : Words inp) (hw : WF g.nodes) {lo hh : Nat × Nat} (so : Bool) (h1 : g.ok lo.1) (h2 : g.ok lo.2) (h3 : g.ok hh.1) (h4 : g.ok hh.2) :
    lane1 inp (joinG so g lo hh).1 t (joinG so g lo hh).2.1 = (lane1 inp g t hh.1 && lane1 inp g t lo.1) ∧
    (so = false → lane1 inp (joinG so g lo hh).1 t (joinG so g lo hh).2.2 = (lane1 inp g t hh.2 || (lane1 inp g t hh.1 && lane1 inp g t lo.2))) := by
  have s1 := andG_spec hw h3 h1
  have e1 := lane_and (t := t) hi hw h3 h1
  unfold joinG
  dsimp only
  cases so with
  | true => exact ⟨e1, by simp⟩
  | false =>
    have s2 := andG_spec s1.1 (s1.2.1.ok h3) (s1.2.1.ok h2)
    have s3 := orG_spec s2.1 (s2.2.1.ok (s1.2.1.ok h4)) s2.2.2
    refine ⟨?_, fun _ => ?_⟩
    · simp only [Bool.false_eq_true, if_false]
      rw [lane_ext s3.2.1 (s2.2.1.ok s1.2.2), lane_ext s2.2.1 s1.2.2]; exact e1
    · simp only [Bool.false_eq_true, if_false]
      rw [lane_or hi s2.1 (s2.2.1.ok (s1.2.1.ok h4)) s2.2.2, lane_and hi s1.1 (s1.2.1.ok h3) (s1.2.1.ok h2), lane_ext s2.2.1 (s1.2.1.ok h4), lane_ext s1.2.1 h4, lane_ext s1.2.1 h3, lane_ext s1.2.1 h2]

/-- WHAT A STRETCH TELLS: of the numbers that its bits are, whether they are the same, and whether the first one is less. -/
theorem allTo_val {la lb : List Nat} (hi : Words inp) (ht : t < 64) (so sg : Bool) (n : Nat) (g0 : Gr) (hla : ∀ x ∈ la, g0.ok x) (hlb : ∀ x ∈ lb, g0.ok x) (d : Nat) :
    ∀ (g : Gr) (c k m : Nat), 1 ≤ m → m ≤ d → k + m ≤ la.length → k + m ≤ lb.length → WF g.nodes → Ext c g0 g →
    lane1 inp (allTo so sg n la lb d g k m).1 t (allTo so sg n la lb d g k m).2.1 = decide (bitN (fun i => lane1 inp g0 t (pickX sg n la lb i)) k m = bitN (fun i => lane1 inp g0 t (pickX sg n lb la i)) k m) ∧
    (so = false → lane1 inp (allTo so sg n la lb d g k m).1 t (allTo so sg n la lb d g k m).2.2 = decide (bitN (fun i => lane1 inp g0 t (pickX sg n la lb i)) k m < bitN (fun i => lane1 inp g0 t (pickX sg n lb la i)) k m)) := by
  induction d with
  | zero => intro g c k m h1 h2; omega
  | succ d ih =>
    intro g c k m h1 h2 ha hb hw hx
    simp only [allTo]
    split
    · rename_i hm
      subst hm
      have oa := hla _ (getD_in (l := la) (i := k) (d := 0) (by omega))
      have ob := hlb _ (getD_in (l := lb) (i := k) (d := 0) (by omega))
      have hv := bitG_val (t := t) hi ht hw so (sg && decide (k = n - 1)) (hx.ok oa) (hx.ok ob)
      have e : ∀ la lb : List Nat, bitN (fun i => lane1 inp g0 t (pickX sg n la lb i)) k 1 = (lane1 inp g0 t (pickX sg n la lb k)).toNat := by intro la lb; simp [bitN]
      rw [e, e]
      have p1 : lane1 inp g0 t (pickX sg n la lb k) = lane1 inp g t (if (sg && decide (k = n - 1)) = true then lb.getD k 0 else la.getD k 0) := by
        rw [lane_ext hx (by split <;> assumption)]; rfl
      have p2 : lane1 inp g0 t (pickX sg n lb la k) = lane1 inp g t (if (sg && decide (k = n - 1)) = true then la.getD k 0 else lb.getD k 0) := by
        rw [lane_ext hx (by split <;> assumption)]; rfl
      rw [p1, p2]
      refine ⟨hv.1.trans ?_, fun h => (hv.2 h).trans ?_⟩
      · rw [Bool.eq_iff_iff]; simp only [decide_eq_true_eq]
        generalize lane1 inp g t _ = u
        generalize lane1 inp g t _ = v
        cases u <;> cases v <;> simp
      · generalize lane1 inp g t _ = u
        generalize lane1 inp g t _ = v
        cases u <;> cases v <;> simp
    · rename_i hm
      obtain ⟨a1, b1, c1, e1⟩ := allTo_good so sg n d g k (m / 2) (by omega) (by omega) (by omega) (by omega) hw (fun x h => hx.ok (hla x h)) (fun x h => hx.ok (hlb x h))
      obtain ⟨v1, v2⟩ := ih g c k (m / 2) (by omega) (by omega) (by omega) (by omega) hw hx
      obtain ⟨a2, b2, c2, e2⟩ := allTo_good (la := la) (lb := lb) so sg n d _ (k + m / 2) (m - m / 2) (by omega) (by omega) (by omega) (by omega) a1 (fun x h => b1.ok (hx.ok (hla x h))) (fun x h => b1.ok (hx.ok (hlb x h)))
      obtain ⟨v3, v4⟩ := ih _ (c + (7 * (m / 2) - 3)) (k + m / 2) (m - m / 2) (by omega) (by omega) (by omega) (by omega) a1 (hx.trans b1)
      obtain ⟨j1, j2⟩ := joinG_val (t := t) hi a2 so (b2.ok c1) (b2.ok e1) c2 e2
      have hsp : ∀ x : Nat → Bool, bitN x k m = bitN x k (m / 2) + 2 ^ (m / 2) * bitN x (k + m / 2) (m - m / 2) := fun x => by
        rw [← bitN_add]; congr 1; omega
      rw [hsp, hsp]
      have l1 := bitN_lt (fun i => lane1 inp g0 t (pickX sg n la lb i)) k (m / 2)
      have l2 := bitN_lt (fun i => lane1 inp g0 t (pickX sg n lb la i)) k (m / 2)
      refine ⟨?_, fun h => ?_⟩
      · rw [j1, v3, lane_ext b2 c1, v1, Bool.eq_iff_iff]
        simp only [Bool.and_eq_true, decide_eq_true_eq]
        exact (split_eq l1 l2).symm
      · rw [j2 h, v4 h, v3, lane_ext b2 e1, v2 h, Bool.eq_iff_iff]
        simp only [Bool.and_eq_true, Bool.or_eq_true, decide_eq_true_eq]
        exact (split_lt l1 l2).symm

/-! ### How deep -/
def dp (g : Gr) (l : Nat) : Nat := dl (dpL g.nodes) l
theorem dp_ext {c l : Nat} (h : Ext c g g') (hl : g.ok l) : dp g' l = dp g l := by
  obtain ⟨m, h1, _⟩ := h.pre
  obtain ⟨t, ht⟩ := dpL_append g.nodes m
  unfold dp
  rw [h1, ht]
  exact dl_append t (by rw [dpL_length]; exact hl)
theorem dp_nt (l : Nat) : dp g (ntL l) = dp g l := by unfold dp dl; rw [ntL_half]
theorem dp_zero (hw : WF g.nodes) {l : Nat} (h : l / 2 = 0) : dp g l = 0 := by
  unfold dp dl
  rw [h, List.getD_eq_getElem?_getD, dp_none hw.zero (.inr rfl)]
  rfl
theorem dp_gateG (hw : WF g.nodes) {a b : Nat} (ha : g.ok a) (hb : g.ok b) : dp (gateG g a b).1 (gateG g a b).2 ≤ 1 + max (dp g a) (dp g b) := by
  have hs := gateG_spec hw ha hb
  have hp := hw.pos
  have hm := half_max ha hb
  have hk : (gateG g a b).1.nodes[g.nodes.length]? = some (max a b, min a b) := by simp [gateG]
  have hd := dp_gate hs.1 hk (by omega) (by omega)
  have e : dp (gateG g a b).1 (gateG g a b).2 = 1 + max (dp (gateG g a b).1 (max a b)) (dp (gateG g a b).1 (min a b)) := by
    conv => lhs; unfold dp dl
    rw [show (gateG g a b).2 / 2 = g.nodes.length by simp [gateG], List.getD_eq_getElem?_getD, hd]
    rfl
  rw [e]
  rcases Nat.le_total a b with h | h
  · rw [Nat.max_eq_right h, Nat.min_eq_left h, dp_ext hs.2.1 ha, dp_ext hs.2.1 hb]; omega
  · rw [Nat.max_eq_left h, Nat.min_eq_right h, dp_ext hs.2.1 ha, dp_ext hs.2.1 hb]; omega
theorem dp_foldV (hw : WF g.nodes) (a b : Nat) : dp g (foldV a b) ≤ max (dp g a) (dp g b) := by
  unfold foldV
  split
  · rw [dp_zero hw (by omega)]; omega
  · split
    · rcases Nat.le_total a b with h | h
      · rw [Nat.max_eq_right h]; omega
      · rw [Nat.max_eq_left h]; omega
    · rw [dp_zero hw (by omega)]; omega
theorem dp_and (hw : WF g.nodes) {a b : Nat} (ha : g.ok a) (hb : g.ok b) : dp (andG g a b).1 (andG g a b).2 ≤ 1 + max (dp g a) (dp g b) := by
  unfold andG
  split
  · have := dp_foldV hw a b
    show dp g (foldV a b) ≤ _
    omega
  · split
    · rename_i h
      simp only [Bool.and_eq_true] at h
      obtain ⟨c, hc⟩ := Option.isSome_iff_exists.1 h.1
      obtain ⟨k, h1, h2, h3, h4⟩ := look_some hc
      rw [hc]
      show dp g c ≤ _
      by_cases h0 : k = 0
      · rw [dp_zero hw (by omega)]; omega
      · have hd := dp_gate hw h3 h4 h0
        have e : dp g c = 1 + max (dp g (max a b)) (dp g (min a b)) := by
          conv => lhs; unfold dp dl
          rw [show c / 2 = k by omega, List.getD_eq_getElem?_getD, hd]
          rfl
        rw [e]
        rcases Nat.le_total a b with h | h
        · rw [Nat.max_eq_right h, Nat.min_eq_left h]; omega
        · rw [Nat.max_eq_left h, Nat.min_eq_right h]; omega
    · exact dp_gateG hw ha hb
theorem dp_or (hw : WF g.nodes) {a b : Nat} (ha : g.ok a) (hb : g.ok b) : dp (orG g a b).1 (orG g a b).2 ≤ 1 + max (dp g a) (dp g b) := by
  have := dp_and hw (ok_ntL ha) (ok_ntL hb)
  rw [dp_nt, dp_nt] at this
  show dp (andG g (ntL a) (ntL b)).1 (ntL (andG g (ntL a) (ntL b)).2) ≤ _
  rw [dp_nt]
  exact this
theorem dp_xor (hw : WF g.nodes) {a b : Nat} (ha : g.ok a) (hb : g.ok b) : dp (xorG g a b).1 (xorG g a b).2 ≤ 2 + max (dp g a) (dp g b) := by
  obtain ⟨h1, h2, h3⟩ := andG_spec hw ha (ok_ntL hb)
  obtain ⟨h4, h5, h6⟩ := andG_spec h1 (h2.ok (ok_ntL ha)) (h2.ok hb)
  have d1 := dp_and hw ha (ok_ntL hb)
  have d2 := dp_and h1 (h2.ok (ok_ntL ha)) (h2.ok hb)
  have d3 := dp_or h4 (h5.ok h3) h6
  rw [dp_nt] at d1
  rw [dp_nt, dp_ext h2 ha, dp_ext h2 hb] at d2
  rw [dp_ext h5 h3] at d3
  show dp (bothG g a (ntL b) (ntL a) b).1 (bothG g a (ntL b) (ntL a) b).2 ≤ _
  unfold bothG
  omega
/-- HOW DEEP A STRETCH IS, of literals that are no deeper than D. -/
theorem allTo_deep {la lb : List Nat} (so sg : Bool) (n : Nat) (g0 : Gr) (hla : ∀ x ∈ la, g0.ok x ∧ dp g0 x = 0) (hlb : ∀ x ∈ lb, g0.ok x ∧ dp g0 x = 0) (d : Nat) :
    ∀ (g : Gr) (c k m r : Nat), 1 ≤ m → m ≤ d → m ≤ 2 ^ r → k + m ≤ la.length → k + m ≤ lb.length → WF g.nodes → Ext c g0 g →
    dp (allTo so sg n la lb d g k m).1 (allTo so sg n la lb d g k m).2.1 ≤ 2 + r ∧ dp (allTo so sg n la lb d g k m).1 (allTo so sg n la lb d g k m).2.2 ≤ 2 + 2 * r := by
  induction d with
  | zero => intro g c k m r h1 h2; omega
  | succ d ih =>
    intro g c k m r h1 h2 hr ha hb hw hx
    simp only [allTo]
    split
    · rename_i hm
      subst hm
      have oa := hla _ (getD_in (l := la) (i := k) (d := 0) (by omega))
      have ob := hlb _ (getD_in (l := lb) (i := k) (d := 0) (by omega))
      generalize la.getD k 0 = x at *
      generalize lb.getD k 0 = y at *
      have dx : dp g x = 0 := (dp_ext hx oa.1).trans oa.2
      have dy : dp g y = 0 := (dp_ext hx ob.1).trans ob.2
      have ox := hx.ok oa.1
      have oy := hx.ok ob.1
      have s1 := xorG_spec hw ox oy
      have d1 := dp_xor hw ox oy
      unfold bitG
      split
      · refine ⟨?_, ?_⟩
        · dsimp only
          rw [dp_nt]; omega
        · dsimp only
          rw [dp_zero s1.1 (by omega)]; omega
      · split
        · have s2 := andG_spec s1.1 (ok_ntL (s1.2.1.ok oy)) (s1.2.1.ok ox)
          have d2 := dp_and s1.1 (ok_ntL (s1.2.1.ok oy)) (s1.2.1.ok ox)
          rw [dp_nt, dp_ext s1.2.1 ox, dp_ext s1.2.1 oy] at d2
          refine ⟨?_, ?_⟩
          · dsimp only
            rw [dp_nt, dp_ext s2.2.1 s1.2.2]; omega
          · dsimp only
            omega
        · have s2 := andG_spec s1.1 (ok_ntL (s1.2.1.ok ox)) (s1.2.1.ok oy)
          have d2 := dp_and s1.1 (ok_ntL (s1.2.1.ok ox)) (s1.2.1.ok oy)
          rw [dp_nt, dp_ext s1.2.1 ox, dp_ext s1.2.1 oy] at d2
          refine ⟨?_, ?_⟩
          · dsimp only
            rw [dp_nt, dp_ext s2.2.1 s1.2.2]; omega
          · dsimp only
            omega
    · rename_i hm
      obtain ⟨q, rfl⟩ : ∃ q, r = q + 1 := ⟨r - 1, by
        cases r with
        | zero => simp at hr; omega
        | succ r => rfl⟩
      rw [Nat.pow_succ] at hr
      have hla' : ∀ x ∈ la, g0.ok x := fun x h => (hla x h).1
      have hlb' : ∀ x ∈ lb, g0.ok x := fun x h => (hlb x h).1
      obtain ⟨a1, b1, c1, e1⟩ := allTo_good so sg n d g k (m / 2) (by omega) (by omega) (by omega) (by omega) hw (fun x h => hx.ok (hla' x h)) (fun x h => hx.ok (hlb' x h))
      obtain ⟨v1, v2⟩ := ih g c k (m / 2) q (by omega) (by omega) (by omega) (by omega) (by omega) hw hx
      obtain ⟨a2, b2, c2, e2⟩ := allTo_good (la := la) (lb := lb) so sg n d _ (k + m / 2) (m - m / 2) (by omega) (by omega) (by omega) (by omega) a1 (fun x h => b1.ok (hx.ok (hla' x h))) (fun x h => b1.ok (hx.ok (hlb' x h)))
      obtain ⟨v3, v4⟩ := ih _ (c + (7 * (m / 2) - 3)) (k + m / 2) (m - m / 2) q (by omega) (by omega) (by omega) (by omega) (by omega) a1 (hx.trans b1)
      have f1 := b2.ok c1
      have f2 := b2.ok e1
      rw [← dp_ext b2 c1] at v1
      rw [← dp_ext b2 e1] at v2
      generalize allTo so sg n la lb d (allTo so sg n la lb d g k (m / 2)).1 (k + m / 2) (m - m / 2) = hh at *
      generalize allTo so sg n la lb d g k (m / 2) = lo at *
      have s1 := andG_spec a2 c2 f1
      have d1 := dp_and a2 c2 f1
      unfold joinG
      dsimp only
      split
      · refine ⟨?_, ?_⟩
        · dsimp only
          omega
        · dsimp only
          rw [dp_zero s1.1 (by omega)]; omega
      · have s2 := andG_spec s1.1 (s1.2.1.ok c2) (s1.2.1.ok f2)
        have d2 := dp_and s1.1 (s1.2.1.ok c2) (s1.2.1.ok f2)
        have s3 := orG_spec s2.1 (s2.2.1.ok (s1.2.1.ok e2)) s2.2.2
        have d3 := dp_or s2.1 (s2.2.1.ok (s1.2.1.ok e2)) s2.2.2
        rw [dp_ext s1.2.1 c2, dp_ext s1.2.1 f2] at d2
        rw [dp_ext s2.2.1 (s1.2.1.ok e2), dp_ext s1.2.1 e2] at d3
        refine ⟨?_, ?_⟩
        · dsimp only
          rw [dp_ext s3.2.1 (s2.2.1.ok s1.2.2), dp_ext s2.2.1 s1.2.2]; omega
        · dsimp only
          omega
end Go.Proofs.Ytenhbhckhncamaa
