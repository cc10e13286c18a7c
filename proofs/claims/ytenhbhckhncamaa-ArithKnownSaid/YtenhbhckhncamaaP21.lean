/-
  Package adder: what is added, bit by bit and looking ahead; what it means, how deep it is, how many gates there are. Plain mathematics.
-/
import Derived.Test.YtenhbhckhncamaaP17
import Derived.Test.YtenhbhckhncamaaP19
import Derived.Test.YtenhbhckhncamaaP20
namespace Go.Proofs.Ytenhbhckhncamaa
set_option linter.unusedVariables false
variable {g : Gr}

/-! ### Looking ahead, as the code goes: rows of 64 -/
def preTo (g : Gr) (la lb : List Nat) : Nat → Gr × List Nat × List Nat
  | 0 => (g, List.replicate 64 0, List.replicate 64 0)
  | k + 1 =>
    let s := preTo g la lb k
    let r1 := andG s.1 (la.getD k 0) (lb.getD k 0)
    let r2 := xorG r1.1 (la.getD k 0) (lb.getD k 0)
    (r2.1, s.2.1.set k r1.2, s.2.2.set k r2.2)
/-- one round: from d on, so many -/
def roundTo (g : Gr) (wm wg : List Nat) (d : Nat) : Nat → Gr × List Nat × List Nat
  | 0 => (g, wm, wg)
  | j + 1 =>
    let s := roundTo g wm wg d j
    let r1 := carryG s.1 (wm.getD (d + j) 0) (wg.getD (d + j) 0) (wm.getD j 0)
    let r2 := andG r1.1 (wg.getD (d + j) 0) (wg.getD j 0)
    (r2.1, s.2.1.set (d + j) r1.2, s.2.2.set (d + j) r2.2)
def spanTo (n : Nat) (s0 : Gr × List Nat × List Nat) : Nat → Gr × List Nat × List Nat
  | 0 => s0
  | r + 1 => roundTo (spanTo n s0 r).1 (spanTo n s0 r).2.1 (spanTo n s0 r).2.2 (2 ^ r) (n - 2 ^ r)
def sumTo (s0 : Gr × List Nat × List Nat) (bits : List Nat) (c : Nat) : Nat → Gr × List Nat × Nat
  | 0 => (s0.1, [], c)
  | k + 1 =>
    let s := sumTo s0 bits c k
    let r1 := xorG s.1 (bits.getD k 0) s.2.2
    let r2 := carryG r1.1 (s0.2.1.getD k 0) (s0.2.2.getD k 0) c
    (r2.1, s.2.1 ++ [r1.2], r2.2)
/-- how many rounds: the least r with n ≤ 2 ^ r -/
def rnds (n : Nat) : Nat := if n ≤ 1 then 0 else if n ≤ 2 then 1 else if n ≤ 4 then 2 else if n ≤ 8 then 3 else if n ≤ 16 then 4 else if n ≤ 32 then 5 else 6
theorem rnds_spec (n : Nat) (h : n ≤ 64) : n ≤ 2 ^ rnds n ∧ ∀ r, r < rnds n → 2 ^ r < n := by
  unfold rnds
  repeat' split
  all_goals
    refine ⟨by omega, fun r hr => ?_⟩
    match r with
    | 0 | 1 | 2 | 3 | 4 | 5 => omega
    | r + 6 => omega
def aheadG (g : Gr) (la lb : List Nat) (c n : Nat) : Gr × List Nat × Nat :=
  let p := preTo g la lb n
  sumTo (spanTo n (p.1, p.2.1, p.2.2) (rnds n)) p.2.2 c n

/-! ### What is known of each state: graphs grow, literals are there -/
structure StOk (c : Nat) (g0 : Gr) (s : Gr × List Nat × List Nat) : Prop where
  wf : WF s.1.nodes
  ext : Ext c g0 s.1
  lm : s.2.1.length = 64
  lg : s.2.2.length = 64
  om : ∀ x ∈ s.2.1, s.1.ok x
  og : ∀ x ∈ s.2.2, s.1.ok x
theorem set_ok {g g' : Gr} {c : Nat} {l : List Nat} {i v : Nat} (h : ∀ x ∈ l, g.ok x) (hx : Ext c g g') (hv : g'.ok v) : ∀ x ∈ l.set i v, g'.ok x := fun x hm => by
  rcases List.mem_or_eq_of_mem_set hm with h1 | h1
  · exact hx.ok (h x h1)
  · rw [h1]; exact hv
theorem getD_ok {g : Gr} {l : List Nat} (hw : WF g.nodes) (h : ∀ x ∈ l, g.ok x) (i : Nat) : g.ok (l.getD i 0) := by
  rw [List.getD_eq_getElem?_getD]
  cases hj : l[i]? with
  | none => exact ok_zero hw
  | some v => exact h v (List.mem_of_getElem? hj)
theorem preTo_ok {la lb : List Nat} (hw : WF g.nodes) (ka : ∀ x ∈ la, g.ok x) (kb : ∀ x ∈ lb, g.ok x) (k : Nat) : StOk (4 * k) g (preTo g la lb k) := by
  induction k with
  | zero => exact ⟨hw, .refl g, by simp [preTo], by simp [preTo], fun x hx => by rw [(List.mem_replicate.1 hx).2]; exact ok_zero hw, fun x hx => by rw [(List.mem_replicate.1 hx).2]; exact ok_zero hw⟩
  | succ k ih =>
    have hx := ih.ext.ok (getD_ok hw ka k)
    have hy := ih.ext.ok (getD_ok hw kb k)
    have s1 := andG_spec ih.wf hx hy
    have s2 := xorG_spec s1.1 (s1.2.1.ok hx) (s1.2.1.ok hy)
    exact ⟨s2.1, ((ih.ext.trans s1.2.1).trans s2.2.1).mono (by omega), by simp [preTo, ih.lm], by simp [preTo, ih.lg], set_ok ih.om (s1.2.1.trans s2.2.1) (s2.2.1.ok s1.2.2), set_ok ih.og (s1.2.1.trans s2.2.1) s2.2.2⟩
theorem roundTo_ok {wm wg : List Nat} {d : Nat} (hw : WF g.nodes) (hm : wm.length = 64) (hg : wg.length = 64) (om : ∀ x ∈ wm, g.ok x) (og : ∀ x ∈ wg, g.ok x) (j : Nat) : StOk (3 * j) g (roundTo g wm wg d j) := by
  induction j with
  | zero => exact ⟨hw, .refl g, hm, hg, om, og⟩
  | succ j ih =>
    have s1 := carryG_spec ih.wf (ih.ext.ok (getD_ok hw om (d + j))) (ih.ext.ok (getD_ok hw og (d + j))) (ih.ext.ok (getD_ok hw om j))
    have s2 := andG_spec s1.1 (s1.2.1.ok (ih.ext.ok (getD_ok hw og (d + j)))) (s1.2.1.ok (ih.ext.ok (getD_ok hw og j)))
    exact ⟨s2.1, ((ih.ext.trans s1.2.1).trans s2.2.1).mono (by omega), by simp [roundTo, ih.lm], by simp [roundTo, ih.lg], set_ok ih.om (s1.2.1.trans s2.2.1) (s2.2.1.ok s1.2.2), set_ok ih.og (s1.2.1.trans s2.2.1) s2.2.2⟩
/-- what the rounds add: in round r so many gates as there are places from 2 ^ r on, three each -/
def wideTo (n : Nat) : Nat → Nat
  | 0 => 0
  | r + 1 => wideTo n r + (n - 2 ^ r)
theorem wideTo_le (n : Nat) (h : n ≤ 64) (r : Nat) : wideTo n r ≤ 64 * r := by
  induction r with
  | zero => simp [wideTo]
  | succ r ih =>
    show wideTo n r + (n - 2 ^ r) ≤ 64 * (r + 1)
    have := Nat.sub_le n (2 ^ r)
    generalize n - 2 ^ r = q at *
    omega
theorem spanTo_ok {g0 : Gr} {c n : Nat} {s0 : Gr × List Nat × List Nat} (h0 : StOk c g0 s0) (r : Nat) : StOk (c + 3 * wideTo n r) g0 (spanTo n s0 r) := by
  induction r with
  | zero => exact ⟨h0.wf, h0.ext.mono (by omega), h0.lm, h0.lg, h0.om, h0.og⟩
  | succ r ih =>
    have h := roundTo_ok (d := 2 ^ r) ih.wf ih.lm ih.lg ih.om ih.og (n - 2 ^ r)
    exact ⟨h.wf, (ih.ext.trans h.ext).mono (by show c + 3 * wideTo n r + 3 * (n - 2 ^ r) ≤ c + 3 * (wideTo n r + (n - 2 ^ r)); omega), h.lm, h.lg, h.om, h.og⟩
structure SumOk (c : Nat) (g0 : Gr) (k : Nat) (s : Gr × List Nat × Nat) : Prop where
  wf : WF s.1.nodes
  ext : Ext c g0 s.1
  len : s.2.1.length = k
  os : ∀ x ∈ s.2.1, s.1.ok x
  oc : s.1.ok s.2.2
theorem sumTo_ok {g0 : Gr} {b c : Nat} {s0 : Gr × List Nat × List Nat} {bits : List Nat} (h0 : StOk b g0 s0) (ob : ∀ x ∈ bits, s0.1.ok x) (oc : s0.1.ok c) (k : Nat) : SumOk (5 * k) s0.1 k (sumTo s0 bits c k) := by
  induction k with
  | zero => exact ⟨h0.wf, .refl _, rfl, by simp [sumTo], oc⟩
  | succ k ih =>
    have s1 := xorG_spec ih.wf (ih.ext.ok (getD_ok h0.wf ob k)) ih.oc
    have s2 := carryG_spec s1.1 (s1.2.1.ok (ih.ext.ok (getD_ok h0.wf h0.om k))) (s1.2.1.ok (ih.ext.ok (getD_ok h0.wf h0.og k))) (s1.2.1.ok (ih.ext.ok oc))
    refine ⟨s2.1, ((ih.ext.trans s1.2.1).trans s2.2.1).mono (by omega), by simp [sumTo, ih.len], fun x hx => ?_, s2.2.2⟩
    rcases List.mem_append.1 hx with h | h
    · exact s2.2.1.ok (s1.2.1.ok (ih.os x h))
    · rw [List.mem_singleton.1 h]; exact s2.2.1.ok s1.2.2

/-! ### What it means, in a lane -/
/-- the carry behind so many places, from one on -/
def car (x y : Nat → Bool) (k : Nat) : Nat → Bool → Bool
  | 0, c => c
  | m + 1, c => (x (k + m) && y (k + m)) || ((x (k + m) ^^ y (k + m)) && car x y k m c)
/-- all places hand a carry on -/
def prp (x y : Nat → Bool) (k : Nat) : Nat → Bool
  | 0 => true
  | m + 1 => (x (k + m) ^^ y (k + m)) && prp x y k m
theorem car_add (x y : Nat → Bool) (k a b : Nat) (c : Bool) : car x y k (a + b) c = car x y (k + a) b (car x y k a c) := by
  induction b with
  | zero => rfl
  | succ b ih =>
    rw [← Nat.add_assoc]
    show ((x (k + (a + b)) && y (k + (a + b))) || ((x (k + (a + b)) ^^ y (k + (a + b))) && car x y k (a + b) c)) = _
    rw [ih, ← Nat.add_assoc]
    rfl
theorem prp_add (x y : Nat → Bool) (k a b : Nat) : prp x y k (a + b) = (prp x y (k + a) b && prp x y k a) := by
  induction b with
  | zero => simp [prp]
  | succ b ih =>
    rw [← Nat.add_assoc]
    show ((x (k + (a + b)) ^^ y (k + (a + b))) && prp x y k (a + b)) = _
    rw [ih, ← Nat.add_assoc]
    show _ = (((x (k + a + b) ^^ y (k + a + b)) && prp x y (k + a) b) && prp x y k a)
    rw [Bool.and_assoc]
theorem car_split (x y : Nat → Bool) (k m : Nat) (c : Bool) : car x y k m c = (car x y k m false || (prp x y k m && c)) := by
  induction m with
  | zero => simp [car, prp]
  | succ m ih =>
    simp only [car, prp]
    rw [ih]
    cases x (k + m) <;> cases y (k + m) <;> simp
/-- THE SUM: the bits and the carry out are the sum of both numbers and the carry in. -/
theorem add_law (x y : Nat → Bool) (c : Bool) (n : Nat) :
    bitN (fun i => (x i ^^ y i) ^^ car x y 0 i c) 0 n + (car x y 0 n c).toNat * 2 ^ n = bitN x 0 n + bitN y 0 n + c.toNat := by
  induction n with
  | zero => simp [bitN, car]
  | succ n ih =>
    simp only [bitN, car, Nat.zero_add]
    have h2 : 2 ^ (n + 1) = 2 * 2 ^ n := by rw [Nat.pow_succ, Nat.mul_comm]
    rw [h2]
    generalize bitN (fun i => (x i ^^ y i) ^^ car x y 0 i c) 0 n = s at *
    generalize bitN x 0 n = a at *
    generalize bitN y 0 n = b at *
    generalize 2 ^ n = M at *
    generalize car x y 0 n c = q at *
    cases x n <;> cases y n <;> cases q <;> simp at * <;> omega
variable {inp : List Nat} {t : Nat}
theorem carryG_lane {x y z : Nat} (hi : Words inp) (hw : WF g.nodes) (hx : g.ok x) (hy : g.ok y) (hz : g.ok z) : lane1 inp (carryG g x y z).1 t (carryG g x y z).2 = (lane1 inp g t x || (lane1 inp g t y && lane1 inp g t z)) := by
  obtain ⟨h1, h2, h3⟩ := andG_spec hw hy hz
  unfold carryG
  rw [lane_or hi h1 (h2.ok hx) h3, lane_ext h2 hx, lane_and hi hw hy hz]
/-- bit by bit: the sum's bits and the carry -/
theorem ripTo_lane {la lb : List Nat} {c : Nat} {g0 : Gr} (hi : Words inp) (hw : WF g0.nodes) (ka : ∀ x ∈ la, g0.ok x) (kb : ∀ x ∈ lb, g0.ok x) (kc : g0.ok c) (k : Nat) (hk : k ≤ la.length) (hk' : k ≤ lb.length) :
    (∀ i, i < k → lane1 inp (ripTo g0 la lb c k).1 t ((ripTo g0 la lb c k).2.1.getD i 0) = ((lane1 inp g0 t (la.getD i 0) ^^ lane1 inp g0 t (lb.getD i 0)) ^^ car (fun i => lane1 inp g0 t (la.getD i 0)) (fun i => lane1 inp g0 t (lb.getD i 0)) 0 i (lane1 inp g0 t c))) ∧
    lane1 inp (ripTo g0 la lb c k).1 t (ripTo g0 la lb c k).2.2 = car (fun i => lane1 inp g0 t (la.getD i 0)) (fun i => lane1 inp g0 t (lb.getD i 0)) 0 k (lane1 inp g0 t c) := by
  induction k with
  | zero => exact ⟨fun i h => absurd h (by omega), rfl⟩
  | succ k ih =>
    obtain ⟨i1, i2⟩ := ih (by omega) (by omega)
    obtain ⟨h1, h2, h3, h4⟩ := ripTo_spec hw ka kb kc k (by omega) (by omega)
    have ea : la.getD k 0 ∈ la := getD_in (by omega)
    have eb : lb.getD k 0 ∈ lb := getD_in (by omega)
    have hlen := ripTo_length g0 la lb c k
    obtain ⟨g1, v1, g2, v2, g3, v3, g4, v4, R⟩ := ripK (ripTo g0 la lb c k).2.1 h1 (h2.ok (ka _ ea)) (h2.ok (kb _ eb)) h3
    have e : ripTo g0 la lb c (k + 1) = (g4, (ripTo g0 la lb c k).2.1 ++ [v2], v4) := R.all
    have hxo := h2.ok (ka _ ea)
    have hyo := h2.ok (kb _ eb)
    have w1 := (xorG_spec h1 hxo hyo)
    rw [R.e1] at w1
    have w2 := xorG_spec w1.1 R.a1 R.a2
    rw [R.e2] at w2
    have w3 := andG_spec w2.1 R.a4 R.a5
    rw [R.e3] at w3
    have w4 := carryG_spec w3.1 R.a6 R.a7 R.a8
    rw [R.e4] at w4
    have l1 := lane_xor (t := t) hi h1 hxo hyo
    rw [R.e1] at l1
    have l2 := lane_xor (t := t) hi w1.1 R.a1 R.a2
    rw [R.e2] at l2
    have l3 := lane_and (t := t) hi w2.1 R.a4 R.a5
    rw [R.e3] at l3
    have l4 := carryG_lane (t := t) hi w3.1 R.a6 R.a7 R.a8
    rw [R.e4] at l4
    simp only at l1 l2 l3 l4
    rw [lane_ext w1.2.1 h3, i2, l1, lane_ext h2 (ka _ ea), lane_ext h2 (kb _ eb)] at l2
    rw [lane_ext R.x2 hxo, lane_ext R.x2 hyo, lane_ext h2 (ka _ ea), lane_ext h2 (kb _ eb)] at l3
    have x13 : Ext _ g1 g3 := w2.2.1.trans w3.2.1
    have x03 : Ext _ (ripTo g0 la lb c k).1 g3 := R.x3
    rw [l3, lane_ext x13 R.a1, l1, lane_ext h2 (ka _ ea), lane_ext h2 (kb _ eb), lane_ext x03 h3, i2] at l4
    rw [e]
    refine ⟨fun i hik => ?_, ?_⟩
    · by_cases hi' : i < k
      · have hin : (ripTo g0 la lb c k).2.1.getD i 0 ∈ (ripTo g0 la lb c k).2.1 := getD_in (by omega)
        rw [show ((ripTo g0 la lb c k).2.1 ++ [v2]).getD i 0 = (ripTo g0 la lb c k).2.1.getD i 0 from by simp only [List.getD_eq_getElem?_getD]; rw [List.getElem?_append_left (by omega)], lane_ext R.x4 (h4 _ hin)]
        exact i1 i hi'
      · obtain rfl : i = k := by omega
        rw [show ((ripTo g0 la lb c i).2.1 ++ [v2]).getD i 0 = v2 from by simp only [List.getD_eq_getElem?_getD]; rw [List.getElem?_append_right (by omega), hlen]; simp]
        rw [lane_ext (w3.2.1.trans w4.2.1) R.a3]
        exact l2
    · rw [l4]
      simp only [car, Nat.zero_add]
end Go.Proofs.Ytenhbhckhncamaa
