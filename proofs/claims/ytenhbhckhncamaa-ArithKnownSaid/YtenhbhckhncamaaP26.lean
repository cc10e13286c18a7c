/-
  Package adder: what looking ahead means, lane by lane. Plain mathematics.
-/
import Derived.Test.YtenhbhckhncamaaP21
namespace Go.Proofs.Ytenhbhckhncamaa
set_option linter.unusedVariables false
variable {g : Gr} {inp : List Nat} {t : Nat}

theorem getD_set {l : List Nat} {i j v : Nat} (h : i < l.length) : (l.set i v).getD j 0 = if j = i then v else l.getD j 0 := by
  simp only [List.getD_eq_getElem?_getD]
  by_cases hj : j = i
  · subst hj
    rw [if_pos rfl, List.getElem?_set_self h]; rfl
  · rw [if_neg hj, List.getElem?_set_ne (by omega)]
section
variable {la lb : List Nat} {x y : Nat → Bool}
theorem preTo_lane (hi : Words inp) (hw : WF g.nodes) (ka : ∀ x ∈ la, g.ok x) (kb : ∀ x ∈ lb, g.ok x) (k : Nat) (hk : k ≤ 64) :
    ∀ i, i < k → lane1 inp (preTo g la lb k).1 t ((preTo g la lb k).2.1.getD i 0) = (lane1 inp g t (la.getD i 0) && lane1 inp g t (lb.getD i 0)) ∧
      lane1 inp (preTo g la lb k).1 t ((preTo g la lb k).2.2.getD i 0) = (lane1 inp g t (la.getD i 0) ^^ lane1 inp g t (lb.getD i 0)) := by
  induction k with
  | zero => intro i h; omega
  | succ k ih =>
    intro i hik
    have h := preTo_ok (la := la) (lb := lb) hw ka kb k
    have ox := h.ext.ok (getD_ok hw ka k)
    have oy := h.ext.ok (getD_ok hw kb k)
    have s1 := andG_spec h.wf ox oy
    have l1 := lane_and (t := t) hi h.wf ox oy
    have s2 := xorG_spec s1.1 (s1.2.1.ok ox) (s1.2.1.ok oy)
    have l2 := lane_xor (t := t) hi s1.1 (s1.2.1.ok ox) (s1.2.1.ok oy)
    rw [lane_ext h.ext (getD_ok hw ka k), lane_ext h.ext (getD_ok hw kb k)] at l1
    rw [lane_ext s1.2.1 ox, lane_ext s1.2.1 oy, lane_ext h.ext (getD_ok hw ka k), lane_ext h.ext (getD_ok hw kb k)] at l2
    simp only [preTo]
    rw [getD_set (by rw [h.lm]; omega), getD_set (by rw [h.lg]; omega)]
    by_cases hi' : i = k
    · subst hi'
      rw [if_pos rfl, if_pos rfl]
      exact ⟨by rw [lane_ext s2.2.1 s1.2.2, l1], l2⟩
    · rw [if_neg hi', if_neg hi']
      obtain ⟨i1, i2⟩ := ih (by omega) i (by omega)
      have e := s1.2.1.trans s2.2.1
      exact ⟨by rw [lane_ext e (getD_ok h.wf h.om i)]; exact i1, by rw [lane_ext e (getD_ok h.wf h.og i)]; exact i2⟩
/-- what a row of literals tells: at place i of the window of m places that ends there -/
def WinAt (inp : List Nat) (t n d : Nat) (x y : Nat → Bool) (s : Gr × List Nat × List Nat) : Prop :=
  ∀ i, i < n → lane1 inp s.1 t (s.2.1.getD i 0) = car x y (i + 1 - min (i + 1) d) (min (i + 1) d) false ∧ lane1 inp s.1 t (s.2.2.getD i 0) = prp x y (i + 1 - min (i + 1) d) (min (i + 1) d)
theorem roundTo_lane {wm wg : List Nat} {d n : Nat} (hi : Words inp) (hw : WF g.nodes) (hm : wm.length = 64) (hg : wg.length = 64) (om : ∀ x ∈ wm, g.ok x) (og : ∀ x ∈ wg, g.ok x) (hd : 1 ≤ d) (hn : n ≤ 64) (h0 : WinAt inp t n d x y (g, wm, wg)) (j : Nat) (hj : d + j ≤ n) :
    (∀ i, i < d + j → lane1 inp (roundTo g wm wg d j).1 t ((roundTo g wm wg d j).2.1.getD i 0) = car x y (i + 1 - min (i + 1) (2 * d)) (min (i + 1) (2 * d)) false ∧ lane1 inp (roundTo g wm wg d j).1 t ((roundTo g wm wg d j).2.2.getD i 0) = prp x y (i + 1 - min (i + 1) (2 * d)) (min (i + 1) (2 * d))) := by
  induction j with
  | zero =>
    intro i hid
    have h := h0 i (by omega)
    rw [Nat.min_eq_left (by omega)] at h
    rw [Nat.min_eq_left (by omega)]
    exact h
  | succ j ih =>
    intro i hid
    have h := roundTo_ok (d := d) hw hm hg om og j
    have o1 := h.ext.ok (getD_ok hw om (d + j))
    have o2 := h.ext.ok (getD_ok hw og (d + j))
    have o3 := h.ext.ok (getD_ok hw om j)
    have o4 := h.ext.ok (getD_ok hw og j)
    have s1 := carryG_spec h.wf o1 o2 o3
    have l1 := carryG_lane (t := t) hi h.wf o1 o2 o3
    have s2 := andG_spec s1.1 (s1.2.1.ok o2) (s1.2.1.ok o4)
    have l2 := lane_and (t := t) hi s1.1 (s1.2.1.ok o2) (s1.2.1.ok o4)
    rw [lane_ext h.ext (getD_ok hw om (d + j)), lane_ext h.ext (getD_ok hw og (d + j)), lane_ext h.ext (getD_ok hw om j)] at l1
    rw [lane_ext s1.2.1 o2, lane_ext s1.2.1 o4, lane_ext h.ext (getD_ok hw og (d + j)), lane_ext h.ext (getD_ok hw og j)] at l2
    simp only [roundTo]
    rw [getD_set (by rw [h.lm]; omega), getD_set (by rw [h.lg]; omega)]
    by_cases hi' : i = d + j
    · subst hi'
      rw [if_pos rfl, if_pos rfl, lane_ext s2.2.1 s1.2.2, l1, l2]
      obtain ⟨a1, a2⟩ := h0 (d + j) (by omega)
      obtain ⟨b1, b2⟩ := h0 j (by omega)
      simp only at a1 a2 b1 b2
      rw [a1, a2, b1, b2]
      rw [show min (d + j + 1) d = d from Nat.min_eq_right (by omega)]
      have e1 : d + j + 1 - d = j + 1 := by omega
      rw [e1]
      obtain ⟨q, hq⟩ : ∃ q, q = min (j + 1) d := ⟨_, rfl⟩
      have hm2 : min (d + j + 1) (2 * d) = q + d := by omega
      rw [← hq, hm2]
      have hk : d + j + 1 - (q + d) = j + 1 - q := by omega
      rw [hk]
      have hc : j + 1 - q + q = j + 1 := by omega
      rw [car_add, prp_add, hc]
      exact ⟨(car_split x y (j + 1) d _).symm, rfl⟩
    · rw [if_neg hi', if_neg hi']
      obtain ⟨i1, i2⟩ := ih (by omega) i (by omega)
      have e := s1.2.1.trans s2.2.1
      exact ⟨by rw [lane_ext e (getD_ok h.wf h.om i)]; exact i1, by rw [lane_ext e (getD_ok h.wf h.og i)]; exact i2⟩
theorem spanTo_lane {g0 : Gr} {c n : Nat} {s0 : Gr × List Nat × List Nat} (hi : Words inp) (h0 : StOk c g0 s0) (hn : n ≤ 64) (hs : WinAt inp t n 1 x y s0) (r : Nat) (hr : ∀ q, q < r → 2 ^ q < n) : WinAt inp t n (2 ^ r) x y (spanTo n s0 r) := by
  induction r with
  | zero => exact hs
  | succ r ih =>
    have h := spanTo_ok (n := n) h0 r
    have h2 := hr r (by omega)
    have := roundTo_lane (t := t) hi h.wf h.lm h.lg h.om h.og (Nat.pow_pos (by omega)) hn (ih fun q hq => hr q (by omega)) (n - 2 ^ r) (by omega)
    intro i hin
    have h3 := this i (by omega)
    rw [Nat.pow_succ, Nat.mul_comm]
    exact h3
theorem sumTo_lane {g0 : Gr} {b c n : Nat} {s0 : Gr × List Nat × List Nat} {bits : List Nat} (hi : Words inp) (h0 : StOk b g0 s0) (ob : ∀ x ∈ bits, s0.1.ok x) (oc : s0.1.ok c)
    (hb : ∀ i, i < n → lane1 inp s0.1 t (bits.getD i 0) = (x i ^^ y i)) (hs : ∀ i, i < n → lane1 inp s0.1 t (s0.2.1.getD i 0) = car x y 0 (i + 1) false ∧ lane1 inp s0.1 t (s0.2.2.getD i 0) = prp x y 0 (i + 1)) (k : Nat) (hk : k ≤ n) :
    (∀ i, i < k → lane1 inp (sumTo s0 bits c k).1 t ((sumTo s0 bits c k).2.1.getD i 0) = ((x i ^^ y i) ^^ car x y 0 i (lane1 inp s0.1 t c))) ∧ lane1 inp (sumTo s0 bits c k).1 t (sumTo s0 bits c k).2.2 = car x y 0 k (lane1 inp s0.1 t c) := by
  induction k with
  | zero => exact ⟨fun i h => absurd h (by omega), rfl⟩
  | succ k ih =>
    obtain ⟨i1, i2⟩ := ih (by omega)
    have h := sumTo_ok (bits := bits) h0 ob oc k
    have o1 := h.ext.ok (getD_ok h0.wf ob k)
    have o2 := h.ext.ok (getD_ok h0.wf h0.om k)
    have o3 := h.ext.ok (getD_ok h0.wf h0.og k)
    have o4 := h.ext.ok oc
    have s1 := xorG_spec h.wf o1 h.oc
    have l1 := lane_xor (t := t) hi h.wf o1 h.oc
    have s2 := carryG_spec s1.1 (s1.2.1.ok o2) (s1.2.1.ok o3) (s1.2.1.ok o4)
    have l2 := carryG_lane (t := t) hi s1.1 (s1.2.1.ok o2) (s1.2.1.ok o3) (s1.2.1.ok o4)
    rw [lane_ext h.ext (getD_ok h0.wf ob k), hb k (by omega), i2] at l1
    rw [lane_ext s1.2.1 o2, lane_ext s1.2.1 o3, lane_ext s1.2.1 o4, lane_ext h.ext (getD_ok h0.wf h0.om k), lane_ext h.ext (getD_ok h0.wf h0.og k), lane_ext h.ext oc, (hs k (by omega)).1, (hs k (by omega)).2, ← car_split] at l2
    simp only [sumTo]
    refine ⟨fun i hik => ?_, l2⟩
    by_cases hi' : i < k
    · have hin : (sumTo s0 bits c k).2.1.getD i 0 ∈ (sumTo s0 bits c k).2.1 := getD_in (by rw [h.len]; omega)
      rw [show ((sumTo s0 bits c k).2.1 ++ [(xorG (sumTo s0 bits c k).1 (bits.getD k 0) (sumTo s0 bits c k).2.2).2]).getD i 0 = (sumTo s0 bits c k).2.1.getD i 0 from by simp only [List.getD_eq_getElem?_getD]; rw [List.getElem?_append_left (by rw [h.len]; omega)], lane_ext (s1.2.1.trans s2.2.1) (h.os _ hin)]
      exact i1 i hi'
    · obtain rfl : i = k := by omega
      rw [show ((sumTo s0 bits c i).2.1 ++ [(xorG (sumTo s0 bits c i).1 (bits.getD i 0) (sumTo s0 bits c i).2.2).2]).getD i 0 = (xorG (sumTo s0 bits c i).1 (bits.getD i 0) (sumTo s0 bits c i).2.2).2 from by simp only [List.getD_eq_getElem?_getD]; rw [List.getElem?_append_right (by rw [h.len]; omega), h.len]; simp]
      rw [lane_ext s2.2.1 s1.2.2]
      exact l1
end
/-- all that is known of adding, by either way -/
structure AddOk (m : Nat) (g0 : Gr) (la lb : List Nat) (c n : Nat) (r : Gr × List Nat × Nat) : Prop where
  wf : WF r.1.nodes
  ext : Ext m g0 r.1
  len : r.2.1.length = n
  os : ∀ x ∈ r.2.1, r.1.ok x
  oc : r.1.ok r.2.2
  val : ∀ inp t, Words inp → t < 64 → (∀ i, i < n → lane1 inp r.1 t (r.2.1.getD i 0) = ((lane1 inp g0 t (la.getD i 0) ^^ lane1 inp g0 t (lb.getD i 0)) ^^ car (fun i => lane1 inp g0 t (la.getD i 0)) (fun i => lane1 inp g0 t (lb.getD i 0)) 0 i (lane1 inp g0 t c))) ∧
    lane1 inp r.1 t r.2.2 = car (fun i => lane1 inp g0 t (la.getD i 0)) (fun i => lane1 inp g0 t (lb.getD i 0)) 0 n (lane1 inp g0 t c)
theorem rip_ok {la lb : List Nat} {c n : Nat} (hw : WF g.nodes) (ka : ∀ x ∈ la, g.ok x) (kb : ∀ x ∈ lb, g.ok x) (kc : g.ok c) (hla : la.length = n) (hlb : lb.length = n) : AddOk (9 * n) g la lb c n (ripTo g la lb c n) := by
  obtain ⟨h1, h2, h3, h4⟩ := ripTo_spec hw ka kb kc n (by omega) (by omega)
  exact ⟨h1, h2, ripTo_length _ _ _ _ _, h4, h3, fun inp t hi _ => ripTo_lane hi hw ka kb kc n (by omega) (by omega)⟩
theorem ahead_ok {la lb : List Nat} {c n : Nat} (hw : WF g.nodes) (ka : ∀ x ∈ la, g.ok x) (kb : ∀ x ∈ lb, g.ok x) (kc : g.ok c) (hla : la.length = n) (hlb : lb.length = n) (hn : n ≤ 64) : AddOk (9 * n + 3 * wideTo n (rnds n)) g la lb c n (aheadG g la lb c n) := by
  have hp := preTo_ok (la := la) (lb := lb) hw ka kb n
  have hz : StOk (4 * n) g ((preTo g la lb n).1, (preTo g la lb n).2.1, (preTo g la lb n).2.2) := ⟨hp.wf, hp.ext, hp.lm, hp.lg, hp.om, hp.og⟩
  have hs := spanTo_ok (n := n) hz (rnds n)
  have hx := spanTo_ok (n := n) (c := 0) (g0 := (preTo g la lb n).1) (s0 := ((preTo g la lb n).1, (preTo g la lb n).2.1, (preTo g la lb n).2.2)) ⟨hp.wf, .refl _, hp.lm, hp.lg, hp.om, hp.og⟩ (rnds n)
  have ob : ∀ x ∈ (preTo g la lb n).2.2, (spanTo n ((preTo g la lb n).1, (preTo g la lb n).2.1, (preTo g la lb n).2.2) (rnds n)).1.ok x := fun x h => hx.ext.ok (hp.og x h)
  have oc := hs.ext.ok kc
  have hu := sumTo_ok hs ob oc n
  refine ⟨hu.wf, (hs.ext.trans hu.ext).mono (by omega), hu.len, hu.os, hu.oc, fun inp t hi ht => ?_⟩
  have hpl := preTo_lane (t := t) (inp := inp) hi hw ka kb n hn
  obtain ⟨hr1, hr2⟩ := rnds_spec n hn
  have hw1 : WinAt inp t n 1 (fun i => lane1 inp g t (la.getD i 0)) (fun i => lane1 inp g t (lb.getD i 0)) ((preTo g la lb n).1, (preTo g la lb n).2.1, (preTo g la lb n).2.2) := by
    intro i hin
    obtain ⟨p1, p2⟩ := hpl i hin
    rw [Nat.min_eq_right (by omega), show i + 1 - 1 = i by omega]
    refine ⟨p1.trans ?_, p2.trans ?_⟩
    · simp [car]
    · simp [prp]
  have hwr := spanTo_lane (t := t) hi hz hn hw1 (rnds n) hr2
  have := sumTo_lane (t := t) (x := fun i => lane1 inp g t (la.getD i 0)) (y := fun i => lane1 inp g t (lb.getD i 0)) (n := n) hi hs ob oc (fun i hin => by rw [lane_ext hx.ext (getD_ok hp.wf hp.og i)]; exact (hpl i hin).2) (fun i hin => by
    have h := hwr i hin
    rw [Nat.min_eq_left (by omega), show i + 1 - (i + 1) = 0 by omega] at h
    exact h) n (Nat.le_refl _)
  rw [lane_ext hs.ext kc] at this
  exact this
/-- THE SUM, as numbers. -/
theorem add_num {m n c : Nat} {g0 : Gr} {la lb : List Nat} {r : Gr × List Nat × Nat} (h : AddOk m g0 la lb c n r) (hi : Words inp) (ht : t < 64) :
    bitN (fun i => lane1 inp r.1 t (r.2.1.getD i 0)) 0 n + (lane1 inp r.1 t r.2.2).toNat * 2 ^ n = bitN (fun i => lane1 inp g0 t (la.getD i 0)) 0 n + bitN (fun i => lane1 inp g0 t (lb.getD i 0)) 0 n + (lane1 inp g0 t c).toNat := by
  obtain ⟨h1, h2⟩ := h.val inp t hi ht
  rw [h2, ← add_law]
  congr 1
  exact bitN_congr fun i _ hin => h1 i (by omega)
end Go.Proofs.Ytenhbhckhncamaa
