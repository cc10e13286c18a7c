/-
  Package adder: how deep, looking ahead: the sums.
-/
import Derived.Test.YtfngfoabknbgdaaAddDeepA
namespace Go.Proofs.Ytfngfoabknbgdaa
set_option linter.unusedVariables false
variable {g : Gr}
/-- the carry behind so many places is no deeper than this -/
theorem sum_dp {g0 : Gr} {b c R : Nat} {s0 : Gr × List Nat × List Nat} {bits : List Nat} (h0 : StOk b g0 s0) (ob : ∀ x ∈ bits, s0.1.ok x) (oc : s0.1.ok c) (dm : Dp s0.1 (2 * R + 2) s0.2.1) (dg : Dp s0.1 (R + 2) s0.2.2) (db : Dp s0.1 2 bits) (dc : dp s0.1 c = 0) (k : Nat) (hk : 1 ≤ R ∨ k ≤ 1) :
    Dp (sumTo s0 bits c k).1 (2 * R + 5) (sumTo s0 bits c k).2.1 ∧ dp (sumTo s0 bits c k).1 (sumTo s0 bits c k).2.2 ≤ (if k = 0 then 0 else if R = 0 then 4 else 2 * R + 3) := by
  induction k with
  | zero => exact ⟨by intro x hx; simp [sumTo] at hx, by show dp s0.1 c ≤ _; rw [dc]; omega⟩
  | succ k ih =>
    obtain ⟨i1, i2⟩ := ih (by omega)
    have st := sumTo_ok h0 ob oc k
    have obk := getD_ok h0.wf ob k
    have omk := getD_ok h0.wf h0.om k
    have ogk := getD_ok h0.wf h0.og k
    have eb : dp (sumTo s0 bits c k).1 (bits.getD k 0) ≤ 2 := by rw [dp_ext st.ext obk]; exact db.get h0.wf k
    have em : dp (sumTo s0 bits c k).1 (s0.2.1.getD k 0) ≤ 2 * R + 2 := by rw [dp_ext st.ext omk]; exact dm.get h0.wf k
    have eg : dp (sumTo s0 bits c k).1 (s0.2.2.getD k 0) ≤ R + 2 := by rw [dp_ext st.ext ogk]; exact dg.get h0.wf k
    have ec : dp (sumTo s0 bits c k).1 c = 0 := by rw [dp_ext st.ext oc]; exact dc
    have s1 := xorG_spec st.wf (st.ext.ok obk) st.oc
    have d1 := dp_xor st.wf (st.ext.ok obk) st.oc
    have s2 := carryG_spec s1.1 (s1.2.1.ok (st.ext.ok omk)) (s1.2.1.ok (st.ext.ok ogk)) (s1.2.1.ok (st.ext.ok oc))
    have d2 := dp_carry s1.1 (s1.2.1.ok (st.ext.ok omk)) (s1.2.1.ok (st.ext.ok ogk)) (s1.2.1.ok (st.ext.ok oc))
    rw [dp_ext s1.2.1 (st.ext.ok omk), dp_ext s1.2.1 (st.ext.ok ogk), dp_ext s1.2.1 (st.ext.ok oc)] at d2
    refine ⟨fun z hz => ?_, ?_⟩
    · rcases List.mem_append.1 hz with h | h
      · have e := dp_ext (s1.2.1.trans s2.2.1) (st.os z h)
        show dp (carryG _ _ _ _).1 z ≤ _
        rw [e]
        exact i1 z h
      · rw [List.mem_singleton.1 h]
        show dp (carryG _ _ _ _).1 _ ≤ _
        rw [dp_ext s2.2.1 s1.2.2]
        split at i2 <;> (try split at i2) <;> omega
    · rw [if_neg (by omega)]
      show dp (carryG _ _ _ _).1 (carryG _ _ _ _).2 ≤ _
      split <;> omega
theorem rnds_pos {n : Nat} (h : 1 ≤ n) : 1 ≤ rnds n ∨ n ≤ 1 := by
  unfold rnds
  by_cases h1 : n ≤ 1
  · exact .inr h1
  · left
    rw [if_neg h1]
    repeat' split
    all_goals omega
theorem ahead_dp {la lb : List Nat} {c n : Nat} (hw : WF g.nodes) (ha : ∀ x ∈ la, g.ok x) (hb : ∀ x ∈ lb, g.ok x) (hc : g.ok c) (da : Dp g 0 la) (db : Dp g 0 lb) (dc : dp g c = 0) (h1 : 1 ≤ n) :
    Dp (aheadG g la lb c n).1 (2 * rnds n + 5) (aheadG g la lb c n).2.1 ∧ dp (aheadG g la lb c n).1 (aheadG g la lb c n).2.2 ≤ 2 * rnds n + 5 := by
  have p0 := preTo_ok hw ha hb n
  have p1 := pre_dp hw ha hb da db n
  have q0 : StOk 0 (preTo g la lb n).1 (preTo g la lb n) := ⟨p0.wf, .refl _, p0.lm, p0.lg, p0.om, p0.og⟩
  have q1 := spanTo_ok (n := n) q0 (rnds n)
  have q2 := span_dp (n := n) q0 (p1.1.mono (by omega)) p1.2 (rnds n)
  have h := sum_dp (R := rnds n) (bits := (preTo g la lb n).2.2) (c := c) q1 (fun x hx => q1.ext.ok (p0.og x hx)) (q1.ext.ok (p0.ext.ok hc)) q2.1 q2.2 (p1.2.ext q1.ext p0.og) (by rw [dp_ext q1.ext (p0.ext.ok hc), dp_ext p0.ext hc]; exact dc) n (rnds_pos h1)
  refine ⟨h.1, Nat.le_trans h.2 ?_⟩
  rw [if_neg (by omega)]
  split <;> omega
end Go.Proofs.Ytfngfoabknbgdaa
