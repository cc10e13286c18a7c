/-
  Package adder: how deep, bit by bit.
-/
import Derived.Test.YtfngfoabknbgdaaAddAhead
namespace Go.Proofs.Ytfngfoabknbgdaa
set_option linter.unusedVariables false
variable {g : Gr}
theorem dp_carry (hw : WF g.nodes) {x y z : Nat} (hx : g.ok x) (hy : g.ok y) (hz : g.ok z) : dp (carryG g x y z).1 (carryG g x y z).2 ≤ 1 + max (dp g x) (1 + max (dp g y) (dp g z)) := by
  obtain ⟨h1, h2, h3⟩ := andG_spec hw hy hz
  have d1 := dp_and hw hy hz
  have d2 := dp_or h1 (h2.ok hx) h3
  rw [dp_ext h2 hx] at d2
  show dp (orG (andG g y z).1 x (andG g y z).2).1 (orG (andG g y z).1 x (andG g y z).2).2 ≤ _
  omega
theorem rip_dp {la lb : List Nat} {c : Nat} (hw : WF g.nodes) (ha : ∀ x ∈ la, g.ok x) (hb : ∀ x ∈ lb, g.ok x) (hc : g.ok c) (da : ∀ x ∈ la, dp g x = 0) (db : ∀ x ∈ lb, dp g x = 0) (dc : dp g c = 0) (k : Nat) (hk : k ≤ la.length) (hk' : k ≤ lb.length) :
    (∀ x ∈ (ripTo g la lb c k).2.1, dp (ripTo g la lb c k).1 x ≤ 2 * k + 2) ∧ dp (ripTo g la lb c k).1 (ripTo g la lb c k).2.2 ≤ 2 * k + 2 := by
  induction k with
  | zero => exact ⟨by simp [ripTo], by show dp g c ≤ _; omega⟩
  | succ k ih =>
    obtain ⟨i1, i2⟩ := ih (by omega) (by omega)
    obtain ⟨s1, s2, s3, s4⟩ := ripTo_spec hw ha hb hc k (by omega) (by omega)
    have mx : la.getD k 0 ∈ la := getD_in (by omega)
    have my : lb.getD k 0 ∈ lb := getD_in (by omega)
    have ox := s2.ok (ha _ mx)
    have oy := s2.ok (hb _ my)
    have ex : dp (ripTo g la lb c k).1 (la.getD k 0) = 0 := (dp_ext s2 (ha _ mx)).trans (da _ mx)
    have ey : dp (ripTo g la lb c k).1 (lb.getD k 0) = 0 := (dp_ext s2 (hb _ my)).trans (db _ my)
    show (∀ x ∈ (ripS (ripTo g la lb c k) (la.getD k 0) (lb.getD k 0)).2.1, dp (ripS (ripTo g la lb c k) (la.getD k 0) (lb.getD k 0)).1 x ≤ 2 * (k + 1) + 2) ∧ dp (ripS (ripTo g la lb c k) (la.getD k 0) (lb.getD k 0)).1 (ripS (ripTo g la lb c k) (la.getD k 0) (lb.getD k 0)).2.2 ≤ 2 * (k + 1) + 2
    generalize la.getD k 0 = x at *
    generalize lb.getD k 0 = y at *
    generalize ripTo g la lb c k = s at *
    obtain ⟨a1, a2, a3⟩ := xorG_spec s1 ox oy
    have d1 := dp_xor s1 ox oy
    obtain ⟨b1, b2, b3⟩ := xorG_spec a1 a3 (a2.ok s3)
    have d2 := dp_xor a1 a3 (a2.ok s3)
    rw [dp_ext a2 s3] at d2
    obtain ⟨c1, c2, c3⟩ := andG_spec b1 (b2.ok (a2.ok ox)) (b2.ok (a2.ok oy))
    have d3 := dp_and b1 (b2.ok (a2.ok ox)) (b2.ok (a2.ok oy))
    rw [dp_ext b2 (a2.ok ox), dp_ext b2 (a2.ok oy), dp_ext a2 ox, dp_ext a2 oy] at d3
    obtain ⟨e1, e2, e3⟩ := carryG_spec c1 c3 (c2.ok (b2.ok a3)) (c2.ok (b2.ok (a2.ok s3)))
    have d4 := dp_carry c1 c3 (c2.ok (b2.ok a3)) (c2.ok (b2.ok (a2.ok s3)))
    rw [dp_ext c2 (b2.ok a3), dp_ext b2 a3, dp_ext c2 (b2.ok (a2.ok s3)), dp_ext b2 (a2.ok s3), dp_ext a2 s3] at d4
    refine ⟨fun z hz => ?_, ?_⟩
    · rcases List.mem_append.1 hz with h | h
      · have := i1 z h
        have e := dp_ext (((a2.trans b2).trans c2).trans e2) (s4 z h)
        show dp (carryG _ _ _ _).1 z ≤ _
        rw [e]; omega
      · rw [List.mem_singleton.1 h]
        have e := dp_ext (c2.trans e2) b3
        show dp (carryG _ _ _ _).1 _ ≤ _
        rw [e]; omega
    · show dp (carryG _ _ _ _).1 (carryG _ _ _ _).2 ≤ _
      omega
end Go.Proofs.Ytfngfoabknbgdaa
