/-
  Package adder: how deep, looking ahead.
-/
import Derived.Test.YtfngfoabknbgdaaAddDepth
namespace Go.Proofs.Ytfngfoabknbgdaa
set_option linter.unusedVariables false
variable {g : Gr}
/-- no literal of this row is deeper -/
def Dp (g : Gr) (d : Nat) (l : List Nat) : Prop := ∀ x ∈ l, dp g x ≤ d
theorem Dp.get {d : Nat} {l : List Nat} (h : Dp g d l) (hw : WF g.nodes) (i : Nat) : dp g (l.getD i 0) ≤ d := by
  rw [List.getD_eq_getElem?_getD]
  cases hj : l[i]? with
  | none => show dp g 0 ≤ d; rw [dp_zero hw (by omega)]; omega
  | some v => exact h v (List.mem_of_getElem? hj)
theorem Dp.ext {d c : Nat} {l : List Nat} {g' : Gr} (h : Dp g d l) (hx : Ext c g g') (ho : ∀ x ∈ l, g.ok x) : Dp g' d l := fun x hm => by rw [dp_ext hx (ho x hm)]; exact h x hm
theorem Dp.mono {d e : Nat} {l : List Nat} (h : Dp g d l) (he : d ≤ e) : Dp g e l := fun x hm => Nat.le_trans (h x hm) he
theorem Dp.set {d i v : Nat} {l : List Nat} (h : Dp g d l) (hv : dp g v ≤ d) : Dp g d (l.set i v) := fun x hm => by
  rcases List.mem_or_eq_of_mem_set hm with h1 | h1
  · exact h x h1
  · rw [h1]; exact hv
theorem pre_dp {la lb : List Nat} (hw : WF g.nodes) (ka : ∀ x ∈ la, g.ok x) (kb : ∀ x ∈ lb, g.ok x) (da : Dp g 0 la) (db : Dp g 0 lb) (k : Nat) : Dp (preTo g la lb k).1 1 (preTo g la lb k).2.1 ∧ Dp (preTo g la lb k).1 2 (preTo g la lb k).2.2 := by
  induction k with
  | zero =>
    refine ⟨fun x hx => ?_, fun x hx => ?_⟩
    all_goals
      rw [(List.mem_replicate.1 hx).2]
      show dp g 0 ≤ _
      rw [dp_zero hw (by omega)]
      omega
  | succ k ih =>
    obtain ⟨i1, i2⟩ := ih
    have st := preTo_ok hw ka kb k
    have hx := st.ext.ok (getD_ok hw ka k)
    have hy := st.ext.ok (getD_ok hw kb k)
    have ex : dp (preTo g la lb k).1 (la.getD k 0) ≤ 0 := by rw [dp_ext st.ext (getD_ok hw ka k)]; exact da.get hw k
    have ey : dp (preTo g la lb k).1 (lb.getD k 0) ≤ 0 := by rw [dp_ext st.ext (getD_ok hw kb k)]; exact db.get hw k
    have s1 := andG_spec st.wf hx hy
    have d1 := dp_and st.wf hx hy
    have s2 := xorG_spec s1.1 (s1.2.1.ok hx) (s1.2.1.ok hy)
    have d2 := dp_xor s1.1 (s1.2.1.ok hx) (s1.2.1.ok hy)
    rw [dp_ext s1.2.1 hx, dp_ext s1.2.1 hy] at d2
    refine ⟨Dp.set ?_ ?_, Dp.set ?_ ?_⟩
    · exact (i1.ext s1.2.1 st.om).ext s2.2.1 (fun x hm => s1.2.1.ok (st.om x hm))
    · show dp (xorG _ _ _).1 _ ≤ 1
      rw [dp_ext s2.2.1 s1.2.2]; omega
    · exact (i2.ext s1.2.1 st.og).ext s2.2.1 (fun x hm => s1.2.1.ok (st.og x hm))
    · show dp (xorG _ _ _).1 (xorG _ _ _).2 ≤ 2
      omega
theorem round_dp {wm wg : List Nat} {d m q : Nat} (hw : WF g.nodes) (hm : wm.length = 64) (hg : wg.length = 64) (om : ∀ x ∈ wm, g.ok x) (og : ∀ x ∈ wg, g.ok x) (dm : Dp g m wm) (dg : Dp g q wg) (hq : q ≤ m) (j : Nat) :
    Dp (roundTo g wm wg d j).1 (m + 2) (roundTo g wm wg d j).2.1 ∧ Dp (roundTo g wm wg d j).1 (q + 1) (roundTo g wm wg d j).2.2 := by
  induction j with
  | zero => exact ⟨dm.mono (by omega), dg.mono (by omega)⟩
  | succ j ih =>
    obtain ⟨i1, i2⟩ := ih
    have st := roundTo_ok (d := d) hw hm hg om og j
    have gm := fun i => getD_ok hw om i
    have gg := fun i => getD_ok hw og i
    have em : ∀ i, dp (roundTo g wm wg d j).1 (wm.getD i 0) ≤ m := fun i => by rw [dp_ext st.ext (gm i)]; exact dm.get hw i
    have eg : ∀ i, dp (roundTo g wm wg d j).1 (wg.getD i 0) ≤ q := fun i => by rw [dp_ext st.ext (gg i)]; exact dg.get hw i
    have s1 := carryG_spec st.wf (st.ext.ok (gm (d + j))) (st.ext.ok (gg (d + j))) (st.ext.ok (gm j))
    have d1 := dp_carry st.wf (st.ext.ok (gm (d + j))) (st.ext.ok (gg (d + j))) (st.ext.ok (gm j))
    have s2 := andG_spec s1.1 (s1.2.1.ok (st.ext.ok (gg (d + j)))) (s1.2.1.ok (st.ext.ok (gg j)))
    have d2 := dp_and s1.1 (s1.2.1.ok (st.ext.ok (gg (d + j)))) (s1.2.1.ok (st.ext.ok (gg j)))
    rw [dp_ext s1.2.1 (st.ext.ok (gg (d + j))), dp_ext s1.2.1 (st.ext.ok (gg j))] at d2
    have e1 := em (d + j)
    have e2 := eg (d + j)
    have e3 := em j
    have e4 := eg j
    refine ⟨Dp.set ?_ ?_, Dp.set ?_ ?_⟩
    · exact (i1.ext s1.2.1 st.om).ext s2.2.1 (fun x hm => s1.2.1.ok (st.om x hm))
    · show dp (andG _ _ _).1 _ ≤ _
      rw [dp_ext s2.2.1 s1.2.2]; omega
    · exact (i2.ext s1.2.1 st.og).ext s2.2.1 (fun x hm => s1.2.1.ok (st.og x hm))
    · show dp (andG _ _ _).1 (andG _ _ _).2 ≤ _
      omega
theorem span_dp {g0 : Gr} {c n : Nat} {s0 : Gr × List Nat × List Nat} (h0 : StOk c g0 s0) (dm : Dp s0.1 2 s0.2.1) (dg : Dp s0.1 2 s0.2.2) (r : Nat) :
    Dp (spanTo n s0 r).1 (2 * r + 2) (spanTo n s0 r).2.1 ∧ Dp (spanTo n s0 r).1 (r + 2) (spanTo n s0 r).2.2 := by
  induction r with
  | zero => exact ⟨dm, dg⟩
  | succ r ih =>
    have st := spanTo_ok (n := n) h0 r
    have h := round_dp (d := 2 ^ r) st.wf st.lm st.lg st.om st.og ih.1 ih.2 (by omega) (n - 2 ^ r)
    exact ⟨h.1.mono (by omega), h.2.mono (by omega)⟩
end Go.Proofs.Ytfngfoabknbgdaa
