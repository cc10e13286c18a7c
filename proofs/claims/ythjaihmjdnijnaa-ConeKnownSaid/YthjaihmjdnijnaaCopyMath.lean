/-
  Literals copied into another graph. Plain.
-/
import Derived.Test.YthjaihmjdnijnaaMarksMath
import Derived.Test.YthjaihmjdnijnaaLitRows
namespace Go.Proofs.Ythjaihmjdnijnaa
set_option linter.unusedVariables false

theorem getN_set {l : List Nat} {i j v : Nat} (h : i < l.length) : (l.set i v).getD j 0 = if j = i then v else l.getD j 0 := by
  simp only [List.getD_eq_getElem?_getD]
  by_cases e : j = i
  · subst e
    rw [List.getElem?_set_self h, if_pos rfl]
    rfl
  · rw [List.getElem?_set_ne (fun h => e h.symm), if_neg e]
/-- inputs stand for the row's literals -/
def byTo (n : Nat) (is by_ : List Nat) : Nat → List Nat
  | 0 => List.replicate n 0
  | k + 1 => (byTo n is by_ k).set (is.getD k 0) (by_.getD k 0)
theorem byTo_length (n : Nat) (is by_ : List Nat) (k : Nat) : (byTo n is by_ k).length = n := by
  induction k with
  | zero => simp [byTo]
  | succ k ih => simp [byTo, ih]
def copyAt (ns : List (Nat × Nat)) (M : List Bool) (s : Gr × List Nat) (k : Nat) : Gr × List Nat :=
  if gAt ns k && M.getD k false then ((andG s.1 (overL s.2 (gA ns k)) (overL s.2 (gB ns k))).1, s.2.set k (andG s.1 (overL s.2 (gA ns k)) (overL s.2 (gB ns k))).2) else s
def copyTo (ns : List (Nat × Nat)) (M : List Bool) (s0 : Gr × List Nat) : Nat → Gr × List Nat
  | 0 => s0
  | k + 1 => copyAt ns M (copyTo ns M s0 k) k
theorem copyAt_length (ns : List (Nat × Nat)) (M : List Bool) (s : Gr × List Nat) (k : Nat) : (copyAt ns M s k).2.length = s.2.length := by unfold copyAt; split <;> simp
theorem copyTo_length (ns : List (Nat × Nat)) (M : List Bool) (s0 : Gr × List Nat) (k : Nat) : (copyTo ns M s0 k).2.length = s0.2.length := by
  induction k with
  | zero => rfl
  | succ k ih => rw [copyTo, copyAt_length, ih]
/-- the whole copy: the graph, and what stands for each node -/
def copyG (g from_ : Gr) (by_ l : List Nat) : Gr × List Nat :=
  copyTo from_.nodes (marksL from_.nodes l) (g, byTo from_.nodes.length (ins from_.nodes) by_ (ins from_.nodes).length) from_.nodes.length
/-- what is known of a copy half done -/
structure CpOk (c : Nat) (g0 : Gr) (n : Nat) (s : Gr × List Nat) : Prop where
  wf : WF s.1.nodes
  ext : Ext c g0 s.1
  len : s.2.length = n
  ok : ∀ x ∈ s.2, s.1.ok x
theorem overL_ok {g : Gr} (hw : WF g.nodes) {st : List Nat} (h : ∀ x ∈ st, g.ok x) (l : Nat) : g.ok (overL st l) := by
  have h0 : g.ok (st.getD (l / 2) 0) := by
    rw [List.getD_eq_getElem?_getD]
    cases hj : st[l / 2]? with
    | none => have := hw.pos; show 0 / 2 < _; simpa using this
    | some v => exact h v (List.mem_of_getElem? hj)
  unfold overL ifL
  split
  · exact ok_nt h0
  · exact h0
theorem CpOk.step {c n : Nat} {g0 : Gr} {s : Gr × List Nat} (h : CpOk c g0 n s) (ns : List (Nat × Nat)) (M : List Bool) (k : Nat) : CpOk (c + 1) g0 n (copyAt ns M s k) := by
  unfold copyAt
  split
  · have s1 := andG_spec h.wf (overL_ok h.wf h.ok (gA ns k)) (overL_ok h.wf h.ok (gB ns k))
    refine ⟨s1.1, h.ext.trans s1.2.1, by simp [h.len], fun x hx => ?_⟩
    rcases List.mem_or_eq_of_mem_set hx with h1 | h1
    · exact s1.2.1.ok (h.ok x h1)
    · rw [h1]; exact s1.2.2
  · exact ⟨h.wf, h.ext.mono (by omega), h.len, h.ok⟩
theorem copyTo_ok {c n : Nat} {g0 : Gr} {s0 : Gr × List Nat} (h : CpOk c g0 n s0) (ns : List (Nat × Nat)) (M : List Bool) (k : Nat) : CpOk (c + k) g0 n (copyTo ns M s0 k) := by
  induction k with
  | zero => exact h
  | succ k ih => exact ih.step ns M k
theorem byTo_ok {g : Gr} (hw : WF g.nodes) {by_ : List Nat} (h : ∀ x ∈ by_, g.ok x) (n : Nat) (is : List Nat) (k : Nat) : ∀ x ∈ byTo n is by_ k, g.ok x := by
  have z : g.ok 0 := by have := hw.pos; show 0 / 2 < _; simpa using this
  induction k with
  | zero => intro x hx; rw [(List.mem_replicate.1 hx).2]; exact z
  | succ k ih =>
    intro x hx
    rcases List.mem_or_eq_of_mem_set hx with h1 | h1
    · exact ih x h1
    · rw [h1, List.getD_eq_getElem?_getD]
      cases hj : by_[k]? with
      | none => exact z
      | some v => exact h v (List.mem_of_getElem? hj)
theorem start_ok {g : Gr} (hw : WF g.nodes) {by_ : List Nat} (h : ∀ x ∈ by_, g.ok x) (n : Nat) (is : List Nat) (k : Nat) : CpOk 0 g n (g, byTo n is by_ k) := ⟨hw, .refl g, byTo_length _ _ _ _, byTo_ok hw h n is k⟩
theorem copyG_ok {g from_ : Gr} (hw : WF g.nodes) {by_ l : List Nat} (h : ∀ x ∈ by_, g.ok x) : CpOk from_.nodes.length g from_.nodes.length (copyG g from_ by_ l) := by
  have := copyTo_ok (start_ok hw h from_.nodes.length (ins from_.nodes) (ins from_.nodes).length) from_.nodes (marksL from_.nodes l) from_.nodes.length
  rw [Nat.zero_add] at this
  exact this
theorem ins_pos (ns : List (Nat × Nat)) : ∀ x ∈ ins ns, 1 ≤ x := by
  suffices h : ∀ (l : List (Nat × Nat)) (i : Nat), ∀ x ∈ insFrom i l, x ≠ 0 from fun x hx => Nat.pos_of_ne_zero (h ns 0 x hx)
  intro l
  induction l with
  | nil => simp [insFrom]
  | cons p l ih =>
    intro i x hx
    simp only [insFrom] at hx
    split at hx
    · rename_i h
      rcases List.mem_cons.1 hx with h1 | h1
      · subst h1; simp at h; exact h.2
      · exact ih _ _ h1
    · exact ih _ _ hx
theorem byTo_zero {n : Nat} (hn : 0 < n) {is by_ : List Nat} (hi : ∀ x ∈ is, 1 ≤ x) {k : Nat} (hk : k ≤ is.length) : (byTo n is by_ k).getD 0 0 = 0 := by
  induction k with
  | zero => simp only [byTo, List.getD_eq_getElem?_getD, List.getElem?_replicate]; split <;> rfl
  | succ k ih =>
    have hm : 1 ≤ is.getD k 0 := by
      rw [List.getD_eq_getElem?_getD, List.getElem?_eq_getElem (by omega)]
      exact hi _ (List.getElem_mem _)
    have e : (byTo n is by_ (k + 1)).getD 0 0 = (byTo n is by_ k).getD 0 0 := by
      show ((byTo n is by_ k).set (is.getD k 0) (by_.getD k 0)).getD 0 0 = _
      generalize is.getD k 0 = m at *
      simp only [List.getD_eq_getElem?_getD]
      rw [List.getElem?_set_ne (by omega)]
    rw [e]; exact ih (by omega)
theorem copyAt_zero {ns : List (Nat × Nat)} {M : List Bool} {s : Gr × List Nat} {k : Nat} : (copyAt ns M s k).2.getD 0 0 = s.2.getD 0 0 := by
  unfold copyAt
  split
  · rename_i h
    have hk : 1 ≤ k := by
      simp only [Bool.and_eq_true] at h
      have := h.1
      unfold gAt at this
      simp at this
      exact this.1
    simp only [List.getD_eq_getElem?_getD]
    rw [List.getElem?_set_ne (by omega)]
  · rfl
theorem copyTo_zero {ns : List (Nat × Nat)} {M : List Bool} {s0 : Gr × List Nat} (k : Nat) : (copyTo ns M s0 k).2.getD 0 0 = s0.2.getD 0 0 := by
  induction k with
  | zero => rfl
  | succ k ih => rw [copyTo, copyAt_zero, ih]
theorem head_of {l : List Nat} (hl : 0 < l.length) (h : l.getD 0 0 = 0) : l.head? = some 0 := by
  cases l with
  | nil => simp at hl
  | cons x l => simp at h; simp [h]
end Go.Proofs.Ythjaihmjdnijnaa
