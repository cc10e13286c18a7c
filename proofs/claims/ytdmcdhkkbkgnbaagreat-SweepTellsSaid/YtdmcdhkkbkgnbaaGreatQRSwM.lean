/-
  The document's Copy, plain: node by node it stands where the program's copy stands.
-/
import Derived.Test.YtdmcdhkkbkgnbaaGreatP24
import Derived.Test.YtdmcdhkkbkgnbaaGreatP08
namespace Go.Proofs.YtdmcdhkkbkgnbaaGreat
set_option linter.unusedVariables false
set_option linter.unusedSimpArgs false

theorem ext_getN {l m : List Nat} (hl : l.length = m.length) (h : ∀ j, l.getD j 0 = m.getD j 0) : l = m := by
  apply List.ext_getElem hl
  intro i h1 h2
  have := h i
  simpa [List.getD_eq_getElem?_getD, List.getElem?_eq_getElem h1, List.getElem?_eq_getElem h2] using this
def partL (l : List Nat) (k : Nat) : List Nat := l.take k ++ List.replicate (l.length - k) 0
theorem partL_length (l : List Nat) {k : Nat} (h : k ≤ l.length) : (partL l k).length = l.length := by simp [partL]; omega
theorem partL_get (l : List Nat) {k : Nat} (h : k ≤ l.length) (j : Nat) : (partL l k).getD j 0 = if j < k then l.getD j 0 else 0 := by
  unfold partL
  rw [List.getD_eq_getElem?_getD]
  by_cases hj : j < k
  · rw [if_pos hj, List.getElem?_append_left (by rw [List.length_take]; omega), List.getElem?_take_of_lt hj, List.getD_eq_getElem?_getD]
  · rw [if_neg hj, List.getElem?_append_right (by rw [List.length_take]; omega), List.getElem?_replicate]
    split <;> rfl
theorem partL_all (l : List Nat) : partL l l.length = l := by simp [partL]
theorem partL_set {l : List Nat} {k v : Nat} (h : k < l.length) : (partL l k).set k v = partL (l.set k v) (k + 1) := by
  apply ext_getN (by rw [List.length_set, partL_length _ (by omega), partL_length _ (by rw [List.length_set]; omega), List.length_set])
  intro j
  rw [getN_set (by rw [partL_length _ (by omega)]; exact h), partL_get _ (by omega), partL_get _ (by rw [List.length_set]; omega), getN_set h]
  split
  · rw [if_pos (by omega)]
  · split
    · rw [if_pos (by omega)]
    · rw [if_neg (by omega)]
theorem partL_put {l : List Nat} {k : Nat} (h : k < l.length) : (partL l k).set k (l.getD k 0) = partL l (k + 1) := by
  rw [partL_set h]
  congr 1
  apply ext_getN (by rw [List.length_set])
  intro j
  rw [getN_set h]
  split
  · subst j; rfl
  · rfl
theorem partL_skip {l : List Nat} {k : Nat} (h : k < l.length) (h0 : l.getD k 0 = 0) : partL l k = partL l (k + 1) := by
  apply ext_getN (by rw [partL_length _ (by omega), partL_length _ (by omega)])
  intro j
  rw [partL_get _ (by omega), partL_get _ (by omega)]
  by_cases hj : j < k
  · rw [if_pos hj, if_pos (by omega)]
  · rw [if_neg hj]
    by_cases hj2 : j < k + 1
    · rw [if_pos hj2, show j = k by omega, h0]
    · rw [if_neg hj2]
theorem partL_over {l : List Nat} {k x : Nat} (h : k ≤ l.length) (hx : x / 2 < k) : overL (partL l k) x = overL l x := by
  unfold overL
  rw [partL_get _ h, if_pos hx]
theorem copyTo_high {ns : List (Nat × Nat)} {M : List Bool} {s0 : Gr × List Nat} (k : Nat) (hk : k ≤ s0.2.length) : ∀ j, k ≤ j → (copyTo ns M s0 k).2.getD j 0 = s0.2.getD j 0 := by
  induction k with
  | zero => intro j _; rfl
  | succ k ih =>
    intro j hj
    rw [← ih (by omega) j (by omega)]
    rw [copyTo]
    unfold copyAt
    split
    · show ((copyTo ns M s0 k).2.set k _).getD j 0 = _
      rw [getN_set (by rw [copyTo_length]; omega), if_neg (by omega)]
    · rfl
theorem byTo_else {n : Nat} {is by_ : List Nat} (hl : ∀ x ∈ is, x < n) {k j : Nat} (hk : k ≤ is.length) (hj : j ∉ is) : (byTo n is by_ k).getD j 0 = 0 := by
  induction k with
  | zero =>
    unfold byTo
    rw [List.getD_eq_getElem?_getD, List.getElem?_replicate]
    split <;> rfl
  | succ k ih =>
    have e : is.getD k 0 = is[k]'(by omega) := by rw [List.getD_eq_getElem?_getD, List.getElem?_eq_getElem (show k < is.length by omega)]; rfl
    have hm : is.getD k 0 ∈ is := by rw [e]; exact List.getElem_mem _
    show ((byTo n is by_ k).set (is.getD k 0) (by_.getD k 0)).getD j 0 = 0
    rw [getN_set (by rw [byTo_length]; exact hl _ hm), if_neg (fun h => hj (by rw [h]; exact hm))]
    exact ih (by omega)
/-- the copy, up to a node -/
def docS (g from_ : Gr) (by_ l : List Nat) (k : Nat) : Gr × List Nat :=
  copyTo from_.nodes (marksL from_.nodes l) (g, byTo from_.nodes.length (ins from_.nodes) by_ (ins from_.nodes).length) k
section
variable {g g2 : Gr} {bys l : List Nat} {k : Nat}
theorem docS_len (k : Nat) : (docS g g2 bys l k).2.length = g2.nodes.length := by unfold docS; rw [copyTo_length, byTo_length]
theorem docS_all : docS g g2 bys l g2.nodes.length = copyG g g2 bys l := rfl
theorem docS_high (h : k ≤ g2.nodes.length) : (docS g g2 bys l k).2.getD k 0 = (byTo g2.nodes.length (ins g2.nodes) bys (ins g2.nodes).length).getD k 0 :=
  copyTo_high k (by rw [byTo_length]; exact h) k (Nat.le_refl _)
theorem docS_zero (hw : WF g2.nodes) : docS g g2 bys l 1 = docS g g2 bys l 0 := by
  unfold docS copyTo copyAt gAt
  simp [copyTo]
theorem docS_in (hk : k < g2.nodes.length) (h1 : 1 ≤ k) (hg : gAt g2.nodes k = false) : docS g g2 bys l (k + 1) = docS g g2 bys l k ∧ (docS g g2 bys l k).2.getD k 0 = bys.getD (ins (g2.nodes.take k)).length 0 := by
  refine ⟨?_, ?_⟩
  · unfold docS
    rw [copyTo]
    unfold copyAt
    simp [hg]
  · rw [docS_high (by omega)]
    have hat := ins_at (ns := g2.nodes) (k := k) (a := gA g2.nodes k) (b := gB g2.nodes k) (by
      rw [List.getElem?_eq_getElem hk]; unfold gA gB; rw [List.getD_eq_getElem?_getD, List.getElem?_eq_getElem hk]; rfl) (not_gate h1 hk hg) (by omega)
    have hlt : (ins (g2.nodes.take k)).length < (ins g2.nodes).length := (List.getElem?_eq_some_iff.1 hat).1
    have h := byTo_get (n := g2.nodes.length) (by_ := bys) (insFrom_sorted 0 g2.nodes) (ins_lt g2.nodes) (k := (ins g2.nodes).length) (Nat.le_refl _) (ins (g2.nodes.take k)).length hlt
    rw [show (insFrom 0 g2.nodes).getD (ins (g2.nodes.take k)).length 0 = k from by
      rw [List.getD_eq_getElem?_getD]; show ((ins g2.nodes)[(ins (g2.nodes.take k)).length]?).getD 0 = k; rw [hat]; rfl] at h
    exact h
theorem docS_not (hk : k < g2.nodes.length) (hg : gAt g2.nodes k = true) (hm : (marksL g2.nodes l).getD k false = false) : docS g g2 bys l (k + 1) = docS g g2 bys l k := by
  unfold docS
  rw [copyTo]
  unfold copyAt
  rw [if_neg (by rw [hm, Bool.and_false]; exact Bool.false_ne_true)]
theorem docS_gate0 (hk : k < g2.nodes.length) (hg : gAt g2.nodes k = true) : (docS g g2 bys l k).2.getD k 0 = 0 := by
  rw [docS_high (by omega)]
  refine byTo_else (ins_lt g2.nodes) (Nat.le_refl _) (fun hx => ?_)
  obtain ⟨_, a, b, h1, h2⟩ := ins_of hx
  unfold gAt at hg
  simp only [decide_eq_true_eq] at hg
  apply hg.2.2
  rw [List.getD_eq_getElem?_getD, h1]
  exact h2
theorem docS_gate (hk : k < g2.nodes.length) (hg : gAt g2.nodes k = true) (hm : (marksL g2.nodes l).getD k false = true) : docS g g2 bys l (k + 1) = ((andG (docS g g2 bys l k).1 (overL (docS g g2 bys l k).2 (gA g2.nodes k)) (overL (docS g g2 bys l k).2 (gB g2.nodes k))).1, (docS g g2 bys l k).2.set k (andG (docS g g2 bys l k).1 (overL (docS g g2 bys l k).2 (gA g2.nodes k)) (overL (docS g g2 bys l k).2 (gB g2.nodes k))).2) := by
  unfold docS
  rw [copyTo]
  unfold copyAt
  rw [if_pos (by rw [hg, hm]; rfl)]
theorem docS_ok (hw : WF g.nodes) (h : ∀ x ∈ bys, g.ok x) (k : Nat) : CpOk (0 + k) g g2.nodes.length (docS g g2 bys l k) := copyTo_ok (start_ok hw h _ _ _) _ _ k
theorem reach_mem {ns : List (Nat × Nat)} {l : List Nat} {k : Nat} (hk : k < ns.length) : k ∈ reachL ns l ↔ (marksL ns l).getD k false = true := by
  unfold reachL pick
  rw [List.mem_filter, List.mem_range]
  exact ⟨fun h => h.2, fun h => ⟨hk, h⟩⟩
theorem docS_one (hw : WF g2.nodes) (h0 : 0 < g2.nodes.length) : partL (docS g g2 bys l 1).2 1 = List.replicate g2.nodes.length 0 := by
  apply ext_getN (by rw [partL_length _ (by rw [docS_len]; omega), docS_len, List.length_replicate])
  intro j
  rw [partL_get _ (by rw [docS_len]; omega), docS_zero hw]
  have hr : (List.replicate g2.nodes.length 0).getD j 0 = 0 := by
    rw [List.getD_eq_getElem?_getD, List.getElem?_replicate]; split <;> rfl
  rw [hr]
  split
  · rw [show j = 0 by omega, docS_high (by omega)]
    exact byTo_zero h0 (ins_pos _) (Nat.le_refl _)
  · rfl
end
end Go.Proofs.YtdmcdhkkbkgnbaaGreat
