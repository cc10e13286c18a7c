/-
  What holds of a copy: words, depths, how many gates. Plain.
-/
import Derived.Test.YtdmcdhkkbkgnbaaP24
namespace Go.Proofs.Ytdmcdhkkbkgnbaa
set_option linter.unusedVariables false

theorem insFrom_mem (i : Nat) (l : List (Nat × Nat)) (j : Nat) (p : Nat × Nat) (h : l[j]? = some p) (hp : p.1 / 2 = i + j) (h0 : i + j ≠ 0) : i + j ∈ insFrom i l := by
  induction l generalizing i j with
  | nil => simp at h
  | cons q l ih =>
    cases j with
    | zero =>
      simp at h; subst h
      rw [Nat.add_zero] at hp h0 ⊢
      have e : insFrom i (q :: l) = i :: insFrom (i + 1) l := by simp [insFrom, inAt, hp, h0]
      rw [e]; simp
    | succ j =>
      have := ih (i + 1) j (by simpa using h) (by omega) (by omega)
      rw [show i + 1 + j = i + (j + 1) by omega] at this
      simp only [insFrom]
      split
      · exact List.mem_cons_of_mem _ this
      · exact this
theorem byTo_get {n : Nat} {is by_ : List Nat} (hs : is.Pairwise (· < ·)) (hl : ∀ x ∈ is, x < n) {k : Nat} (hk : k ≤ is.length) : ∀ i, i < k → (byTo n is by_ k).getD (is.getD i 0) 0 = by_.getD i 0 := by
  induction k with
  | zero => intro i hi; omega
  | succ k ih =>
    intro i hi
    have hkl : k < is.length := by omega
    have e : ∀ j, (h : j < is.length) → is.getD j 0 = is[j] := fun j h => by rw [List.getD_eq_getElem?_getD, List.getElem?_eq_getElem h]; rfl
    show ((byTo n is by_ k).set (is.getD k 0) (by_.getD k 0)).getD (is.getD i 0) 0 = _
    rw [getN_set (by rw [byTo_length, e k hkl]; exact hl _ (List.getElem_mem _))]
    by_cases hik : i = k
    · subst hik; rw [if_pos rfl]
    · have hlt := List.pairwise_iff_getElem.1 hs i k (by omega) hkl (by omega)
      rw [if_neg (by rw [e i (by omega), e k hkl]; omega)]
      exact ih (by omega) i (by omega)
theorem not_gate {ns : List (Nat × Nat)} {j : Nat} (h1 : 1 ≤ j) (h2 : j < ns.length) (h : gAt ns j = false) : (ns.getD j (0, 0)).1 / 2 = j := by
  unfold gAt at h
  simp only [decide_eq_false_iff_not] at h
  omega
section
variable {P : Gr → Nat → Nat → Prop} {g0 g2 : Gr} {bys l : List Nat}
theorem copy_inv (hw0 : WF g0.nodes) (hw2 : WF g2.nodes) (hb : ∀ x ∈ bys, g0.ok x) (hbl : bys.length = (ins g2.nodes).length) (hl : ∀ x ∈ l, g2.ok x)
    (ext : ∀ c g g' x j, Ext c g g' → g.ok x → P g x j → P g' x j) (zero : P g0 0 0)
    (inp : ∀ i, i < bys.length → P g0 (bys.getD i 0) ((ins g2.nodes).getD i 0))
    (gate : ∀ c g j x y, Ext c g0 g → WF g.nodes → g.ok x → g.ok y → gAt g2.nodes j = true → P g x (gA g2.nodes j / 2) → P g y (gB g2.nodes j / 2) → P (andG g (ifL x (decide (gA g2.nodes j % 2 = 1))) (ifL y (decide (gB g2.nodes j % 2 = 1)))).1 (andG g (ifL x (decide (gA g2.nodes j % 2 = 1))) (ifL y (decide (gB g2.nodes j % 2 = 1)))).2 j) :
    ∀ x ∈ l, P (copyG g0 g2 bys l).1 ((copyG g0 g2 bys l).2.getD (x / 2) 0) (x / 2) := by
  have hp := hw2.pos
  have hM := marks_ok hw2 (l := l) hl
  have s0 := start_ok hw0 hb g2.nodes.length (ins g2.nodes) (ins g2.nodes).length
  unfold copyG
  generalize hMe : marksL g2.nodes l = M at *
  generalize hs0e : (g0, byTo g2.nodes.length (ins g2.nodes) bys (ins g2.nodes).length) = S0 at *
  have base : ∀ j, j < g2.nodes.length → gAt g2.nodes j = false → P S0.1 (S0.2.getD j 0) j := by
    intro j hj hg
    subst hs0e
    by_cases h0 : j = 0
    · subst h0
      show P g0 ((byTo g2.nodes.length (ins g2.nodes) bys (ins g2.nodes).length).getD 0 0) 0
      rw [byTo_zero hp (ins_pos _) (Nat.le_refl _)]
      exact zero
    · have hn := not_gate (by omega) hj hg
      have hget : g2.nodes[j]? = some (g2.nodes.getD j (0, 0)) := by rw [List.getD_eq_getElem?_getD, List.getElem?_eq_getElem hj]; rfl
      have hm := insFrom_mem 0 g2.nodes j _ hget (by omega) (by omega)
      rw [Nat.zero_add] at hm
      obtain ⟨i, hi, he⟩ := List.getElem_of_mem hm
      have hi' : i < (ins g2.nodes).length := hi
      have e : (ins g2.nodes).getD i 0 = j := by rw [List.getD_eq_getElem?_getD, List.getElem?_eq_getElem hi']; exact he
      have hb2 := byTo_get (n := g2.nodes.length) (by_ := bys) (insFrom_sorted 0 g2.nodes) (ins_lt g2.nodes) (Nat.le_refl (ins g2.nodes).length) i hi'
      have h3 := inp i (by omega)
      show P g0 ((byTo g2.nodes.length (ins g2.nodes) bys (ins g2.nodes).length).getD j 0) j
      rw [← e]
      have hb3 : (byTo g2.nodes.length (ins g2.nodes) bys (ins g2.nodes).length).getD ((ins g2.nodes).getD i 0) 0 = bys.getD i 0 := hb2
      rw [hb3]
      exact h3
  have main : ∀ k, k ≤ g2.nodes.length → ∀ j, j < g2.nodes.length → (gAt g2.nodes j = false ∨ (M.getD j false = true ∧ j < k)) → P (copyTo g2.nodes M S0 k).1 ((copyTo g2.nodes M S0 k).2.getD j 0) j := by
    intro k
    induction k with
    | zero =>
      intro _ j hj h
      rcases h with h | h
      · exact base j hj h
      · omega
    | succ k ih =>
      intro hk j hj h
      have IH := ih (by omega)
      have hc := copyTo_ok s0 g2.nodes M k
      show P (copyAt g2.nodes M (copyTo g2.nodes M S0 k) k).1 ((copyAt g2.nodes M (copyTo g2.nodes M S0 k) k).2.getD j 0) j
      have hx : S0.1 = g0 := by rw [← hs0e]
      generalize copyTo g2.nodes M S0 k = s at *
      by_cases hgm : gAt g2.nodes k = true ∧ M.getD k false = true
      · obtain ⟨hg, hm⟩ := hgm
        obtain ⟨ha, hb', _, _⟩ := gAt_lt hw2 hg
        have e : copyAt g2.nodes M s k = ((andG s.1 (overL s.2 (gA g2.nodes k)) (overL s.2 (gB g2.nodes k))).1, s.2.set k (andG s.1 (overL s.2 (gA g2.nodes k)) (overL s.2 (gB g2.nodes k))).2) := by
          unfold copyAt; rw [if_pos (by rw [hg, hm]; rfl)]
        rw [e]
        have s1 := andG_spec hc.wf (overL_ok hc.wf hc.ok (gA g2.nodes k)) (overL_ok hc.wf hc.ok (gB g2.nodes k))
        have okx : ∀ j, s.1.ok (s.2.getD j 0) := fun j => by
          rw [List.getD_eq_getElem?_getD]
          cases hj' : s.2[j]? with
          | none => have := hc.wf.pos; show 0 / 2 < _; simpa using this
          | some v => exact hc.ok v (List.mem_of_getElem? hj')
        show P (andG s.1 _ _).1 ((s.2.set k (andG s.1 (overL s.2 (gA g2.nodes k)) (overL s.2 (gB g2.nodes k))).2).getD j 0) j
        rw [getN_set (by rw [hc.len]; omega)]
        by_cases hjk : j = k
        · subst hjk
          rw [if_pos rfl]
          have cov : ∀ z, z < j → (z ≠ 0 → M.getD z false = true) → P s.1 (s.2.getD z 0) z := fun z hz hc' => by
            apply IH z (by omega)
            by_cases hgz : gAt g2.nodes z = false
            · exact .inl hgz
            · refine .inr ⟨hc' (fun h0 => ?_), hz⟩
              subst h0
              apply hgz; unfold gAt; simp
          obtain ⟨d1, d2⟩ := hM.down j hg hm
          have p1 := cov _ ha d1
          have p2 := cov _ hb' d2
          exact gate _ s.1 j _ _ hc.ext hc.wf (okx _) (okx _) hg p1 p2
        · rw [if_neg hjk]
          refine ext _ _ _ _ _ s1.2.1 (okx j) (IH j hj ?_)
          rcases h with h | h
          · exact .inl h
          · exact .inr ⟨h.1, by omega⟩
      · have e : copyAt g2.nodes M s k = s := by
          unfold copyAt; rw [if_neg (by simpa using hgm)]
        rw [e]
        apply IH j hj
        rcases h with h | h
        · exact .inl h
        · by_cases hjk : j = k
          · subst hjk
            refine .inl ?_
            cases hg : gAt g2.nodes j with
            | false => rfl
            | true => exact absurd ⟨hg, h.1⟩ hgm
          · exact .inr ⟨h.1, by omega⟩
  intro x hx
  have hlt : x / 2 < g2.nodes.length := hl x hx
  apply main _ (Nat.le_refl _) _ hlt
  by_cases hg : gAt g2.nodes (x / 2) = false
  · exact .inl hg
  · refine .inr ⟨hM.has x hx (fun h0 => hg ?_), hlt⟩
    rw [h0]; unfold gAt; simp
end
/-! ### How many gates -/
theorem copyTo_count {ns : List (Nat × Nat)} {M : List Bool} {s0 : Gr × List Nat} (hf : s0.1.fold = false) (hh : s0.1.hash = false) (k : Nat) :
    (copyTo ns M s0 k).1.fold = false ∧ (copyTo ns M s0 k).1.hash = false ∧ (copyTo ns M s0 k).1.nodes.length = s0.1.nodes.length + (pick k (fun j => gAt ns j && M.getD j false)).length := by
  induction k with
  | zero => exact ⟨hf, hh, by simp [copyTo, pick]⟩
  | succ k ih =>
    obtain ⟨h1, h2, h3⟩ := ih
    rw [pick_succ]
    show (copyAt ns M (copyTo ns M s0 k) k).1.fold = false ∧ (copyAt ns M (copyTo ns M s0 k) k).1.hash = false ∧ (copyAt ns M (copyTo ns M s0 k) k).1.nodes.length = _
    generalize copyTo ns M s0 k = s at *
    unfold copyAt
    cases hc : gAt ns k && M.getD k false
    · simp only [Bool.false_eq_true, if_false, List.append_nil]
      exact ⟨h1, h2, h3⟩
    · simp only [if_true, List.length_append, List.length_singleton]
      have e : ∀ x y, andG s.1 x y = gateG s.1 x y := fun x y => by unfold andG; rw [h1, h2]; simp
      rw [e]
      exact ⟨h1, h2, by show (s.1.nodes ++ [_]).length = _; rw [List.length_append, List.length_singleton, h3]; omega⟩
theorem copyTo_most {ns : List (Nat × Nat)} {M : List Bool} {s0 : Gr × List Nat} {c n : Nat} {g0 : Gr} (h0 : CpOk c g0 n s0) (k : Nat) :
    (copyTo ns M s0 k).1.nodes.length ≤ s0.1.nodes.length + (pick k (fun j => gAt ns j && M.getD j false)).length := by
  induction k with
  | zero => simp [copyTo]
  | succ k ih =>
    have hc := copyTo_ok h0 ns M k
    rw [pick_succ]
    show (copyAt ns M (copyTo ns M s0 k) k).1.nodes.length ≤ _
    generalize copyTo ns M s0 k = s at *
    unfold copyAt
    cases hcc : gAt ns k && M.getD k false
    · simp only [Bool.false_eq_true, if_false, List.append_nil]
      exact ih
    · simp only [if_true, List.length_append, List.length_singleton]
      have s1 := andG_spec hc.wf (overL_ok hc.wf hc.ok (gA ns k)) (overL_ok hc.wf hc.ok (gB ns k))
      have := s1.2.1.le
      omega
theorem pick_split (n : Nat) (P Q : Nat → Bool) : (pick n P).length = (pick n (fun j => P j && !Q j)).length + (pick n (fun j => Q j && P j)).length := by
  induction n with
  | zero => rfl
  | succ n ih =>
    simp only [pick_succ, List.length_append, ih]
    cases P n <;> cases Q n <;> simp <;> omega
theorem reach_split (ns : List (Nat × Nat)) (l : List Nat) : (reachL ns l).length = (supportL ns l).length + (pick ns.length (fun j => gAt ns j && (marksL ns l).getD j false)).length :=
  pick_split _ _ _
end Go.Proofs.Ytdmcdhkkbkgnbaa
