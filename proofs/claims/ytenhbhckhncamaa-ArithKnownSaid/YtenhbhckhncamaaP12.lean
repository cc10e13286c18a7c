/-
  Eval answers each node's word.
-/
import Derived.Test.YtenhbhckhncamaaP02
import Derived.Test.YtenhbhckhncamaaP11
namespace Go.Proofs.Ytenhbhckhncamaa

theorem insFrom_append (i : Nat) (l m : List (Nat × Nat)) : insFrom i (l ++ m) = insFrom i l ++ insFrom (i + l.length) m := by
  induction l generalizing i with
  | nil => simp [insFrom]
  | cons p l ih =>
    have h : i + 1 + l.length = i + (l.length + 1) := by omega
    simp only [List.cons_append, insFrom, ih, List.length_cons, h]
    split <;> simp
theorem insFrom_sorted (i : Nat) (l : List (Nat × Nat)) : (insFrom i l).Pairwise (· < ·) := by
  induction l generalizing i with
  | nil => exact List.Pairwise.nil
  | cons p l ih =>
    simp only [insFrom]
    split
    · exact List.pairwise_cons.2 ⟨fun x hx => by have := insFrom_lt _ _ x hx; omega, ih _⟩
    · exact ih _
theorem ins_at {ns : List (Nat × Nat)} {k a b : Nat} (h : ns[k]? = some (a, b)) (hg : a / 2 = k) (h0 : k ≠ 0) : (ins ns)[(ins (ns.take k)).length]? = some k := by
  have hk := (List.getElem?_eq_some_iff.1 h).1
  have e : ns = ns.take k ++ (a, b) :: ns.drop (k + 1) := by
    have h1 := List.take_append_drop k ns
    rw [List.drop_eq_getElem_cons hk] at h1
    rw [(List.getElem?_eq_some_iff.1 h).2] at h1
    exact h1.symm
  have hl : (ns.take k).length = k := by rw [List.length_take]; omega
  have e2 : ins ns = ins (ns.take k) ++ insFrom k ((a, b) :: ns.drop (k + 1)) := by
    conv => lhs; rw [e]
    unfold ins
    rw [insFrom_append, hl, Nat.zero_add]
  rw [e2, List.getElem?_append_right (Nat.le_refl _), Nat.sub_self]
  simp only [insFrom]
  rw [if_pos (by simp [inAt, hg, h0])]
  rfl
theorem ins_zero (ns : List (Nat × Nat)) : 0 ∉ ins ns := by
  suffices h : ∀ i, 0 ∉ insFrom i ns from h 0
  induction ns with
  | nil => intro i; simp [insFrom]
  | cons p l ih =>
    intro i
    simp only [insFrom]
    split
    · rename_i h
      simp only [Bool.and_eq_true, decide_eq_true_eq] at h
      simp only [List.mem_cons, not_or]
      exact ⟨fun e => h.2 e.symm, ih _⟩
    · exact ih _
theorem setTo_get (is vs ws : List Nat) (hs : is.Pairwise (· < ·)) (hlt : ∀ x ∈ is, x < ws.length) (k : Nat) (hk : k ≤ is.length) :
    (∀ j x, j < k → is[j]? = some x → (setTo is vs ws k)[x]? = some (vs.getD j 0)) ∧ ∀ x, (∀ j, j < k → is[j]? ≠ some x) → (setTo is vs ws k)[x]? = ws[x]? := by
  induction k with
  | zero => exact ⟨fun j x h => absurd h (by omega), fun x _ => rfl⟩
  | succ k ih =>
    obtain ⟨h1, h2⟩ := ih (by omega)
    have hkl : k < is.length := by omega
    have e : is.getD k 0 = is[k] := by simp [List.getD_eq_getElem?_getD, hkl]
    have hin := hlt _ (List.getElem_mem hkl)
    simp only [setTo]
    rw [e]
    refine ⟨fun j x hj hx => ?_, fun x hx => ?_⟩
    · by_cases hjk : j = k
      · subst hjk
        rw [List.getElem?_eq_getElem hkl] at hx
        injection hx with hx
        rw [← hx, List.getElem?_set_self (by rw [setTo_length]; exact hin)]
      · have hjl : j < is.length := by omega
        have hlt' : is[j] < is[k] := List.pairwise_iff_getElem.1 hs j k hjl hkl (by omega)
        have hx' := hx
        rw [List.getElem?_eq_getElem hjl] at hx
        injection hx with hx
        rw [List.getElem?_set_ne (by omega)]
        exact h1 j x (by omega) hx'
    · have hne : is[k] ≠ x := fun h => hx k (by omega) (by rw [List.getElem?_eq_getElem hkl, h])
      rw [List.getElem?_set_ne hne]
      exact h2 x fun j hj => hx j (by omega)
theorem nodeW_eq {A B : List Nat} {n : Nat} (h : n ≠ 0 → A[n]? = B[n]?) : nodeW A n = nodeW B n := by
  unfold nodeW
  split
  · rfl
  · rename_i h0
    rw [List.getD_eq_getElem?_getD, List.getD_eq_getElem?_getD, h h0]
theorem evalG_val {g : Gr} (hw : WF g.nodes) (inp : List Nat) : evalG g inp = valL inp g.nodes := by
  have hsort := insFrom_sorted 0 g.nodes
  have hset := setTo_get (ins g.nodes) inp (List.replicate g.nodes.length 0) hsort (fun x hx => by rw [List.length_replicate]; exact ins_lt _ x hx) (ins g.nodes).length (Nat.le_refl _)
  unfold evalG
  generalize hws : setTo (ins g.nodes) inp (List.replicate g.nodes.length 0) (ins g.nodes).length = ws0 at *
  have hlen : ws0.length = g.nodes.length := by rw [← hws, setTo_length, List.length_replicate]
  have main : ∀ k, k ≤ g.nodes.length → ∀ j, (evalTo g ws0 k)[j]? = if j < k then (valL inp g.nodes)[j]? else ws0[j]? := by
    intro k
    induction k with
    | zero => intro _ j; simp [evalTo]
    | succ k ih =>
      intro hk j
      have ih := ih (by omega)
      obtain ⟨⟨a, b⟩, hab⟩ : ∃ q, g.nodes[k]? = some q := ⟨_, List.getElem?_eq_getElem (by omega)⟩
      have stay : (gateA g k).2.2 = false → ws0[k]? = (valL inp g.nodes)[k]? → (evalTo g ws0 (k + 1))[j]? = if j < k + 1 then (valL inp g.nodes)[j]? else ws0[j]? := by
        intro hf hv
        simp only [evalTo]
        rw [if_neg (by rw [hf]; simp), ih j]
        by_cases hj : j = k
        · subst hj; rw [if_neg (by omega), if_pos (by omega)]; exact hv
        · by_cases hjk : j < k
          · rw [if_pos hjk, if_pos (by omega)]
          · rw [if_neg hjk, if_neg (by omega)]
      by_cases h0 : k = 0
      · subst h0
        refine stay (by unfold gateA; rw [if_neg (by omega)]) ?_
        rw [zero_val hw, hset.2 0 fun i _ h => ins_zero _ (List.mem_of_getElem? h)]
        simp [hw.pos]
      · have hga : gateA g k = if a / 2 = k then (0, 0, false) else (a, b, true) := by unfold gateA; rw [if_pos (by omega)]; simp [hab]
        by_cases hin : a / 2 = k
        · refine stay (by rw [hga, if_pos hin]) ?_
          have hat := ins_at hab hin h0
          rw [in_val hab hin h0, hset.1 _ _ (List.getElem?_eq_some_iff.1 hat).1 hat]
        · rw [if_neg hin] at hga
          simp only [evalTo]
          rw [hga]
          simp only [if_true]
          have hlt : a / 2 < k ∧ b / 2 < k := by
            rcases hw.each k a b hab with h1 | h1
            · omega
            · omega
          have ea : wd (evalTo g ws0 k) a = wd (valL inp g.nodes) a := by
            unfold wd
            rw [nodeW_eq (B := valL inp g.nodes) fun _ => by rw [ih, if_pos hlt.1]]
          have eb : wd (evalTo g ws0 k) b = wd (valL inp g.nodes) b := by
            unfold wd
            rw [nodeW_eq (B := valL inp g.nodes) fun _ => by rw [ih, if_pos hlt.2]]
          rw [ea, eb]
          by_cases hj : j = k
          · subst hj
            rw [List.getElem?_set_self (by rw [evalTo_length, hlen]; omega), if_pos (by omega), gate_val hw hab hin]
          · rw [List.getElem?_set_ne (by omega), ih]
            by_cases hjk : j < k
            · rw [if_pos hjk, if_pos (by omega)]
            · rw [if_neg hjk, if_neg (by omega)]
  apply List.ext_getElem?
  intro j
  rw [main _ (Nat.le_refl _)]
  split
  · rfl
  · rename_i hj
    rw [List.getElem?_eq_none (by omega), List.getElem?_eq_none (by rw [valL_length]; omega)]
end Go.Proofs.Ytenhbhckhncamaa
