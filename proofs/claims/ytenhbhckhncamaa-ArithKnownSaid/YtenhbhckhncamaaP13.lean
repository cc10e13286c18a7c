/-
  How deep nodes are. Plain mathematics.
-/
import Derived.Test.YtenhbhckhncamaaP12
namespace Go.Proofs.Ytenhbhckhncamaa

/-- a literal's depth by its node's -/
def dl (D : List Nat) (l : Nat) : Nat := D.getD (l / 2) 0
def nodeD (ns : List (Nat × Nat)) (D : List Nat) (p : Nat × Nat) : Nat := if inAt ns.length p || decide (ns.length = 0) then 0 else 1 + max (dl D p.1) (dl D p.2)
def dpTo (ns : List (Nat × Nat)) : Nat → List Nat
  | 0 => []
  | k + 1 => dpTo ns k ++ [nodeD (ns.take k) (dpTo ns k) (ns.getD k (0, 0))]
def dpL (ns : List (Nat × Nat)) : List Nat := dpTo ns ns.length
theorem dpTo_length (ns : List (Nat × Nat)) (k : Nat) : (dpTo ns k).length = k := by
  induction k with
  | zero => rfl
  | succ k ih => simp [dpTo, ih]
theorem dpL_length (ns : List (Nat × Nat)) : (dpL ns).length = ns.length := dpTo_length _ _
theorem dpTo_pre (ns more : List (Nat × Nat)) (k : Nat) (h : k ≤ ns.length) : dpTo (ns ++ more) k = dpTo ns k := by
  induction k with
  | zero => rfl
  | succ k ih =>
    have e1 : (ns ++ more).take k = ns.take k := by rw [List.take_append_of_le_length (by omega)]
    have e2 : (ns ++ more).getD k (0, 0) = ns.getD k (0, 0) := by
      simp only [List.getD_eq_getElem?_getD]
      rw [List.getElem?_append_left (by omega)]
    simp only [dpTo]
    rw [ih (by omega), e1, e2]
theorem dpL_snoc (ns : List (Nat × Nat)) (p : Nat × Nat) : dpL (ns ++ [p]) = dpL ns ++ [nodeD ns (dpL ns) p] := by
  unfold dpL
  rw [List.length_append, List.length_singleton]
  simp only [dpTo]
  rw [dpTo_pre _ _ _ (Nat.le_refl _)]
  simp [List.getD_eq_getElem?_getD]
theorem dpTo_take (ns : List (Nat × Nat)) (k j : Nat) : ∃ t, dpTo ns (k + j) = dpTo ns k ++ t := by
  induction j with
  | zero => exact ⟨[], by simp⟩
  | succ j ih =>
    obtain ⟨t, ht⟩ := ih
    refine ⟨t ++ [nodeD (ns.take (k + j)) (dpTo ns (k + j)) (ns.getD (k + j) (0, 0))], ?_⟩
    show dpTo ns (k + j) ++ _ = _
    conv => lhs; rw [ht]
    rw [List.append_assoc]
    rfl
theorem dpL_append (ns more : List (Nat × Nat)) : ∃ t, dpL (ns ++ more) = dpL ns ++ t := by
  obtain ⟨t, ht⟩ := dpTo_take (ns ++ more) ns.length more.length
  refine ⟨t, ?_⟩
  unfold dpL
  rw [List.length_append, ht, dpTo_pre _ _ _ (Nat.le_refl _)]
theorem dl_append {D : List Nat} (t : List Nat) {l : Nat} (h : l / 2 < D.length) : dl (D ++ t) l = dl D l := by
  unfold dl
  simp only [List.getD_eq_getElem?_getD]
  rw [List.getElem?_append_left h]
theorem dpL_get (ns : List (Nat × Nat)) (k : Nat) (h : k < ns.length) : (dpL ns)[k]? = some (nodeD (ns.take k) (dpTo ns k) (ns.getD k (0, 0))) := by
  obtain ⟨t, ht⟩ := dpTo_take ns (k + 1) (ns.length - (k + 1))
  unfold dpL
  rw [show ns.length = k + 1 + (ns.length - (k + 1)) by omega, ht, List.getElem?_append_left (by rw [dpTo_length]; omega)]
  simp only [dpTo]
  rw [List.getElem?_append_right (by rw [dpTo_length]; omega), dpTo_length]
  simp
theorem dpL_pre (ns : List (Nat × Nat)) (k : Nat) (h : k ≤ ns.length) : ∃ t, dpL ns = dpTo ns k ++ t := by
  obtain ⟨t, ht⟩ := dpTo_take ns k (ns.length - k)
  refine ⟨t, ?_⟩
  unfold dpL
  rw [show ns.length = k + (ns.length - k) by omega, ht]
theorem dp_gate {ns : List (Nat × Nat)} (hw : WF ns) {k a b : Nat} (h : ns[k]? = some (a, b)) (hg : a / 2 ≠ k) (h0 : k ≠ 0) : (dpL ns)[k]? = some (1 + max (dl (dpL ns) a) (dl (dpL ns) b)) := by
  have hk := (List.getElem?_eq_some_iff.1 h).1
  rw [dpL_get _ _ hk]
  have e : ns.getD k (0, 0) = (a, b) := by rw [List.getD_eq_getElem?_getD, h]; rfl
  have hlt : a / 2 < k ∧ b / 2 < k := by
    rcases hw.each k a b h with h1 | h1
    · omega
    · omega
  obtain ⟨t, ht⟩ := dpL_pre ns k (by omega)
  have hl : (ns.take k).length = k := by rw [List.length_take]; omega
  rw [e, ht, dl_append t (by rw [dpTo_length]; exact hlt.1), dl_append t (by rw [dpTo_length]; exact hlt.2)]
  unfold nodeD
  rw [hl, if_neg (by simp [inAt, hg, h0])]
theorem dp_none {ns : List (Nat × Nat)} {k a b : Nat} (h : ns[k]? = some (a, b)) (hg : a / 2 = k ∨ k = 0) : (dpL ns)[k]? = some 0 := by
  have hk := (List.getElem?_eq_some_iff.1 h).1
  rw [dpL_get _ _ hk]
  have e : ns.getD k (0, 0) = (a, b) := by rw [List.getD_eq_getElem?_getD, h]; rfl
  have hl : (ns.take k).length = k := by rw [List.length_take]; omega
  rw [e]
  unfold nodeD
  rw [hl, if_pos (by rcases hg with hg | hg <;> simp [inAt, hg])]
theorem dp_le (ns : List (Nat × Nat)) (k : Nat) : ∀ x ∈ dpTo ns k, x ≤ k := by
  induction k with
  | zero => intro x hx; simp [dpTo] at hx
  | succ k ih =>
    intro x hx
    rcases List.mem_append.1 hx with h | h
    · have := ih x h; omega
    · simp only [List.mem_singleton] at h
      subst h
      have hd : ∀ l, dl (dpTo ns k) l ≤ k := fun l => by
        unfold dl
        rw [List.getD_eq_getElem?_getD]
        cases hj : (dpTo ns k)[l / 2]? with
        | none => simp
        | some v => simpa using ih v (List.mem_of_getElem? hj)
      unfold nodeD
      split
      · omega
      · have h1 := hd (ns.getD k (0, 0)).1
        have h2 := hd (ns.getD k (0, 0)).2
        omega
theorem dl_le (ns : List (Nat × Nat)) (l : Nat) : dl (dpL ns) l ≤ ns.length := by
  unfold dl
  rw [List.getD_eq_getElem?_getD]
  cases hj : (dpL ns)[l / 2]? with
  | none => simp
  | some v => simpa using dp_le ns ns.length v (List.mem_of_getElem? hj)

/-- as the code goes: a row of zeros, set from the lowest node on -/
def deepTo (g : Gr) : Nat → List Nat
  | 0 => List.replicate g.nodes.length 0
  | k + 1 => if (gateA g k).2.2 then (deepTo g k).set k (1 + max (dl (deepTo g k) (gateA g k).1) (dl (deepTo g k) (gateA g k).2.1)) else deepTo g k
theorem deepTo_length (g : Gr) (k : Nat) : (deepTo g k).length = g.nodes.length := by
  induction k with
  | zero => simp [deepTo]
  | succ k ih => unfold deepTo; split <;> simp [ih]
theorem dl_eq {A B : List Nat} {l : Nat} (h : A[l / 2]? = B[l / 2]?) : dl A l = dl B l := by
  unfold dl
  rw [List.getD_eq_getElem?_getD, List.getD_eq_getElem?_getD, h]
theorem gateA_is {g : Gr} {k a b : Nat} (h : g.nodes[k]? = some (a, b)) : gateA g k = if a / 2 = k ∨ k = 0 then (0, 0, false) else (a, b, true) := by
  have hk := (List.getElem?_eq_some_iff.1 h).1
  unfold gateA
  by_cases h0 : k = 0
  · subst h0; rw [if_neg (by omega), if_pos (.inr rfl)]
  · rw [if_pos (by omega)]
    simp only [Int.toNat_natCast, h]
    by_cases h1 : a / 2 = k
    · rw [if_pos h1, if_pos (.inl h1)]
    · rw [if_neg h1, if_neg (by omega)]
theorem deepTo_val {g : Gr} (hw : WF g.nodes) : deepTo g g.nodes.length = dpL g.nodes := by
  have main : ∀ k, k ≤ g.nodes.length → ∀ j, (deepTo g k)[j]? = if j < k then (dpL g.nodes)[j]? else (List.replicate g.nodes.length 0)[j]? := by
    intro k
    induction k with
    | zero => intro _ j; simp [deepTo]
    | succ k ih =>
      intro hk j
      have ih := ih (by omega)
      obtain ⟨⟨a, b⟩, hab⟩ : ∃ q, g.nodes[k]? = some q := ⟨_, List.getElem?_eq_getElem (by omega)⟩
      have hga := gateA_is hab
      simp only [deepTo]
      rw [hga]
      by_cases hin : a / 2 = k ∨ k = 0
      · rw [if_pos hin, if_neg (by simp), ih j]
        by_cases hj : j = k
        · subst hj
          rw [if_neg (by omega), if_pos (by omega), dp_none hab hin]
          rw [List.getElem?_replicate, if_pos (by omega)]
        · by_cases hjk : j < k
          · rw [if_pos hjk, if_pos (by omega)]
          · rw [if_neg hjk, if_neg (by omega)]
      · rw [if_neg hin, if_pos rfl]
        have hlt : a / 2 < k ∧ b / 2 < k := by
          rcases hw.each k a b hab with h1 | h1
          · omega
          · omega
        rw [dl_eq (A := deepTo g k) (B := dpL g.nodes) (by rw [ih, if_pos hlt.1]), dl_eq (A := deepTo g k) (B := dpL g.nodes) (by rw [ih, if_pos hlt.2])]
        by_cases hj : j = k
        · subst hj
          rw [List.getElem?_set_self (by rw [deepTo_length]; omega), if_pos (by omega), dp_gate hw hab (by omega) (by omega)]
        · rw [List.getElem?_set_ne (by omega), ih]
          by_cases hjk : j < k
          · rw [if_pos hjk, if_pos (by omega)]
          · rw [if_neg hjk, if_neg (by omega)]
  apply List.ext_getElem?
  intro j
  rw [main _ (Nat.le_refl _)]
  split
  · rfl
  · rename_i hj
    rw [List.getElem?_eq_none (by simp; omega), List.getElem?_eq_none (by rw [dpL_length]; omega)]
/-- the greatest depth of literals, from the left -/
def mostD (D : List Nat) (l : List Nat) : Nat := l.foldl (fun m x => max m (dl D x)) 0
theorem mostD_snoc (D l : List Nat) (x : Nat) : mostD D (l ++ [x]) = max (mostD D l) (dl D x) := by simp [mostD]
theorem mostD_le (ns : List (Nat × Nat)) (l : List Nat) : mostD (dpL ns) l ≤ ns.length := by
  suffices h : ∀ (l : List Nat) (m : Nat), m ≤ ns.length → l.foldl (fun m x => max m (dl (dpL ns) x)) m ≤ ns.length from h l 0 (by omega)
  intro l
  induction l with
  | nil => intro m h; exact h
  | cons x l ih => intro m h; exact ih _ (Nat.max_le.2 ⟨h, dl_le ns x⟩)
end Go.Proofs.Ytenhbhckhncamaa
