/-
  Inputs of a graph, plain: what an input's node is.
  What literals lean on: marks, from above down. Plain.
-/
import Derived.Test.YtdmcdhkkbkgnbaaP11
import Derived.Test.YtdmcdhkkbkgnbaaP10
import Derived.Test.YtdmcdhkkbkgnbaaP00
namespace Go.Proofs.Ytdmcdhkkbkgnbaa
set_option linter.unusedVariables false

theorem getB_set {l : List Bool} {i j : Nat} {v : Bool} (h : i < l.length) : (l.set i v).getD j false = if j = i then v else l.getD j false := by
  simp only [List.getD_eq_getElem?_getD]
  by_cases e : j = i
  · subst e
    rw [List.getElem?_set_self h, if_pos rfl]
    rfl
  · rw [List.getElem?_set_ne (fun h => e h.symm), if_neg e]
theorem getB_out {l : List Bool} {j : Nat} (h : l.length ≤ j) : l.getD j false = false := by
  rw [List.getD_eq_getElem?_getD, List.getElem?_eq_none h]; rfl
/-- node k is a gate -/
def gAt (ns : List (Nat × Nat)) (k : Nat) : Bool := decide (1 ≤ k ∧ k < ns.length ∧ (ns.getD k (0, 0)).1 / 2 ≠ k)
def gA (ns : List (Nat × Nat)) (k : Nat) : Nat := (ns.getD k (0, 0)).1
def gB (ns : List (Nat × Nat)) (k : Nat) : Nat := (ns.getD k (0, 0)).2
theorem gateA_nat (g : Gr) (k : Nat) : gateA g (k : Int) = if gAt g.nodes k then (gA g.nodes k, gB g.nodes k, true) else (0, 0, false) := by
  unfold gateA gAt gA gB
  by_cases h : 1 ≤ k ∧ k < g.nodes.length
  · rw [if_pos (by omega)]
    obtain ⟨⟨a, b⟩, hab⟩ : ∃ q, g.nodes[k]? = some q := ⟨_, List.getElem?_eq_getElem h.2⟩
    simp only [Int.toNat_natCast, hab, List.getD_eq_getElem?_getD, Option.getD_some]
    by_cases h2 : a / 2 = k
    · rw [if_pos h2, if_neg (by simp [h2])]
    · rw [if_neg h2, if_pos (by simp only [decide_eq_true_eq]; exact ⟨h.1, h.2, h2⟩)]
  · rw [if_neg (by omega), if_neg (by simp only [decide_eq_true_eq]; omega)]
theorem gAt_lt {ns : List (Nat × Nat)} (hw : WF ns) {k : Nat} (h : gAt ns k = true) : gA ns k / 2 < k ∧ gB ns k / 2 < k ∧ 1 ≤ k ∧ k < ns.length := by
  unfold gAt at h
  simp only [decide_eq_true_eq] at h
  unfold gA gB
  obtain ⟨⟨a, b⟩, hab⟩ : ∃ q, ns[k]? = some q := ⟨_, List.getElem?_eq_getElem h.2.1⟩
  simp only [List.getD_eq_getElem?_getD, hab, Option.getD_some] at h ⊢
  have := hw.each k a b hab
  omega
def markAt (ns : List (Nat × Nat)) (M : List Bool) (k : Nat) : List Bool := if gAt ns k && M.getD k false then (M.set (gA ns k / 2) true).set (gB ns k / 2) true else M
def sweepD (ns : List (Nat × Nat)) : Nat → List Bool → List Bool
  | 0, M => M
  | k + 1, M => sweepD ns k (markAt ns M k)
def initTo (n : Nat) (l : List Nat) : List Bool := l.foldl (fun M x => M.set (x / 2) true) (List.replicate n false)
def marksL (ns : List (Nat × Nat)) (l : List Nat) : List Bool := (sweepD ns ns.length (initTo ns.length l)).set 0 false
theorem markAt_length (ns : List (Nat × Nat)) (M : List Bool) (k : Nat) : (markAt ns M k).length = M.length := by unfold markAt; split <;> simp
theorem sweepD_length (ns : List (Nat × Nat)) (k : Nat) (M : List Bool) : (sweepD ns k M).length = M.length := by
  induction k generalizing M with
  | zero => rfl
  | succ k ih => rw [sweepD, ih, markAt_length]
theorem initTo_snoc (n : Nat) (l : List Nat) (x : Nat) : initTo n (l ++ [x]) = (initTo n l).set (x / 2) true := by simp [initTo]
theorem initTo_length (n : Nat) (l : List Nat) : (initTo n l).length = n := by
  suffices h : ∀ (l : List Nat) (M : List Bool), (l.foldl (fun M x => M.set (x / 2) true) M).length = M.length by
    unfold initTo; rw [h]; simp
  intro l
  induction l with
  | nil => intro M; rfl
  | cons x l ih => intro M; rw [List.foldl_cons, ih]; simp
theorem marksL_length (ns : List (Nat × Nat)) (l : List Nat) : (marksL ns l).length = ns.length := by simp [marksL, sweepD_length, initTo_length]
/-- what is known of the marks once the nodes from i on have been seen -/
structure MInv (ns : List (Nat × Nat)) (l : List Nat) (i : Nat) (M : List Bool) : Prop where
  len : M.length = ns.length
  has : ∀ x ∈ l, M.getD (x / 2) false = true
  down : ∀ n, i ≤ n → gAt ns n = true → M.getD n false = true → M.getD (gA ns n / 2) false = true ∧ M.getD (gB ns n / 2) false = true
  why : ∀ m, M.getD m false = true → (∃ x ∈ l, x / 2 = m) ∨ ∃ n, m < n ∧ i ≤ n ∧ gAt ns n = true ∧ M.getD n false = true ∧ (gA ns n / 2 = m ∨ gB ns n / 2 = m)
theorem init_inv (ns : List (Nat × Nat)) (l : List Nat) (hl : ∀ x ∈ l, x / 2 < ns.length) : (∀ m, (initTo ns.length l).getD m false = true ↔ ∃ x ∈ l, x / 2 = m) := by
  suffices h : ∀ (l : List Nat) (M : List Bool), M.length = ns.length → (∀ x ∈ l, x / 2 < ns.length) → ∀ m, (l.foldl (fun M x => M.set (x / 2) true) M).getD m false = true ↔ (M.getD m false = true ∨ ∃ x ∈ l, x / 2 = m) by
    intro m
    unfold initTo
    rw [h l _ (by simp) hl]
    have e : (List.replicate ns.length false).getD m false = false := by
      rw [List.getD_eq_getElem?_getD, List.getElem?_replicate]; split <;> rfl
    rw [e]; simp
  intro l
  induction l with
  | nil => intro M _ _ m; simp
  | cons x l ih =>
    intro M hM hx m
    rw [List.foldl_cons, ih _ (by simpa using hM) (fun y hy => hx y (by simp [hy])), getB_set (by rw [hM]; exact hx x (by simp))]
    by_cases e : m = x / 2
    · subst e; simp
    · rw [if_neg e]
      constructor
      · rintro (h | ⟨y, hy, rfl⟩)
        · exact .inl h
        · exact .inr ⟨y, by simp [hy], rfl⟩
      · rintro (h | ⟨y, hy, rfl⟩)
        · exact .inl h
        · rcases List.mem_cons.1 hy with h | h
          · subst h; exact absurd rfl e
          · exact .inr ⟨y, h, rfl⟩
theorem markAt_get {ns : List (Nat × Nat)} (hw : WF ns) {M : List Bool} (hM : M.length = ns.length) {k : Nat} (hg : gAt ns k = true) (hk : M.getD k false = true) (j : Nat) : (markAt ns M k).getD j false = (decide (j = gB ns k / 2) || decide (j = gA ns k / 2) || M.getD j false) := by
  obtain ⟨h1, h2, h3, h4⟩ := gAt_lt hw hg
  unfold markAt
  rw [if_pos (by rw [hg, hk]; rfl), getB_set (by simp; omega), getB_set (by omega)]
  by_cases e1 : j = gB ns k / 2 <;> by_cases e2 : j = gA ns k / 2 <;> simp [e1, e2]
theorem MInv.step {ns : List (Nat × Nat)} (hw : WF ns) {l : List Nat} {k : Nat} {M : List Bool} (h : MInv ns l (k + 1) M) : MInv ns l k (markAt ns M k) := by
  by_cases hc : gAt ns k = true ∧ M.getD k false = true
  · obtain ⟨hg, hk⟩ := hc
    obtain ⟨h1, h2, h3, h4⟩ := gAt_lt hw hg
    have hget := markAt_get hw h.len hg hk
    have mono : ∀ j, M.getD j false = true → (markAt ns M k).getD j false = true := fun j hj => by rw [hget, hj]; simp
    have same : ∀ j, k ≤ j → (markAt ns M k).getD j false = M.getD j false := fun j hj => by
      rw [hget]
      have e1 : decide (j = gB ns k / 2) = false := by simp; omega
      have e2 : decide (j = gA ns k / 2) = false := by simp; omega
      rw [e1, e2]; rfl
    refine ⟨by rw [markAt_length, h.len], fun x hx => mono _ (h.has x hx), fun n hn hgn hmn => ?_, fun m hm => ?_⟩
    · rcases Nat.lt_or_eq_of_le hn with h5 | h5
      · rw [same n (by omega)] at hmn
        obtain ⟨d1, d2⟩ := h.down n (by omega) hgn hmn
        exact ⟨mono _ d1, mono _ d2⟩
      · subst h5
        rw [hget, hget]
        simp
    · rw [hget] at hm
      by_cases hmm : M.getD m false = true
      · rcases h.why m hmm with h5 | ⟨n, n1, n2, n3, n4, n5⟩
        · exact .inl h5
        · exact .inr ⟨n, n1, by omega, n3, mono _ n4, n5⟩
      · refine .inr ⟨k, ?_, Nat.le_refl _, hg, by rw [same k (Nat.le_refl _)]; exact hk, ?_⟩
        · simp only [Bool.or_eq_true, decide_eq_true_eq] at hm
          rcases hm with (h6 | h6) | h6
          · omega
          · omega
          · exact absurd h6 hmm
        · simp only [Bool.or_eq_true, decide_eq_true_eq] at hm
          rcases hm with (h6 | h6) | h6
          · exact .inr h6.symm
          · exact .inl h6.symm
          · exact absurd h6 hmm
  · have e : markAt ns M k = M := by
      unfold markAt
      rw [if_neg (by simpa using hc)]
    rw [e]
    refine ⟨h.len, h.has, fun n hn hgn hmn => ?_, fun m hm => ?_⟩
    · rcases Nat.lt_or_eq_of_le hn with h5 | h5
      · exact h.down n (by omega) hgn hmn
      · subst h5; exact absurd ⟨hgn, hmn⟩ hc
    · rcases h.why m hm with h5 | ⟨n, n1, n2, n3, n4, n5⟩
      · exact .inl h5
      · exact .inr ⟨n, n1, by omega, n3, n4, n5⟩
theorem MInv.all {ns : List (Nat × Nat)} (hw : WF ns) {l : List Nat} : ∀ (k : Nat) {M : List Bool}, MInv ns l k M → MInv ns l 0 (sweepD ns k M)
  | 0, M, h => h
  | k + 1, M, h => MInv.all hw k (h.step hw)
/-- what the marks tell -/
structure MarksOk (ns : List (Nat × Nat)) (l : List Nat) (M : List Bool) : Prop where
  len : M.length = ns.length
  zero : M.getD 0 false = false
  has : ∀ x ∈ l, x / 2 ≠ 0 → M.getD (x / 2) false = true
  down : ∀ n, gAt ns n = true → M.getD n false = true → (gA ns n / 2 ≠ 0 → M.getD (gA ns n / 2) false = true) ∧ (gB ns n / 2 ≠ 0 → M.getD (gB ns n / 2) false = true)
  why : ∀ m, M.getD m false = true → m ≠ 0 ∧ m < ns.length ∧ ((∃ x ∈ l, x / 2 = m) ∨ ∃ n, m < n ∧ gAt ns n = true ∧ M.getD n false = true ∧ (gA ns n / 2 = m ∨ gB ns n / 2 = m))
theorem marks_ok {ns : List (Nat × Nat)} (hw : WF ns) {l : List Nat} (hl : ∀ x ∈ l, x / 2 < ns.length) : MarksOk ns l (marksL ns l) := by
  have hp := hw.pos
  have h0 : MInv ns l ns.length (initTo ns.length l) := by
    have hi := init_inv ns l hl
    refine ⟨initTo_length _ _, fun x hx => (hi _).2 ⟨x, hx, rfl⟩, fun n hn hg _ => ?_, fun m hm => .inl ((hi m).1 hm)⟩
    have := (gAt_lt hw hg).2.2.2
    omega
  have h := MInv.all hw ns.length h0
  have hget : ∀ j, (marksL ns l).getD j false = if j = 0 then false else (sweepD ns ns.length (initTo ns.length l)).getD j false := fun j => by
    unfold marksL
    exact getB_set (by rw [sweepD_length, initTo_length]; exact hp)
  refine ⟨marksL_length _ _, by rw [hget]; rfl, fun x hx hne => by rw [hget, if_neg hne]; exact h.has x hx, fun n hg hm => ?_, fun m hm => ?_⟩
  · rw [hget] at hm
    have hn := (gAt_lt hw hg).2.2.1
    rw [if_neg (by omega)] at hm
    obtain ⟨d1, d2⟩ := h.down n (Nat.zero_le _) hg hm
    exact ⟨fun hne => by rw [hget, if_neg hne]; exact d1, fun hne => by rw [hget, if_neg hne]; exact d2⟩
  · rw [hget] at hm
    by_cases hm0 : m = 0
    · rw [if_pos hm0] at hm; cases hm
    · rw [if_neg hm0] at hm
      refine ⟨hm0, ?_, ?_⟩
      · apply Classical.byContradiction
        intro hlt
        rw [getB_out (by rw [sweepD_length, initTo_length]; omega)] at hm
        cases hm
      · rcases h.why m hm with h5 | ⟨n, n1, n2, n3, n4, n5⟩
        · exact .inl h5
        · exact .inr ⟨n, n1, n3, by rw [hget, if_neg (by omega)]; exact n4, n5⟩
/-- the nodes of a kind, in order -/
def pick (n : Nat) (P : Nat → Bool) : List Nat := (List.range n).filter P
theorem pick_succ (n : Nat) (P : Nat → Bool) : pick (n + 1) P = pick n P ++ (if P n then [n] else []) := by
  unfold pick
  rw [List.range_succ, List.filter_append]
  congr 1
  simp only [List.filter_cons, List.filter_nil]
theorem pick_length (n : Nat) (P : Nat → Bool) : (pick n P).length ≤ n := by
  have := List.length_filter_le P (List.range n)
  rw [List.length_range] at this
  exact this
def reachL (ns : List (Nat × Nat)) (l : List Nat) : List Nat := pick ns.length (fun n => (marksL ns l).getD n false)
def supportL (ns : List (Nat × Nat)) (l : List Nat) : List Nat := pick ns.length (fun n => (marksL ns l).getD n false && !gAt ns n)
end Go.Proofs.Ytdmcdhkkbkgnbaa

namespace Go.Proofs.Ytdmcdhkkbkgnbaa
set_option linter.unusedVariables false

theorem insFrom_of (i : Nat) (l : List (Nat × Nat)) : ∀ x ∈ insFrom i l, x ≠ 0 ∧ ∃ j a b, x = i + j ∧ l[j]? = some (a, b) ∧ a / 2 = x := by
  induction l generalizing i with
  | nil => intro x hx; simp [insFrom] at hx
  | cons p l ih =>
    intro x hx
    have step : x ∈ insFrom (i + 1) l → x ≠ 0 ∧ ∃ j a b, x = i + j ∧ (p :: l)[j]? = some (a, b) ∧ a / 2 = x := fun h => by
      obtain ⟨h0, j, a, b, h1, h2, h3⟩ := ih (i + 1) x h
      exact ⟨h0, j + 1, a, b, by omega, by simpa using h2, h3⟩
    simp only [insFrom] at hx
    split at hx
    · rename_i hc
      simp only [Bool.and_eq_true, decide_eq_true_eq, inAt] at hc
      rcases List.mem_cons.1 hx with rfl | hx
      · exact ⟨hc.2, 0, p.1, p.2, by omega, by simp, hc.1⟩
      · exact step hx
    · exact step hx
theorem ins_of {ns : List (Nat × Nat)} {x : Nat} (h : x ∈ ins ns) : x ≠ 0 ∧ ∃ a b, ns[x]? = some (a, b) ∧ a / 2 = x := by
  obtain ⟨h0, j, a, b, h1, h2, h3⟩ := insFrom_of 0 ns x h
  refine ⟨h0, a, b, ?_, h3⟩
  rw [h1, Nat.zero_add]; exact h2
end Go.Proofs.Ytdmcdhkkbkgnbaa
