/-
  ConeSupport, the math: what is reached and what it leans on; words hang on the inputs that are leant on.
-/
import Derived.Test.YthjaihmjdnijnaaConeWordsM
namespace Go.Proofs.Ythjaihmjdnijnaa
open Go.ChangeShapes Go.WideShapes Go.ChangeAt Go.RowKit
set_option linter.unusedVariables false
set_option linter.unusedSimpArgs false

variable {G : Gr} {x : Nat}
theorem mem_pick {n : Nat} {P : Nat → Bool} {k : Nat} : k ∈ pick n P ↔ k < n ∧ P k = true := by
  unfold pick
  rw [List.mem_filter, List.mem_range]
theorem pick_up (n : Nat) (P : Nat → Bool) : (pick n P).Pairwise (· < ·) := by
  unfold pick
  exact List.Pairwise.sublist List.filter_sublist List.pairwise_lt_range
/-- what the law asks about reach and support of one literal -/
structure SupOk (G : Gr) (x : Nat) (R S : List Nat) : Prop where
  rlen : R.length ≤ G.nodes.length
  up : R.Pairwise (· < ·)
  pos : ∀ n ∈ R, n ≠ 0 ∧ n < G.nodes.length
  top : x / 2 ≠ 0 → x / 2 ∈ R
  down : ∀ n ∈ R, gAt G.nodes n = true → (gA G.nodes n / 2 ≠ 0 → gA G.nodes n / 2 ∈ R) ∧ (gB G.nodes n / 2 ≠ 0 → gB G.nodes n / 2 ∈ R)
  why : ∀ m ∈ R, x / 2 = m ∨ ∃ n ∈ R, m < n ∧ gAt G.nodes n = true ∧ (gA G.nodes n / 2 = m ∨ gB G.nodes n / 2 = m)
  leans : ∀ n ∈ ins G.nodes, (n ∈ S ↔ n ∈ R)
  sub : ∀ n ∈ S, n < G.nodes.length
theorem ins_free {ns : List (Nat × Nat)} {n : Nat} (h : n ∈ ins ns) : gAt ns n = false := by
  have key : ∀ (l : List (Nat × Nat)) (i : Nat), n ∈ insFrom i l → ∃ j p, l[j]? = some p ∧ n = i + j ∧ p.1 / 2 = i + j := by
    intro l
    induction l with
    | nil => intro i h; simp [insFrom] at h
    | cons q l ih =>
      intro i h
      unfold insFrom at h
      split at h
      · rename_i hq
        rcases List.mem_cons.1 h with h | h
        · refine ⟨0, q, by simp, by simpa using h, ?_⟩
          simp [inAt] at hq
          omega
        · obtain ⟨j, p, h1, h2, h3⟩ := ih (i + 1) h
          exact ⟨j + 1, p, by simpa using h1, by omega, by omega⟩
      · obtain ⟨j, p, h1, h2, h3⟩ := ih (i + 1) h
        exact ⟨j + 1, p, by simpa using h1, by omega, by omega⟩
  obtain ⟨j, p, h1, h2, h3⟩ := key ns 0 h
  unfold gAt
  rw [decide_eq_false_iff_not, h2, List.getD_eq_getElem?_getD, Nat.zero_add, h1]
  simp
  omega
theorem sup_ok (hw : WF G.nodes) (hx : G.ok x) : SupOk G x (reachL G.nodes [x]) (supportL G.nodes [x]) := by
  have hM := marks_ok hw (l := [x]) (by simp; exact hx)
  have mR : ∀ n, n ∈ reachL G.nodes [x] ↔ n < G.nodes.length ∧ (marksL G.nodes [x]).getD n false = true := fun n => mem_pick
  have lt : ∀ n, (marksL G.nodes [x]).getD n false = true → n < G.nodes.length := fun n h => (hM.why n h).2.1
  refine ⟨pick_length _ _, pick_up _ _, fun n h => ?_, fun h => ?_, fun n h hg => ?_, fun m h => ?_, fun n h => ?_, fun n h => (mem_pick.1 h).1⟩
  · have := (mR n).1 h
    exact ⟨(hM.why n this.2).1, this.1⟩
  · have := hM.has x (by simp) h
    exact (mR _).2 ⟨lt _ this, this⟩
  · have := hM.down n hg ((mR n).1 h).2
    exact ⟨fun h0 => (mR _).2 ⟨lt _ (this.1 h0), this.1 h0⟩, fun h0 => (mR _).2 ⟨lt _ (this.2 h0), this.2 h0⟩⟩
  · rcases (hM.why m ((mR m).1 h).2).2.2 with ⟨y, hy, h1⟩ | ⟨n, h1, h2, h3, h4⟩
    · simp at hy
      subst hy
      exact .inl h1
    · exact .inr ⟨n, (mR n).2 ⟨lt _ h3, h3⟩, h1, h2, h4⟩
  · rw [mR]
    unfold supportL
    rw [mem_pick, ins_free h]
    simp
/-- words hang on the inputs that are reached -/
theorem lw_leans {R S ws ds : List Nat} (hw : WF G.nodes) (hx : G.ok x) (h : SupOk G x R S) (hws : Words ws) (hds : Words ds) (hsame : ∀ i, i < (ins G.nodes).length → (ins G.nodes).getD i 0 ∈ R → ws.getD i 0 = ds.getD i 0) : lw ws G x = lw ds G x := by
  have key : ∀ n j, j < n → (j = 0 ∨ j ∈ R) → lw ws G (2 * j) = lw ds G (2 * j) := by
    intro n
    induction n with
    | zero => intro j hj; omega
    | succ n ih =>
      intro j hj hR
      rcases hR with rfl | hR
      · rw [show 2 * 0 = 0 from rfl, lw_zero, lw_zero]
      · obtain ⟨h0, hl⟩ := h.pos j hR
        cases hg : gAt G.nodes j with
        | false =>
          have hn := not_gate (by omega) hl hg
          have hnode := node_at hl
          have hm : j ∈ ins G.nodes := by
            have := insFrom_mem 0 G.nodes j _ hnode (by rw [Nat.zero_add]; exact hn) (by omega)
            rw [Nat.zero_add] at this
            exact this
          obtain ⟨i, hi, hij⟩ := List.getElem_of_mem hm
          have hd : (ins G.nodes).getD i 0 = j := by rw [List.getD_eq_getElem?_getD, List.getElem?_eq_getElem hi]; exact hij
          rw [← hd, in_lw hw hi, in_lw hw hi]
          exact hsame i hi (by rw [hd]; exact hR)
        | true =>
          obtain ⟨ha, hb, _⟩ := gAt_lt hw hg
          obtain ⟨da, db⟩ := h.down j hR hg
          rw [gate_lw hw hg, gate_lw hw hg, lw_half hws (gA G.nodes j), lw_half hds (gA G.nodes j), lw_half hws (gB G.nodes j), lw_half hds (gB G.nodes j)]
          rw [ih (gA G.nodes j / 2) (by omega) (by by_cases e : gA G.nodes j / 2 = 0; exact .inl e; exact .inr (da e)), ih (gB G.nodes j / 2) (by omega) (by by_cases e : gB G.nodes j / 2 = 0; exact .inl e; exact .inr (db e))]
  rw [lw_half hws x, lw_half hds x, key (x / 2 + 1) (x / 2) (by omega) (by by_cases e : x / 2 = 0; exact .inl e; exact .inr (h.top e))]
/-- a set of numbers as a map -/
noncomputable def setF (l : List Nat) : Value → Option Value := fun v => @ite _ (∃ n ∈ l, v = .int .i64 ((n : Nat) : Int)) (Classical.propDecidable _) (some (.int .i64 1)) none
theorem setF_nil : setF [] = fun _ => none := by
  funext v
  simp [setF]
theorem setF_get (l : List Nat) (n : Nat) : setF l (.int .i64 (n : Int)) = if n ∈ l then some (.int .i64 1) else none := by
  unfold setF
  by_cases h : n ∈ l
  · rw [if_pos h, if_pos ⟨n, h, rfl⟩]
  · rw [if_neg h, if_neg]
    rintro ⟨k, hk, e⟩
    injection e with _ e
    have : n = k := by omega
    exact h (this ▸ hk)
theorem setF_upd (l : List Nat) (n : Nat) : upd (setF l) (.int .i64 (n : Int)) (.int .i64 1) = setF (l ++ [n]) := by
  funext v
  unfold upd setF
  by_cases h : v = .int .i64 (n : Int)
  · rw [if_pos h, if_pos ⟨n, by simp, h⟩]
  · rw [if_neg h]
    by_cases h2 : ∃ k ∈ l, v = .int .i64 ((k : Nat) : Int)
    · obtain ⟨k, hk, e⟩ := h2
      rw [if_pos ⟨k, hk, e⟩, if_pos ⟨k, by simp [hk], e⟩]
    · rw [if_neg h2, if_neg]
      rintro ⟨k, hk, e⟩
      rcases List.mem_append.1 hk with hk | hk
      · exact h2 ⟨k, hk, e⟩
      · rw [List.mem_singleton] at hk
        exact h (hk ▸ e)
theorem setF_val (l : List Nat) (n : Nat) : ((setF l (.int .i64 (n : Int))).getD (.int .i64 0)) = .int .i64 (if n ∈ l then 1 else 0) := by
  rw [setF_get]
  by_cases h : n ∈ l <;> simp [h]
theorem setF_same {l m : List Nat} (h : ∀ n, n ∈ l ↔ n ∈ m) : setF l = setF m := by
  funext v
  unfold setF
  congr 1
  apply propext
  constructor <;> rintro ⟨n, hn, e⟩
  · exact ⟨n, (h n).1 hn, e⟩
  · exact ⟨n, (h n).2 hn, e⟩
end Go.Proofs.Ythjaihmjdnijnaa
