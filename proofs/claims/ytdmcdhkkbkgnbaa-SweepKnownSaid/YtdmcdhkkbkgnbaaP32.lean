/-
  Package sweep, plain: sweeping again and again comes to an end.
-/
import Derived.Test.YtdmcdhkkbkgnbaaP31
namespace Go.Proofs.Ytdmcdhkkbkgnbaa
set_option linter.unusedVariables false
set_option linter.unusedSimpArgs false

variable {N M : Nt} {k : Nat}
theorem leant_ok (hf : NtFine k N) : ∀ x ∈ leantN N, N.g.ok x := fun x hx => by
  unfold leantN at hx
  rcases List.mem_append.1 hx with hx | hx
  · exact outs_ok hf x hx
  · obtain ⟨r, hr, hx⟩ := List.mem_flatMap.1 hx
    have := hf.ok.rl r hr
    simp only [List.mem_cons, List.not_mem_nil, or_false] at hx
    rcases hx with rfl | rfl
    · exact this.2.1
    · exact this.2.2
theorem wanted_leant : ∀ x ∈ wantedN N, x ∈ leantN N := fun x hx => by
  unfold wantedN at hx
  unfold leantN
  rcases List.mem_append.1 hx with hx | hx
  · exact List.mem_append_left _ hx
  · obtain ⟨r, hr, hx⟩ := List.mem_flatMap.1 hx
    exact List.mem_append_right _ (List.mem_flatMap.2 ⟨r, going_in hr, hx⟩)
theorem pick_le (n : Nat) (P Q : Nat → Bool) (h : ∀ j, j < n → P j = true → Q j = true) : (pick n P).length ≤ (pick n Q).length := by
  induction n with
  | zero => simp [pick]
  | succ n ih =>
    have h1 := ih fun j hj => h j (by omega)
    rw [pick_succ, pick_succ, List.length_append, List.length_append]
    have h2 := h n (by omega)
    cases hp : P n
    · simp; omega
    · rw [h2 hp]; simp; omega
theorem pick_lt {n j : Nat} {P Q : Nat → Bool} (hj : j < n) (hp : P j = false) (hq : Q j = true) (h : ∀ i, i < n → P i = true → Q i = true) : (pick n P).length < (pick n Q).length := by
  induction n with
  | zero => omega
  | succ n ih =>
    rw [pick_succ, pick_succ, List.length_append, List.length_append]
    rcases Nat.lt_or_eq_of_le (Nat.le_of_lt_succ hj) with h1 | h1
    · have h2 := ih h1 fun i hi => h i (by omega)
      have h3 := h n (by omega)
      cases hpn : P n
      · simp; omega
      · rw [h3 hpn]; simp; omega
    · subst h1
      have h2 := pick_le j P Q fun i hi => h i (by omega)
      rw [hp, hq]
      simp
      omega
theorem reached_pick (N : Nt) : reachedN N = (pick N.g.nodes.length (fun j => gAt N.g.nodes j && (marksL N.g.nodes (leantN N)).getD j false)).length := by
  unfold reachedN reachL
  rw [pick_filter]
theorem reached_le (hf : NtFine k N) : reachedN N ≤ gatesX N := by
  rw [reached_pick]
  have h := pick_ins N.g.nodes (marksL N.g.nodes (leantN N)) N.g.nodes.length (Nat.le_refl _)
  rw [List.take_length] at h
  have := hf.ok.wf.pos
  unfold gatesX
  omega
theorem gates_once (hf : NtFine k N) : gatesX (onceN N) ≤ reachedN N := by
  rw [reached_pick]
  refine Nat.le_trans (once_gates hf) (pick_le _ _ _ fun j hj h => ?_)
  rw [Bool.and_eq_true] at h ⊢
  refine ⟨h.1, ?_⟩
  have h1 := (marks_cn hf.ok.wf (wanted_ok hf) j).1 h.2
  obtain ⟨h0, x, hx, hc⟩ := h1
  exact (marks_cn hf.ok.wf (leant_ok hf) j).2 ⟨h0, x, wanted_leant x hx, hc⟩
theorem once_regs (N : Nt) : (onceN N).regs.length = (goingL N).length := newRegs_length _ _ _
theorem size_le (hf : NtFine k N) : sizeN (onceN N) ≤ sizeN N := by
  have h1 := gates_once hf
  have h2 := reached_le hf
  have h3 := goingTo_length N N.regs.length
  unfold sizeN
  rw [once_regs]
  unfold goingL
  omega
/-- all registers go on -/
theorem going_full (h : (goingL N).length = N.regs.length) : ∀ j, j < N.regs.length → goesB N j = true := by
  intro j hj
  apply Classical.byContradiction
  intro hg
  have hg' : goesB N j = false := by simpa using hg
  have key : ∀ m, j < m → m ≤ N.regs.length → (goingTo N m).length < m := by
    intro m
    induction m with
    | zero => intro h; omega
    | succ m ih =>
      intro h1 h2
      simp only [goingTo, List.length_append]
      rcases Nat.lt_or_eq_of_le (Nat.le_of_lt_succ h1) with h3 | h3
      · have := ih h3 (by omega)
        split <;> simp <;> omega
      · subst h3
        have := goingTo_length N j
        rw [hg']
        simp
        omega
  have := key N.regs.length hj (Nat.le_refl _)
  unfold goingL at h
  omega
theorem done_iff (hf : NtFine k N) : doneN N = true ↔ (∀ j, j < N.regs.length → goesB N j = true) ∧ reachedN N = gatesX N := by
  have hl := needed_length hf
  unfold doneN
  rw [Bool.and_eq_true, Bool.and_eq_true, decide_eq_true_eq]
  constructor
  · rintro ⟨⟨h1, h2⟩, h3⟩
    refine ⟨fun j hj => ?_, h3⟩
    unfold goesB
    rw [Bool.and_eq_true]
    constructor
    · cases hb : (neededN N).getD j false with
      | true => rfl
      | false =>
        exfalso
        have hm : false ∈ neededN N := by
          rw [List.getD_eq_getElem?_getD, List.getElem?_eq_getElem (by omega)] at hb
          simp only [Option.getD_some] at hb
          rw [← hb]
          exact List.getElem_mem _
        simp [hm] at h1
    · simp only [Bool.not_eq_true', List.any_eq_false] at h2 ⊢
      have := h2 _ (getD_regs hj)
      simpa using this
  · rintro ⟨h1, h2⟩
    refine ⟨⟨?_, ?_⟩, h2⟩
    · simp only [Bool.not_eq_true']
      apply Classical.byContradiction
      intro hc
      have hm : false ∈ neededN N := by simpa using hc
      obtain ⟨j, hj, he⟩ := List.getElem_of_mem hm
      have h3 := h1 j (by omega)
      unfold goesB at h3
      rw [Bool.and_eq_true, List.getD_eq_getElem?_getD, List.getElem?_eq_getElem hj, he] at h3
      simp at h3
    · simp only [Bool.not_eq_true', List.any_eq_false]
      intro r hr
      obtain ⟨j, hj, rfl⟩ := List.getElem_of_mem hr
      have h3 := h1 j hj
      unfold goesB at h3
      rw [Bool.and_eq_true, List.getD_eq_getElem?_getD (l := N.regs), List.getElem?_eq_getElem hj] at h3
      simpa using h3.2
theorem size_lt (hf : NtFine k N) (h : doneN N = false) : sizeN (onceN N) < sizeN N := by
  have h1 := gates_once hf
  have h2 := reached_le hf
  have h3 := goingTo_length N N.regs.length
  have hr := once_regs N
  unfold sizeN
  apply Classical.byContradiction
  intro hc
  have e1 : (goingL N).length = N.regs.length := by unfold goingL at *; omega
  have e2 : reachedN N = gatesX N := by unfold goingL at *; omega
  have := (done_iff hf).2 ⟨going_full e1, e2⟩
  rw [h] at this
  cases this
theorem allGo_fuel : ∀ (c f1 f2 : Nat) (N : Nt), NtFine k N → sizeN (onceN N) ≤ c → sizeN (onceN N) < f1 → sizeN (onceN N) < f2 → allGo f1 N = allGo f2 N := by
  intro c
  induction c with
  | zero =>
    intro f1 f2 N hf hc h1 h2
    obtain ⟨f1, rfl⟩ : ∃ g, f1 = g + 1 := ⟨f1 - 1, by omega⟩
    obtain ⟨f2, rfl⟩ : ∃ g, f2 = g + 1 := ⟨f2 - 1, by omega⟩
    have hd : doneN (onceN N) = true := by
      cases hh : doneN (onceN N) with
      | true => rfl
      | false => have := size_lt (once_fine hf).1 hh; omega
    simp only [allGo, hd, if_true]
  | succ c ih =>
    intro f1 f2 N hf hc h1 h2
    obtain ⟨f1, rfl⟩ : ∃ g, f1 = g + 1 := ⟨f1 - 1, by omega⟩
    obtain ⟨f2, rfl⟩ : ∃ g, f2 = g + 1 := ⟨f2 - 1, by omega⟩
    cases hh : doneN (onceN N) with
    | true => simp only [allGo, hh, if_true]
    | false =>
      have := size_lt (once_fine hf).1 hh
      simp only [allGo, hh]
      exact ih _ _ _ (once_fine hf).1 (by omega) (by omega) (by omega)
/-- all, step by step -/
def sweptN (N : Nt) : Nt := allGo (sizeN (onceN N) + 1) N
theorem swept_step (hf : NtFine k N) : sweptN N = if doneN (onceN N) then onceN N else sweptN (onceN N) := by
  unfold sweptN
  rw [allGo]
  split
  · rfl
  · rename_i hh
    have := size_lt (once_fine hf).1 (by simpa using hh)
    exact allGo_fuel _ _ _ _ (once_fine hf).1 (Nat.le_refl _) (by omega) (by omega)
/-- what holds of a sweep's outcome, and stays when it is swept, holds at the end -/
theorem swept_ind (hf : NtFine k N) (P : Nt → Prop) (h1 : P (onceN N)) (h2 : ∀ M, NtFine k M → checkN M = 0 → P M → P (onceN M)) : P (sweptN N) ∧ NtFine k (sweptN N) ∧ checkN (sweptN N) = 0 ∧ doneN (sweptN N) = true ∧ ∃ M, NtFine k M ∧ sweptN N = onceN M ∧ (M = N ∨ P M) := by
  have key : ∀ (c : Nat) (N : Nt), NtFine k N → sizeN (onceN N) ≤ c → P (onceN N) → (P (sweptN N) ∧ NtFine k (sweptN N) ∧ checkN (sweptN N) = 0 ∧ doneN (sweptN N) = true ∧ ∃ M, NtFine k M ∧ sweptN N = onceN M ∧ (M = N ∨ P M)) := by
    intro c
    induction c with
    | zero =>
      intro N hf hc hp
      have hd : doneN (onceN N) = true := by
        cases hh : doneN (onceN N) with
        | true => rfl
        | false => have := size_lt (once_fine hf).1 hh; omega
      rw [swept_step hf, if_pos hd]
      exact ⟨hp, (once_fine hf).1, (once_fine hf).2, hd, N, hf, rfl, .inl rfl⟩
    | succ c ih =>
      intro N hf hc hp
      rw [swept_step hf]
      cases hh : doneN (onceN N) with
      | true => rw [if_pos rfl]; exact ⟨hp, (once_fine hf).1, (once_fine hf).2, hh, N, hf, rfl, .inl rfl⟩
      | false =>
        rw [if_neg (by simp)]
        have := size_lt (once_fine hf).1 hh
        obtain ⟨a, b, c1, d, M, m1, m2, m3⟩ := ih (onceN N) (once_fine hf).1 (by omega) (h2 _ (once_fine hf).1 (once_fine hf).2 hp)
        refine ⟨a, b, c1, d, M, m1, m2, .inr ?_⟩
        rcases m3 with rfl | m3
        · exact hp
        · exact m3
  exact key _ N hf (Nat.le_refl _) h1
end Go.Proofs.Ytdmcdhkkbkgnbaa
