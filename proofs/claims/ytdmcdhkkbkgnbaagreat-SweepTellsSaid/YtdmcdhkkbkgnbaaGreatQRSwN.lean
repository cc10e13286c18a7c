/-
  The document's way to the needed registers, plain.
-/
import Derived.Test.YtdmcdhkkbkgnbaaGreatP08
namespace Go.Proofs.YtdmcdhkkbkgnbaaGreat
set_option linter.unusedVariables false
set_option linter.unusedSimpArgs false

variable {N : Nt} {k : Nat}
/-- a register is needed just if what goes out leans on it -/
theorem need_iff_of (hf : NtFine k N) {nd : List Bool} (h : NeedOk N nd []) {j : Nat} (hj : j < N.regs.length) : nd.getD j false = true ↔ Nd N ((N.regs.getD j ⟨0, 0, 0, false⟩).q / 2) := by
  have hz : ∀ j, j < N.regs.length → (N.regs.getD j ⟨0, 0, 0, false⟩).q / 2 ≠ 0 := fun j hj => ((regs_apart hf).1 _ (getD_regs hj)).1
  constructor
  · exact h.snd j
  · intro hn
    have key : ∀ n, Nd N n → n = 0 ∨ ∃ x, (x ∈ outsN N ∨ ∃ j, j < N.regs.length ∧ nd.getD j false = true ∧ (x = (N.regs.getD j ⟨0, 0, 0, false⟩).d ∨ x = (N.regs.getD j ⟨0, 0, 0, false⟩).en)) ∧ Cn N.g.nodes (x / 2) n := by
      intro n hn
      have reg : ∀ r ∈ N.regs, (r.q / 2 = 0 ∨ ∃ x, (x ∈ outsN N ∨ ∃ j, j < N.regs.length ∧ nd.getD j false = true ∧ (x = (N.regs.getD j ⟨0, 0, 0, false⟩).d ∨ x = (N.regs.getD j ⟨0, 0, 0, false⟩).en)) ∧ Cn N.g.nodes (x / 2) (r.q / 2)) → ∃ j, j < N.regs.length ∧ nd.getD j false = true ∧ N.regs.getD j ⟨0, 0, 0, false⟩ = r := by
        intro r hr hh
        obtain ⟨j, hj, rfl⟩ := List.getElem_of_mem hr
        have e : N.regs.getD j ⟨0, 0, 0, false⟩ = N.regs[j] := by rw [List.getD_eq_getElem?_getD, List.getElem?_eq_getElem hj]; rfl
        rcases hh with h0 | ⟨x, hx, hc⟩
        · exact absurd h0 (by rw [← e]; exact hz j hj)
        · rcases h.cls x hx with h1 | h1
          · simp at h1
          · exact ⟨j, hj, h1 j hj (by rw [e]; exact hc), e⟩
      induction hn with
      | @out x hx => exact .inr ⟨x, .inl hx, .self⟩
      | @ga n hn hg ih =>
        rcases ih with h0 | ⟨x, hx, hc⟩
        · subst h0; simp [gAt] at hg
        · exact .inr ⟨x, hx, .ga hc hg⟩
      | @gb n hn hg ih =>
        rcases ih with h0 | ⟨x, hx, hc⟩
        · subst h0; simp [gAt] at hg
        · exact .inr ⟨x, hx, .gb hc hg⟩
      | @rd r hr hn ih =>
        obtain ⟨j, j1, j2, rfl⟩ := reg r hr ih
        exact .inr ⟨_, .inr ⟨j, j1, j2, .inl rfl⟩, .self⟩
      | @re r hr hn ih =>
        obtain ⟨j, j1, j2, rfl⟩ := reg r hr ih
        exact .inr ⟨_, .inr ⟨j, j1, j2, .inr rfl⟩, .self⟩
    rcases key _ hn with h0 | ⟨x, hx, hc⟩
    · exact absurd h0 (hz j hj)
    · rcases h.cls x hx with h1 | h1
      · simp at h1
      · exact h1 j hj hc

theorem ext_getB {l m : List Bool} (hl : l.length = m.length) (h : ∀ j, l.getD j false = m.getD j false) : l = m := by
  apply List.ext_getElem hl
  intro i h1 h2
  have := h i
  simpa [List.getD_eq_getElem?_getD, List.getElem?_eq_getElem h1, List.getElem?_eq_getElem h2] using this
theorem need_eq_of (hf : NtFine k N) {nd : List Bool} (h : NeedOk N nd []) : nd = neededN N := by
  apply ext_getB (by rw [h.len, needed_length hf])
  intro j
  by_cases hj : j < N.regs.length
  · rw [Bool.eq_iff_iff, need_iff_of hf h hj, needed_iff hf hj]
  · rw [getB_out (by rw [h.len]; omega), getB_out (by rw [needed_length hf]; omega)]
/-- what is known between two of the document's looks -/
structure DocOk (N : Nt) (nd : List Bool) (todo : List Nat) : Prop where
  len : nd.length = N.regs.length
  snd : ∀ j, nd.getD j false = true → Nd N ((N.regs.getD j ⟨0, 0, 0, false⟩).q / 2)
  std : ∀ x ∈ todo, Nd N (x / 2) ∧ N.g.ok x
  has : ∀ x, (x ∈ outsN N ∨ ∃ j, j < N.regs.length ∧ nd.getD j false = true ∧ (x = (N.regs.getD j ⟨0, 0, 0, false⟩).d ∨ x = (N.regs.getD j ⟨0, 0, 0, false⟩).en)) → x ∈ todo
  size : todo.length + 2 * falses nd = (outsN N).length + 2 * N.regs.length
theorem doc_start (hf : NtFine k N) : DocOk N (List.replicate N.regs.length false) (outsN N) := by
  have e : ∀ j, (List.replicate N.regs.length false).getD j false = false := fun j => by
    rw [List.getD_eq_getElem?_getD, List.getElem?_replicate]
    split <;> rfl
  refine ⟨by simp, fun j hj => (by rw [e] at hj; cases hj), fun x hx => ⟨.out hx, outs_ok hf x hx⟩, fun x hx => ?_, by rw [falses_new]⟩
  rcases hx with hx | ⟨j, _, hj, _⟩
  · exact hx
  · rw [e] at hj; cases hj
theorem DocOk.put (hf : NtFine k N) {nd : List Bool} {todo : List Nat} (h : DocOk N nd todo) {i : Nat} (hi : i < N.regs.length) (h0 : nd.getD i false = false) (hs : (N.regs.getD i ⟨0, 0, 0, false⟩).q / 2 ∈ supportL N.g.nodes todo) :
    DocOk N (nd.set i true) (todo ++ [(N.regs.getD i ⟨0, 0, 0, false⟩).d, (N.regs.getD i ⟨0, 0, 0, false⟩).en]) := by
  have hw := hf.ok.wf
  have hn : Nd N ((N.regs.getD i ⟨0, 0, 0, false⟩).q / 2) := by
    obtain ⟨_, _, x, hx, hc⟩ := (sup_cn hw (fun x hx => (h.std x hx).2) _).1 hs
    exact (h.std x hx).1.cn hc
  have hr := getD_regs hi
  have hrl := hf.ok.rl _ hr
  have hil : i < nd.length := by rw [h.len]; exact hi
  refine ⟨by rw [List.length_set]; exact h.len, fun j hj => ?_, fun x hx => ?_, fun x hx => ?_, ?_⟩
  · rw [getBs hil] at hj
    split at hj
    · subst j; exact hn
    · exact h.snd j hj
  · rcases List.mem_append.1 hx with hx | hx
    · exact h.std x hx
    · simp only [List.mem_cons, List.not_mem_nil, or_false] at hx
      rcases hx with rfl | rfl
      · exact ⟨.rd hr hn, hrl.2.1⟩
      · exact ⟨.re hr hn, hrl.2.2⟩
  · rcases hx with hx | ⟨j, hj, hnj, hx⟩
    · exact List.mem_append_left _ (h.has x (.inl hx))
    · rw [getBs hil] at hnj
      split at hnj
      · subst j
        exact List.mem_append_right _ (by simp only [List.mem_cons, List.not_mem_nil, or_false]; exact hx)
      · exact List.mem_append_left _ (h.has x (.inr ⟨j, hj, hnj, hx⟩))
  · have h1 := falses_set hil h0
    have h2 := h.size
    rw [List.length_append]
    simp only [List.length_cons, List.length_nil]
    omega
theorem doc_end (hf : NtFine k N) {nd : List Bool} {todo : List Nat} (h : DocOk N nd todo) (hc : ∀ j, j < N.regs.length → (N.regs.getD j ⟨0, 0, 0, false⟩).q / 2 ∈ supportL N.g.nodes todo → nd.getD j false = true) : nd = neededN N := by
  apply need_eq_of hf
  refine ⟨h.len, h.snd, by simp, fun x hx => .inr fun j hj hcn => hc j hj ?_⟩
  have hq := (regs_apart hf).1 _ (getD_regs hj)
  exact (sup_cn hf.ok.wf (fun x hx => (h.std x hx).2) _).2 ⟨hq.1, hq.2.1, x, h.has x hx, hcn⟩
theorem sup_more (hf : NtFine k N) {l m : List Nat} (hl : ∀ x ∈ l, N.g.ok x) (hm : ∀ x ∈ m, N.g.ok x) (h : ∀ x ∈ l, x ∈ m) : ∀ x ∈ supportL N.g.nodes l, x ∈ supportL N.g.nodes m := fun x hx => by
  obtain ⟨h1, h2, y, hy, hc⟩ := (sup_cn hf.ok.wf hl x).1 hx
  exact (sup_cn hf.ok.wf hm x).2 ⟨h1, h2, y, h y hy, hc⟩
end Go.Proofs.YtdmcdhkkbkgnbaaGreat
