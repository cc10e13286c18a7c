/-
  Law SimSolves, plain: each node's word is what its gate says; driven ones have what was handed in; registers take what they take.
-/
import Derived.Test.YtielfgngdhcpfaaGreatP44
namespace Go.Proofs.YtielfgngdhcpfaaGreat
set_option linter.unusedVariables false

theorem insFrom_of (i : Nat) (l : List (Nat × Nat)) : ∀ x ∈ insFrom i l, x ≠ 0 ∧ ∃ j a b, x = i + j ∧ l[j]? = some (a, b) ∧ a / 2 = x := by
  induction l generalizing i with
  | nil => intro x hx; simp [insFrom] at hx
  | cons p l ih =>
    intro x hx
    have step : x ∈ insFrom (i + 1) l → x ≠ 0 ∧ ∃ j a b, x = i + j ∧ (p :: l)[j]? = some (a, b) ∧ a / 2 = x := fun h => by
      obtain ⟨h0, j, a, b, h1, h2, h3⟩ := ih (i + 1) x h
      exact ⟨h0, j + 1, a, b, by omega, by simpa using h2, h3⟩
    simp only [insFrom] at hx
    split at hx
    · rename_i hc
      simp only [Bool.and_eq_true, decide_eq_true_eq, inAt] at hc
      rcases List.mem_cons.1 hx with rfl | hx
      · exact ⟨hc.2, 0, p.1, p.2, by omega, by simp, hc.1⟩
      · exact step hx
    · exact step hx
theorem ins_of {ns : List (Nat × Nat)} {x : Nat} (h : x ∈ ins ns) : x ≠ 0 ∧ ∃ a b, ns[x]? = some (a, b) ∧ a / 2 = x := by
  obtain ⟨h0, j, a, b, h1, h2, h3⟩ := insFrom_of 0 ns x h
  refine ⟨h0, a, b, ?_, h3⟩
  rw [h1, Nat.zero_add]; exact h2
theorem find_key {ps : List (Nat × Nat)} (hn : (ps.map (·.1)).Nodup) {t x v : Nat} (h : ps[t]? = some (x, v)) : ps.find? (fun p => decide (p.1 = x)) = some (x, v) := by
  induction ps generalizing t with
  | nil => simp at h
  | cons p ps ih =>
    simp only [List.map_cons, List.nodup_cons] at hn
    cases t with
    | zero =>
      simp at h
      subst h
      simp
    | succ t =>
      have h' : ps[t]? = some (x, v) := by simpa using h
      have hm : x ∈ ps.map (·.1) := List.mem_map.2 ⟨(x, v), List.mem_of_getElem? h', rfl⟩
      have hne : ¬ p.1 = x := fun e => hn.1 (by rw [e]; exact hm)
      rw [List.find?_cons]
      simp only [hne, decide_false]
      exact ih hn.2 h'
/-- a driven literal's word is what was handed in -/
theorem driven_val {N : Nt} {k : Nat} {inp : List (List Nat)} {regs : List Nat} (hfine : NtFine k N) (hf : fitB N.inb inp = true) (hr : regs.length = N.regs.length) {t x v : Nat} (ht : (pairsN N inp regs)[t]? = some (x, v)) :
    wd (wordsN N inp regs) x = v := by
  have hfst := pairsN_fst (regs := regs) hf hr
  have hx : (drivenN N)[t]? = some x := by rw [← hfst]; simp [ht]
  obtain ⟨i, hi, rfl⟩ := hfine.di x (List.mem_of_getElem? hx)
  obtain ⟨h0, a, b, hab, hai⟩ := ins_of hi
  have hw := hfine.ok.wf
  have hat := ins_at hab hai h0
  have hv := in_val (inp := inpN N inp regs) hab hai h0
  unfold wordsN
  rw [evalG_val hw]
  have hin : (inpN N inp regs).getD (ins (N.g.nodes.take i)).length 0 = v := by
    rw [List.getD_eq_getElem?_getD]
    unfold inpN asg
    rw [List.getElem?_map, hat]
    simp only [Option.map_some, Option.getD_some]
    have := find_key (by rw [hfst]; exact hfine.dn) ht
    rw [this]; rfl
  unfold wd nodeW
  have e1 : 2 * i % 2 ≠ 1 := by omega
  have e2 : 2 * i / 2 = i := by omega
  rw [if_neg e1, e2, if_neg h0, List.getD_eq_getElem?_getD, hv, hin]
  rfl
theorem bus_val {N : Nt} {k : Nat} {inp : List (List Nat)} {regs : List Nat} (hfine : NtFine k N) (hf : fitB N.inb inp = true) (hr : regs.length = N.regs.length) {q j : Nat} (hq : q < N.inb.length) (hq' : q < inp.length) (hj : j < N.inb[q].lits.length) (hj' : j < inp[q].length) :
    wd (wordsN N inp regs) N.inb[q].lits[j] = inp[q][j] :=
  driven_val hfine hf hr (pairsN_bus hf (List.getElem?_eq_getElem hq) (List.getElem?_eq_getElem hq') (List.getElem?_eq_getElem hj) (List.getElem?_eq_getElem hj'))
theorem reg_val {N : Nt} {k : Nat} {inp : List (List Nat)} {regs : List Nat} (hfine : NtFine k N) (hf : fitB N.inb inp = true) (hr : regs.length = N.regs.length) {q : Nat} (hq : q < N.regs.length) (hq' : q < regs.length) :
    wd (wordsN N inp regs) N.regs[q].q = regs[q] :=
  driven_val hfine hf hr (pairsN_reg hf (List.getElem?_eq_getElem hq) (List.getElem?_eq_getElem hq'))
theorem next_get {N : Nt} {ws regs : List Nat} {q : Nat} (hq : q < N.regs.length) (hq' : q < regs.length) (h : q < (nextN N ws regs).length) : (nextN N ws regs)[q] = nextR ws N.regs[q] regs[q] := by
  simp [nextN]
theorem reset_get {N : Nt} {q : Nat} (hq : q < N.regs.length) (h : q < (resetN N).length) : (resetN N)[q] = if N.regs[q].init then 18446744073709551615 else 0 := by
  simp [resetN]
theorem next_and {d en was : Nat} (hd : d < 18446744073709551616) (he : en < 18446744073709551616) (hw : was < 18446744073709551616) : ((d &&& en) ||| (was &&& noW en)) &&& en = d &&& en := by
  apply Nat.eq_of_testBit_eq; intro i
  rw [Nat.testBit_and, Nat.testBit_or, Nat.testBit_and, Nat.testBit_and, noW_testBit _ _ he]
  by_cases hi : i < 64
  · cases d.testBit i <;> cases en.testBit i <;> cases was.testBit i <;> simp [hi]
  · simp [hi]
theorem next_not {d en was : Nat} (hd : d < 18446744073709551616) (he : en < 18446744073709551616) (hw : was < 18446744073709551616) : ((d &&& en) ||| (was &&& noW en)) &&& noW en = was &&& noW en := by
  apply Nat.eq_of_testBit_eq; intro i
  rw [Nat.testBit_and, Nat.testBit_or, Nat.testBit_and, Nat.testBit_and, noW_testBit _ _ he]
  by_cases hi : i < 64
  · cases d.testBit i <;> cases en.testBit i <;> cases was.testBit i <;> simp [hi]
  · simp [hi]
/-- a gate's word is the and of its literals' words -/
theorem gate_word {g : Gr} (hw : WF g.nodes) (inp : List Nat) {k a b : Nat} (hk : 1 ≤ k) (h : g.nodes[k]? = some (a, b)) (hg : a / 2 ≠ k) : wd (evalG g inp) (2 * k) = wd (evalG g inp) a &&& wd (evalG g inp) b := by
  rw [evalG_val hw]
  have hv := gate_val (inp := inp) hw h hg
  conv => lhs; unfold wd nodeW
  have e1 : 2 * k % 2 ≠ 1 := by omega
  have e2 : 2 * k / 2 = k := by omega
  rw [if_neg e1, e2, if_neg (by omega), List.getD_eq_getElem?_getD, hv]
  rfl
end Go.Proofs.YtielfgngdhcpfaaGreat
