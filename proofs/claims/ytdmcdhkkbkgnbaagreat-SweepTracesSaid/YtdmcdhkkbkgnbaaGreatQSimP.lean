/-
  Package sim, plain: the pairs of literals and words, one after the other.
-/
import Derived.Test.YtdmcdhkkbkgnbaaGreatQSim
namespace Go.Proofs.YtdmcdhkkbkgnbaaGreat
set_option linter.unusedVariables false

/-- how many literals the first k buses have -/
def offB (l : List Bus) (k : Nat) : Nat := ((l.take k).map (·.lits.length)).sum
theorem offB_zero (l : List Bus) : offB l 0 = 0 := rfl
theorem offB_succ {l : List Bus} {k : Nat} {b : Bus} (h : l[k]? = some b) : offB l (k + 1) = offB l k + b.lits.length := by
  unfold offB
  rw [List.take_add_one, h]
  simp
theorem pairsB_cons (b : Bus) (l : List Bus) (r : List Nat) (rows : List (List Nat)) : pairsB (b :: l) (r :: rows) = b.lits.zip r ++ pairsB l rows := by simp [pairsB]
theorem fitB_cons {b : Bus} {l : List Bus} {r : List Nat} {rows : List (List Nat)} (h : fitB (b :: l) (r :: rows) = true) : r.length = b.lits.length ∧ fitB l rows = true := by
  unfold fitB at *
  rw [decide_eq_true_eq] at h
  simp only [List.map_cons, List.cons.injEq] at h
  exact ⟨h.1, by rw [decide_eq_true_eq]; exact h.2⟩
theorem fitB_len {l : List Bus} {rows : List (List Nat)} (h : fitB l rows = true) : rows.length = l.length := by
  unfold fitB at h
  rw [decide_eq_true_eq] at h
  simpa using congrArg List.length h
theorem fitB_at {l : List Bus} {rows : List (List Nat)} (h : fitB l rows = true) {k : Nat} {b : Bus} {r : List Nat} (hb : l[k]? = some b) (hr : rows[k]? = some r) : r.length = b.lits.length := by
  unfold fitB at h
  rw [decide_eq_true_eq] at h
  have := congrArg (fun l => l[k]?) h
  simpa [hb, hr] using this
theorem pairsB_len (l : List Bus) : ∀ rows, fitB l rows = true → (pairsB l rows).length = offB l l.length := by
  induction l with
  | nil => intro rows _; simp [pairsB, offB]
  | cons b l ih =>
    intro rows h
    cases rows with
    | nil => have := fitB_len h; simp at this
    | cons r rows =>
      obtain ⟨h1, h2⟩ := fitB_cons h
      rw [pairsB_cons, List.length_append, ih rows h2]
      simp [offB, h1]
theorem pairsB_at (l : List Bus) : ∀ (rows : List (List Nat)) (k i x v : Nat) (b : Bus) (r : List Nat), fitB l rows = true → l[k]? = some b → rows[k]? = some r → b.lits[i]? = some x → r[i]? = some v → (pairsB l rows)[offB l k + i]? = some (x, v) := by
  induction l with
  | nil => intro rows k i x v b r _ h; simp at h
  | cons b l ih =>
    intro rows k i x v b' r' h hb hr hx hv
    cases rows with
    | nil => have := fitB_len h; simp at this
    | cons r rows =>
      obtain ⟨h1, h2⟩ := fitB_cons h
      rw [pairsB_cons]
      have hz : (b.lits.zip r).length = b.lits.length := by rw [List.length_zip]; omega
      cases k with
      | zero =>
        simp at hb hr
        subst hb hr
        have hi := (List.getElem?_eq_some_iff.1 hx).1
        rw [offB_zero, Nat.zero_add, List.getElem?_append_left (by omega), List.getElem?_zip_eq_some]
        exact ⟨hx, hv⟩
      | succ k =>
        have e : offB (b :: l) (k + 1) + i = b.lits.length + (offB l k + i) := by unfold offB; simp; omega
        rw [e, List.getElem?_append_right (by omega), hz, Nat.add_sub_cancel_left]
        exact ih rows k i x v b' r' h2 (by simpa using hb) (by simpa using hr) hx hv
theorem pairsN_bus {N : Nt} {inp : List (List Nat)} {regs : List Nat} (hf : fitB N.inb inp = true) {k i x v : Nat} {b : Bus} {r : List Nat} (hb : N.inb[k]? = some b) (hr : inp[k]? = some r) (hx : b.lits[i]? = some x) (hv : r[i]? = some v) :
    (pairsN N inp regs)[offB N.inb k + i]? = some (x, v) := by
  have h := pairsB_at N.inb inp k i x v b r hf hb hr hx hv
  unfold pairsN
  rw [List.getElem?_append_left (List.getElem?_eq_some_iff.1 h).1]
  exact h
theorem pairsN_reg {N : Nt} {inp : List (List Nat)} {regs : List Nat} (hf : fitB N.inb inp = true) {k v : Nat} {r : Rg} (hr : N.regs[k]? = some r) (hv : regs[k]? = some v) :
    (pairsN N inp regs)[offB N.inb N.inb.length + k]? = some (r.q, v) := by
  unfold pairsN
  rw [List.getElem?_append_right (by rw [pairsB_len N.inb inp hf]; omega), pairsB_len N.inb inp hf, Nat.add_sub_cancel_left, List.getElem?_zip_eq_some]
  exact ⟨by simp [hr], hv⟩
theorem pairsN_len {N : Nt} {inp : List (List Nat)} {regs : List Nat} (hf : fitB N.inb inp = true) (hr : regs.length = N.regs.length) : (pairsN N inp regs).length = offB N.inb N.inb.length + N.regs.length := by
  unfold pairsN
  rw [List.length_append, pairsB_len N.inb inp hf, List.length_zip]
  simp [hr]
theorem pairsB_fst (l : List Bus) : ∀ rows, fitB l rows = true → (pairsB l rows).map (·.1) = l.flatMap (·.lits) := by
  induction l with
  | nil => intro rows _; simp [pairsB]
  | cons b l ih =>
    intro rows h
    cases rows with
    | nil => have := fitB_len h; simp at this
    | cons r rows =>
      obtain ⟨h1, h2⟩ := fitB_cons h
      rw [pairsB_cons, List.map_append, ih rows h2, List.map_fst_zip (by omega)]
      simp
theorem pairsN_fst {N : Nt} {inp : List (List Nat)} {regs : List Nat} (hf : fitB N.inb inp = true) (hr : regs.length = N.regs.length) : (pairsN N inp regs).map (·.1) = drivenN N := by
  unfold pairsN drivenN
  rw [List.map_append, pairsB_fst N.inb inp hf, List.map_fst_zip (by simp [hr])]
/-- where a driven literal's word goes -/
theorem asg_at {N : Nt} {k : Nat} {inp : List (List Nat)} {regs : List Nat} (hfine : NtFine k N) (hk7 : k ≤ 700) (hf : fitB N.inb inp = true) (hr : regs.length = N.regs.length) {t x v : Nat} (ht : (pairsN N inp regs)[t]? = some (x, v)) :
    ∃ j, (ins N.g.nodes)[j]? = some (x / 2) ∧ x < 4294967296 ∧ x / 2 < N.g.nodes.length ∧ asg (ins N.g.nodes) ((pairsN N inp regs).take (t + 1)) = (asg (ins N.g.nodes) ((pairsN N inp regs).take t)).set j v := by
  have hfst := pairsN_fst (regs := regs) hf hr
  have hx : (drivenN N)[t]? = some x := by rw [← hfst]; simp [ht]
  have hxm : x ∈ drivenN N := List.mem_of_getElem? hx
  obtain ⟨i, hi, rfl⟩ := hfine.di x hxm
  obtain ⟨j, hj⟩ := List.getElem?_of_mem hi
  have hil := ins_lt N.g.nodes i hi
  have e : 2 * i / 2 = i := by omega
  refine ⟨j, by rw [e]; exact hj, ?_, by omega, ?_⟩
  · have := hfine.ok.len; omega
  · rw [List.take_add_one, ht]
    have hno : ∀ p ∈ (pairsN N inp regs).take t, p.1 ≠ 2 * i := by
      intro p hp hpe
      obtain ⟨t', ht'⟩ := List.getElem?_of_mem hp
      rw [List.getElem?_take] at ht'
      split at ht'
      · have h1 : (drivenN N)[t']? = some (2 * i) := by rw [← hfst]; simp [ht', hpe]
        have h2 := List.nodup_iff_pairwise_ne.1 hfine.dn
        obtain ⟨l1, g1⟩ := List.getElem?_eq_some_iff.1 h1
        obtain ⟨l2, g2⟩ := List.getElem?_eq_some_iff.1 hx
        exact List.pairwise_iff_getElem.1 h2 t' t l1 l2 (by omega) (g1.trans g2.symm)
      · cases ht'
    exact asg_snoc (ins_nodup _) hj hno
end Go.Proofs.YtdmcdhkkbkgnbaaGreat
