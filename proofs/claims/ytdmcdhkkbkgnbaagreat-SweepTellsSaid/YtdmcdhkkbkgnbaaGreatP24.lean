/-
  Package sweep, plain: one sweep.
  What holds of a copy: words, depths, how many gates. Plain.
-/
import Derived.Test.YtdmcdhkkbkgnbaaGreatP19
import Derived.Test.YtdmcdhkkbkgnbaaGreatP08
namespace Go.Proofs.YtdmcdhkkbkgnbaaGreat
set_option linter.unusedVariables false

theorem insFrom_mem (i : Nat) (l : List (Nat × Nat)) (j : Nat) (p : Nat × Nat) (h : l[j]? = some p) (hp : p.1 / 2 = i + j) (h0 : i + j ≠ 0) : i + j ∈ insFrom i l := by
  induction l generalizing i j with
  | nil => simp at h
  | cons q l ih =>
    cases j with
    | zero =>
      simp at h; subst h
      rw [Nat.add_zero] at hp h0 ⊢
      have e : insFrom i (q :: l) = i :: insFrom (i + 1) l := by simp [insFrom, inAt, hp, h0]
      rw [e]; simp
    | succ j =>
      have := ih (i + 1) j (by simpa using h) (by omega) (by omega)
      rw [show i + 1 + j = i + (j + 1) by omega] at this
      simp only [insFrom]
      split
      · exact List.mem_cons_of_mem _ this
      · exact this
theorem byTo_get {n : Nat} {is by_ : List Nat} (hs : is.Pairwise (· < ·)) (hl : ∀ x ∈ is, x < n) {k : Nat} (hk : k ≤ is.length) : ∀ i, i < k → (byTo n is by_ k).getD (is.getD i 0) 0 = by_.getD i 0 := by
  induction k with
  | zero => intro i hi; omega
  | succ k ih =>
    intro i hi
    have hkl : k < is.length := by omega
    have e : ∀ j, (h : j < is.length) → is.getD j 0 = is[j] := fun j h => by rw [List.getD_eq_getElem?_getD, List.getElem?_eq_getElem h]; rfl
    show ((byTo n is by_ k).set (is.getD k 0) (by_.getD k 0)).getD (is.getD i 0) 0 = _
    rw [getN_set (by rw [byTo_length, e k hkl]; exact hl _ (List.getElem_mem _))]
    by_cases hik : i = k
    · subst hik; rw [if_pos rfl]
    · have hlt := List.pairwise_iff_getElem.1 hs i k (by omega) hkl (by omega)
      rw [if_neg (by rw [e i (by omega), e k hkl]; omega)]
      exact ih (by omega) i (by omega)
theorem not_gate {ns : List (Nat × Nat)} {j : Nat} (h1 : 1 ≤ j) (h2 : j < ns.length) (h : gAt ns j = false) : (ns.getD j (0, 0)).1 / 2 = j := by
  unfold gAt at h
  simp only [decide_eq_false_iff_not] at h
  omega
section
variable {P : Gr → Nat → Nat → Prop} {g0 g2 : Gr} {bys l : List Nat}
theorem copy_inv (hw0 : WF g0.nodes) (hw2 : WF g2.nodes) (hb : ∀ x ∈ bys, g0.ok x) (hbl : bys.length = (ins g2.nodes).length) (hl : ∀ x ∈ l, g2.ok x)
    (ext : ∀ c g g' x j, Ext c g g' → g.ok x → P g x j → P g' x j) (zero : P g0 0 0)
    (inp : ∀ i, i < bys.length → P g0 (bys.getD i 0) ((ins g2.nodes).getD i 0))
    (gate : ∀ c g j x y, Ext c g0 g → WF g.nodes → g.ok x → g.ok y → gAt g2.nodes j = true → P g x (gA g2.nodes j / 2) → P g y (gB g2.nodes j / 2) → P (andG g (ifL x (decide (gA g2.nodes j % 2 = 1))) (ifL y (decide (gB g2.nodes j % 2 = 1)))).1 (andG g (ifL x (decide (gA g2.nodes j % 2 = 1))) (ifL y (decide (gB g2.nodes j % 2 = 1)))).2 j) :
    ∀ x ∈ l, P (copyG g0 g2 bys l).1 ((copyG g0 g2 bys l).2.getD (x / 2) 0) (x / 2) := by
  have hp := hw2.pos
  have hM := marks_ok hw2 (l := l) hl
  have s0 := start_ok hw0 hb g2.nodes.length (ins g2.nodes) (ins g2.nodes).length
  unfold copyG
  generalize hMe : marksL g2.nodes l = M at *
  generalize hs0e : (g0, byTo g2.nodes.length (ins g2.nodes) bys (ins g2.nodes).length) = S0 at *
  have base : ∀ j, j < g2.nodes.length → gAt g2.nodes j = false → P S0.1 (S0.2.getD j 0) j := by
    intro j hj hg
    subst hs0e
    by_cases h0 : j = 0
    · subst h0
      show P g0 ((byTo g2.nodes.length (ins g2.nodes) bys (ins g2.nodes).length).getD 0 0) 0
      rw [byTo_zero hp (ins_pos _) (Nat.le_refl _)]
      exact zero
    · have hn := not_gate (by omega) hj hg
      have hget : g2.nodes[j]? = some (g2.nodes.getD j (0, 0)) := by rw [List.getD_eq_getElem?_getD, List.getElem?_eq_getElem hj]; rfl
      have hm := insFrom_mem 0 g2.nodes j _ hget (by omega) (by omega)
      rw [Nat.zero_add] at hm
      obtain ⟨i, hi, he⟩ := List.getElem_of_mem hm
      have hi' : i < (ins g2.nodes).length := hi
      have e : (ins g2.nodes).getD i 0 = j := by rw [List.getD_eq_getElem?_getD, List.getElem?_eq_getElem hi']; exact he
      have hb2 := byTo_get (n := g2.nodes.length) (by_ := bys) (insFrom_sorted 0 g2.nodes) (ins_lt g2.nodes) (Nat.le_refl (ins g2.nodes).length) i hi'
      have h3 := inp i (by omega)
      show P g0 ((byTo g2.nodes.length (ins g2.nodes) bys (ins g2.nodes).length).getD j 0) j
      rw [← e]
      have hb3 : (byTo g2.nodes.length (ins g2.nodes) bys (ins g2.nodes).length).getD ((ins g2.nodes).getD i 0) 0 = bys.getD i 0 := hb2
      rw [hb3]
      exact h3
  have main : ∀ k, k ≤ g2.nodes.length → ∀ j, j < g2.nodes.length → (gAt g2.nodes j = false ∨ (M.getD j false = true ∧ j < k)) → P (copyTo g2.nodes M S0 k).1 ((copyTo g2.nodes M S0 k).2.getD j 0) j := by
    intro k
    induction k with
    | zero =>
      intro _ j hj h
      rcases h with h | h
      · exact base j hj h
      · omega
    | succ k ih =>
      intro hk j hj h
      have IH := ih (by omega)
      have hc := copyTo_ok s0 g2.nodes M k
      show P (copyAt g2.nodes M (copyTo g2.nodes M S0 k) k).1 ((copyAt g2.nodes M (copyTo g2.nodes M S0 k) k).2.getD j 0) j
      have hx : S0.1 = g0 := by rw [← hs0e]
      generalize copyTo g2.nodes M S0 k = s at *
      by_cases hgm : gAt g2.nodes k = true ∧ M.getD k false = true
      · obtain ⟨hg, hm⟩ := hgm
        obtain ⟨ha, hb', _, _⟩ := gAt_lt hw2 hg
        have e : copyAt g2.nodes M s k = ((andG s.1 (overL s.2 (gA g2.nodes k)) (overL s.2 (gB g2.nodes k))).1, s.2.set k (andG s.1 (overL s.2 (gA g2.nodes k)) (overL s.2 (gB g2.nodes k))).2) := by
          unfold copyAt; rw [if_pos (by rw [hg, hm]; rfl)]
        rw [e]
        have s1 := andG_spec hc.wf (overL_ok hc.wf hc.ok (gA g2.nodes k)) (overL_ok hc.wf hc.ok (gB g2.nodes k))
        have okx : ∀ j, s.1.ok (s.2.getD j 0) := fun j => by
          rw [List.getD_eq_getElem?_getD]
          cases hj' : s.2[j]? with
          | none => have := hc.wf.pos; show 0 / 2 < _; simpa using this
          | some v => exact hc.ok v (List.mem_of_getElem? hj')
        show P (andG s.1 _ _).1 ((s.2.set k (andG s.1 (overL s.2 (gA g2.nodes k)) (overL s.2 (gB g2.nodes k))).2).getD j 0) j
        rw [getN_set (by rw [hc.len]; omega)]
        by_cases hjk : j = k
        · subst hjk
          rw [if_pos rfl]
          have cov : ∀ z, z < j → (z ≠ 0 → M.getD z false = true) → P s.1 (s.2.getD z 0) z := fun z hz hc' => by
            apply IH z (by omega)
            by_cases hgz : gAt g2.nodes z = false
            · exact .inl hgz
            · refine .inr ⟨hc' (fun h0 => ?_), hz⟩
              subst h0
              apply hgz; unfold gAt; simp
          obtain ⟨d1, d2⟩ := hM.down j hg hm
          have p1 := cov _ ha d1
          have p2 := cov _ hb' d2
          exact gate _ s.1 j _ _ hc.ext hc.wf (okx _) (okx _) hg p1 p2
        · rw [if_neg hjk]
          refine ext _ _ _ _ _ s1.2.1 (okx j) (IH j hj ?_)
          rcases h with h | h
          · exact .inl h
          · exact .inr ⟨h.1, by omega⟩
      · have e : copyAt g2.nodes M s k = s := by
          unfold copyAt; rw [if_neg (by simpa using hgm)]
        rw [e]
        apply IH j hj
        rcases h with h | h
        · exact .inl h
        · by_cases hjk : j = k
          · subst hjk
            refine .inl ?_
            cases hg : gAt g2.nodes j with
            | false => rfl
            | true => exact absurd ⟨hg, h.1⟩ hgm
          · exact .inr ⟨h.1, by omega⟩
  intro x hx
  have hlt : x / 2 < g2.nodes.length := hl x hx
  apply main _ (Nat.le_refl _) _ hlt
  by_cases hg : gAt g2.nodes (x / 2) = false
  · exact .inl hg
  · refine .inr ⟨hM.has x hx (fun h0 => hg ?_), hlt⟩
    rw [h0]; unfold gAt; simp
end
/-! ### How many gates -/
theorem copyTo_count {ns : List (Nat × Nat)} {M : List Bool} {s0 : Gr × List Nat} (hf : s0.1.fold = false) (hh : s0.1.hash = false) (k : Nat) :
    (copyTo ns M s0 k).1.fold = false ∧ (copyTo ns M s0 k).1.hash = false ∧ (copyTo ns M s0 k).1.nodes.length = s0.1.nodes.length + (pick k (fun j => gAt ns j && M.getD j false)).length := by
  induction k with
  | zero => exact ⟨hf, hh, by simp [copyTo, pick]⟩
  | succ k ih =>
    obtain ⟨h1, h2, h3⟩ := ih
    rw [pick_succ]
    show (copyAt ns M (copyTo ns M s0 k) k).1.fold = false ∧ (copyAt ns M (copyTo ns M s0 k) k).1.hash = false ∧ (copyAt ns M (copyTo ns M s0 k) k).1.nodes.length = _
    generalize copyTo ns M s0 k = s at *
    unfold copyAt
    cases hc : gAt ns k && M.getD k false
    · simp only [Bool.false_eq_true, if_false, List.append_nil]
      exact ⟨h1, h2, h3⟩
    · simp only [if_true, List.length_append, List.length_singleton]
      have e : ∀ x y, andG s.1 x y = gateG s.1 x y := fun x y => by unfold andG; rw [h1, h2]; simp
      rw [e]
      exact ⟨h1, h2, by show (s.1.nodes ++ [_]).length = _; rw [List.length_append, List.length_singleton, h3]; omega⟩
theorem copyTo_most {ns : List (Nat × Nat)} {M : List Bool} {s0 : Gr × List Nat} {c n : Nat} {g0 : Gr} (h0 : CpOk c g0 n s0) (k : Nat) :
    (copyTo ns M s0 k).1.nodes.length ≤ s0.1.nodes.length + (pick k (fun j => gAt ns j && M.getD j false)).length := by
  induction k with
  | zero => simp [copyTo]
  | succ k ih =>
    have hc := copyTo_ok h0 ns M k
    rw [pick_succ]
    show (copyAt ns M (copyTo ns M s0 k) k).1.nodes.length ≤ _
    generalize copyTo ns M s0 k = s at *
    unfold copyAt
    cases hcc : gAt ns k && M.getD k false
    · simp only [Bool.false_eq_true, if_false, List.append_nil]
      exact ih
    · simp only [if_true, List.length_append, List.length_singleton]
      have s1 := andG_spec hc.wf (overL_ok hc.wf hc.ok (gA ns k)) (overL_ok hc.wf hc.ok (gB ns k))
      have := s1.2.1.le
      omega
theorem pick_split (n : Nat) (P Q : Nat → Bool) : (pick n P).length = (pick n (fun j => P j && !Q j)).length + (pick n (fun j => Q j && P j)).length := by
  induction n with
  | zero => rfl
  | succ n ih =>
    simp only [pick_succ, List.length_append, ih]
    cases P n <;> cases Q n <;> simp <;> omega
theorem reach_split (ns : List (Nat × Nat)) (l : List Nat) : (reachL ns l).length = (supportL ns l).length + (pick ns.length (fun j => gAt ns j && (marksL ns l).getD j false)).length :=
  pick_split _ _ _
end Go.Proofs.YtdmcdhkkbkgnbaaGreat

namespace Go.Proofs.YtdmcdhkkbkgnbaaGreat
set_option linter.unusedVariables false
set_option linter.unusedSimpArgs false

variable {N : Nt} {k : Nat}
theorem rowFrom_app (a m n : Nat) : rowFrom a (m + n) = rowFrom a m ++ rowFrom (a + m) n := by
  induction n with
  | zero => simp [rowFrom]
  | succ n ih =>
    rw [← Nat.add_assoc, rowFrom_succ, ih, rowFrom_succ, List.append_assoc]
    congr 2
    simp [Nat.add_assoc]
theorem mem_rowFrom {a n x : Nat} : x ∈ rowFrom a n ↔ ∃ i, a ≤ i ∧ i < a + n ∧ x = 2 * i := by
  unfold rowFrom
  rw [List.mem_map]
  constructor
  · rintro ⟨i, hi, rfl⟩
    have := List.mem_range.1 hi
    exact ⟨a + i, by omega, by omega, rfl⟩
  · rintro ⟨i, h1, h2, rfl⟩
    exact ⟨i - a, List.mem_range.2 (by omega), by omega⟩
def inRows : Nat → List Bus → List Bus
  | _, [] => []
  | a, b :: l => ⟨b.name, rowFrom a b.lits.length⟩ :: inRows (a + b.lits.length) l
def inMany (l : List Bus) : Nat := (l.flatMap (·.lits)).length
theorem inMany_cons (b : Bus) (l : List Bus) : inMany (b :: l) = b.lits.length + inMany l := by simp [inMany]
theorem inMany_app (l m : List Bus) : inMany (l ++ m) = inMany l + inMany m := by simp [inMany]
theorem inRows_flat (a : Nat) (l : List Bus) : (inRows a l).flatMap (·.lits) = rowFrom a (inMany l) := by
  induction l generalizing a with
  | nil => rfl
  | cons b l ih =>
    rw [inMany_cons, rowFrom_app]
    show rowFrom a b.lits.length ++ (inRows (a + b.lits.length) l).flatMap (·.lits) = _
    rw [ih]
theorem inRows_names (a : Nat) (l : List Bus) : (inRows a l).map (·.name) = l.map (·.name) := by
  induction l generalizing a with
  | nil => rfl
  | cons b l ih => show b.name :: (inRows _ l).map (·.name) = _; rw [ih]; rfl
theorem inRows_length (a : Nat) (l : List Bus) : (inRows a l).length = l.length := by
  have := congrArg List.length (inRows_names a l)
  simpa using this
theorem inRows_snoc (a : Nat) (l : List Bus) (b : Bus) : inRows a (l ++ [b]) = inRows a l ++ [⟨b.name, rowFrom (a + inMany l) b.lits.length⟩] := by
  induction l generalizing a with
  | nil => simp [inRows, inMany]
  | cons c l ih =>
    rw [inMany_cons]
    show _ :: inRows _ (l ++ [b]) = _
    rw [ih, Nat.add_assoc]
    rfl
theorem inRows_mem {a : Nat} {l : List Bus} {b : Bus} (h : b ∈ inRows a l) : ∃ b0 ∈ l, b.name = b0.name ∧ b.lits.length = b0.lits.length ∧ ∀ x ∈ b.lits, ∃ i, a ≤ i ∧ i < a + inMany l ∧ x = 2 * i := by
  induction l generalizing a with
  | nil => simp [inRows] at h
  | cons c l ih =>
    rcases List.mem_cons.1 h with rfl | h
    · refine ⟨c, by simp, rfl, by simp [rowFrom_length], fun x hx => ?_⟩
      obtain ⟨i, h1, h2, h3⟩ := mem_rowFrom.1 hx
      exact ⟨i, h1, by rw [inMany_cons]; omega, h3⟩
    · obtain ⟨b0, h1, h2, h3, h4⟩ := ih h
      refine ⟨b0, by simp [h1], h2, h3, fun x hx => ?_⟩
      obtain ⟨i, i1, i2, i3⟩ := h4 x hx
      exact ⟨i, by omega, by rw [inMany_cons]; omega, i3⟩
/-! the registers that go on -/
def rg0 : Rg := ⟨0, 0, 0, false⟩
def goesB (N : Nt) (j : Nat) : Bool := (neededN N).getD j false && !stuckR (N.regs.getD j ⟨0, 0, 0, false⟩)
def goingTo (N : Nt) : Nat → List Rg
  | 0 => []
  | m + 1 => goingTo N m ++ (if goesB N m then [N.regs.getD m ⟨0, 0, 0, false⟩] else [])
def goingL (N : Nt) : List Rg := goingTo N N.regs.length
theorem goingTo_length (N : Nt) (m : Nat) : (goingTo N m).length ≤ m := by
  induction m with
  | zero => simp [goingTo]
  | succ m ih =>
    simp only [goingTo, List.length_append]
    split <;> simp <;> omega
theorem goingTo_mem {m : Nat} {r : Rg} (h : r ∈ goingTo N m) : ∃ j, j < m ∧ goesB N j = true ∧ r = N.regs.getD j ⟨0, 0, 0, false⟩ := by
  induction m with
  | zero => simp [goingTo] at h
  | succ m ih =>
    simp only [goingTo, List.mem_append] at h
    rcases h with h | h
    · obtain ⟨j, h1, h2, h3⟩ := ih h
      exact ⟨j, by omega, h2, h3⟩
    · split at h
      · rename_i hg
        rw [List.mem_singleton] at h
        exact ⟨m, by omega, hg, h⟩
      · simp at h
theorem going_in {r : Rg} (h : r ∈ goingL N) : r ∈ N.regs := by
  obtain ⟨j, h1, _, rfl⟩ := goingTo_mem h
  exact getD_regs h1
theorem goingTo_mono {m n : Nat} (h : m ≤ n) : (goingTo N m).length ≤ (goingTo N n).length := by
  induction n with
  | zero => have : m = 0 := by omega
            subst this; exact Nat.le_refl _
  | succ n ih =>
    rcases Nat.lt_or_eq_of_le h with h1 | h1
    · have := ih (by omega)
      simp only [goingTo, List.length_append]
      omega
    · subst h1; exact Nat.le_refl _
theorem goingTo_lt {m n : Nat} (hg : goesB N m = true) (h : m < n) : (goingTo N m).length < (goingTo N n).length := by
  have h1 := goingTo_mono (N := N) (show m + 1 ≤ n from h)
  have h2 : (goingTo N (m + 1)).length = (goingTo N m).length + 1 := by simp [goingTo, hg]
  omega
/-! what stands for each node -/
def posOf (l : List Nat) (node : Nat) : Option Nat := l.findIdx? fun x => decide (x / 2 = node)
def standR (N : Nt) (j : Nat) : Nat := if goesB N j then 2 * (1 + inMany N.inb + (goingTo N j).length) else firstR (N.regs.getD j ⟨0, 0, 0, false⟩)
def standN (N : Nt) (node : Nat) : Nat :=
  match posOf (N.inb.flatMap (·.lits)) node with
  | some p => 2 * (1 + p)
  | none => match placeR N.regs node with
    | some j => standR N j
    | none => 0
def byN (N : Nt) : List Nat := (ins N.g.nodes).map (standN N)
def wantedN (N : Nt) : List Nat := outsN N ++ (goingL N).flatMap fun r => [r.d, r.en]
def baseG (N : Nt) : Gr := inputsG ⟨N.g.fold, N.g.hash, [(0, 0)]⟩ (inMany N.inb + (goingL N).length)
def copyN (N : Nt) : Gr × List Nat := copyG (baseG N) N.g (byN N) (wantedN N)
def newRegs (s : List Nat) : Nat → List Rg → List Rg
  | _, [] => []
  | a, r :: l => ⟨2 * a, overL s r.d, overL s r.en, r.init⟩ :: newRegs s (a + 1) l
def onceN (N : Nt) : Nt :=
  { name := N.name, g := (copyN N).1, inb := inRows 1 N.inb, regs := newRegs (copyN N).2 (1 + inMany N.inb) (goingL N), outb := N.outb.map fun b => ⟨b.name, b.lits.map (overL (copyN N).2)⟩ }
theorem newRegs_length (s : List Nat) (a : Nat) (l : List Rg) : (newRegs s a l).length = l.length := by
  induction l generalizing a with
  | nil => rfl
  | cons r l ih => simp [newRegs, ih]
theorem newRegs_q (s : List Nat) (a : Nat) (l : List Rg) : (newRegs s a l).map (·.q) = rowFrom a l.length := by
  induction l generalizing a with
  | nil => rfl
  | cons r l ih =>
    rw [List.length_cons, Nat.add_comm, rowFrom_app]
    show 2 * a :: (newRegs s (a + 1) l).map (·.q) = _
    rw [ih]
    rfl
theorem newRegs_get {s : List Nat} {a : Nat} {l : List Rg} {i : Nat} {r : Rg} (h : l[i]? = some r) : (newRegs s a l)[i]? = some ⟨2 * (a + i), overL s r.d, overL s r.en, r.init⟩ := by
  induction l generalizing a i with
  | nil => simp at h
  | cons c l ih =>
    cases i with
    | zero => simp at h; subst h; rfl
    | succ i =>
      have := ih (a := a + 1) (i := i) (by simpa using h)
      show (newRegs s (a + 1) l)[i]? = _
      rw [this, show a + 1 + i = a + (i + 1) by omega]
theorem newRegs_mem {s : List Nat} {a : Nat} {l : List Rg} {x : Rg} (h : x ∈ newRegs s a l) : ∃ i r, l[i]? = some r ∧ x = ⟨2 * (a + i), overL s r.d, overL s r.en, r.init⟩ := by
  obtain ⟨i, hi, rfl⟩ := List.getElem_of_mem h
  rw [newRegs_length] at hi
  refine ⟨i, l[i], List.getElem?_eq_getElem hi, ?_⟩
  have h1 := newRegs_get (s := s) (a := a) (List.getElem?_eq_getElem hi)
  obtain ⟨_, h2⟩ := List.getElem?_eq_some_iff.1 h1
  exact h2
/-! the base graph -/
theorem base_nodes (N : Nt) : (baseG N).nodes = (0, 0) :: (rowFrom 1 (inMany N.inb + (goingL N).length)).map fun x => (x, x) := by
  unfold baseG
  rw [inputsG_nodes]
  rfl
theorem inputsG_opts (g : Gr) (k : Nat) : (inputsG g k).fold = g.fold ∧ (inputsG g k).hash = g.hash := by
  induction k with
  | zero => exact ⟨rfl, rfl⟩
  | succ k ih => exact ih
theorem base0_wf (a b : Bool) : WF ((⟨a, b, [(0, 0)]⟩ : Gr)).nodes := (newN_ok ByteArray.empty a b).wf
theorem base_ins (N : Nt) : ins (baseG N).nodes = (List.range (inMany N.inb + (goingL N).length)).map (1 + ·) := by
  unfold baseG
  rw [inputsG_ins (base0_wf _ _)]
  rfl
theorem base_wf (N : Nt) : WF (baseG N).nodes := inputsG_wf (base0_wf _ _) _
theorem base_length (N : Nt) : (baseG N).nodes.length = 1 + (inMany N.inb + (goingL N).length) := by
  rw [base_nodes, List.length_cons, List.length_map, rowFrom_length]
  omega
theorem standR_ok (N : Nt) {j : Nat} (hj : j < N.regs.length) : (baseG N).ok (standR N j) := by
  unfold Gr.ok standR
  rw [base_length]
  split
  · rename_i hg
    have := goingTo_lt hg hj
    unfold goingL
    omega
  · unfold firstR
    split <;> omega
theorem standN_ok (N : Nt) (node : Nat) : (baseG N).ok (standN N node) := by
  unfold standN
  cases hp : posOf (N.inb.flatMap (·.lits)) node with
  | some p =>
    have hlt : p < inMany N.inb := by
      unfold posOf at hp
      exact (List.findIdx?_eq_some_iff_getElem.1 hp).1
    show 2 * (1 + p) / 2 < _
    rw [base_length]
    omega
  | none =>
    simp only
    cases hr : placeR N.regs node with
    | some j => exact standR_ok N (placeR_lt hr).1
    | none => show 0 / 2 < _; rw [base_length]; omega
theorem byN_ok (N : Nt) : ∀ x ∈ byN N, (baseG N).ok x := fun x hx => by
  obtain ⟨n, _, rfl⟩ := List.mem_map.1 hx
  exact standN_ok N n
theorem copyN_ok (N : Nt) : CpOk N.g.nodes.length (baseG N) N.g.nodes.length (copyN N) := copyG_ok (base_wf N) (byN_ok N)
theorem wanted_ok (hf : NtFine k N) : ∀ x ∈ wantedN N, N.g.ok x := fun x hx => by
  unfold wantedN at hx
  rcases List.mem_append.1 hx with hx | hx
  · exact outs_ok hf x hx
  · obtain ⟨r, hr, hx⟩ := List.mem_flatMap.1 hx
    have := hf.ok.rl r (going_in hr)
    simp only [List.mem_cons, List.not_mem_nil, or_false] at hx
    rcases hx with rfl | rfl
    · exact this.2.1
    · exact this.2.2
/-! how many there are -/
theorem pick_ins (ns : List (Nat × Nat)) (M : List Bool) : ∀ n, n ≤ ns.length → (pick n (fun j => gAt ns j && M.getD j false)).length + (ins (ns.take n)).length + min n 1 ≤ n := by
  intro n
  induction n with
  | zero => intro _; simp [pick, ins, insFrom]
  | succ n ih =>
    intro hn
    have h := ih (by omega)
    have hlt : n < ns.length := by omega
    rw [pick_succ, List.take_succ_eq_append_getElem hlt, ins_snoc, List.length_append, List.length_append, List.length_take, Nat.min_eq_left (show n ≤ ns.length by omega)]
    by_cases h0 : n = 0
    · subst h0
      have : gAt ns 0 = false := by simp [gAt]
      simp [this, pick, ins, insFrom]
    · rw [show min n 1 = 1 by omega] at h
      rw [show min (n + 1) 1 = 1 by omega]
      by_cases hi : ns[n].1 / 2 = n
      · have hg : gAt ns n = false := by
          unfold gAt
          rw [List.getD_eq_getElem?_getD, List.getElem?_eq_getElem hlt]
          simp [hi]
        have hx : (inAt n ns[n] && decide (n ≠ 0)) = true := by simp [inAt, hi, h0]
        rw [hg, hx, Bool.false_and, if_neg (by simp), if_pos rfl, List.length_nil, List.length_singleton]
        omega
      · have hx : (inAt n ns[n] && decide (n ≠ 0)) = false := by simp [inAt, hi]
        rw [hx, if_neg (show ¬ (false = true) by simp), List.length_nil]
        have : (if (gAt ns n && M.getD n false) = true then [n] else []).length ≤ 1 := by split <;> simp
        omega
theorem nodup_le {l m : List Nat} (hn : l.Nodup) (h : ∀ x ∈ l, x ∈ m) : l.length ≤ m.length := by
  induction l generalizing m with
  | nil => simp
  | cons x l ih =>
    have hx := h x (by simp)
    have h1 := List.nodup_cons.1 hn
    have h2 := ih (m := m.erase x) h1.2 (fun y hy => (List.mem_erase_of_ne (fun e => by subst e; exact h1.1 hy)).2 (h y (by simp [hy])))
    rw [List.length_erase_of_mem hx] at h2
    have := List.length_pos_of_mem hx
    rw [List.length_cons]
    omega
theorem driven_le (hf : NtFine k N) : (drivenN N).length ≤ (ins N.g.nodes).length := by
  have h1 : ∀ x ∈ drivenN N, x ∈ (ins N.g.nodes).map (2 * ·) := fun x hx => by
    obtain ⟨i, hi, rfl⟩ := hf.di x hx
    exact List.mem_map.2 ⟨i, hi, rfl⟩
  have := nodup_le hf.dn h1
  simpa using this
theorem once_length (hf : NtFine k N) : (onceN N).g.nodes.length ≤ N.g.nodes.length := by
  have h1 := copyTo_most (start_ok (base_wf N) (byN_ok N) N.g.nodes.length (ins N.g.nodes) (ins N.g.nodes).length) (ns := N.g.nodes) (M := marksL N.g.nodes (wantedN N)) N.g.nodes.length
  have h2 := pick_ins N.g.nodes (marksL N.g.nodes (wantedN N)) N.g.nodes.length (Nat.le_refl _)
  rw [List.take_length] at h2
  have h3 := driven_le hf
  unfold drivenN at h3
  rw [List.length_append, List.length_map] at h3
  have h4 := goingTo_length N N.regs.length
  have h5 := base_length N
  have hp := hf.ok.wf.pos
  show (copyN N).1.nodes.length ≤ _
  unfold copyN copyG
  unfold inMany at h5
  unfold goingL at h5
  simp only at h1
  omega
/-! what a sweep makes is well formed -/
theorem once_ins (N : Nt) : ins (onceN N).g.nodes = (List.range (inMany N.inb + (goingL N).length)).map (1 + ·) := by
  rw [← base_ins]
  exact (copyN_ok N).ext.ins
theorem once_driven (N : Nt) : drivenN (onceN N) = rowFrom 1 (inMany N.inb + (goingL N).length) := by
  unfold drivenN onceN
  show (inRows 1 N.inb).flatMap (·.lits) ++ (newRegs _ _ _).map (·.q) = _
  rw [inRows_flat, newRegs_q, rowFrom_app]
theorem once_mono (N : Nt) : 1 + (inMany N.inb + (goingL N).length) ≤ (onceN N).g.nodes.length := by
  have h := (copyN_ok N).ext.le
  rw [base_length] at h
  exact h.1
theorem over_ok (N : Nt) (x : Nat) : (onceN N).g.ok (overL (copyN N).2 x) := overL_ok (copyN_ok N).wf (copyN_ok N).ok x
theorem once_fine (hf : NtFine k N) : NtFine k (onceN N) ∧ checkN (onceN N) = 0 := by
  have hlen := once_length hf
  have hmono := once_mono N
  have hins := once_ins N
  have hdrv := once_driven N
  have hok := hf.ok
  refine ⟨⟨⟨(copyN_ok N).wf, by have := hok.len; omega, ?_, ?_, ?_, fun b hb => ?_, fun b hb => ?_, fun r hr => ?_⟩, hf.nm, ?_, ?_, ?_, fun x hx => ?_⟩, ?_⟩
  · show (inRows 1 N.inb).length ≤ k
    rw [inRows_length]; exact hok.ik
  · show (newRegs _ _ (goingL N)).length ≤ k
    rw [newRegs_length]
    have h1 := goingTo_length N N.regs.length
    have := hok.rk
    unfold goingL
    omega
  · show (N.outb.map _).length ≤ k
    rw [List.length_map]; exact hok.ok
  · obtain ⟨b0, h1, h2, h3, h4⟩ := inRows_mem hb
    obtain ⟨i1, i2, i3, _⟩ := hok.il b0 h1
    refine ⟨by omega, by omega, by rw [h2]; exact i3, fun x hx => ?_⟩
    obtain ⟨i, j1, j2, rfl⟩ := h4 x hx
    show 2 * i / 2 < _
    omega
  · obtain ⟨b0, h1, rfl⟩ := List.mem_map.1 hb
    obtain ⟨i1, i2, i3, _⟩ := hok.ol b0 h1
    refine ⟨by simpa using i1, by simpa using i2, i3, fun x hx => ?_⟩
    obtain ⟨y, _, rfl⟩ := List.mem_map.1 hx
    exact over_ok N y
  · obtain ⟨i, r0, h1, rfl⟩ := newRegs_mem hr
    have hi := (List.getElem?_eq_some_iff.1 h1).1
    refine ⟨?_, over_ok N _, over_ok N _⟩
    show 2 * (1 + inMany N.inb + i) / 2 < _
    omega
  · show ((inRows 1 N.inb).map (·.name)).Pairwise (· ≠ ·)
    rw [inRows_names]; exact hf.ni
  · show ((N.outb.map fun b => (⟨b.name, b.lits.map (overL (copyN N).2)⟩ : Bus)).map fun b => b.name).Pairwise (· ≠ ·)
    rw [List.map_map]; exact hf.no
  · rw [hdrv]; exact rowFrom_nodup _ _
  · rw [hdrv] at hx
    obtain ⟨i, h1, h2, rfl⟩ := mem_rowFrom.1 hx
    refine ⟨i, ?_, rfl⟩
    rw [hins]
    exact List.mem_map.2 ⟨i - 1, List.mem_range.2 (by omega), by omega⟩
  · unfold checkN
    rw [if_pos]
    unfold fullB
    rw [List.all_eq_true, hins]
    intro i hi
    obtain ⟨j, hj, rfl⟩ := List.mem_map.1 hi
    have := List.mem_range.1 hj
    rw [hdrv]
    simp only [List.contains_iff_mem]
    exact mem_rowFrom.2 ⟨1 + j, by omega, by omega, rfl⟩
/-! again and again -/
def leantN (N : Nt) : List Nat := outsN N ++ N.regs.flatMap fun r => [r.d, r.en]
def reachedN (N : Nt) : Nat := ((reachL N.g.nodes (leantN N)).filter (gAt N.g.nodes)).length
def gatesX (N : Nt) : Nat := N.g.nodes.length - 1 - (ins N.g.nodes).length
def doneN (N : Nt) : Bool := !(neededN N).contains false && !N.regs.any stuckR && decide (reachedN N = gatesX N)
def allGo : Nat → Nt → Nt
  | 0, N => N
  | f + 1, N => if doneN (onceN N) then onceN N else allGo f (onceN N)
/-- registers and gates -/
def sizeN (N : Nt) : Nat := N.regs.length + gatesX N
def allN (N : Nt) : Nt := allGo (sizeN N + 2) N
theorem going_all {N : Nt} (h : ∀ j, j < N.regs.length → goesB N j = true) : ∀ m, m ≤ N.regs.length → goingTo N m = N.regs.take m := by
  intro m
  induction m with
  | zero => intro _; rfl
  | succ m ih =>
    intro hm
    simp only [goingTo]
    rw [ih (by omega), if_pos (h m hm), List.take_succ_eq_append_getElem (show m < N.regs.length from hm), List.getD_eq_getElem?_getD, List.getElem?_eq_getElem (show m < N.regs.length from hm)]
    rfl
theorem pick_filter (n : Nat) (P Q : Nat → Bool) : (pick n P).filter Q = pick n (fun j => Q j && P j) := by
  unfold pick
  rw [List.filter_filter]
/-- gates of what is made: no more than were leant on -/
theorem once_gates (hf : NtFine k N) : gatesX (onceN N) ≤ (pick N.g.nodes.length (fun j => gAt N.g.nodes j && (marksL N.g.nodes (wantedN N)).getD j false)).length := by
  have h1 := copyTo_most (start_ok (base_wf N) (byN_ok N) N.g.nodes.length (ins N.g.nodes) (ins N.g.nodes).length) (ns := N.g.nodes) (M := marksL N.g.nodes (wantedN N)) N.g.nodes.length
  have h2 := once_ins N
  have h3 := base_length N
  unfold gatesX
  rw [h2, List.length_map, List.length_range]
  show (copyN N).1.nodes.length - 1 - _ ≤ _
  unfold copyN copyG
  simp only at h1
  omega
end Go.Proofs.YtdmcdhkkbkgnbaaGreat
