/-
  Package sweep, plain: which registers are needed, which are stuck.
  Inputs of a graph, plain: what an input's node is.
  What literals lean on: marks, from above down. Plain.
-/
import Derived.Test.YtdmcdhkkbkgnbaaGreatP07
import Derived.Test.YtdmcdhkkbkgnbaaGreatP06
import Derived.Test.YtdmcdhkkbkgnbaaGreatP00
import Derived.Test.YtdmcdhkkbkgnbaaGreatP02
namespace Go.Proofs.YtdmcdhkkbkgnbaaGreat
set_option linter.unusedVariables false

theorem getB_set {l : List Bool} {i j : Nat} {v : Bool} (h : i < l.length) : (l.set i v).getD j false = if j = i then v else l.getD j false := by
  simp only [List.getD_eq_getElem?_getD]
  by_cases e : j = i
  · subst e
    rw [List.getElem?_set_self h, if_pos rfl]
    rfl
  · rw [List.getElem?_set_ne (fun h => e h.symm), if_neg e]
theorem getB_out {l : List Bool} {j : Nat} (h : l.length ≤ j) : l.getD j false = false := by
  rw [List.getD_eq_getElem?_getD, List.getElem?_eq_none h]; rfl
/-- node k is a gate -/
def gAt (ns : List (Nat × Nat)) (k : Nat) : Bool := decide (1 ≤ k ∧ k < ns.length ∧ (ns.getD k (0, 0)).1 / 2 ≠ k)
def gA (ns : List (Nat × Nat)) (k : Nat) : Nat := (ns.getD k (0, 0)).1
def gB (ns : List (Nat × Nat)) (k : Nat) : Nat := (ns.getD k (0, 0)).2
theorem gateA_nat (g : Gr) (k : Nat) : gateA g (k : Int) = if gAt g.nodes k then (gA g.nodes k, gB g.nodes k, true) else (0, 0, false) := by
  unfold gateA gAt gA gB
  by_cases h : 1 ≤ k ∧ k < g.nodes.length
  · rw [if_pos (by omega)]
    obtain ⟨⟨a, b⟩, hab⟩ : ∃ q, g.nodes[k]? = some q := ⟨_, List.getElem?_eq_getElem h.2⟩
    simp only [Int.toNat_natCast, hab, List.getD_eq_getElem?_getD, Option.getD_some]
    by_cases h2 : a / 2 = k
    · rw [if_pos h2, if_neg (by simp [h2])]
    · rw [if_neg h2, if_pos (by simp only [decide_eq_true_eq]; exact ⟨h.1, h.2, h2⟩)]
  · rw [if_neg (by omega), if_neg (by simp only [decide_eq_true_eq]; omega)]
theorem gAt_lt {ns : List (Nat × Nat)} (hw : WF ns) {k : Nat} (h : gAt ns k = true) : gA ns k / 2 < k ∧ gB ns k / 2 < k ∧ 1 ≤ k ∧ k < ns.length := by
  unfold gAt at h
  simp only [decide_eq_true_eq] at h
  unfold gA gB
  obtain ⟨⟨a, b⟩, hab⟩ : ∃ q, ns[k]? = some q := ⟨_, List.getElem?_eq_getElem h.2.1⟩
  simp only [List.getD_eq_getElem?_getD, hab, Option.getD_some] at h ⊢
  have := hw.each k a b hab
  omega
def markAt (ns : List (Nat × Nat)) (M : List Bool) (k : Nat) : List Bool := if gAt ns k && M.getD k false then (M.set (gA ns k / 2) true).set (gB ns k / 2) true else M
def sweepD (ns : List (Nat × Nat)) : Nat → List Bool → List Bool
  | 0, M => M
  | k + 1, M => sweepD ns k (markAt ns M k)
def initTo (n : Nat) (l : List Nat) : List Bool := l.foldl (fun M x => M.set (x / 2) true) (List.replicate n false)
def marksL (ns : List (Nat × Nat)) (l : List Nat) : List Bool := (sweepD ns ns.length (initTo ns.length l)).set 0 false
theorem markAt_length (ns : List (Nat × Nat)) (M : List Bool) (k : Nat) : (markAt ns M k).length = M.length := by unfold markAt; split <;> simp
theorem sweepD_length (ns : List (Nat × Nat)) (k : Nat) (M : List Bool) : (sweepD ns k M).length = M.length := by
  induction k generalizing M with
  | zero => rfl
  | succ k ih => rw [sweepD, ih, markAt_length]
theorem initTo_snoc (n : Nat) (l : List Nat) (x : Nat) : initTo n (l ++ [x]) = (initTo n l).set (x / 2) true := by simp [initTo]
theorem initTo_length (n : Nat) (l : List Nat) : (initTo n l).length = n := by
  suffices h : ∀ (l : List Nat) (M : List Bool), (l.foldl (fun M x => M.set (x / 2) true) M).length = M.length by
    unfold initTo; rw [h]; simp
  intro l
  induction l with
  | nil => intro M; rfl
  | cons x l ih => intro M; rw [List.foldl_cons, ih]; simp
theorem marksL_length (ns : List (Nat × Nat)) (l : List Nat) : (marksL ns l).length = ns.length := by simp [marksL, sweepD_length, initTo_length]
/-- what is known of the marks once the nodes from i on have been seen -/
structure MInv (ns : List (Nat × Nat)) (l : List Nat) (i : Nat) (M : List Bool) : Prop where
  len : M.length = ns.length
  has : ∀ x ∈ l, M.getD (x / 2) false = true
  down : ∀ n, i ≤ n → gAt ns n = true → M.getD n false = true → M.getD (gA ns n / 2) false = true ∧ M.getD (gB ns n / 2) false = true
  why : ∀ m, M.getD m false = true → (∃ x ∈ l, x / 2 = m) ∨ ∃ n, m < n ∧ i ≤ n ∧ gAt ns n = true ∧ M.getD n false = true ∧ (gA ns n / 2 = m ∨ gB ns n / 2 = m)
theorem init_inv (ns : List (Nat × Nat)) (l : List Nat) (hl : ∀ x ∈ l, x / 2 < ns.length) : (∀ m, (initTo ns.length l).getD m false = true ↔ ∃ x ∈ l, x / 2 = m) := by
  suffices h : ∀ (l : List Nat) (M : List Bool), M.length = ns.length → (∀ x ∈ l, x / 2 < ns.length) → ∀ m, (l.foldl (fun M x => M.set (x / 2) true) M).getD m false = true ↔ (M.getD m false = true ∨ ∃ x ∈ l, x / 2 = m) by
    intro m
    unfold initTo
    rw [h l _ (by simp) hl]
    have e : (List.replicate ns.length false).getD m false = false := by
      rw [List.getD_eq_getElem?_getD, List.getElem?_replicate]; split <;> rfl
    rw [e]; simp
  intro l
  induction l with
  | nil => intro M _ _ m; simp
  | cons x l ih =>
    intro M hM hx m
    rw [List.foldl_cons, ih _ (by simpa using hM) (fun y hy => hx y (by simp [hy])), getB_set (by rw [hM]; exact hx x (by simp))]
    by_cases e : m = x / 2
    · subst e; simp
    · rw [if_neg e]
      constructor
      · rintro (h | ⟨y, hy, rfl⟩)
        · exact .inl h
        · exact .inr ⟨y, by simp [hy], rfl⟩
      · rintro (h | ⟨y, hy, rfl⟩)
        · exact .inl h
        · rcases List.mem_cons.1 hy with h | h
          · subst h; exact absurd rfl e
          · exact .inr ⟨y, h, rfl⟩
theorem markAt_get {ns : List (Nat × Nat)} (hw : WF ns) {M : List Bool} (hM : M.length = ns.length) {k : Nat} (hg : gAt ns k = true) (hk : M.getD k false = true) (j : Nat) : (markAt ns M k).getD j false = (decide (j = gB ns k / 2) || decide (j = gA ns k / 2) || M.getD j false) := by
  obtain ⟨h1, h2, h3, h4⟩ := gAt_lt hw hg
  unfold markAt
  rw [if_pos (by rw [hg, hk]; rfl), getB_set (by simp; omega), getB_set (by omega)]
  by_cases e1 : j = gB ns k / 2 <;> by_cases e2 : j = gA ns k / 2 <;> simp [e1, e2]
theorem MInv.step {ns : List (Nat × Nat)} (hw : WF ns) {l : List Nat} {k : Nat} {M : List Bool} (h : MInv ns l (k + 1) M) : MInv ns l k (markAt ns M k) := by
  by_cases hc : gAt ns k = true ∧ M.getD k false = true
  · obtain ⟨hg, hk⟩ := hc
    obtain ⟨h1, h2, h3, h4⟩ := gAt_lt hw hg
    have hget := markAt_get hw h.len hg hk
    have mono : ∀ j, M.getD j false = true → (markAt ns M k).getD j false = true := fun j hj => by rw [hget, hj]; simp
    have same : ∀ j, k ≤ j → (markAt ns M k).getD j false = M.getD j false := fun j hj => by
      rw [hget]
      have e1 : decide (j = gB ns k / 2) = false := by simp; omega
      have e2 : decide (j = gA ns k / 2) = false := by simp; omega
      rw [e1, e2]; rfl
    refine ⟨by rw [markAt_length, h.len], fun x hx => mono _ (h.has x hx), fun n hn hgn hmn => ?_, fun m hm => ?_⟩
    · rcases Nat.lt_or_eq_of_le hn with h5 | h5
      · rw [same n (by omega)] at hmn
        obtain ⟨d1, d2⟩ := h.down n (by omega) hgn hmn
        exact ⟨mono _ d1, mono _ d2⟩
      · subst h5
        rw [hget, hget]
        simp
    · rw [hget] at hm
      by_cases hmm : M.getD m false = true
      · rcases h.why m hmm with h5 | ⟨n, n1, n2, n3, n4, n5⟩
        · exact .inl h5
        · exact .inr ⟨n, n1, by omega, n3, mono _ n4, n5⟩
      · refine .inr ⟨k, ?_, Nat.le_refl _, hg, by rw [same k (Nat.le_refl _)]; exact hk, ?_⟩
        · simp only [Bool.or_eq_true, decide_eq_true_eq] at hm
          rcases hm with (h6 | h6) | h6
          · omega
          · omega
          · exact absurd h6 hmm
        · simp only [Bool.or_eq_true, decide_eq_true_eq] at hm
          rcases hm with (h6 | h6) | h6
          · exact .inr h6.symm
          · exact .inl h6.symm
          · exact absurd h6 hmm
  · have e : markAt ns M k = M := by
      unfold markAt
      rw [if_neg (by simpa using hc)]
    rw [e]
    refine ⟨h.len, h.has, fun n hn hgn hmn => ?_, fun m hm => ?_⟩
    · rcases Nat.lt_or_eq_of_le hn with h5 | h5
      · exact h.down n (by omega) hgn hmn
      · subst h5; exact absurd ⟨hgn, hmn⟩ hc
    · rcases h.why m hm with h5 | ⟨n, n1, n2, n3, n4, n5⟩
      · exact .inl h5
      · exact .inr ⟨n, n1, by omega, n3, n4, n5⟩
theorem MInv.all {ns : List (Nat × Nat)} (hw : WF ns) {l : List Nat} : ∀ (k : Nat) {M : List Bool}, MInv ns l k M → MInv ns l 0 (sweepD ns k M)
  | 0, M, h => h
  | k + 1, M, h => MInv.all hw k (h.step hw)
/-- what the marks tell -/
structure MarksOk (ns : List (Nat × Nat)) (l : List Nat) (M : List Bool) : Prop where
  len : M.length = ns.length
  zero : M.getD 0 false = false
  has : ∀ x ∈ l, x / 2 ≠ 0 → M.getD (x / 2) false = true
  down : ∀ n, gAt ns n = true → M.getD n false = true → (gA ns n / 2 ≠ 0 → M.getD (gA ns n / 2) false = true) ∧ (gB ns n / 2 ≠ 0 → M.getD (gB ns n / 2) false = true)
  why : ∀ m, M.getD m false = true → m ≠ 0 ∧ m < ns.length ∧ ((∃ x ∈ l, x / 2 = m) ∨ ∃ n, m < n ∧ gAt ns n = true ∧ M.getD n false = true ∧ (gA ns n / 2 = m ∨ gB ns n / 2 = m))
theorem marks_ok {ns : List (Nat × Nat)} (hw : WF ns) {l : List Nat} (hl : ∀ x ∈ l, x / 2 < ns.length) : MarksOk ns l (marksL ns l) := by
  have hp := hw.pos
  have h0 : MInv ns l ns.length (initTo ns.length l) := by
    have hi := init_inv ns l hl
    refine ⟨initTo_length _ _, fun x hx => (hi _).2 ⟨x, hx, rfl⟩, fun n hn hg _ => ?_, fun m hm => .inl ((hi m).1 hm)⟩
    have := (gAt_lt hw hg).2.2.2
    omega
  have h := MInv.all hw ns.length h0
  have hget : ∀ j, (marksL ns l).getD j false = if j = 0 then false else (sweepD ns ns.length (initTo ns.length l)).getD j false := fun j => by
    unfold marksL
    exact getB_set (by rw [sweepD_length, initTo_length]; exact hp)
  refine ⟨marksL_length _ _, by rw [hget]; rfl, fun x hx hne => by rw [hget, if_neg hne]; exact h.has x hx, fun n hg hm => ?_, fun m hm => ?_⟩
  · rw [hget] at hm
    have hn := (gAt_lt hw hg).2.2.1
    rw [if_neg (by omega)] at hm
    obtain ⟨d1, d2⟩ := h.down n (Nat.zero_le _) hg hm
    exact ⟨fun hne => by rw [hget, if_neg hne]; exact d1, fun hne => by rw [hget, if_neg hne]; exact d2⟩
  · rw [hget] at hm
    by_cases hm0 : m = 0
    · rw [if_pos hm0] at hm; cases hm
    · rw [if_neg hm0] at hm
      refine ⟨hm0, ?_, ?_⟩
      · apply Classical.byContradiction
        intro hlt
        rw [getB_out (by rw [sweepD_length, initTo_length]; omega)] at hm
        cases hm
      · rcases h.why m hm with h5 | ⟨n, n1, n2, n3, n4, n5⟩
        · exact .inl h5
        · exact .inr ⟨n, n1, n3, by rw [hget, if_neg (by omega)]; exact n4, n5⟩
/-- the nodes of a kind, in order -/
def pick (n : Nat) (P : Nat → Bool) : List Nat := (List.range n).filter P
theorem pick_succ (n : Nat) (P : Nat → Bool) : pick (n + 1) P = pick n P ++ (if P n then [n] else []) := by
  unfold pick
  rw [List.range_succ, List.filter_append]
  congr 1
  simp only [List.filter_cons, List.filter_nil]
theorem pick_length (n : Nat) (P : Nat → Bool) : (pick n P).length ≤ n := by
  have := List.length_filter_le P (List.range n)
  rw [List.length_range] at this
  exact this
def reachL (ns : List (Nat × Nat)) (l : List Nat) : List Nat := pick ns.length (fun n => (marksL ns l).getD n false)
def supportL (ns : List (Nat × Nat)) (l : List Nat) : List Nat := pick ns.length (fun n => (marksL ns l).getD n false && !gAt ns n)
end Go.Proofs.YtdmcdhkkbkgnbaaGreat

namespace Go.Proofs.YtdmcdhkkbkgnbaaGreat
set_option linter.unusedVariables false

theorem insFrom_of (i : Nat) (l : List (Nat × Nat)) : ∀ x ∈ insFrom i l, x ≠ 0 ∧ ∃ j a b, x = i + j ∧ l[j]? = some (a, b) ∧ a / 2 = x := by
  induction l generalizing i with
  | nil => intro x hx; simp [insFrom] at hx
  | cons p l ih =>
    intro x hx
    have step : x ∈ insFrom (i + 1) l → x ≠ 0 ∧ ∃ j a b, x = i + j ∧ (p :: l)[j]? = some (a, b) ∧ a / 2 = x := fun h => by
      obtain ⟨h0, j, a, b, h1, h2, h3⟩ := ih (i + 1) x h
      exact ⟨h0, j + 1, a, b, by omega, by simpa using h2, h3⟩
    simp only [insFrom] at hx
    split at hx
    · rename_i hc
      simp only [Bool.and_eq_true, decide_eq_true_eq, inAt] at hc
      rcases List.mem_cons.1 hx with rfl | hx
      · exact ⟨hc.2, 0, p.1, p.2, by omega, by simp, hc.1⟩
      · exact step hx
    · exact step hx
theorem ins_of {ns : List (Nat × Nat)} {x : Nat} (h : x ∈ ins ns) : x ≠ 0 ∧ ∃ a b, ns[x]? = some (a, b) ∧ a / 2 = x := by
  obtain ⟨h0, j, a, b, h1, h2, h3⟩ := insFrom_of 0 ns x h
  refine ⟨h0, a, b, ?_, h3⟩
  rw [h1, Nat.zero_add]; exact h2
end Go.Proofs.YtdmcdhkkbkgnbaaGreat

namespace Go.Proofs.YtdmcdhkkbkgnbaaGreat
set_option linter.unusedVariables false
set_option linter.unusedSimpArgs false

variable {N : Nt} {k : Nat}
/-- node m is leant on by node n, by gates -/
inductive Cn (ns : List (Nat × Nat)) (n : Nat) : Nat → Prop
  | self : Cn ns n n
  | ga {m : Nat} : Cn ns n m → gAt ns m = true → Cn ns n (gA ns m / 2)
  | gb {m : Nat} : Cn ns n m → gAt ns m = true → Cn ns n (gB ns m / 2)
theorem marks_cn {ns : List (Nat × Nat)} (hw : WF ns) {l : List Nat} (hl : ∀ x ∈ l, x / 2 < ns.length) (m : Nat) : (marksL ns l).getD m false = true ↔ m ≠ 0 ∧ ∃ x ∈ l, Cn ns (x / 2) m := by
  have h := marks_ok hw hl
  constructor
  · intro hm
    refine ⟨(h.why m hm).1, ?_⟩
    -- from below up: the leaning node is greater
    have key : ∀ d m, ns.length - m ≤ d → (marksL ns l).getD m false = true → ∃ x ∈ l, Cn ns (x / 2) m := by
      intro d
      induction d with
      | zero =>
        intro m hd hm
        have := (h.why m hm).2.1
        omega
      | succ d ih =>
        intro m hd hm
        obtain ⟨h0, h1, h2⟩ := h.why m hm
        rcases h2 with ⟨x, hx, rfl⟩ | ⟨n, n1, n2, n3, n4⟩
        · exact ⟨x, hx, .self⟩
        · obtain ⟨x, hx, hc⟩ := ih n (by omega) n3
          rcases n4 with rfl | rfl
          · exact ⟨x, hx, .ga hc n2⟩
          · exact ⟨x, hx, .gb hc n2⟩
    exact key ns.length m (by omega) hm
  · rintro ⟨h0, x, hx, hc⟩
    induction hc with
    | self => exact h.has x hx h0
    | @ga m' hc' hg ih =>
      have hm0 : m' ≠ 0 := by have := (gAt_lt hw hg).2.2.1; omega
      exact (h.down m' hg (ih hm0)).1 h0
    | @gb m' hc' hg ih =>
      have hm0 : m' ≠ 0 := by have := (gAt_lt hw hg).2.2.1; omega
      exact (h.down m' hg (ih hm0)).2 h0
theorem sup_cn {ns : List (Nat × Nat)} (hw : WF ns) {l : List Nat} (hl : ∀ x ∈ l, x / 2 < ns.length) (m : Nat) : m ∈ supportL ns l ↔ m ≠ 0 ∧ gAt ns m = false ∧ ∃ x ∈ l, Cn ns (x / 2) m := by
  unfold supportL pick
  rw [List.mem_filter, List.mem_range, Bool.and_eq_true, marks_cn hw hl]
  have hc : (∃ x ∈ l, Cn ns (x / 2) m) → m < ns.length := by
    rintro ⟨x, hx, h⟩
    cases h with
    | self => exact hl x hx
    | ga _ hg => have := gAt_lt hw hg; omega
    | gb _ hg => have := gAt_lt hw hg; omega
  constructor
  · rintro ⟨_, ⟨h1, h2⟩, h3⟩
    exact ⟨h1, by simpa using h3, h2⟩
  · rintro ⟨h1, h2, h3⟩
    exact ⟨hc h3, ⟨h1, h3⟩, by simpa using h2⟩
def firstR (r : Rg) : Nat := if r.init then 1 else 0
def stuckR (r : Rg) : Bool := decide (r.en = 0) || decide (r.d = r.q) || decide (r.d = firstR r)
def outsN (N : Nt) : List Nat := N.outb.flatMap (·.lits)
/-- which register's a node is -/
def placeR (l : List Rg) (node : Nat) : Option Nat := l.findIdx? fun r => decide (r.q / 2 = node)
/-- a node that is met: the register there is needed, and what it takes is still to be done -/
def meetR (N : Nt) (s : List Bool × List Nat) (node : Nat) : List Bool × List Nat :=
  match placeR N.regs node with
  | some k => if s.1.getD k false then s else (s.1.set k true, s.2 ++ [(N.regs.getD k ⟨0, 0, 0, false⟩).d, (N.regs.getD k ⟨0, 0, 0, false⟩).en])
  | none => s
def moreR (N : Nt) (nd : List Bool) (todo : List Nat) : List Bool × List Nat := (supportL N.g.nodes todo).foldl (meetR N) (nd, [])
def needGo (N : Nt) : Nat → List Bool → List Nat → List Bool
  | 0, nd, _ => nd
  | f + 1, nd, todo => if (moreR N nd todo).2 = [] then (moreR N nd todo).1 else needGo N f (moreR N nd todo).1 (moreR N nd todo).2
def neededN (N : Nt) : List Bool := needGo N (N.regs.length + 1) (List.replicate N.regs.length false) (outsN N)
/-! how often -/
def falses (l : List Bool) : Nat := l.countP (· == false)
theorem falses_set {l : List Bool} {k : Nat} (hk : k < l.length) (h : l.getD k false = false) : falses (l.set k true) + 1 = falses l := by
  induction l generalizing k with
  | nil => simp at hk
  | cons b l ih =>
    cases k with
    | zero => simp at h; subst h; simp [falses]
    | succ k =>
      have := ih (k := k) (by simpa using hk) (by simpa using h)
      unfold falses at *
      rw [List.set_cons_succ, List.countP_cons, List.countP_cons]
      omega
theorem placeR_lt {l : List Rg} {node k : Nat} (h : placeR l node = some k) : k < l.length ∧ (l.getD k ⟨0, 0, 0, false⟩).q / 2 = node := by
  unfold placeR at h
  rw [List.findIdx?_eq_some_iff_getElem] at h
  obtain ⟨h1, h2, _⟩ := h
  refine ⟨h1, ?_⟩
  rw [List.getD_eq_getElem?_getD, List.getElem?_eq_getElem h1]
  simpa using h2
/-- what is known of one look half done -/
structure MeetOk (N : Nt) (nd0 : List Bool) (done : List Nat) (s : List Bool × List Nat) : Prop where
  len : s.1.length = N.regs.length
  up : ∀ j, nd0.getD j false = true → s.1.getD j false = true
  why : ∀ j, s.1.getD j false = true → nd0.getD j false = true ∨ (j < N.regs.length ∧ (N.regs.getD j ⟨0, 0, 0, false⟩).q / 2 ∈ done)
  tod : ∀ x ∈ s.2, ∃ j, j < N.regs.length ∧ nd0.getD j false = false ∧ s.1.getD j false = true ∧ (x = (N.regs.getD j ⟨0, 0, 0, false⟩).d ∨ x = (N.regs.getD j ⟨0, 0, 0, false⟩).en)
  all : ∀ j, j < N.regs.length → nd0.getD j false = false → s.1.getD j false = true → (N.regs.getD j ⟨0, 0, 0, false⟩).d ∈ s.2 ∧ (N.regs.getD j ⟨0, 0, 0, false⟩).en ∈ s.2
  met : ∀ j node, node ∈ done → placeR N.regs node = some j → s.1.getD j false = true
  cnt : falses s.1 ≤ falses nd0 ∧ (s.2 ≠ [] → falses s.1 < falses nd0)
  twice : s.2.length + 2 * falses s.1 = 2 * falses nd0
theorem getBs {l : List Bool} {i j : Nat} {v : Bool} (h : i < l.length) : (l.set i v).getD j false = if j = i then v else l.getD j false := getB_set h
theorem MeetOk.step {nd0 : List Bool} {done : List Nat} {s : List Bool × List Nat} (h : MeetOk N nd0 done s) (node : Nat) : MeetOk N nd0 (done ++ [node]) (meetR N s node) := by
  have keep : ∀ j, (s.1.getD j false = true → nd0.getD j false = true ∨ (j < N.regs.length ∧ (N.regs.getD j ⟨0, 0, 0, false⟩).q / 2 ∈ done ++ [node])) := fun j hj => (h.why j hj).imp id fun x => ⟨x.1, List.mem_append_left _ x.2⟩
  unfold meetR
  cases hp : placeR N.regs node with
  | none =>
    refine ⟨h.len, h.up, keep, h.tod, h.all, fun j nd hm hj => ?_, h.cnt, h.twice⟩
    rcases List.mem_append.1 hm with hm | hm
    · exact h.met j nd hm hj
    · rw [List.mem_singleton] at hm
      subst hm
      rw [hp] at hj; cases hj
  | some k =>
    obtain ⟨hk, hq⟩ := placeR_lt hp
    simp only
    by_cases hs : s.1.getD k false = true
    · rw [if_pos hs]
      refine ⟨h.len, h.up, keep, h.tod, h.all, fun j nd hm hj => ?_, h.cnt, h.twice⟩
      rcases List.mem_append.1 hm with hm | hm
      · exact h.met j nd hm hj
      · rw [List.mem_singleton] at hm
        subst hm
        rw [hp] at hj
        injection hj with hj
        subst hj
        exact hs
    · rw [if_neg hs]
      have hs' : s.1.getD k false = false := by simpa using hs
      have hkl : k < s.1.length := by rw [h.len]; exact hk
      have hget := fun j => getBs (j := j) (v := true) hkl
      have h0 : nd0.getD k false = false := by
        cases hh : nd0.getD k false with
        | false => rfl
        | true => exact absurd (h.up k hh) hs
      have hc := falses_set hkl hs'
      refine ⟨by simp [h.len], fun j hj => ?_, fun j hj => ?_, fun x hx => ?_, fun j hj h1 h2 => ?_, fun j nd hm hj => ?_, ?_, ?_⟩
      · show (s.1.set k true).getD j false = true
        rw [hget]
        split
        · rfl
        · exact h.up j hj
      · replace hj : (s.1.set k true).getD j false = true := hj
        rw [hget] at hj
        by_cases e : j = k
        · subst e
          exact .inr ⟨hk, by rw [hq]; simp⟩
        · rw [if_neg e] at hj
          exact keep j hj
      · rcases List.mem_append.1 hx with hx | hx
        · obtain ⟨j, j1, j2, j3, j4⟩ := h.tod x hx
          refine ⟨j, j1, j2, ?_, j4⟩
          show (s.1.set k true).getD j false = true
          rw [hget]
          split
          · rfl
          · exact j3
        · refine ⟨k, hk, h0, ?_, ?_⟩
          · show (s.1.set k true).getD k false = true
            rw [hget, if_pos rfl]
          · simpa using hx
      · replace h2 : (s.1.set k true).getD j false = true := h2
        rw [hget] at h2
        by_cases e : j = k
        · subst e
          exact ⟨List.mem_append_right _ (by simp), List.mem_append_right _ (by simp)⟩
        · rw [if_neg e] at h2
          obtain ⟨a, b⟩ := h.all j hj h1 h2
          exact ⟨List.mem_append_left _ a, List.mem_append_left _ b⟩
      · show (s.1.set k true).getD j false = true
        rw [hget]
        split
        · rfl
        · rename_i e
          rcases List.mem_append.1 hm with hm | hm
          · exact h.met j nd hm hj
          · rw [List.mem_singleton] at hm
            subst hm
            rw [hp] at hj
            injection hj with hj
            exact absurd hj.symm e
      · have := h.cnt.1
        exact ⟨by show falses (s.1.set k true) ≤ _; omega, fun _ => by show falses (s.1.set k true) < _; omega⟩
      · have := h.twice
        show (s.2 ++ _).length + 2 * falses (s.1.set k true) = _
        rw [List.length_append]
        simp only [List.length_cons, List.length_nil]
        omega
theorem meet_all {nd0 : List Bool} (hl : nd0.length = N.regs.length) (l : List Nat) : MeetOk N nd0 l (l.foldl (meetR N) (nd0, [])) := by
  suffices h : ∀ (l done : List Nat) (s : List Bool × List Nat), MeetOk N nd0 done s → MeetOk N nd0 (done ++ l) (l.foldl (meetR N) s) by
    have h2 := h l [] (nd0, []) ⟨hl, fun _ h => h, fun _ h => .inl h, by simp, fun j _ h1 h2 => (by rw [h1] at h2; cases h2), by simp, ⟨Nat.le_refl _, fun h => absurd rfl h⟩, by simp⟩
    simpa using h2
  intro l
  induction l with
  | nil => intro done s h; simpa using h
  | cons x l ih =>
    intro done s h
    have := ih (done ++ [x]) _ (h.step x)
    rw [List.append_assoc] at this
    exact this
theorem needGo_more (f : Nat) (nd : List Bool) (todo : List Nat) (hl : nd.length = N.regs.length) (hf : falses nd < f + 1) : needGo N (f + 1) nd todo = if (moreR N nd todo).2 = [] then (moreR N nd todo).1 else needGo N (falses (moreR N nd todo).1 + 1) (moreR N nd todo).1 (moreR N nd todo).2 := by
  have key : ∀ (c f1 f2 : Nat) (nd : List Bool) (todo : List Nat), falses nd ≤ c → nd.length = N.regs.length → falses nd < f1 → falses nd < f2 → needGo N f1 nd todo = needGo N f2 nd todo := by
    intro c
    induction c with
    | zero =>
      intro f1 f2 nd todo hc hl h1 h2
      obtain ⟨f1, rfl⟩ : ∃ g, f1 = g + 1 := ⟨f1 - 1, by omega⟩
      obtain ⟨f2, rfl⟩ : ∃ g, f2 = g + 1 := ⟨f2 - 1, by omega⟩
      have hm := meet_all (nd0 := nd) hl (supportL N.g.nodes todo)
      have he : (moreR N nd todo).2 = [] := by
        apply Classical.byContradiction
        intro hne
        have := hm.cnt.2 hne
        omega
      simp only [needGo, he, if_true]
    | succ c ih =>
      intro f1 f2 nd todo hc hl h1 h2
      obtain ⟨f1, rfl⟩ : ∃ g, f1 = g + 1 := ⟨f1 - 1, by omega⟩
      obtain ⟨f2, rfl⟩ : ∃ g, f2 = g + 1 := ⟨f2 - 1, by omega⟩
      have hm := meet_all (nd0 := nd) hl (supportL N.g.nodes todo)
      simp only [needGo]
      split
      · rfl
      · rename_i hne
        have h3 : falses (moreR N nd todo).1 < falses nd := hm.cnt.2 hne
        exact ih _ _ _ _ (by omega) hm.len (by omega) (by omega)
  have hm := meet_all (nd0 := nd) hl (supportL N.g.nodes todo)
  have hlen : (moreR N nd todo).1.length = N.regs.length := hm.len
  show (if (moreR N nd todo).2 = [] then (moreR N nd todo).1 else needGo N f (moreR N nd todo).1 (moreR N nd todo).2) = _
  split
  · rfl
  · rename_i hne
    have h3 : falses (moreR N nd todo).1 < falses nd := hm.cnt.2 hne
    exact key (falses (moreR N nd todo).1) _ _ (moreR N nd todo).1 _ (Nat.le_refl _) hlen (by omega) (by omega)
/-! who is needed -/
/-- a node that what goes out leans on, by gates and through registers -/
inductive Nd (N : Nt) : Nat → Prop
  | out {x : Nat} : x ∈ outsN N → Nd N (x / 2)
  | ga {n : Nat} : Nd N n → gAt N.g.nodes n = true → Nd N (gA N.g.nodes n / 2)
  | gb {n : Nat} : Nd N n → gAt N.g.nodes n = true → Nd N (gB N.g.nodes n / 2)
  | rd {r : Rg} : r ∈ N.regs → Nd N (r.q / 2) → Nd N (r.d / 2)
  | re {r : Rg} : r ∈ N.regs → Nd N (r.q / 2) → Nd N (r.en / 2)
theorem Nd.cn {n m : Nat} (h : Nd N n) (hc : Cn N.g.nodes n m) : Nd N m := by
  induction hc with
  | self => exact h
  | ga _ hg ih => exact .ga ih hg
  | gb _ hg ih => exact .gb ih hg
/-- what is known between two looks -/
structure NeedOk (N : Nt) (nd : List Bool) (todo : List Nat) : Prop where
  len : nd.length = N.regs.length
  snd : ∀ j, nd.getD j false = true → Nd N ((N.regs.getD j ⟨0, 0, 0, false⟩).q / 2)
  std : ∀ x ∈ todo, Nd N (x / 2) ∧ N.g.ok x
  cls : ∀ x, (x ∈ outsN N ∨ ∃ j, j < N.regs.length ∧ nd.getD j false = true ∧ (x = (N.regs.getD j ⟨0, 0, 0, false⟩).d ∨ x = (N.regs.getD j ⟨0, 0, 0, false⟩).en)) → x ∈ todo ∨ ∀ j, j < N.regs.length → Cn N.g.nodes (x / 2) ((N.regs.getD j ⟨0, 0, 0, false⟩).q / 2) → nd.getD j false = true
theorem getD_regs {l : List Rg} {j : Nat} (h : j < l.length) : l.getD j ⟨0, 0, 0, false⟩ ∈ l := by
  rw [List.getD_eq_getElem?_getD, List.getElem?_eq_getElem h]
  exact List.getElem_mem h
/-- registers' nodes are inputs, each another -/
theorem regs_apart (hf : NtFine k N) : (∀ r ∈ N.regs, r.q / 2 ≠ 0 ∧ gAt N.g.nodes (r.q / 2) = false ∧ r.q = 2 * (r.q / 2)) ∧ ∀ i j, i < N.regs.length → j < N.regs.length → (N.regs.getD i ⟨0, 0, 0, false⟩).q / 2 = (N.regs.getD j ⟨0, 0, 0, false⟩).q / 2 → i = j := by
  have hin : ∀ r ∈ N.regs, ∃ i ∈ ins N.g.nodes, r.q = 2 * i := fun r hr => hf.di r.q (by unfold drivenN; exact List.mem_append_right _ (List.mem_map_of_mem hr))
  refine ⟨fun r hr => ?_, fun i j hi hj he => ?_⟩
  · obtain ⟨i, hi, hq⟩ := hin r hr
    obtain ⟨h0, a, b, hab, hai⟩ := ins_of hi
    have e : r.q / 2 = i := by omega
    rw [e]
    refine ⟨h0, ?_, by omega⟩
    unfold gAt
    rw [List.getD_eq_getElem?_getD, hab]
    simp [hai]
  · obtain ⟨x, _, hx⟩ := hin _ (getD_regs hi)
    obtain ⟨y, _, hy⟩ := hin _ (getD_regs hj)
    have hq : (N.regs.getD i ⟨0, 0, 0, false⟩).q = (N.regs.getD j ⟨0, 0, 0, false⟩).q := by omega
    have hn : (N.regs.map (·.q)).Nodup := by
      have h := hf.dn
      unfold drivenN at h
      exact (List.nodup_append.1 h).2.1
    have h1 : (N.regs.map (·.q))[i]'(by simpa using hi) = (N.regs.map (·.q))[j]'(by simpa using hj) := by
      rw [List.getElem_map, List.getElem_map]
      rw [List.getD_eq_getElem?_getD, List.getElem?_eq_getElem hi, List.getD_eq_getElem?_getD, List.getElem?_eq_getElem hj] at hq
      exact hq
    exact (List.getElem_inj hn).1 h1
theorem placeR_of (hf : NtFine k N) {j : Nat} (hj : j < N.regs.length) : placeR N.regs ((N.regs.getD j ⟨0, 0, 0, false⟩).q / 2) = some j := by
  cases hp : placeR N.regs ((N.regs.getD j ⟨0, 0, 0, false⟩).q / 2) with
  | none =>
    unfold placeR at hp
    rw [List.findIdx?_eq_none_iff] at hp
    have := hp _ (getD_regs hj)
    simp at this
  | some i =>
    obtain ⟨h1, h2⟩ := placeR_lt hp
    rw [(regs_apart hf).2 i j h1 hj h2]
theorem NeedOk.more (hf : NtFine k N) {nd : List Bool} {todo : List Nat} (h : NeedOk N nd todo) : NeedOk N (moreR N nd todo).1 (moreR N nd todo).2 := by
  have hw := hf.ok.wf
  have hl : ∀ x ∈ todo, x / 2 < N.g.nodes.length := fun x hx => (h.std x hx).2
  have hm := meet_all (nd0 := nd) h.len (supportL N.g.nodes todo)
  have hsnd : ∀ j, (moreR N nd todo).1.getD j false = true → Nd N ((N.regs.getD j ⟨0, 0, 0, false⟩).q / 2) := fun j hj => by
    rcases hm.why j hj with h1 | ⟨h1, h2⟩
    · exact h.snd j h1
    · obtain ⟨_, _, x, hx, hc⟩ := (sup_cn hw hl _).1 h2
      exact (h.std x hx).1.cn hc
  refine ⟨hm.len, hsnd, fun x hx => ?_, fun x hx => ?_⟩
  · obtain ⟨j, h1, _, h3, h4⟩ := hm.tod x hx
    have hr := getD_regs h1
    have hok := hf.ok.rl _ hr
    rcases h4 with rfl | rfl
    · exact ⟨.rd hr (hsnd j h3), hok.2.1⟩
    · exact ⟨.re hr (hsnd j h3), hok.2.2⟩
  · -- closed again
    have closed : ∀ y, (y ∈ outsN N ∨ ∃ j, j < N.regs.length ∧ nd.getD j false = true ∧ (y = (N.regs.getD j ⟨0, 0, 0, false⟩).d ∨ y = (N.regs.getD j ⟨0, 0, 0, false⟩).en)) → ∀ j, j < N.regs.length → Cn N.g.nodes (y / 2) ((N.regs.getD j ⟨0, 0, 0, false⟩).q / 2) → (moreR N nd todo).1.getD j false = true := by
      intro y hy j hj hc
      rcases h.cls y hy with h1 | h1
      · have hr := (regs_apart hf).1 _ (getD_regs hj)
        exact hm.met j _ ((sup_cn hw hl _).2 ⟨hr.1, hr.2.1, y, h1, hc⟩) (placeR_of hf hj)
      · exact hm.up j (h1 j hj hc)
    rcases hx with hx | ⟨j, j1, j2, j3⟩
    · exact .inr (closed x (.inl hx))
    · cases h0 : nd.getD j false with
      | true => exact .inr (closed x (.inr ⟨j, j1, h0, j3⟩))
      | false =>
        obtain ⟨a, b⟩ := hm.all j j1 h0 j2
        rcases j3 with rfl | rfl
        · exact .inl a
        · exact .inl b
theorem need_go (hf : NtFine k N) : ∀ (c : Nat) (nd : List Bool) (todo : List Nat), falses nd ≤ c → NeedOk N nd todo → NeedOk N (needGo N (falses nd + 1) nd todo) [] := by
  intro c
  induction c with
  | zero =>
    intro nd todo hc h
    have hm := meet_all (nd0 := nd) h.len (supportL N.g.nodes todo)
    have h2 := h.more hf
    rw [needGo_more _ _ _ h.len (by omega)]
    split
    · rename_i he
      rw [he] at h2
      exact h2
    · rename_i hne
      have := hm.cnt.2 hne
      omega
  | succ c ih =>
    intro nd todo hc h
    have hm := meet_all (nd0 := nd) h.len (supportL N.g.nodes todo)
    have h2 := h.more hf
    rw [needGo_more _ _ _ h.len (by omega)]
    split
    · rename_i he
      rw [he] at h2
      exact h2
    · rename_i hne
      have h3 : falses (moreR N nd todo).1 < falses nd := hm.cnt.2 hne
      exact ih _ _ (by omega) h2
theorem falses_new (n : Nat) : falses (List.replicate n false) = n := by
  unfold falses
  rw [List.countP_eq_length.2 (by simp), List.length_replicate]
theorem outs_ok (hf : NtFine k N) : ∀ x ∈ outsN N, N.g.ok x := fun x hx => by
  unfold outsN at hx
  obtain ⟨b, hb, hxb⟩ := List.mem_flatMap.1 hx
  exact (hf.ok.ol b hb).2.2.2 x hxb
theorem need_end (hf : NtFine k N) : NeedOk N (neededN N) [] := by
  have h := need_go hf _ (List.replicate N.regs.length false) (outsN N) (Nat.le_refl _) ⟨by simp, fun j hj => by
    rw [List.getD_eq_getElem?_getD, List.getElem?_replicate] at hj
    split at hj <;> simp at hj, fun x hx => ⟨.out hx, outs_ok hf x hx⟩, fun x hx => .inl (by
    rcases hx with hx | ⟨j, _, hj, _⟩
    · exact hx
    · rw [List.getD_eq_getElem?_getD, List.getElem?_replicate] at hj
      split at hj <;> simp at hj)⟩
  rw [falses_new] at h
  exact h
/-- a register is needed just if what goes out leans on it -/
theorem needed_iff (hf : NtFine k N) {j : Nat} (hj : j < N.regs.length) : (neededN N).getD j false = true ↔ Nd N ((N.regs.getD j ⟨0, 0, 0, false⟩).q / 2) := by
  have h := need_end hf
  have hz : ∀ j, j < N.regs.length → (N.regs.getD j ⟨0, 0, 0, false⟩).q / 2 ≠ 0 := fun j hj => ((regs_apart hf).1 _ (getD_regs hj)).1
  constructor
  · exact h.snd j
  · intro hn
    have key : ∀ n, Nd N n → n = 0 ∨ ∃ x, (x ∈ outsN N ∨ ∃ j, j < N.regs.length ∧ (neededN N).getD j false = true ∧ (x = (N.regs.getD j ⟨0, 0, 0, false⟩).d ∨ x = (N.regs.getD j ⟨0, 0, 0, false⟩).en)) ∧ Cn N.g.nodes (x / 2) n := by
      intro n hn
      have reg : ∀ r ∈ N.regs, (r.q / 2 = 0 ∨ ∃ x, (x ∈ outsN N ∨ ∃ j, j < N.regs.length ∧ (neededN N).getD j false = true ∧ (x = (N.regs.getD j ⟨0, 0, 0, false⟩).d ∨ x = (N.regs.getD j ⟨0, 0, 0, false⟩).en)) ∧ Cn N.g.nodes (x / 2) (r.q / 2)) → ∃ j, j < N.regs.length ∧ (neededN N).getD j false = true ∧ N.regs.getD j ⟨0, 0, 0, false⟩ = r := by
        intro r hr hh
        obtain ⟨j, hj, rfl⟩ := List.getElem_of_mem hr
        have e : N.regs.getD j ⟨0, 0, 0, false⟩ = N.regs[j] := by rw [List.getD_eq_getElem?_getD, List.getElem?_eq_getElem hj]; rfl
        rcases hh with h0 | ⟨x, hx, hc⟩
        · exact absurd h0 (by rw [← e]; exact hz j hj)
        · rcases h.cls x hx with h1 | h1
          · simp at h1
          · exact ⟨j, hj, h1 j hj (by rw [e]; exact hc), e⟩
      induction hn with
      | @out x hx => exact .inr ⟨x, .inl hx, .self⟩
      | @ga n hn hg ih =>
        rcases ih with h0 | ⟨x, hx, hc⟩
        · subst h0; simp [gAt] at hg
        · exact .inr ⟨x, hx, .ga hc hg⟩
      | @gb n hn hg ih =>
        rcases ih with h0 | ⟨x, hx, hc⟩
        · subst h0; simp [gAt] at hg
        · exact .inr ⟨x, hx, .gb hc hg⟩
      | @rd r hr hn ih =>
        obtain ⟨j, j1, j2, rfl⟩ := reg r hr ih
        exact .inr ⟨_, .inr ⟨j, j1, j2, .inl rfl⟩, .self⟩
      | @re r hr hn ih =>
        obtain ⟨j, j1, j2, rfl⟩ := reg r hr ih
        exact .inr ⟨_, .inr ⟨j, j1, j2, .inr rfl⟩, .self⟩
    rcases key _ hn with h0 | ⟨x, hx, hc⟩
    · exact absurd h0 (hz j hj)
    · rcases h.cls x hx with h1 | h1
      · simp at h1
      · exact h1 j hj hc
theorem needed_length (hf : NtFine k N) : (neededN N).length = N.regs.length := (need_end hf).len
end Go.Proofs.YtdmcdhkkbkgnbaaGreat
