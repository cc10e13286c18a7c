/-
  AigOnce: with both options nothing is made twice. Plain mathematics.
-/
import Derived.Test.YteikngjanfjmfaaAigSem
namespace Go.Proofs.Yteikngjanfjmfaa

/-- Node k is a gate of a and b. -/
def GateAt (ns : List (Nat × Nat)) (k a b : Nat) : Prop := ns[k]? = some (a, b) ∧ a / 2 ≠ k ∧ 1 ≤ k
/-- With both options: no gate with a constant, twice the same literal, one and its opposite; no two gates of the same two. -/
structure Nice (g : Gr) : Prop where
  wf : WF g.nodes
  fold : g.fold = true
  hash : g.hash = true
  each : ∀ k a b, GateAt g.nodes k a b → b < a ∧ a / 2 < k ∧ b / 2 ≠ 0 ∧ a / 2 ≠ b / 2
  one : ∀ j k a b, GateAt g.nodes j a b → GateAt g.nodes k a b → j = k
theorem GateAt.snoc {ns : List (Nat × Nat)} {p : Nat × Nat} {k a b : Nat} (h : GateAt (ns ++ [p]) k a b) : GateAt ns k a b ∨ (k = ns.length ∧ p = (a, b)) := by
  obtain ⟨h1, h2, h3⟩ := h
  by_cases hk : k < ns.length
  · rw [List.getElem?_append_left hk] at h1
    exact .inl ⟨h1, h2, h3⟩
  · rw [List.getElem?_append_right (by omega)] at h1
    have : k - ns.length = 0 := by
      by_cases he : k - ns.length = 0
      · exact he
      · rw [List.getElem?_eq_none (by simp; omega)] at h1; cases h1
    rw [this] at h1
    simp at h1
    exact .inr ⟨by omega, h1⟩
theorem GateAt.lt {ns : List (Nat × Nat)} {k a b : Nat} (h : GateAt ns k a b) : k < ns.length := (List.getElem?_eq_some_iff.1 h.1).1
theorem look_none {ns : List (Nat × Nat)} {a b : Nat} (h : look ns a b = none) (k : Nat) (_ : 1 ≤ k) : ¬ GateAt ns k a b := fun ⟨h2, h3, _⟩ => h3 (by have := look_none_mem 0 ns h k h2; omega)

theorem nice_gate {g : Gr} (hn : Nice g) {a b : Nat} (ha : g.ok a) (hb : g.ok b) (hf : foldB a b = false) (hl : look g.nodes (max a b) (min a b) = none) : Nice (gateG g a b).1 := by
  obtain ⟨f1, f2, f3⟩ := fold_not a b hf
  have hm := half_max ha hb
  have hlt : min a b < max a b ∧ 1 < min a b ∧ max a b / 2 ≠ min a b / 2 := by
    rcases Nat.lt_trichotomy a b with h | h | h
    · rw [Nat.max_eq_right (by omega), Nat.min_eq_left (by omega)]; omega
    · omega
    · rw [Nat.max_eq_left (by omega), Nat.min_eq_right (by omega)]; omega
  refine ⟨(gateG_spec hn.wf ha hb).1, hn.fold, hn.hash, fun k x y h => ?_, fun j k x y hj hk => ?_⟩
  · rcases GateAt.snoc h with h1 | ⟨rfl, h1⟩
    · exact hn.each k x y h1
    · simp only [Prod.mk.injEq] at h1
      obtain ⟨rfl, rfl⟩ := h1
      exact ⟨hlt.1, hm, by omega, hlt.2.2⟩
  · rcases GateAt.snoc hj with h1 | ⟨rfl, h1⟩
    · rcases GateAt.snoc hk with h2 | ⟨rfl, h2⟩
      · exact hn.one j k x y h1 h2
      · simp only [Prod.mk.injEq] at h2
        obtain ⟨rfl, rfl⟩ := h2
        exact absurd h1 (look_none hl j h1.2.2)
    · rcases GateAt.snoc hk with h2 | ⟨rfl, h2⟩
      · simp only [Prod.mk.injEq] at h1
        obtain ⟨rfl, rfl⟩ := h1
        exact absurd h2 (look_none hl k h2.2.2)
      · rfl
theorem nice_input {g : Gr} (hn : Nice g) : Nice (inputG g).1 := by
  have hno : ∀ k x y, GateAt (inputG g).1.nodes k x y → GateAt g.nodes k x y := fun k x y h => by
    rcases GateAt.snoc h with h1 | ⟨rfl, h1⟩
    · exact h1
    · simp only [Prod.mk.injEq] at h1
      exact absurd (by omega) h.2.1
  exact ⟨(inputG_spec hn.wf).1, hn.fold, hn.hash, fun k x y h => by have := hn.each k x y (hno k x y h); exact this, fun j k x y hj hk => hn.one j k x y (hno j x y hj) (hno k x y hk)⟩
theorem nice_and {g : Gr} (hn : Nice g) {a b : Nat} (ha : g.ok a) (hb : g.ok b) : Nice (andG g a b).1 := by
  unfold andG
  rw [hn.fold, hn.hash]
  simp only [Bool.and_true]
  split
  · exact hn
  · rename_i hf
    split
    · exact hn
    · rename_i hl
      exact nice_gate hn ha hb (by simpa using hf) (by simpa using hl)
theorem nice_or {g : Gr} (hn : Nice g) {a b : Nat} (ha : g.ok a) (hb : g.ok b) : Nice (orG g a b).1 := nice_and hn (ok_nt ha) (ok_nt hb)
theorem nice_both {g : Gr} (hn : Nice g) {a b c d : Nat} (ha : g.ok a) (hb : g.ok b) (hc : g.ok c) (hd : g.ok d) : Nice (bothG g a b c d).1 := by
  obtain ⟨h1, h2, h3⟩ := andG_spec hn.wf ha hb
  have n1 := nice_and hn ha hb
  obtain ⟨h4, h5, h6⟩ := andG_spec h1 (h2.ok hc) (h2.ok hd)
  have n2 := nice_and n1 (h2.ok hc) (h2.ok hd)
  exact nice_or n2 (h5.ok h3) h6
theorem nice_xor {g : Gr} (hn : Nice g) {a b : Nat} (ha : g.ok a) (hb : g.ok b) : Nice (xorG g a b).1 := nice_both hn ha (ok_nt hb) (ok_nt ha) hb
theorem nice_mux {g : Gr} (hn : Nice g) {c a b : Nat} (hc : g.ok c) (ha : g.ok a) (hb : g.ok b) : Nice (muxG g c a b).1 := nice_both hn hc ha (ok_nt hc) hb
theorem nice_go (two : Gr → Nat → Nat → Gr × Nat) (h2 : ∀ g a b, WF g.nodes → g.ok a → g.ok b → WF (two g a b).1.nodes ∧ Ext 3 g (two g a b).1 ∧ (two g a b).1.ok (two g a b).2) (hN : ∀ g a b, Nice g → g.ok a → g.ok b → Nice (two g a b).1) (l : List Nat) :
    ∀ s : Gr × Nat, Nice s.1 → s.1.ok s.2 → (∀ x ∈ l, s.1.ok x) → Nice (goG two s l).1 := by
  induction l with
  | nil => intro s h _ _; exact h
  | cons x l ih =>
    intro s h hs hl
    obtain ⟨h3, h4, h5⟩ := h2 s.1 s.2 x h.wf hs (hl x List.mem_cons_self)
    exact ih (two s.1 s.2 x) (hN _ _ _ h hs (hl x List.mem_cons_self)) h5 fun y hy => h4.ok (hl y (List.mem_cons_of_mem _ hy))
theorem nice_many (two : Gr → Nat → Nat → Gr × Nat) (h2 : ∀ g a b, WF g.nodes → g.ok a → g.ok b → WF (two g a b).1.nodes ∧ Ext 3 g (two g a b).1 ∧ (two g a b).1.ok (two g a b).2) (hN : ∀ g a b, Nice g → g.ok a → g.ok b → Nice (two g a b).1) {g : Gr} (h : Nice g) (start : Nat) (l : List Nat) (hl : ∀ x ∈ l, g.ok x) :
    Nice (manyG two g start l).1 := by
  cases l with
  | nil => exact h
  | cons x l => exact nice_go two h2 hN l (g, x) h (hl x List.mem_cons_self) fun y hy => hl y (List.mem_cons_of_mem _ hy)

/-- The same call again, either way round, makes nothing and tells the same. -/
theorem and_again {g : Gr} (hn : Nice g) {a b : Nat} (ha : g.ok a) (hb : g.ok b) : andG (andG g a b).1 a b = andG g a b ∧ andG (andG g a b).1 b a = andG g a b := by
  have key : andG (andG g a b).1 a b = andG g a b := by
    by_cases hf : foldB a b = true
    · have e : andG g a b = (g, foldV a b) := by unfold andG; rw [hf, hn.fold]; rfl
      rw [e]
      exact e
    · have hf' : foldB a b = false := by simpa using hf
      cases hl : look g.nodes (max a b) (min a b) with
      | some c =>
        have e : andG g a b = (g, c) := by unfold andG; rw [hf', hn.hash, hl]; rfl
        rw [e]
        exact e
      | none =>
        have e : andG g a b = gateG g a b := by unfold andG; rw [hf', hl]; rfl
        rw [e]
        have hm := half_max ha hb
        have hl2 : look (gateG g a b).1.nodes (max a b) (min a b) = some (2 * g.nodes.length) := by
          show look (g.nodes ++ [(max a b, min a b)]) (max a b) (min a b) = _
          rw [look_snoc, hl, if_pos ⟨rfl, by omega⟩]
          rfl
        have hh : (gateG g a b).1.hash = true := hn.hash
        unfold andG
        rw [hf', hh, hl2]
        rfl
  refine ⟨key, ?_⟩
  have comm : ∀ g : Gr, g.fold = true → g.hash = true → andG g b a = andG g a b := fun g h1 h2 => by
    unfold andG gateG
    rw [foldB_comm b a, foldV_comm b a, Nat.max_comm b a, Nat.min_comm b a]
  have hN := nice_and hn ha hb
  rw [comm _ hN.fold hN.hash, key]
theorem many_two (g : Gr) (a b : Nat) : manyG andG g 1 [a, b] = andG g a b := rfl

/-- how many gates there are among the first k nodes -/
def cnt (ns : List (Nat × Nat)) (k : Nat) : Int := (k : Int) - (if k = 0 then 0 else 1) - (ins (ns.take k)).length
theorem cnt_bound (ns : List (Nat × Nat)) (k : Nat) (hk : k ≤ ns.length) : -((k : Int) + 1) ≤ cnt ns k ∧ cnt ns k ≤ k := by
  have h : (ins (ns.take k)).length ≤ (ns.take k).length := insFrom_length 0 _
  rw [List.length_take] at h
  unfold cnt
  split <;> omega
theorem cnt_gate {ns : List (Nat × Nat)} {k a b : Nat} (h : GateAt ns k a b) : cnt ns (k + 1) = cnt ns k + 1 := by
  have hk := h.lt
  have e : ns.take (k + 1) = ns.take k ++ [(a, b)] := by rw [List.take_add_one, h.1]; rfl
  have hl : (ns.take k).length = k := by rw [List.length_take]; omega
  have h2 := h.2.1
  have h3 := h.2.2
  unfold cnt
  have hI : (inAt k (a, b) && decide (k ≠ 0)) = false := by simp [inAt, h2]
  rw [e, ins_snoc, hl, hI, if_neg (show ¬ k + 1 = 0 by omega), if_neg (show ¬ k = 0 by omega)]
  simp
  omega
theorem cnt_none {ns : List (Nat × Nat)} {k a b : Nat} (h : ns[k]? = some (a, b)) (hg : a / 2 = k ∨ k = 0) : cnt ns (k + 1) = cnt ns k := by
  have hk := (List.getElem?_eq_some_iff.1 h).1
  have e : ns.take (k + 1) = ns.take k ++ [(a, b)] := by rw [List.take_add_one, h]; rfl
  have hl : (ns.take k).length = k := by rw [List.length_take]; omega
  unfold cnt
  rw [e, ins_snoc, hl]
  by_cases h0 : k = 0
  · subst h0; simp
  · have h1 : a / 2 = k := by omega
    have hI : (inAt k (a, b) && decide (k ≠ 0)) = true := by simp [inAt, h1, h0]
    rw [hI, if_neg (show ¬ k + 1 = 0 by omega), if_neg h0]
    simp
    omega
end Go.Proofs.Yteikngjanfjmfaa
