/-
  Law SimLanes, plain: what a netlist does, it does lane by lane: related words tell related words.
-/
import Derived.Test.YtielfgngdhcpfaaGreatP44
namespace Go.Proofs.YtielfgngdhcpfaaGreat
set_option linter.unusedVariables false

/-- a relation of words that gates keep -/
structure Closed (R : Nat → Nat → Prop) : Prop where
  zero : R 0 0
  and : ∀ {a b c d}, R a b → R c d → R (a &&& c) (b &&& d)
  no : ∀ {a b}, R a b → R (noW a) (noW b)
  one : R 18446744073709551615 18446744073709551615
  or : ∀ {a b c d}, R a b → R c d → R (a ||| c) (b ||| d)
inductive All2 {α β : Type} (R : α → β → Prop) : List α → List β → Prop
  | nil : All2 R [] []
  | cons {a b l m} : R a b → All2 R l m → All2 R (a :: l) (b :: m)
section
variable {α β γ δ : Type} {R : α → β → Prop} {S : γ → δ → Prop}
theorem All2.length {l : List α} {m : List β} (h : All2 R l m) : l.length = m.length := by
  induction h with
  | nil => rfl
  | cons _ _ ih => simp [ih]
theorem All2.append {l l' : List α} {m m' : List β} (h : All2 R l m) (h' : All2 R l' m') : All2 R (l ++ l') (m ++ m') := by
  induction h with
  | nil => exact h'
  | cons h1 _ ih => exact .cons h1 ih
theorem All2.get {l : List α} {m : List β} (h : All2 R l m) : ∀ (i : Nat) (h1 : i < l.length) (h2 : i < m.length), R l[i] m[i] := by
  induction h with
  | nil => intro i h1; simp at h1
  | cons h0 _ ih =>
    intro i h1 h2
    cases i with
    | zero => exact h0
    | succ i => simpa using ih i (by simpa using h1) (by simpa using h2)
theorem All2.of_get {l : List α} {m : List β} (hl : l.length = m.length) (h : ∀ (i : Nat) (h1 : i < l.length) (h2 : i < m.length), R l[i] m[i]) : All2 R l m := by
  induction l generalizing m with
  | nil => cases m with
    | nil => exact .nil
    | cons => simp at hl
  | cons a l ih => cases m with
    | nil => simp at hl
    | cons b m =>
      refine .cons (h 0 (by simp) (by simp)) (ih (by simpa using hl) fun i h1 h2 => ?_)
      exact h (i + 1) (by simpa using h1) (by simpa using h2)
theorem All2.map {l : List α} {m : List β} (h : All2 R l m) (f : α → γ) (g : β → δ) (hfg : ∀ a b, R a b → S (f a) (g b)) : All2 S (l.map f) (m.map g) := by
  induction h with
  | nil => exact .nil
  | cons h1 _ ih => exact .cons (hfg _ _ h1) ih
end
theorem All2.same {α : Type} {R : α → α → Prop} (l : List α) (h : ∀ a ∈ l, R a a) : All2 R l l := by
  induction l with
  | nil => exact .nil
  | cons a l ih => exact .cons (h a (by simp)) (ih fun x hx => h x (by simp [hx]))
theorem All2.getD {R : Nat → Nat → Prop} {l m : List Nat} (h : All2 R l m) (h0 : R 0 0) (i : Nat) : R (l.getD i 0) (m.getD i 0) := by
  have hl := h.length
  rw [List.getD_eq_getElem?_getD, List.getD_eq_getElem?_getD]
  by_cases hi : i < l.length
  · rw [List.getElem?_eq_getElem hi, List.getElem?_eq_getElem (by omega)]
    exact h.get i hi (by omega)
  · rw [List.getElem?_eq_none (by omega), List.getElem?_eq_none (by omega)]
    exact h0
variable {R : Nat → Nat → Prop}
theorem wd_rel (hc : Closed R) {V W : List Nat} (h : All2 R V W) (l : Nat) : R (wd V l) (wd W l) := by
  have h1 : R (nodeW V (l / 2)) (nodeW W (l / 2)) := by
    unfold nodeW
    split
    · exact hc.zero
    · exact h.getD hc.zero _
  unfold wd
  split
  · exact hc.no h1
  · exact h1
theorem valTo_rel (hc : Closed R) {inp inp' : List Nat} (h : All2 R inp inp') (ns : List (Nat × Nat)) (k : Nat) : All2 R (valTo inp ns k) (valTo inp' ns k) := by
  induction k with
  | zero => exact .nil
  | succ k ih =>
    refine ih.append (.cons ?_ .nil)
    unfold nodeV
    split
    · split
      · exact hc.zero
      · exact h.getD hc.zero _
    · exact hc.and (wd_rel hc ih _) (wd_rel hc ih _)
theorem evalG_rel (hc : Closed R) {g : Gr} (hw : WF g.nodes) {inp inp' : List Nat} (h : All2 R inp inp') : All2 R (evalG g inp) (evalG g inp') := by
  rw [evalG_val hw, evalG_val hw]
  exact valTo_rel hc h _ _
/-- pairs of a literal and its word -/
def PR (R : Nat → Nat → Prop) (p q : Nat × Nat) : Prop := p.1 = q.1 ∧ R p.2 q.2
theorem zip_rel (xs : List Nat) {l m : List Nat} (h : All2 R l m) : All2 (PR R) (xs.zip l) (xs.zip m) := by
  induction h generalizing xs with
  | nil => simp; exact .nil
  | cons h1 _ ih => cases xs with
    | nil => exact .nil
    | cons x xs => exact .cons ⟨rfl, h1⟩ (ih xs)
theorem pairsB_rel (b : List Bus) {l m : List (List Nat)} (h : All2 (All2 R) l m) : All2 (PR R) (pairsB b l) (pairsB b m) := by
  unfold pairsB
  induction h generalizing b with
  | nil => simp; exact .nil
  | cons h1 _ ih => cases b with
    | nil => exact .nil
    | cons x b =>
      simp only [List.zip_cons_cons, List.flatMap_cons]
      exact (zip_rel _ h1).append (ih b)
theorem find_rel (h0 : R 0 0) {ps qs : List (Nat × Nat)} (h : All2 (PR R) ps qs) (x : Nat) : R (((ps.find? fun p => decide (p.1 = x)).map (·.2)).getD 0) (((qs.find? fun p => decide (p.1 = x)).map (·.2)).getD 0) := by
  induction h with
  | nil => exact h0
  | cons h1 _ ih =>
    simp only [List.find?_cons]
    rw [h1.1]
    split
    · exact h1.2
    · exact ih
theorem asg_rel (h0 : R 0 0) (is : List Nat) {ps qs : List (Nat × Nat)} (h : All2 (PR R) ps qs) : All2 R (asg is ps) (asg is qs) := by
  unfold asg
  induction is with
  | nil => exact .nil
  | cons i is ih => exact .cons (find_rel h0 h _) ih
theorem wordsN_rel (hc : Closed R) {N : Nt} (hw : WF N.g.nodes) {inp inp' : List (List Nat)} {regs regs' : List Nat} (h1 : All2 (All2 R) inp inp') (h2 : All2 R regs regs') : All2 R (wordsN N inp regs) (wordsN N inp' regs') :=
  evalG_rel hc hw (asg_rel hc.zero _ ((pairsB_rel _ h1).append (zip_rel _ h2)))
theorem nextN_rel (hc : Closed R) {N : Nt} {ws ws' regs regs' : List Nat} (h1 : All2 R ws ws') (h2 : All2 R regs regs') : All2 R (nextN N ws regs) (nextN N ws' regs') := by
  unfold nextN
  generalize N.regs = rs
  induction h2 generalizing rs with
  | nil => simp; exact .nil
  | cons h0 _ ih => cases rs with
    | nil => exact .nil
    | cons r rs =>
      refine .cons ?_ (ih rs)
      have he := wd_rel hc h1 r.en
      exact hc.or (hc.and (wd_rel hc h1 r.d) he) (hc.and h0 (hc.no he))
theorem outN_rel (hc : Closed R) (N : Nt) {ws ws' : List Nat} (h : All2 R ws ws') : All2 (All2 R) (outN N ws) (outN N ws') := by
  unfold outN
  induction N.outb with
  | nil => exact .nil
  | cons b l ih =>
    refine .cons ?_ ih
    show All2 R (b.lits.map (wd ws)) (b.lits.map (wd ws'))
    induction b.lits with
    | nil => exact .nil
    | cons x l ih => exact .cons (wd_rel hc h x) ih
theorem resetN_rel (hc : Closed R) (N : Nt) : All2 R (resetN N) (resetN N) := by
  refine All2.same _ fun a ha => ?_
  unfold resetN at ha
  obtain ⟨r, _, rfl⟩ := List.mem_map.1 ha
  split
  · exact hc.one
  · exact hc.zero
theorem givenRow_rel (h0 : R 0 0) {l m : List Nat} (h : All2 R l m) (o k : Nat) : All2 R (givenRow l o k) (givenRow m o k) := by
  unfold givenRow
  induction List.range k with
  | nil => exact .nil
  | cons i is ih => exact .cons (h.getD h0 _) ih
theorem givenN_rel (h0 : R 0 0) (b : List Bus) {l m : List Nat} (h : All2 R l m) : All2 (All2 R) (givenN b l 0) (givenN b m 0) := by
  unfold givenN
  refine All2.append ?_ (by simp; exact .nil)
  unfold givenTo
  induction List.range b.length with
  | nil => exact .nil
  | cons i is ih => exact .cons (givenRow_rel h0 h _ _) ih
/-- rows that are related, cycle by cycle -/
theorem cyc_rel (h0 : R 0 0) (N : Nt) {c d : List (List Nat)} (h : All2 (All2 R) c d) (k : Nat) : All2 (All2 R) (cyc N c k) (cyc N d k) := by
  unfold cyc
  refine givenN_rel h0 _ ?_
  have hl := h.length
  rw [List.getD_eq_getElem?_getD, List.getD_eq_getElem?_getD]
  by_cases hi : k < c.length
  · rw [List.getElem?_eq_getElem hi, List.getElem?_eq_getElem (by omega)]
    exact h.get k hi (by omega)
  · rw [List.getElem?_eq_none (by omega), List.getElem?_eq_none (by omega)]
    exact .nil
theorem sgs_rel (hc : Closed R) {N : Nt} (hw : WF N.g.nodes) {c d : List (List Nat)} (h : All2 (All2 R) c d) (k : Nat) : All2 R (sgs N c k).regs (sgs N d k).regs := by
  induction k with
  | zero => exact resetN_rel hc N
  | succ k ih =>
    simp only [sgs, nextS, sgs_N]
    exact nextN_rel hc (wordsN_rel hc hw (cyc_rel hc.zero N h k) ih) ih
theorem told_rel (hc : Closed R) {N : Nt} (hw : WF N.g.nodes) {c d : List (List Nat)} (h : All2 (All2 R) c d) (k : Nat) : All2 (All2 R) (told N c k) (told N d k) :=
  outN_rel hc N (wordsN_rel hc hw (cyc_rel hc.zero N h k) (sgs_rel hc hw h k))

/-- one lane alone -/
def LaneR (i a b : Nat) : Prop := a < 18446744073709551616 ∧ b < 18446744073709551616 ∧ a.testBit i = b.testBit i
theorem lane_closed (i : Nat) : Closed (LaneR i) where
  zero := ⟨by omega, by omega, rfl⟩
  one := ⟨by omega, by omega, rfl⟩
  and := fun h k => ⟨and_word h.1, and_word h.2.1, by rw [Nat.testBit_and, Nat.testBit_and, h.2.2, k.2.2]⟩
  or := fun h k => ⟨or_word h.1 k.1, or_word h.2.1 k.2.1, by rw [Nat.testBit_or, Nat.testBit_or, h.2.2, k.2.2]⟩
  no := fun h => ⟨noW_lt _, noW_lt _, by rw [noW_testBit _ _ h.1, noW_testBit _ _ h.2.1, h.2.2]⟩
/-- turned to the left by r -/
def rotW (r x : Nat) : Nat := (x * 2 ^ r) % 18446744073709551616 ||| x / 2 ^ (64 - r)
theorem rotW_testBit {r x : Nat} (hr : r < 64) (hx : x < 18446744073709551616) (i : Nat) : (rotW r x).testBit i = (decide (i < 64) && x.testBit ((i + 64 - r) % 64)) := by
  unfold rotW
  have e : (18446744073709551616 : Nat) = 2 ^ 64 := by decide
  rw [e] at hx ⊢
  rw [Nat.testBit_or, Nat.testBit_mod_two_pow, Nat.testBit_mul_two_pow, Nat.testBit_div_two_pow]
  by_cases hi : i < 64
  · by_cases hri : r ≤ i
    · have h1 : (i + 64 - r) % 64 = i - r := by omega
      have h2 : x.testBit (i + (64 - r)) = false := Nat.testBit_lt_two_pow (Nat.lt_of_lt_of_le hx (Nat.pow_le_pow_right (by omega) (by omega)))
      simp [hi, hri, h1, h2]
    · have h1 : (i + 64 - r) % 64 = i + (64 - r) := by omega
      simp [hi, hri, h1]
  · have h2 : x.testBit (i + (64 - r)) = false := Nat.testBit_lt_two_pow (Nat.lt_of_lt_of_le hx (Nat.pow_le_pow_right (by omega) (by omega)))
    simp [hi, h2]
theorem rotW_lt (r x : Nat) (hr : r < 64) (hx : x < 18446744073709551616) : rotW r x < 18446744073709551616 := by
  refine Nat.lt_pow_two_of_testBit (n := 64) _ fun i hi => ?_
  rw [rotW_testBit hr hx]
  simp; omega
def TurnR (r a b : Nat) : Prop := a < 18446744073709551616 ∧ b = rotW r a
theorem turn_of {r a b : Nat} (hr : r < 64) (ha : a < 18446744073709551616) (hb : b < 18446744073709551616) (h : ∀ i, i < 64 → b.testBit i = a.testBit ((i + 64 - r) % 64)) : TurnR r a b := by
  refine ⟨ha, Nat.eq_of_testBit_eq fun i => ?_⟩
  rw [rotW_testBit hr ha]
  by_cases hi : i < 64
  · simp [hi, h i hi]
  · simp [hi, word_high hb hi]
theorem TurnR.bit {r a b : Nat} (h : TurnR r a b) (hr : r < 64) {i : Nat} (hi : i < 64) : b.testBit i = a.testBit ((i + 64 - r) % 64) := by
  rw [h.2, rotW_testBit hr h.1]; simp [hi]
theorem TurnR.lt {r a b : Nat} (h : TurnR r a b) (hr : r < 64) : b < 18446744073709551616 := by rw [h.2]; exact rotW_lt _ _ hr h.1
theorem turn_closed {r : Nat} (hr : r < 64) : Closed (TurnR r) where
  zero := turn_of hr (by omega) (by omega) fun i hi => by simp
  one := turn_of hr (by omega) (by omega) fun i hi => by
    have e : (18446744073709551615 : Nat) = 2 ^ 64 - 1 := by decide
    rw [e, Nat.testBit_two_pow_sub_one, Nat.testBit_two_pow_sub_one]
    have : (i + 64 - r) % 64 < 64 := Nat.mod_lt _ (by omega)
    simp [hi, this]
  and := fun h k => turn_of hr (and_word h.1) (and_word (h.lt hr)) fun i hi => by rw [Nat.testBit_and, Nat.testBit_and, h.bit hr hi, k.bit hr hi]
  or := fun h k => turn_of hr (or_word h.1 k.1) (or_word (h.lt hr) (k.lt hr)) fun i hi => by rw [Nat.testBit_or, Nat.testBit_or, h.bit hr hi, k.bit hr hi]
  no := fun h => turn_of hr (noW_lt _) (noW_lt _) fun i hi => by
    have : (i + 64 - r) % 64 < 64 := Nat.mod_lt _ (by omega)
    rw [noW_testBit _ _ (h.lt hr), noW_testBit _ _ h.1, h.bit hr hi]
    simp [hi, this]
def turnC (r : Nat) (c : List (List Nat)) : List (List Nat) := c.map fun l => l.map (rotW r)
def laneC (i : Nat) (c : List (List Nat)) : List (List Nat) := c.map fun l => l.map fun x => x &&& 2 ^ i
theorem turnC_rel {r : Nat} (hr : r < 64) {c : List (List Nat)} (hc : ∀ l ∈ c, Words l) : All2 (All2 (TurnR r)) c (turnC r c) := by
  unfold turnC
  induction c with
  | nil => exact .nil
  | cons l c ih =>
    refine .cons ?_ (ih fun x hx => hc x (by simp [hx]))
    have hl := hc l (by simp)
    clear ih hc
    induction l with
    | nil => exact .nil
    | cons x l ih => exact .cons ⟨hl x (by simp), rfl⟩ (ih fun y hy => hl y (by simp [hy]))
theorem and_pow {x i : Nat} (hx : x < 18446744073709551616) (hi : i < 64) : LaneR i x (x &&& 2 ^ i) :=
  ⟨hx, and_word hx, by rw [Nat.testBit_and, Nat.testBit_two_pow_self, Bool.and_true]⟩
theorem LaneR.and {i a b : Nat} (h : LaneR i a b) : a &&& 2 ^ i = b &&& 2 ^ i := by
  apply Nat.eq_of_testBit_eq; intro j
  rw [Nat.testBit_and, Nat.testBit_and]
  by_cases hj : j = i
  · subst hj; rw [h.2.2]
  · rw [Nat.testBit_two_pow_of_ne (by omega)]; simp
theorem laneC_rel {i : Nat} (hi : i < 64) {c : List (List Nat)} (hc : ∀ l ∈ c, Words l) : All2 (All2 (LaneR i)) c (laneC i c) := by
  unfold laneC
  induction c with
  | nil => exact .nil
  | cons l c ih =>
    refine .cons ?_ (ih fun x hx => hc x (by simp [hx]))
    have hl := hc l (by simp)
    clear ih hc
    induction l with
    | nil => exact .nil
    | cons x l ih => exact .cons (and_pow (hl x (by simp)) hi) (ih fun y hy => hl y (by simp [hy]))
end Go.Proofs.YtielfgngdhcpfaaGreat
