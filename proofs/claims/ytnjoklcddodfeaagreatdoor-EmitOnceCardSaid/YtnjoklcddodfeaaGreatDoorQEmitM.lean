/-
  Package emit, plain: a netlist's lines and its text; how long it is.
-/
import Derived.Test.YtnjoklcddodfeaaGreatDoorP23
import Derived.Lib.ItoaLen
namespace Go.Proofs.YtnjoklcddodfeaaGreatDoor
set_option linter.unusedVariables false
set_option linter.unusedSimpArgs false

def wModel : List UInt8 := [46, 109, 111, 100, 101, 108]
def wInput : List UInt8 := [46, 105, 110, 112, 117, 116]
def wLatch : List UInt8 := [46, 108, 97, 116, 99, 104]
def wAnd : List UInt8 := [46, 97, 110, 100]
def wOutput : List UInt8 := [46, 111, 117, 116, 112, 117, 116]
def wEnd : List UInt8 := [46, 101, 110, 100]
/-- literals, a blank ahead of each -/
def wordsB (l : List Nat) : List UInt8 := l.flatMap fun x => 32 :: Lib.decDigits x
def nameB1 (name : List UInt8) : List UInt8 := if name = [] then [] else 32 :: name
/-- a line: a word, perhaps a name, and literals -/
def lineB (word name : List UInt8) (l : List Nat) : List UInt8 := word ++ nameB1 name ++ wordsB l
def bytesL (s : ByteArray) : List UInt8 := s.data.toList
def busL (word : List UInt8) (b : Bus) : List UInt8 := lineB word (bytesL b.name) b.lits
def latchL (r : Rg) : List UInt8 := lineB wLatch [] [r.q, r.d, r.en, if r.init then 1 else 0]
/-- the two of a gate -/
def gateAt (g : Gr) (k : Nat) : Option (Nat × Nat) := match g.nodes[k]? with
  | some (a, b) => if a / 2 = k then none else some (a, b)
  | none => none
def gatesL (g : Gr) (n : Nat) : List (List UInt8) := (List.range n).filterMap fun k => (gateAt g k).map fun p => lineB wAnd [] [2 * k, p.1, p.2]
def bodyL (N : Nt) : List (List UInt8) := lineB wModel (bytesL N.name) [] :: (N.inb.map (busL wInput) ++ (N.regs.map latchL ++ (gatesL N.g N.g.nodes.length ++ (N.outb.map (busL wOutput) ++ [wEnd]))))
def linesN (N : Nt) : List (List UInt8) := if checkN N = 0 then bodyL N else []
/-- lines, each with its end -/
def textL (l : List (List UInt8)) : List UInt8 := l.flatMap fun s => s ++ [10]
theorem textL_snoc (l : List (List UInt8)) (s : List UInt8) : textL (l ++ [s]) = textL l ++ (s ++ [10]) := by simp [textL]
theorem wordsB_snoc (l : List Nat) (x : Nat) : wordsB (l ++ [x]) = wordsB l ++ (32 :: Lib.decDigits x) := by simp [wordsB]
theorem gatesL_succ (g : Gr) (n : Nat) : gatesL g (n + 1) = gatesL g n ++ (match gateAt g n with
    | some p => [lineB wAnd [] [2 * n, p.1, p.2]]
    | none => []) := by
  unfold gatesL
  rw [List.range_succ, List.filterMap_append]
  congr 1
  cases h : gateAt g n <;> simp [h]
/-! how long -/
theorem dec_len {x : Nat} (h : x < 4294967296) : (Lib.decDigits x).length ≤ 20 := by
  rw [Lib.decDigits_length]
  exact Lib.nDigits_le20 x (by omega)
theorem wordsB_len (l : List Nat) (h : ∀ x ∈ l, x < 4294967296) : (wordsB l).length ≤ 21 * l.length := by
  induction l with
  | nil => simp [wordsB]
  | cons x l ih =>
    have h1 := ih fun y hy => h y (List.mem_cons_of_mem _ hy)
    have h2 := dec_len (h x (by simp))
    have h3 : (wordsB (x :: l)).length = 1 + (Lib.decDigits x).length + (wordsB l).length := by simp [wordsB]; omega
    rw [h3, List.length_cons]
    omega
theorem nameB1_len (s : List UInt8) : (nameB1 s).length ≤ s.length + 1 := by unfold nameB1; split <;> simp
theorem lineB_len (word name : List UInt8) (l : List Nat) (h : ∀ x ∈ l, x < 4294967296) : (lineB word name l).length ≤ word.length + name.length + 1 + 21 * l.length := by
  have h1 := wordsB_len l h
  have h2 := nameB1_len name
  unfold lineB
  rw [List.length_append, List.length_append]
  omega
theorem textL_len {l : List (List UInt8)} {c : Nat} (h : ∀ s ∈ l, s.length ≤ c) : (textL l).length ≤ (c + 1) * l.length := by
  induction l with
  | nil => simp [textL]
  | cons s l ih =>
    have h1 := ih fun y hy => h y (List.mem_cons_of_mem _ hy)
    have h2 := h s (by simp)
    have h3 : (textL (s :: l)).length = s.length + 1 + (textL l).length := by simp [textL]; omega
    rw [h3, List.length_cons, Nat.mul_succ]
    omega
theorem mayB_len {s : ByteArray} (h : mayB s = true) : (bytesL s).length ≤ 80 := by
  unfold mayB at h
  simp only [Bool.and_eq_true, decide_eq_true_eq] at h
  have : (bytesL s).length = s.size := rfl
  omega
theorem ok_lt32 {k : Nat} {N : Nt} (h : NtOk k N) (hk : k ≤ 700) {x : Nat} (hx : N.g.ok x) : x < 4294967296 := by
  have := h.len
  unfold Gr.ok at hx
  omega
theorem bus_len {k : Nat} {N : Nt} (h : NtOk k N) (hk : k ≤ 700) {b : Bus} (word : List UInt8) (hw : word.length ≤ 10) (h1 : b.lits.length ≤ 64) (h2 : mayB b.name = true) (h3 : ∀ x ∈ b.lits, N.g.ok x) : (busL word b).length ≤ 1500 := by
  have := lineB_len word (bytesL b.name) b.lits fun x hx => ok_lt32 h hk (h3 x hx)
  have := mayB_len h2
  unfold busL
  omega
theorem gateAt_lt {g : Gr} (hw : WF g.nodes) {k : Nat} {p : Nat × Nat} (h : gateAt g k = some p) : k < g.nodes.length ∧ p.1 / 2 < k ∧ p.2 ≤ p.1 := by
  unfold gateAt at h
  split at h
  · rename_i a b hab
    split at h
    · cases h
    · rename_i hne
      injection h with h
      subst h
      have hlt := (List.getElem?_eq_some_iff.1 hab).1
      rcases hw.each k a b hab with h1 | h1
      · omega
      · exact ⟨hlt, h1.2, h1.1⟩
  · cases h
theorem body_each {k : Nat} {N : Nt} (h : NtFine k N) (hk : k ≤ 60) : (∀ s ∈ bodyL N, s.length ≤ 1500) ∧ (bodyL N).length ≤ 6000 := by
  have hok := h.ok
  constructor
  · intro s hs
    unfold bodyL at hs
    simp only [List.mem_cons, List.mem_append, List.mem_map, List.mem_singleton, List.not_mem_nil, or_false] at hs
    rcases hs with rfl | ⟨b, hb, rfl⟩ | ⟨r, hr, rfl⟩ | hs | ⟨b, hb, rfl⟩ | rfl
    · have := lineB_len wModel (bytesL N.name) [] (by simp)
      have := mayB_len h.nm
      have : wModel.length = 6 := rfl
      simp at *
      omega
    · obtain ⟨_, h2, h3, h4⟩ := hok.il b hb
      exact bus_len hok (by omega) wInput (by decide) h2 h3 h4
    · obtain ⟨h1, h2, h3⟩ := hok.rl r hr
      have := lineB_len wLatch [] [r.q, r.d, r.en, if r.init then 1 else 0] (fun x hx => by
        simp only [List.mem_cons, List.not_mem_nil, or_false] at hx
        rcases hx with rfl | rfl | rfl | rfl
        · exact ok_lt32 hok (by omega) h1
        · exact ok_lt32 hok (by omega) h2
        · exact ok_lt32 hok (by omega) h3
        · split <;> omega)
      have : wLatch.length = 6 := rfl
      unfold latchL
      simp at *
      omega
    · unfold gatesL at hs
      obtain ⟨j, hj, h1⟩ := List.mem_filterMap.1 hs
      rw [List.mem_range] at hj
      cases hg : gateAt N.g j with
      | none => rw [hg] at h1; cases h1
      | some p =>
        rw [hg] at h1
        injection h1 with h1
        subst h1
        obtain ⟨g1, g2, g3⟩ := gateAt_lt hok.wf hg
        have hl := hok.len
        have := lineB_len wAnd [] [2 * j, p.1, p.2] (fun x hx => by
          simp only [List.mem_cons, List.not_mem_nil, or_false] at hx
          rcases hx with rfl | rfl | rfl <;> omega)
        have : wAnd.length = 4 := rfl
        simp at *
        omega
    · obtain ⟨_, h2, h3, h4⟩ := hok.ol b hb
      exact bus_len hok (by omega) wOutput (by decide) h2 h3 h4
    · decide
  · have h1 := hok.ik
    have h2 := hok.rk
    have h3 := hok.ok
    have h4 := hok.len
    have h5 : (gatesL N.g N.g.nodes.length).length ≤ N.g.nodes.length := by
      unfold gatesL
      exact Nat.le_trans (List.length_filterMap_le _ _) (by simp)
    unfold bodyL
    simp only [List.length_cons, List.length_append, List.length_map, List.length_nil]
    omega
theorem lines_each {k : Nat} {N : Nt} (h : NtFine k N) (hk : k ≤ 60) : (∀ s ∈ linesN N, s.length ≤ 1500) ∧ (linesN N).length ≤ 6000 ∧ (textL (linesN N)).length ≤ 9100000 := by
  have hb : (∀ s ∈ linesN N, s.length ≤ 1500) ∧ (linesN N).length ≤ 6000 := by
    unfold linesN
    split
    · exact body_each h hk
    · simp
  refine ⟨hb.1, hb.2, ?_⟩
  have := textL_len hb.1
  have : (1500 + 1) * (linesN N).length ≤ (1500 + 1) * 6000 := Nat.mul_le_mul_left _ hb.2
  omega
end Go.Proofs.YtnjoklcddodfeaaGreatDoor
