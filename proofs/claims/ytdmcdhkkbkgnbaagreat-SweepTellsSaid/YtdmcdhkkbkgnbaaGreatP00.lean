/-
  Base words for all proofs of this seat: reading a slice of numbers, frames by lists of blocks, one append, and how a walk of a law becomes its statement.
  Plain graphs of and-gates: nodes as pairs of literals, an input has its own literal twice. No program in sight.
  Plain words on literals and their 64-lane words: no program in sight.
-/
import Derived.Laws.BitsAllLaws
import Derived.Laws.Entries
import Derived.WalkKit
import Derived.Test.YtdmcdhkkbkgnbaaGreatRows
import Derived.ProofKit
import Derived.OpenShut
import Derived.Handy
import Derived.Below
import Derived.WalkLawsBesides
import Derived.WalkSpells
import Derived.SizedLaws
import Derived.Maps.AppendAt
import Derived.Laws.OwnMore
import Derived.Lib.Hide
import Derived.Deep.QuietTactic
import Derived.BigQuiet
namespace Go.Proofs.YtdmcdhkkbkgnbaaGreat
open Go.RowKit

/-- the opposite of a literal -/
def ntL (l : Nat) : Nat := if l % 2 = 0 then l + 1 else l - 1
def ifL (l : Nat) (t : Bool) : Nat := if t then ntL l else l
def noW (v : Nat) : Nat := 18446744073709551615 - v
/-- a node's word by a row of words -/
def nodeW (ws : List Nat) (n : Nat) : Nat := if n = 0 then 0 else ws.getD n 0
/-- a literal's word by a row of words -/
def wd (ws : List Nat) (l : Nat) : Nat := if l % 2 = 1 then noW (nodeW ws (l / 2)) else nodeW ws (l / 2)
def foldV (a b : Nat) : Nat := if min a b = 0 ∨ max a b = ntL (min a b) then 0 else if min a b = 1 ∨ a = b then max a b else 0
def foldB (a b : Nat) : Bool := decide (min a b = 0 ∨ max a b = ntL (min a b) ∨ min a b = 1 ∨ a = b)
def Words (ws : List Nat) : Prop := ∀ n ∈ ws, n < 18446744073709551616
def Lits (ls : List Nat) : Prop := ∀ n ∈ ls, n < 4294967296

theorem xor_one (l : Nat) : l ^^^ 1 = ntL l := by
  have h1 : (l ^^^ 1) / 2 = l / 2 := by rw [Nat.xor_div_two]; simp
  have h2 : (l ^^^ 1) % 2 = (l + 1) % 2 := by
    by_cases hx : (l ^^^ 1) % 2 = 1
    · have := Nat.xor_mod_two_eq_one.1 hx
      simp at this; omega
    · have : ¬ ¬ (l % 2 = 1 ↔ 1 % 2 = 1) := fun h => hx (Nat.xor_mod_two_eq_one.2 h)
      simp at this; omega
  unfold ntL
  split <;> omega

theorem xor_all (v : Nat) (h : v < 18446744073709551616) : v ^^^ 18446744073709551615 = noW v := by
  unfold noW
  have h' : v < 2 ^ 64 := h
  apply Nat.eq_of_testBit_eq; intro i
  rw [show 18446744073709551615 - v = 2^64 - (v+1) by omega, Nat.testBit_two_pow_sub_succ h', Nat.testBit_xor, show 18446744073709551615 = 2^64 - 1 by rfl, Nat.testBit_two_pow_sub_one]
  by_cases hi : i < 64
  · simp [hi]
  · have : v.testBit i = false := Nat.testBit_lt_two_pow (Nat.lt_of_lt_of_le h' (Nat.pow_le_pow_right (by omega) (Nat.not_lt.1 hi)))
    simp [hi, this]

theorem ntL_lt {l : Nat} (h : l < 4294967296) : ntL l < 4294967296 := by unfold ntL; split <;> omega
theorem ntL_half (l : Nat) : ntL l / 2 = l / 2 := by unfold ntL; split <;> omega
theorem ntL_mod (l : Nat) : ntL l % 2 = 1 - l % 2 := by unfold ntL; split <;> omega
theorem ntL_ntL (l : Nat) : ntL (ntL l) = l := by unfold ntL; split <;> split <;> omega
theorem ntL_ne (l : Nat) : ntL l ≠ l := by unfold ntL; split <;> omega
theorem ifL_lt {l : Nat} (h : l < 4294967296) (t : Bool) : ifL l t < 4294967296 := by unfold ifL; split; exact ntL_lt h; exact h
theorem ifL_half (l : Nat) (t : Bool) : ifL l t / 2 = l / 2 := by unfold ifL; split; exact ntL_half l; rfl
theorem noW_lt (v : Nat) : noW v < 18446744073709551616 := by unfold noW; omega
theorem noW_noW {v : Nat} (h : v < 18446744073709551616) : noW (noW v) = v := by unfold noW; omega
theorem nodeW_lt {ws : List Nat} (h : Words ws) (n : Nat) : nodeW ws n < 18446744073709551616 := by
  unfold nodeW
  split
  · omega
  · rw [List.getD_eq_getElem?_getD]
    cases hn : ws[n]? with
    | none => simp
    | some v => simpa using h v (List.mem_of_getElem? hn)
theorem wd_lt {ws : List Nat} (h : Words ws) (l : Nat) : wd ws l < 18446744073709551616 := by
  unfold wd; split; exact noW_lt _; exact nodeW_lt h _
theorem wd_ntL {ws : List Nat} (h : Words ws) (l : Nat) : wd ws (ntL l) = noW (wd ws l) := by
  have := ntL_mod l
  unfold wd
  rw [ntL_half]
  by_cases hl : l % 2 = 1
  · rw [if_neg (by omega), if_pos hl, noW_noW (nodeW_lt h _)]
  · rw [if_pos (by omega), if_neg hl]

/-! The walk's own spellings. -/
theorem bits_and1 (l : Nat) (h : l < 4294967296) : bits .and .u32 (l : Int) 1 = ((l % 2 : Nat) : Int) := by
  rw [show (1 : Int) = ((1 : Nat) : Int) from rfl, u32_and_nat _ _ h (by omega), nat_mask1]
theorem bits_xor1 (l : Nat) (h : l < 4294967296) : bits .xor .u32 (l : Int) 1 = ((ntL l : Nat) : Int) := by
  rw [show (1 : Int) = ((1 : Nat) : Int) from rfl, u32_xor_nat _ _ h (by omega), xor_one]
theorem word_spell (v l : Nat) (hv : v < 18446744073709551616) (h : l < 4294967296) :
    bits .xor .u64 (v : Int) (IntKind.u64.wrap (-IntKind.u64.wrap (bits .and .u32 (l : Int) 1))) = ((if l % 2 = 1 then noW v else v : Nat) : Int) := by
  rw [bits_and1 l h]
  by_cases hl : l % 2 = 1
  · rw [hl, if_pos rfl, ← xor_all v hv, ← u64_xor_nat _ _ hv (by omega)]
    rfl
  · rw [show l % 2 = 0 by omega, if_neg (by omega)]
    have : IntKind.u64.wrap (-IntKind.u64.wrap ((0 : Nat) : Int)) = ((0 : Nat) : Int) := rfl
    rw [this, u64_xor_nat _ _ hv (by omega), Nat.xor_zero]

theorem noW_and (v : Nat) : v &&& noW v = 0 := by
  by_cases h : v < 2 ^ 64
  · rw [← xor_all v h]
    apply Nat.eq_of_testBit_eq; intro i
    rw [Nat.testBit_and, Nat.testBit_xor, show 18446744073709551615 = 2^64 - 1 by rfl, Nat.testBit_two_pow_sub_one]
    by_cases hi : i < 64
    · simp [hi]
    · have : v.testBit i = false := Nat.testBit_lt_two_pow (Nat.lt_of_lt_of_le h (Nat.pow_le_pow_right (by omega) (Nat.not_lt.1 hi)))
      simp [this]
  · have : noW v = 0 := by unfold noW; omega
    rw [this, Nat.and_zero]
theorem and_all (v : Nat) (h : v < 18446744073709551616) : v &&& 18446744073709551615 = v := by
  have h' : v < 2 ^ 64 := h
  exact Nat.and_two_pow_sub_one_of_lt_two_pow h'
theorem wd_zero (ws : List Nat) : wd ws 0 = 0 := by simp [wd, nodeW]
theorem wd_one (ws : List Nat) : wd ws 1 = 18446744073709551615 := by simp [wd, nodeW, noW]
theorem foldV_comm (a b : Nat) : foldV a b = foldV b a := by
  unfold foldV
  rw [Nat.max_comm, Nat.min_comm]
  simp only [eq_comm (a := a) (b := b)]
theorem foldB_comm (a b : Nat) : foldB a b = foldB b a := by
  unfold foldB
  rw [Nat.max_comm, Nat.min_comm]
  simp only [eq_comm (a := a) (b := b)]
/-- what Fold tells is the And of both words -/
theorem fold_word {ws : List Nat} (h : Words ws) (a b : Nat) (hf : foldB a b = true) : wd ws (foldV a b) = wd ws a &&& wd ws b := by
  have comm : ∀ p q : Nat, wd ws (max p q) &&& wd ws (min p q) = wd ws p &&& wd ws q := by
    intro p q
    rcases Nat.le_total p q with hpq | hpq
    · rw [Nat.max_eq_right hpq, Nat.min_eq_left hpq, Nat.and_comm]
    · rw [Nat.max_eq_left hpq, Nat.min_eq_right hpq]
  rw [← comm]
  unfold foldB at hf
  unfold foldV
  simp only [decide_eq_true_eq] at hf
  by_cases h0 : min a b = 0
  · rw [if_pos (.inl h0), h0, wd_zero, Nat.and_zero]
  · by_cases h1 : max a b = ntL (min a b)
    · rw [if_pos (.inr h1), h1, wd_ntL h, wd_zero, Nat.and_comm, noW_and]
    · rw [if_neg (by simp [h0, h1])]
      by_cases h2 : min a b = 1
      · rw [if_pos (.inl h2), h2, wd_one, and_all _ (wd_lt h _)]
      · have h3 : a = b := by
          rcases hf with h | h | h | h
          · exact absurd h h0
          · exact absurd h h1
          · exact absurd h h2
          · exact h
        rw [if_pos (.inr h3), h3, Nat.max_self, Nat.min_self, Nat.and_self]
theorem fold_not (a b : Nat) (hf : foldB a b = false) : a / 2 ≠ b / 2 ∧ 1 < a ∧ 1 < b := by
  unfold foldB at hf
  simp only [decide_eq_false_iff_not, not_or] at hf
  obtain ⟨h0, h1, h2, h3⟩ := hf
  unfold ntL at h1
  split at h1 <;> omega
theorem foldV_lt (a b : Nat) (ha : a < 4294967296) (hb : b < 4294967296) : foldV a b < 4294967296 := by
  unfold foldV
  repeat' split
  all_goals omega
theorem notw_spell (v : Nat) (h : v < 18446744073709551616) : bits .xor .u64 IntKind.u64.max (v : Int) = ((noW v : Nat) : Int) := by
  rw [show IntKind.u64.max = ((18446744073709551615 : Nat) : Int) from rfl, u64_xor_nat _ _ (by omega) h, Nat.xor_comm, xor_all v h]
end Go.Proofs.YtdmcdhkkbkgnbaaGreat

namespace Go.Proofs.YtdmcdhkkbkgnbaaGreat

structure Gr where
  fold : Bool
  hash : Bool
  nodes : List (Nat × Nat)

def Gr.n (g : Gr) : Nat := g.nodes.length
/-- node i is no gate -/
def inAt (i : Nat) (p : Nat × Nat) : Bool := decide (p.1 / 2 = i)
/-- inputs among nodes that begin at number i -/
def insFrom : Nat → List (Nat × Nat) → List Nat
  | _, [] => []
  | i, p :: r => if inAt i p && decide (i ≠ 0) then i :: insFrom (i + 1) r else insFrom (i + 1) r
def ins (ns : List (Nat × Nat)) : List Nat := insFrom 0 ns
/-- the first gate of just these two -/
def lookFrom (a b : Nat) : Nat → List (Nat × Nat) → Option Nat
  | _, [] => none
  | i, p :: r => if p = (a, b) ∧ a / 2 ≠ i then some (2 * i) else lookFrom a b (i + 1) r
def look (ns : List (Nat × Nat)) (a b : Nat) : Option Nat := lookFrom a b 0 ns

theorem insFrom_snoc (i : Nat) (l : List (Nat × Nat)) (p : Nat × Nat) : insFrom i (l ++ [p]) = insFrom i l ++ (if inAt (i + l.length) p && decide (i + l.length ≠ 0) then [i + l.length] else []) := by
  induction l generalizing i with
  | nil => simp [insFrom]
  | cons x l ih =>
    have h : i + 1 + l.length = i + (l.length + 1) := by omega
    simp only [List.cons_append, insFrom, ih, List.length_cons, h]
    split <;> simp
theorem ins_snoc (l : List (Nat × Nat)) (p : Nat × Nat) : ins (l ++ [p]) = ins l ++ (if inAt l.length p && decide (l.length ≠ 0) then [l.length] else []) := by
  have := insFrom_snoc 0 l p
  simpa [ins] using this
theorem lookFrom_snoc (a b i : Nat) (l : List (Nat × Nat)) (p : Nat × Nat) : lookFrom a b i (l ++ [p]) = (lookFrom a b i l).or (if p = (a, b) ∧ a / 2 ≠ i + l.length then some (2 * (i + l.length)) else none) := by
  induction l generalizing i with
  | nil => simp [lookFrom]
  | cons x l ih =>
    have h : i + 1 + l.length = i + (l.length + 1) := by omega
    simp only [List.cons_append, lookFrom, ih, List.length_cons, h]
    split <;> simp
theorem look_snoc (l : List (Nat × Nat)) (p : Nat × Nat) (a b : Nat) : look (l ++ [p]) a b = (look l a b).or (if p = (a, b) ∧ a / 2 ≠ l.length then some (2 * l.length) else none) := by
  have := lookFrom_snoc a b 0 l p
  simpa [look] using this
theorem insFrom_lt (i : Nat) (l : List (Nat × Nat)) : ∀ x ∈ insFrom i l, i ≤ x ∧ x < i + l.length := by
  induction l generalizing i with
  | nil => simp [insFrom]
  | cons p l ih =>
    intro x hx
    simp only [insFrom] at hx
    split at hx
    · rcases List.mem_cons.1 hx with h | h
      · subst h; simp
      · have := ih _ x h; simp; omega
    · have := ih _ x hx; simp; omega
theorem ins_lt (l : List (Nat × Nat)) : ∀ x ∈ ins l, x < l.length := fun x hx => by have := insFrom_lt 0 l x hx; omega
theorem insFrom_length (i : Nat) (l : List (Nat × Nat)) : (insFrom i l).length ≤ l.length := by
  induction l generalizing i with
  | nil => simp [insFrom]
  | cons p l ih =>
    have := ih (i + 1)
    simp only [insFrom]
    split <;> simp <;> omega
theorem lookFrom_some (a b i : Nat) (l : List (Nat × Nat)) (c : Nat) (h : lookFrom a b i l = some c) : ∃ k, k < l.length ∧ c = 2 * (i + k) ∧ l[k]? = some (a, b) ∧ a / 2 ≠ i + k := by
  induction l generalizing i with
  | nil => simp [lookFrom] at h
  | cons p l ih =>
    simp only [lookFrom] at h
    split at h
    · rename_i hp
      injection h with h
      exact ⟨0, by simp, by omega, by simp [hp.1], by simpa using hp.2⟩
    · obtain ⟨k, h1, h2, h3, h4⟩ := ih _ h
      exact ⟨k + 1, by simp; omega, by omega, by simpa using h3, by omega⟩
theorem look_some {l : List (Nat × Nat)} {a b c : Nat} (h : look l a b = some c) : ∃ k, k < l.length ∧ c = 2 * k ∧ l[k]? = some (a, b) ∧ a / 2 ≠ k := by
  obtain ⟨k, h1, h2, h3, h4⟩ := lookFrom_some a b 0 l c h
  exact ⟨k, h1, by omega, h3, by omega⟩
theorem look_none_mem {a b : Nat} : ∀ (i : Nat) (l : List (Nat × Nat)), lookFrom a b i l = none → ∀ k, l[k]? = some (a, b) → a / 2 = i + k := by
  intro i l
  induction l generalizing i with
  | nil => intro _ k hk; simp at hk
  | cons p l ih =>
    intro h k hk
    simp only [lookFrom] at h
    split at h
    · cases h
    · rename_i hp
      cases k with
      | zero =>
        simp at hk
        by_cases he : a / 2 = i
        · omega
        · exact absurd ⟨hk, he⟩ hp
      | succ k =>
        have := ih (i + 1) h k (by simpa using hk)
        omega

/-- Node 0 is the constant; each other one is an input, or a gate of lesser ones, the greater literal first. -/
structure WF (ns : List (Nat × Nat)) : Prop where
  zero : ns[0]? = some (0, 0)
  each : ∀ i a b, ns[i]? = some (a, b) → (a = 2 * i ∧ b = 2 * i) ∨ (b ≤ a ∧ a / 2 < i)
theorem WF.pos {ns : List (Nat × Nat)} (h : WF ns) : 0 < ns.length := (List.getElem?_eq_some_iff.1 h.zero).1
theorem WF.snoc {ns : List (Nat × Nat)} (h : WF ns) {a b : Nat} (hab : (a = 2 * ns.length ∧ b = 2 * ns.length) ∨ (b ≤ a ∧ a / 2 < ns.length)) : WF (ns ++ [(a, b)]) := by
  refine ⟨by rw [List.getElem?_append_left h.pos]; exact h.zero, fun i x y hi => ?_⟩
  by_cases hlt : i < ns.length
  · rw [List.getElem?_append_left hlt] at hi
    exact h.each i x y hi
  · rw [List.getElem?_append_right (by omega)] at hi
    have : i = ns.length := by
      by_cases he : i - ns.length = 0
      · omega
      · rw [List.getElem?_eq_none (by simp; omega)] at hi; cases hi
    subst this
    simp at hi
    obtain ⟨rfl, rfl⟩ := hi
    exact hab
theorem WF.lit {ns : List (Nat × Nat)} (h : WF ns) {i a b : Nat} (hi : ns[i]? = some (a, b)) : a / 2 ≤ i ∧ b / 2 ≤ i := by
  rcases h.each i a b hi with h1 | h1 <;> omega

def Gr.ok (g : Gr) (l : Nat) : Prop := l / 2 < g.nodes.length
/-- a new gate -/
def gateG (g : Gr) (a b : Nat) : Gr × Nat := ({ g with nodes := g.nodes ++ [(max a b, min a b)] }, 2 * g.nodes.length)
def inputG (g : Gr) : Gr × Nat := ({ g with nodes := g.nodes ++ [(2 * g.nodes.length, 2 * g.nodes.length)] }, 2 * g.nodes.length)
def andG (g : Gr) (a b : Nat) : Gr × Nat :=
  if foldB a b && g.fold then (g, foldV a b)
  else if (look g.nodes (max a b) (min a b)).isSome && g.hash then (g, (look g.nodes (max a b) (min a b)).getD 0)
  else gateG g a b
def orG (g : Gr) (a b : Nat) : Gr × Nat := ((andG g (ntL a) (ntL b)).1, ntL (andG g (ntL a) (ntL b)).2)
def bothG (g : Gr) (a b c d : Nat) : Gr × Nat :=
  orG (andG (andG g a b).1 c d).1 (andG g a b).2 (andG (andG g a b).1 c d).2
def xorG (g : Gr) (a b : Nat) : Gr × Nat := bothG g a (ntL b) (ntL a) b
def muxG (g : Gr) (c a b : Nat) : Gr × Nat := bothG g c a (ntL c) b
/-- many: from the left -/
def goG (two : Gr → Nat → Nat → Gr × Nat) : Gr × Nat → List Nat → Gr × Nat
  | s, [] => s
  | s, x :: r => goG two (two s.1 s.2 x) r
def manyG (two : Gr → Nat → Nat → Gr × Nat) (g : Gr) (start : Nat) : List Nat → Gr × Nat
  | [] => (g, start)
  | x :: r => goG two (g, x) r
theorem goG_snoc (two : Gr → Nat → Nat → Gr × Nat) (s : Gr × Nat) (l : List Nat) (x : Nat) : goG two s (l ++ [x]) = two (goG two s l).1 (goG two s l).2 x := by
  induction l generalizing s with
  | nil => rfl
  | cons y l ih => exact ih _
theorem manyG_snoc (two : Gr → Nat → Nat → Gr × Nat) (g : Gr) (start : Nat) (l : List Nat) (x : Nat) (h : l ≠ []) : manyG two g start (l ++ [x]) = two (manyG two g start l).1 (manyG two g start l).2 x := by
  cases l with
  | nil => exact absurd rfl h
  | cons y l => exact goG_snoc two _ l x

/-- What a call that adds gates keeps: options, what was there; at most k gates more, no input. -/
structure Ext (k : Nat) (g g' : Gr) : Prop where
  fold : g'.fold = g.fold
  hash : g'.hash = g.hash
  pre : ∃ more, g'.nodes = g.nodes ++ more ∧ more.length ≤ k
  ins : ins g'.nodes = ins g.nodes
theorem Ext.refl (g : Gr) : Ext 0 g g := ⟨rfl, rfl, ⟨[], by simp, by simp⟩, rfl⟩
theorem Ext.mono {j k : Nat} {g g' : Gr} (h : Ext j g g') (hk : j ≤ k) : Ext k g g' := ⟨h.fold, h.hash, by obtain ⟨m, h1, h2⟩ := h.pre; exact ⟨m, h1, by omega⟩, h.ins⟩
theorem Ext.trans {j k : Nat} {g g' g'' : Gr} (h : Ext j g g') (h' : Ext k g' g'') : Ext (j + k) g g'' := by
  obtain ⟨m, h1, h2⟩ := h.pre
  obtain ⟨m', h3, h4⟩ := h'.pre
  exact ⟨h'.fold.trans h.fold, h'.hash.trans h.hash, ⟨m ++ m', by rw [h3, h1, List.append_assoc], by simp; omega⟩, h'.ins.trans h.ins⟩
theorem Ext.le {k : Nat} {g g' : Gr} (h : Ext k g g') : g.nodes.length ≤ g'.nodes.length ∧ g'.nodes.length ≤ g.nodes.length + k := by
  obtain ⟨m, h1, h2⟩ := h.pre
  rw [h1, List.length_append]; omega
theorem Ext.ok {k : Nat} {g g' : Gr} (h : Ext k g g') {l : Nat} (hl : g.ok l) : g'.ok l := by
  have := h.le; unfold Gr.ok at *; omega

theorem foldV_ok {g : Gr} (hp : 0 < g.nodes.length) {a b : Nat} (ha : g.ok a) (hb : g.ok b) : g.ok (foldV a b) := by
  unfold Gr.ok at *
  unfold foldV
  repeat' split
  all_goals first | omega | (rcases Nat.le_total a b with h | h <;> simp [h] <;> omega)
theorem half_max {a b n : Nat} (ha : a / 2 < n) (hb : b / 2 < n) : max a b / 2 < n := by
  rcases Nat.le_total a b with h | h
  · rw [Nat.max_eq_right h]; exact hb
  · rw [Nat.max_eq_left h]; exact ha
theorem ok_nt {g : Gr} {l : Nat} (h : g.ok l) : g.ok (ntL l) := by unfold Gr.ok at *; rw [ntL_half]; exact h

theorem gateG_spec {g : Gr} (hw : WF g.nodes) {a b : Nat} (ha : g.ok a) (hb : g.ok b) : WF (gateG g a b).1.nodes ∧ Ext 1 g (gateG g a b).1 ∧ (gateG g a b).1.ok (gateG g a b).2 := by
  have hm := half_max ha hb
  refine ⟨hw.snoc (.inr ⟨by omega, hm⟩), ⟨rfl, rfl, ⟨_, rfl, by simp⟩, ?_⟩, ?_⟩
  · show ins (g.nodes ++ [(max a b, min a b)]) = _
    rw [ins_snoc, if_neg (by simp [inAt]; omega), List.append_nil]
  · simp [gateG, Gr.ok]
theorem inputG_spec {g : Gr} (hw : WF g.nodes) : WF (inputG g).1.nodes ∧ (inputG g).1.ok (inputG g).2 ∧ ins (inputG g).1.nodes = ins g.nodes ++ [g.nodes.length] := by
  refine ⟨hw.snoc (.inl ⟨rfl, rfl⟩), by simp [inputG, Gr.ok], ?_⟩
  show ins (g.nodes ++ [(2 * g.nodes.length, 2 * g.nodes.length)]) = _
  have := hw.pos
  rw [ins_snoc, if_pos (by simp [inAt]; exact List.ne_nil_of_length_pos this)]
theorem andG_spec {g : Gr} (hw : WF g.nodes) {a b : Nat} (ha : g.ok a) (hb : g.ok b) : WF (andG g a b).1.nodes ∧ Ext 1 g (andG g a b).1 ∧ (andG g a b).1.ok (andG g a b).2 := by
  unfold andG
  split
  · exact ⟨hw, (Ext.refl g).mono (by omega), foldV_ok hw.pos ha hb⟩
  · split
    · rename_i h
      refine ⟨hw, (Ext.refl g).mono (by omega), ?_⟩
      simp only [Bool.and_eq_true] at h
      obtain ⟨c, hc⟩ := Option.isSome_iff_exists.1 h.1
      obtain ⟨k, h1, h2, _⟩ := look_some hc
      rw [hc]
      show c / 2 < g.nodes.length
      omega
    · exact gateG_spec hw ha hb
theorem orG_spec {g : Gr} (hw : WF g.nodes) {a b : Nat} (ha : g.ok a) (hb : g.ok b) : WF (orG g a b).1.nodes ∧ Ext 1 g (orG g a b).1 ∧ (orG g a b).1.ok (orG g a b).2 := by
  obtain ⟨h1, h2, h3⟩ := andG_spec hw (ok_nt ha) (ok_nt hb)
  exact ⟨h1, h2, ok_nt h3⟩
theorem bothG_spec {g : Gr} (hw : WF g.nodes) {a b c d : Nat} (ha : g.ok a) (hb : g.ok b) (hc : g.ok c) (hd : g.ok d) : WF (bothG g a b c d).1.nodes ∧ Ext 3 g (bothG g a b c d).1 ∧ (bothG g a b c d).1.ok (bothG g a b c d).2 := by
  obtain ⟨h1, h2, h3⟩ := andG_spec hw ha hb
  obtain ⟨h4, h5, h6⟩ := andG_spec h1 (h2.ok hc) (h2.ok hd)
  obtain ⟨h7, h8, h9⟩ := orG_spec h4 (h5.ok h3) h6
  exact ⟨h7, (h2.trans h5).trans h8, h9⟩
theorem xorG_spec {g : Gr} (hw : WF g.nodes) {a b : Nat} (ha : g.ok a) (hb : g.ok b) : WF (xorG g a b).1.nodes ∧ Ext 3 g (xorG g a b).1 ∧ (xorG g a b).1.ok (xorG g a b).2 :=
  bothG_spec hw ha (ok_nt hb) (ok_nt ha) hb
theorem muxG_spec {g : Gr} (hw : WF g.nodes) {c a b : Nat} (hc : g.ok c) (ha : g.ok a) (hb : g.ok b) : WF (muxG g c a b).1.nodes ∧ Ext 3 g (muxG g c a b).1 ∧ (muxG g c a b).1.ok (muxG g c a b).2 :=
  bothG_spec hw hc ha (ok_nt hc) hb
theorem goG_spec (two : Gr → Nat → Nat → Gr × Nat) (h2 : ∀ g a b, WF g.nodes → g.ok a → g.ok b → WF (two g a b).1.nodes ∧ Ext 3 g (two g a b).1 ∧ (two g a b).1.ok (two g a b).2) (l : List Nat) :
    ∀ s : Gr × Nat, WF s.1.nodes → s.1.ok s.2 → (∀ x ∈ l, s.1.ok x) → WF (goG two s l).1.nodes ∧ Ext (3 * l.length) s.1 (goG two s l).1 ∧ (goG two s l).1.ok (goG two s l).2 := by
  induction l with
  | nil => intro s hw hs _; exact ⟨hw, Ext.refl _, hs⟩
  | cons x l ih =>
    intro s hw hs hl
    obtain ⟨h3, h4, h5⟩ := h2 s.1 s.2 x hw hs (hl x List.mem_cons_self)
    obtain ⟨h6, h7, h8⟩ := ih (two s.1 s.2 x) h3 h5 (fun y hy => h4.ok (hl y (List.mem_cons_of_mem _ hy)))
    exact ⟨h6, (h4.trans h7).mono (by simp; omega), h8⟩
theorem manyG_spec (two : Gr → Nat → Nat → Gr × Nat) (h2 : ∀ g a b, WF g.nodes → g.ok a → g.ok b → WF (two g a b).1.nodes ∧ Ext 3 g (two g a b).1 ∧ (two g a b).1.ok (two g a b).2) {g : Gr} (hw : WF g.nodes) {start : Nat} (hs : start < 2) (l : List Nat) (hl : ∀ x ∈ l, g.ok x) :
    WF (manyG two g start l).1.nodes ∧ Ext (3 * l.length) g (manyG two g start l).1 ∧ (manyG two g start l).1.ok (manyG two g start l).2 := by
  cases l with
  | nil => exact ⟨hw, Ext.refl _, by have := hw.pos; unfold Gr.ok manyG; simp; omega⟩
  | cons x l =>
    obtain ⟨h3, h4, h5⟩ := goG_spec two h2 l (g, x) hw (hl x List.mem_cons_self) (fun y hy => hl y (List.mem_cons_of_mem _ hy))
    exact ⟨h3, h4.mono (by simp; omega), h5⟩
theorem two_and (g : Gr) (a b : Nat) (hw : WF g.nodes) (ha : g.ok a) (hb : g.ok b) : WF (andG g a b).1.nodes ∧ Ext 3 g (andG g a b).1 ∧ (andG g a b).1.ok (andG g a b).2 := by
  obtain ⟨h1, h2, h3⟩ := andG_spec hw ha hb; exact ⟨h1, h2.mono (by omega), h3⟩
theorem two_or (g : Gr) (a b : Nat) (hw : WF g.nodes) (ha : g.ok a) (hb : g.ok b) : WF (orG g a b).1.nodes ∧ Ext 3 g (orG g a b).1 ∧ (orG g a b).1.ok (orG g a b).2 := by
  obtain ⟨h1, h2, h3⟩ := orG_spec hw ha hb; exact ⟨h1, h2.mono (by omega), h3⟩
theorem two_xor (g : Gr) (a b : Nat) (hw : WF g.nodes) (ha : g.ok a) (hb : g.ok b) : WF (xorG g a b).1.nodes ∧ Ext 3 g (xorG g a b).1 ∧ (xorG g a b).1.ok (xorG g a b).2 := xorG_spec hw ha hb
end Go.Proofs.YtdmcdhkkbkgnbaaGreat

namespace Go.Proofs.YtdmcdhkkbkgnbaaGreat
open Go.ChangeShapes Go.WideShapes Go.ChangeAt Go.RowKit

/-! ### Frames: which blocks may have turned -/

/-- Of the blocks that were there, only those of F may have turned. -/
structure Kept (F : List Nat) (w w' : World) : Prop where
  os : w'.os = w.os
  tape : w'.tape = w.tape
  output : w'.output = w.output
  size : w.heap.size ≤ w'.heap.size
  block : ∀ k, k < w.heap.size → k ∉ F → w'.heap[k]? = w.heap[k]?

/-- What was owned were the blocks F; what is owned now are the blocks F': of F, or new ones. -/
structure Stepped (w w' : World) (F F' : List Nat) : Prop where
  kept : Kept F w w'
  fresh : ∀ b ∈ F', b ∈ F ∨ w.heap.size ≤ b

theorem Kept.refl (F : List Nat) (w : World) : Kept F w w := ⟨rfl, rfl, rfl, Nat.le_refl _, fun _ _ _ => rfl⟩
theorem Kept.more {F F' : List Nat} {w w' : World} (h : Kept F w w') (hs : ∀ b ∈ F, b ∈ F') : Kept F' w w' :=
  ⟨h.os, h.tape, h.output, h.size, fun k hk hn => h.block k hk fun hm => hn (hs k hm)⟩
theorem Kept.trans {F : List Nat} {a b c : World} (h : Kept F a b) (k : Kept F b c) : Kept F a c :=
  ⟨k.os.trans h.os, k.tape.trans h.tape, k.output.trans h.output, Nat.le_trans h.size k.size, fun i hi hn => (k.block i (Nat.lt_of_lt_of_le hi h.size) hn).trans (h.block i hi hn)⟩
theorem Kept.drew {F : List Nat} {a w : World} (h : Kept F a w) : Kept F a w.drew := ⟨h.os, h.tape, h.output, h.size, h.block⟩
theorem Kept.drewN {F : List Nat} {a w : World} (h : Kept F a w) (n : Nat) : Kept F a (w.drewN n) := ⟨h.os, h.tape, h.output, h.size, h.block⟩
theorem Kept.alloc {F : List Nat} {a w : World} (h : Kept F a w) (o : Obj) : Kept F a (w.alloc o) :=
  h.trans ⟨rfl, rfl, rfl, by simp, fun k hk _ => Below.heap_alloc _ _ _ hk⟩
theorem Kept.setCell {F : List Nat} {a w : World} (h : Kept F a w) {p : Addr} (hp : p.block ∈ F ∨ a.heap.size ≤ p.block) (u : Value) : Kept F a (w.setCell p u) :=
  ⟨h.os, h.tape, h.output, by simpa [World.setCell] using h.size, fun k hk hn => (Below.heap_setCell _ _ _ _ (by rintro rfl; rcases hp with h | h; exact hn h; omega)).trans (h.block k hk hn)⟩
theorem Kept.grown {F : List Nat} {a w w' : World} {row : Option Nat} (h : Kept F a w) (hg : w.grownBy w' row) (hr : ∀ k, row = some k → k ∈ F ∨ a.heap.size ≤ k) : Kept F a w' :=
  ⟨hg.os.trans h.os, hg.tape.trans h.tape, hg.output.trans h.output, Nat.le_trans h.size hg.size, fun k hk hn =>
    (hg.block k (Nat.lt_of_lt_of_le hk h.size) (fun e => by rcases hr k e.symm with h | h; exact hn h; omega)).trans (h.block k hk hn)⟩
theorem Kept.below {w w' : World} (h : Kept [] w w') : Below w.heap.size w w' := ⟨h.os, h.tape, h.output, h.size, fun k hk => h.block k hk (by simp)⟩
theorem Kept.of_below {w w' : World} (h : Below w.heap.size w w') : Kept [] w w' := ⟨h.os, h.tape, h.output, h.size, fun k hk _ => h.block k hk⟩

theorem Kept.heap {F : List Nat} {w w' : World} (h : Kept F w w') {b : Nat} {o : Obj} (hb : w.heap[b]? = some o) (hn : b ∉ F) : w'.heap[b]? = some o :=
  (h.block b (Array.getElem?_eq_some_iff.1 hb).1 hn).trans hb
theorem Kept.cell {F : List Nat} {w w' : World} (h : Kept F w w') {p : Addr} {v : Value} (hc : w.cell? p = some v) (hn : p.block ∉ F) : w'.cell? p = some v :=
  (World.cell?_of_block (h.block _ (World.block_lt_of_cell? w p hc) hn)).trans hc
theorem Kept.frozen {F : List Nat} {w w' : World} (h : Kept F w w') {p : Addr} (hb : p.block < w.heap.size) (hn : p.block ∉ F) : w'.frozen? p = w.frozen? p :=
  World.frozen?_of_block (h.block _ hb hn)

theorem Stepped.refl (w : World) (F : List Nat) : Stepped w w F F := ⟨.refl _ _, fun _ h => .inl h⟩
/-- One step behind another. -/
theorem Stepped.trans {a b c : World} {F F' F'' : List Nat} (h : Stepped a b F F') (k : Stepped b c F' F'') : Stepped a c F F'' := by
  refine ⟨⟨k.kept.os.trans h.kept.os, k.kept.tape.trans h.kept.tape, k.kept.output.trans h.kept.output, Nat.le_trans h.kept.size k.kept.size, fun i hi hn => ?_⟩, fun x hx => ?_⟩
  · refine (k.kept.block i (Nat.lt_of_lt_of_le hi h.kept.size) fun hm => ?_).trans (h.kept.block i hi hn)
    rcases h.fresh i hm with h1 | h1
    · exact hn h1
    · omega
  · rcases k.fresh x hx with h1 | h1
    · exact h.fresh x h1
    · exact .inr (Nat.le_trans h.kept.size h1)
/-- What is owned besides stays owned. -/
theorem Stepped.beside {a b : World} {F F' : List Nat} (h : Stepped a b F F') (G : List Nat) : Stepped a b (F ++ G) (F' ++ G) :=
  ⟨h.kept.more fun _ hb => List.mem_append_left _ hb, fun x hx => by
    rcases List.mem_append.1 hx with h1 | h1
    · exact (h.fresh x h1).imp (List.mem_append_left _) id
    · exact .inl (List.mem_append_right _ h1)⟩
theorem Stepped.behind {a b : World} {F F' : List Nat} (h : Stepped a b F F') (G : List Nat) : Stepped a b (G ++ F) (G ++ F') :=
  ⟨h.kept.more fun _ hb => List.mem_append_right _ hb, fun x hx => by
    rcases List.mem_append.1 hx with h1 | h1
    · exact .inl (List.mem_append_left _ h1)
    · exact (h.fresh x h1).imp (List.mem_append_right _) id⟩
theorem Stepped.weak {a b : World} {F F' G G' : List Nat} (h : Stepped a b F F') (h1 : ∀ x ∈ F, x ∈ G) (h2 : ∀ x ∈ G', x ∈ F') : Stepped a b G G' :=
  ⟨h.kept.more h1, fun x hx => (h.fresh x (h2 x hx)).imp (h1 x) id⟩
theorem Stepped.below {w w' : World} {F' : List Nat} (h : Stepped w w' [] F') : Below w.heap.size w w' := h.kept.below
theorem Stepped.drop {w w' : World} {F F' : List Nat} (h : Stepped w w' F F') : Stepped w w' F [] := ⟨h.kept, by simp⟩
theorem Stepped.drew {a w : World} {F F' : List Nat} (h : Stepped a w F F') : Stepped a w.drew F F' := ⟨h.kept.drew, h.fresh⟩
theorem Stepped.drewN {a w : World} {F F' : List Nat} (h : Stepped a w F F') (n : Nat) : Stepped a (w.drewN n) F F' := ⟨h.kept.drewN n, h.fresh⟩
/-- A new block that nobody asks for again. -/
theorem Stepped.alloc {a w : World} {F F' : List Nat} (h : Stepped a w F F') (o : Obj) : Stepped a (w.alloc o) F F' := ⟨h.kept.alloc o, h.fresh⟩
/-- A new block that is owned from here on. -/
theorem Stepped.allocOwn {a w : World} {F F' : List Nat} (h : Stepped a w F F') (o : Obj) : Stepped a (w.alloc o) F (w.heap.size :: F') :=
  ⟨h.kept.alloc o, fun x hx => by
    rcases List.mem_cons.1 hx with h1 | h1
    · subst h1; exact .inr h.kept.size
    · exact h.fresh x h1⟩
theorem Stepped.setCell {a w : World} {F F' : List Nat} (h : Stepped a w F F') {p : Addr} (hp : p.block ∈ F') (u : Value) : Stepped a (w.setCell p u) F F' :=
  ⟨h.kept.setCell (h.fresh _ hp) u, h.fresh⟩

/-! ### Slices of numbers -/

/-- The slice at a holds the numbers l, each of kind K. -/
def SlN (w : World) (K : IntKind) (a : Option Addr) (l : List Nat) : Prop := ∀ k (h : k < l.length), ∃ ad, a = some ad ∧ w.cell? (ad.add k) = some (.int K (l[k] : Int))
def ft (a : Option Addr) : List Nat := (a.map (·.block)).toList
theorem block_add (a : Addr) (n : Nat) : (a.add n).block = a.block := by unfold Addr.add; split <;> rfl
theorem mem_ft {a : Addr} {b : Nat} : b ∈ ft (some a) ↔ b = a.block := by simp [ft]
theorem ft_none : ft none = [] := rfl
theorem SlN.nil (w : World) (K : IntKind) (a : Option Addr) : SlN w K a [] := fun k h => absurd h (by simp)
theorem SlN.kept {w w' : World} {K : IntKind} {a : Option Addr} {l : List Nat} {F : List Nat} (h : SlN w K a l) (hk : Kept F w w') (hd : ∀ b ∈ ft a, b ∉ F) : SlN w' K a l := fun k hl => by
  obtain ⟨ad, rfl, hc⟩ := h k hl
  exact ⟨ad, rfl, hk.cell hc (by rw [block_add]; exact hd _ (mem_ft.2 rfl))⟩
theorem SlN.kept0 {w w' : World} {K : IntKind} {a : Option Addr} {l : List Nat} (h : SlN w K a l) (hk : Kept [] w w') : SlN w' K a l := h.kept hk (by simp)
theorem SlN.drewN {w : World} {K : IntKind} {a : Option Addr} {l : List Nat} (h : SlN w K a l) (n : Nat) : SlN (w.drewN n) K a l := h
theorem SlN.take {w : World} {K : IntKind} {a : Option Addr} {l : List Nat} (h : SlN w K a l) (n : Nat) : SlN w K a (l.take n) := fun k hl => by
  obtain ⟨ad, rfl, hc⟩ := h k (by rw [List.length_take] at hl; omega)
  exact ⟨ad, rfl, by rw [hc]; simp⟩

/-- The call's own slice of one-cell elements: its address, length, capacity; what it holds. -/
def Own (w : World) (e : TypeId) (a : Option Addr) (n cap : Nat) (xs : List Value) : Prop := w.ownsRow 0 e 1 (.slice a n cap) n xs
def Own2 (w : World) (e : TypeId) (a : Option Addr) (n cap : Nat) (xs : List Value) : Prop := w.ownsRow 0 e 2 (.slice a n cap) n xs
def nats (K : IntKind) (l : List Nat) : List Value := l.map fun n : Nat => .int K (n : Int)
theorem nats_length (K : IntKind) (l : List Nat) : (nats K l).length = l.length := by simp [nats]
theorem nats_append (K : IntKind) (l : List Nat) (n : Nat) : nats K l ++ [.int K (n : Int)] = nats K (l ++ [n]) := by simp [nats]

theorem nats_set (K : IntKind) (l : List Nat) (j n : Nat) : (nats K l).set j (.int K (n : Int)) = nats K (l.set j n) := by simp [nats, List.map_set]
theorem own_block (a : Option Addr) (n cap : Nat) (h : a ≠ none) : (Value.slice a n cap).ownBlock = a.map (·.block) := by
  cases a <;> simp [Value.ownBlock] at h ⊢
theorem ownBlock_ft (a : Option Addr) (n cap k : Nat) : (Value.slice a n cap).ownBlock = some k ↔ k ∈ ft a := by
  cases a <;> simp [Value.ownBlock, ft, eq_comm]
theorem Own.nil (w : World) (e : TypeId) : Own w e none 0 0 [] := World.ownsRow_nil _ _ _ _
theorem Own.len {w : World} {e : TypeId} {a : Option Addr} {n cap : Nat} {xs : List Value} (h : Own w e a n cap xs) : xs.length = n := by simpa using h.1
theorem Own.lt {w : World} {e : TypeId} {a : Option Addr} {n cap : Nat} {xs : List Value} (h : Own w e a n cap xs) : ∀ b ∈ ft a, b < w.heap.size := fun b hb =>
  (World.ownsRow.lt h b ((ownBlock_ft _ _ _ _).2 hb)).2
theorem own_kept {w w' : World} {e : TypeId} {size : Nat} {a : Option Addr} {n cap : Nat} {xs : List Value} {F : List Nat} (h : w.ownsRow 0 e size (.slice a n cap) n xs) (hk : Kept F w w') (hd : ∀ b ∈ ft a, b ∉ F) : w'.ownsRow 0 e size (.slice a n cap) n xs := by
  refine ⟨h.1, ?_⟩
  rcases h.2 with hn | ⟨g, cap', cur, hv, hb, hg, rest⟩
  · exact .inl hn
  · refine .inr ⟨g, cap', cur, hv, hb, hk.heap hg (hd _ ?_), rest⟩
    injection hv with hv
    subst hv
    exact mem_ft.2 rfl
theorem Own.kept {w w' : World} {e : TypeId} {a : Option Addr} {n cap : Nat} {xs : List Value} {F : List Nat} (h : Own w e a n cap xs) (hk : Kept F w w') (hd : ∀ b ∈ ft a, b ∉ F) : Own w' e a n cap xs := own_kept h hk hd
theorem Own2.kept {w w' : World} {e : TypeId} {a : Option Addr} {n cap : Nat} {xs : List Value} {F : List Nat} (h : Own2 w e a n cap xs) (hk : Kept F w w') (hd : ∀ b ∈ ft a, b ∉ F) : Own2 w' e a n cap xs := own_kept h hk hd
theorem Own.kept0 {w w' : World} {e : TypeId} {a : Option Addr} {n cap : Nat} {xs : List Value} (h : Own w e a n cap xs) (hk : Kept [] w w') : Own w' e a n cap xs := h.kept hk (by simp)
theorem Own.cell {w : World} {e : TypeId} {a : Option Addr} {n cap : Nat} {xs : List Value} (h : Own w e a n cap xs) {k : Nat} (hk : k < xs.length) : ∃ ad, a = some ad ∧ w.cell? (ad.add k) = some xs[k] := by
  rcases h.2 with ⟨hv, hn⟩ | ⟨g, cap', cur, hv, hb, hg, rest⟩
  · have := h.1; omega
  · have hc := World.ownsRow.cells h (g := g) (by rw [hv]; rfl) k _ (List.getElem?_eq_getElem hk)
    injection hv with hv
    exact ⟨_, hv, hc⟩
theorem Own.sln {w : World} {e : TypeId} {a : Option Addr} {n cap : Nat} {K : IntKind} {l : List Nat} (h : Own w e a n cap (nats K l)) : SlN w K a l := fun k hk => by
  obtain ⟨ad, ha, hc⟩ := Own.cell h (k := k) (by rw [nats_length]; exact hk)
  exact ⟨ad, ha, by rw [hc]; simp [nats]⟩
theorem Own.alloc {w : World} {e : TypeId} {a : Option Addr} {n cap : Nat} {xs : List Value} (h : Own w e a n cap xs) (o : Obj) : Own (w.alloc o) e a n cap xs := World.ownsRow.alloc h o
theorem Own.drew {w : World} {e : TypeId} {a : Option Addr} {n cap : Nat} {xs : List Value} (h : Own w e a n cap xs) : Own w.drew e a n cap xs := h
theorem Own.drewN {w : World} {e : TypeId} {a : Option Addr} {n cap : Nat} {xs : List Value} (h : Own w e a n cap xs) (m : Nat) : Own (w.drewN m) e a n cap xs := h
theorem Own.form {w : World} {e : TypeId} {a : Option Addr} {n cap : Nat} {xs : List Value} (h : Own w e a n cap xs) (hn : 0 < n) : ∃ g, a = some ⟨g, 0, none⟩ := by
  rcases h.2 with ⟨hv, h0⟩ | ⟨g, cap', cur, hv, _⟩
  · omega
  · injection hv with hv; exact ⟨g, hv⟩
/-- What a store into an own slice wants, and what it leaves. -/
theorem Own.store {w : World} {e : TypeId} {g n cap j : Nat} {xs : List Value} (h : Own w e (some ⟨g, 0, none⟩) n cap xs) (hj : j < n) :
    (∃ v, w.cell? ⟨g, j, none⟩ = some v) ∧ w.frozen? ⟨g, j, none⟩ = false ∧ ∀ u, Own (w.setCell ⟨g, j, none⟩ u) e (some ⟨g, 0, none⟩) n cap (xs.set j u) := by
  have hc := World.ownsRow.cellAt h j (by omega)
  have hx : xs[j]? = some (xs[j]'(by rw [h.len]; exact hj)) := List.getElem?_eq_getElem _
  exact ⟨⟨_, hc.trans hx⟩, World.ownsRow.frozenAt h j, fun u => (World.ownsRow.stored h j u).1⟩
/-- Whatever has another element type is another block. -/
theorem Own.apart {w : World} {e : TypeId} {a : Option Addr} {n cap : Nat} {xs : List Value} (h : Own w e a n cap xs) {b : Nat} (hb : b ∈ ft a) : ∃ cur, w.heap[b]? = some (.cells cur e (0, 0)) := by
  rcases h.2 with ⟨hv, hn⟩ | ⟨g, cap', cur, hv, _, hg, rest⟩
  · injection hv with hv; subst hv; simp [ft] at hb
  · injection hv with hv; subst hv; rw [mem_ft] at hb; subst hb; exact ⟨cur, hg⟩

section
variable {P : Program}

theorem info3 {P : Program} {e : TypeId} {z : Value} {size bytes : Nat} (h : (P.info? e).map (fun i => (i.zero, i.size, i.bytes)) = some (some z, size, bytes)) :
    ∃ i, P.info? e = some i ∧ i.zero = some z ∧ i.size = size ∧ i.bytes = bytes := by
  cases hi : P.info? e with
  | none => rw [hi] at h; simp at h
  | some i =>
    rw [hi] at h
    simp at h
    exact ⟨i, rfl, h.1, h.2.1, h.2.2⟩

/-- APPEND OF ONE ELEMENT OF ONE CELL to a slice of the call's own. -/
theorem wpList_push {w : World} {ops : Array Oper} {rest : List Oper} {o : Oper} {act : Act} {Q : Exit → Act → World → Prop} {s x : Operand} {t e : TypeId} {z : Value} {bytes : Nat} {a : Option Addr} {n cap : Nat} {xs : List Value} {u : Value}
    (hgd : o.guard = none) (ho : o.op = .call { callee := .builtin .append, args := #[s, x], argTypes := #[t, t] })
    (ht : P.underlying t = some (.slice e)) (hinfo : (P.info? e).map (fun i => (i.zero, i.size, i.bytes)) = some (some z, 1, bytes)) (hz : z.cells.size = 1)
    (hs : act.eval s = .slice a n cap) (hx : act.eval x = .slice (some ⟨w.heap.size, 0, none⟩) 1 1)
    (hown : Own w e a n cap xs) (hu : u.oneCell' = true) (h63 : n + 1 ≤ maxLen) (hbytes : (n + 1) * bytes ≤ 140737488355328)
    (h : ∀ a' cap' w', Own w' e a' (n + 1) cap' (xs ++ [u]) → Stepped w w' (ft a) (ft a') → wpList P ops Q rest (act.put o.dst (.slice a' (n + 1) cap')) w') :
    wpList P ops Q (o :: rest) act (w.alloc (.cells #[u] e)) := by
  obtain ⟨i, hi, hiz, hisz, hib⟩ := info3 hinfo
  refine wpList_append_own_at _ hgd s x t ho 0 e i z 1 bytes ht hi hiz hisz hib hz (by omega) (.slice a n cap) n xs hs (World.ownsRow.alloc hown _)
    ⟨w.heap.size, 0, none⟩ 1 1 [u] hx rfl (cell_one_new _ _ _) (by simpa using hu) h63 hbytes (Nat.zero_le _) ?_
  intro v' w' hown' hg _ hat
  have hform : ∃ a' cap', v' = .slice a' (n + 1) cap' := by
    rcases hown'.2 with ⟨_, h0⟩ | ⟨g, c, cur, hv, _⟩
    · omega
    · exact ⟨_, _, hv⟩
  obtain ⟨a', cap', rfl⟩ := hform
  refine h a' cap' w' hown' ⟨⟨hg.os, hg.tape, hg.output, Nat.le_trans (by simp) hg.size, fun k hk hn => ?_⟩, fun b hb => ?_⟩
  · refine (hg.block k (by simp; omega) fun e' => hn ((ownBlock_ft _ _ _ _).1 e'.symm)).trans (Below.heap_alloc _ _ _ hk)
  · have hb' := (ownBlock_ft a' (n + 1) cap' b).2 hb
    rcases hat with h1 | h1
    · rw [h1] at hb'
      exact .inl ((ownBlock_ft _ _ _ _).1 hb')
    · rw [h1] at hb'
      simp at hb'
      exact .inr (by omega)
end

/-! ### Calls inside a region that draws its order -/
section
variable {P : Program} {f : FuncId} {args : Array Value} {w : World} {v : Value}
/-- a callee that leaves the world alone -/
theorem q_same {n : Nat} (h : Calls P f args (w.drewN n) fun e w' => e = .returned v ∧ w.drewN n = w') :
    Calls P f args (w.drewN n) fun e w' => e = .returned v ∧ ∃ m, w' = w.drewN m := h.mono fun _ _ ⟨he, hm⟩ => ⟨he, n, hm.symm⟩
theorem q_same2 {a n : Nat} (h : Calls P f args (w.drewN (a + n)) fun e w' => e = .returned v ∧ w.drewN (a + n) = w') :
    Calls P f args (w.drewN (a + n)) fun e w' => e = .returned v ∧ ∃ m, w' = w.drewN (a + m) := h.mono fun _ _ ⟨he, hm⟩ => ⟨he, n, hm.symm⟩
/-- a callee that draws -/
theorem q_drew {n : Nat} (h : Calls P f args (w.drewN n) fun e w' => e = .returned v ∧ ∃ m, w' = (w.drewN n).drewN m) :
    Calls P f args (w.drewN n) fun e w' => e = .returned v ∧ ∃ m, w' = w.drewN m := h.mono fun _ _ ⟨he, m, hm⟩ => ⟨he, n + m, by rw [hm, World.drewN_drewN]⟩
theorem q_drew2 {a n : Nat} (h : Calls P f args (w.drewN (a + n)) fun e w' => e = .returned v ∧ ∃ m, w' = (w.drewN (a + n)).drewN m) :
    Calls P f args (w.drewN (a + n)) fun e w' => e = .returned v ∧ ∃ m, w' = w.drewN (a + m) := h.mono fun _ _ ⟨he, m, hm⟩ => ⟨he, n + m, by rw [hm, World.drewN_drewN, Nat.add_assoc]⟩
theorem drew1 (w : World) : w.drew = w.drewN 1 := rfl
end

/-! ### From a walk to a law's statement -/
section
variable {H : Type} {enc : TypeId × Value → H}

theorem trodAll_below {P : Program} (hl : laidOutB P = true) {W W' : World} (hb : Below W.heap.size W W') : ∀ (ts : List TypeId) (vs : List Value) (ds : List (DataW H)) (ps : List MemPlace),
    (ts.all fun t => P.readableRec t && decide (t < P.types.size)) = true → DataW.TrodAll enc P W 0 (fun _ => true) true ts vs ds ps → DataW.TrodAll enc P W' 0 (fun b => decide (b < W.heap.size)) true ts vs ds ps
  | [], vs, ds, ps, _, h => by
    obtain ⟨rfl, rfl, rfl⟩ := trodAll_nil h
    exact trodAll_mk0
  | t :: ts, vs, ds, ps, hr, h => by
    obtain ⟨v, vs', d, ds', p, q, rfl, rfl, rfl, h0, h1⟩ := trodAll_cons h
    simp only [List.all_cons, Bool.and_eq_true, decide_eq_true_eq] at hr
    have hlt : ∀ x ∈ p, x.block < W.heap.size := by
      obtain ⟨m, hm⟩ := h0
      exact DataW.trod_lt m _ _ _ hm
    exact trodAll_cons_mk (Below.trod hl hr.1.1 hr.1.2 h0 hb hlt) (trodAll_below hl hb ts vs' ds' q hr.2 h1)

/-- THE LAW's END: it returned true, and nothing that was there has turned. -/
theorem law_post {P : Program} (hl : laidOutB P = true) {fn : Func} {s : ChangeSpec} {W W' : World} {args : Array Value} {ds gs : List (DataW H)} {before : List MemPlace}
    (hr : (fn.params.toList.all fun t => P.readableRec t && decide (t < P.types.size)) = true) (hv : s.vars = []) (hb4 : ∃ tb, fn.resultTypes = #[tb] ∧ P.underlying tb = some .bool)
    (hs : ∀ l : List (DataW H), l.length = fn.params.toList.length → s.fn H l = { results := [.lit (.bool true)], args := l })
    (hW : DataW.Whole enc P fn.params.toList s.vars false W args.toList ds gs before) (hb : Below W.heap.size W W') :
    ∃ v, Ending.returned (.bool true) = .returned v ∧ s.post enc P fn false true false false W args v W' := by
  have hW' := hW
  obtain ⟨p, q, hA, hV, rfl, _, _⟩ := hW
  rw [hv] at hV
  obtain ⟨rfl, rfl⟩ := trodVars_none hV
  have hlen : ∀ (ts : List TypeId) (vs : List Value) (ds : List (DataW H)) (ps : List MemPlace), DataW.TrodAll enc P W 0 (fun _ => true) true ts vs ds ps → ds.length = ts.length := by
    intro ts
    induction ts with
    | nil => intro vs ds ps h; obtain ⟨rfl, rfl, rfl⟩ := trodAll_nil h; rfl
    | cons t ts ih =>
      intro vs ds ps h
      obtain ⟨v, vs', d, ds', p, q, rfl, rfl, rfl, h0, h1⟩ := trodAll_cons h
      simp [ih _ _ _ h1]
  obtain ⟨tb, hrt, htb⟩ := hb4
  refine ⟨_, rfl, ds, [], _, [], p, [], hW', ?_, ?_, ?_, hb.frame _, fun h => by cases h⟩
  · rw [hrt, List.append_nil, hs _ (hlen _ _ _ _ hA)]
    exact trodAll_mk1 (shut_bool htb _)
  · rw [List.append_nil, hs _ (hlen _ _ _ _ hA)]
    exact trodAll_below hl hb _ _ _ _ hr hA
  · rw [hv, List.append_nil, hs _ (hlen _ _ _ _ hA)]
    rfl

/-! ### Opening arguments -/

variable {P : Program} {W : World} {base : Nat}

theorem wf_nat {K : IntKind} {n : Int} {m : Nat} (hK : K.signed = false) (hm : (2 : Int) ^ K.bits = m) (h : (Lit.int K n).wf = true) : ∃ k : Nat, n = (k : Int) ∧ k < m := by
  have h1 : 0 ≤ n ∧ n < (m : Int) := by
    rw [← hm]
    cases K <;> simp [IntKind.signed] at hK <;> simp [Lit.wf, IntKind.min, IntKind.max, IntKind.signed, IntKind.bits] at h ⊢ <;> omega
  refine ⟨n.toNat, by omega, by omega⟩

/-- A slice of unsigned numbers that came in. -/
theorem open_nats {t e : TypeId} {K : IntKind} {m : Nat} {v : Value} {d : DataW H} {ps : List MemPlace} (ht : P.underlying t = some (.slice e)) (he : P.underlying e = some (.int K)) (hc : P.cellsOf e = 1)
    (hK : K.signed = false) (hm : (2 : Int) ^ K.bits = m) (hv : Value.okWide P W .any base t v) (h : DataW.Trod enc P W 0 (fun _ => true) true t v d ps) :
    ∃ (a : Option Addr) (cap : Nat) (l : List Nat), v = .slice a l.length cap ∧ l.length ≤ cap ∧ SlN W K a l ∧ (∀ n ∈ l, n < m) ∧
      (d = .nil ∧ cap = 0 ∨ ∃ es sp, d = .slice es sp ∧ es.length + sp.length = cap) := by
  obtain ⟨a0, len, cap, rfl⟩ := okWide_slice ht hv
  obtain ⟨fuel, hf⟩ := h
  rcases open_ints ht he hc hf with ⟨hcs, hx⟩ | ⟨a, len', cap', zs, hcs, _, hl, hmx, hz, hx, hcell, hwz⟩
  · simp [Value.cells] at hcs hx
    obtain ⟨rfl, rfl, rfl⟩ := hcs
    exact ⟨none, 0, [], rfl, Nat.le_refl _, SlN.nil _ _ _, by simp, .inl ⟨hx.1, rfl⟩⟩
  · simp [Value.cells] at hcs hx
    obtain ⟨rfl, rfl, rfl⟩ := hcs
    simp at hz
    have hnat : ∀ i (hi : i < zs.length), ((zs[i].toNat : Nat) : Int) = zs[i] ∧ zs[i].toNat < m := by
      intro i hi
      obtain ⟨k, hk, hkm⟩ := wf_nat hK hm (hwz zs[i] (List.getElem_mem hi))
      rw [hk]
      simp [hkm]
    have hlen : ((zs.take len).map Int.toNat).length = len := by simp; omega
    refine ⟨some a, cap, (zs.take len).map Int.toNat, by rw [hlen], by rw [hlen]; exact hl, fun k hk => ⟨a, rfl, ?_⟩, ?_, .inr ⟨_, _, hx.1, ?_⟩⟩
    · rw [hlen] at hk
      rw [hcell k (by omega)]
      simp [List.getD_eq_getElem?_getD, (hnat k (by omega)).1, List.getElem?_eq_getElem (show k < zs.length by omega)]
    · intro n hn
      obtain ⟨y, hy, rfl⟩ := List.mem_map.1 hn
      obtain ⟨i, hi, rfl⟩ := List.getElem_of_mem (List.mem_of_mem_take hy)
      exact (hnat i hi).2
    · simp [lits]
      omega
end

/-- What the reach says of a slice's capacity. -/
theorem cap_reach {H : Type} {P : Program} {ts : List TypeId} {ds : List (DataW H)} {d : DataW H} {cap j : Nat} {t e : TypeId} {bytes : Nat} (hsz : (DataW.weightsEach P ts ds).all (· ≤ reachBytes) = true)
    (ht : ts[j]? = some t) (hd : ds[j]? = some d) (hu : P.underlying t = some (.slice e)) (hb : P.bytesOf e = bytes) (h : d = .nil ∧ cap = 0 ∨ ∃ es sp, d = .slice es sp ∧ es.length + sp.length = cap) : cap * bytes ≤ 140737488351232 := by
  rcases h with ⟨_, rfl⟩ | ⟨es, sp, rfl, rfl⟩
  · simp
  · have := sized_slice hsz ht hd hu
    rw [hb] at this
    simpa [reachBytes] using this

theorem laidOut : laidOutB Tryz.prog = true := by kernel_rfl
theorem own : ownKnob Tryz.prog.godebug = none := by kernel_rfl
end Go.Proofs.YtdmcdhkkbkgnbaaGreat
