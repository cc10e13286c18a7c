/-
  Law 08: given, same.
-/
import Derived.Test.YtdmcdhkkbkgnbaaGreatQSimP
import Derived.BigQuiet
namespace Go.Proofs.YtdmcdhkkbkgnbaaGreat
open Go.ChangeShapes Go.WideShapes Go.ChangeAt Go.RowKit
open Go.Maps (Keyed)
open Go.WideMaps
set_option linter.unusedVariables false
set_option linter.unusedSimpArgs false

variable {w w' : World} {s p n : Nat} {F R S : List Nat} {g : Gr} {N : Nt} {σ : Sm}
def givenRow (l : List Nat) (at' n : Nat) : List Nat := (List.range n).map fun i => l.getD (at' + i) 0
theorem givenRow_succ (l : List Nat) (at' n : Nat) : givenRow l at' (n + 1) = givenRow l at' n ++ [l.getD (at' + n) 0] := by simp [givenRow, List.range_succ]
theorem givenRow_length (l : List Nat) (at' n : Nat) : (givenRow l at' n).length = n := by simp [givenRow]
def givenTo (b : List Bus) (l : List Nat) (k : Nat) : List (List Nat) := (List.range k).map fun j => givenRow l (offB b j) ((b[j]?).map (·.lits.length) |>.getD 0)
theorem givenTo_succ {b : List Bus} (l : List Nat) {k : Nat} {x : Bus} (h : b[k]? = some x) : givenTo b l (k + 1) = givenTo b l k ++ [givenRow l (offB b k) x.lits.length] := by simp [givenTo, List.range_succ, h]
def givenN (b : List Bus) (l : List Nat) (more : Nat) : List (List Nat) := givenTo b l b.length ++ List.replicate more [1]
theorem givenTo_lens (b : List Bus) (l : List Nat) (k : Nat) (h : k ≤ b.length) : (givenTo b l k).map List.length = (b.take k).map (·.lits.length) := by
  induction k with
  | zero => simp [givenTo]
  | succ k ih =>
    have hk : k < b.length := by omega
    rw [givenTo_succ l (List.getElem?_eq_getElem hk), List.map_append, ih (by omega), List.take_add_one, List.map_append, List.getElem?_eq_getElem hk]
    simp [givenRow_length]
theorem given_fits (b : List Bus) (l : List Nat) : fitB b (givenN b l 0) = true := by
  unfold fitB givenN
  rw [decide_eq_true_eq]
  simp only [List.replicate_zero, List.append_nil]
  rw [givenTo_lens b l b.length (Nat.le_refl _), List.take_length]
theorem given_not (b : List Bus) (l : List Nat) : fitB b (givenN b l 1) = false := by
  cases h : fitB b (givenN b l 1) with
  | false => rfl
  | true =>
    have := fitB_len h
    have h2 := congrArg List.length (givenTo_lens b l b.length (Nat.le_refl _))
    simp [givenN] at this h2
    omega
theorem givenTo_words {b : List Bus} {l : List Nat} (hl : Words l) (k : Nat) : ∀ r ∈ givenTo b l k, Words r := by
  intro r hr x hx
  obtain ⟨j, _, rfl⟩ := List.mem_map.1 hr
  obtain ⟨i, _, rfl⟩ := List.mem_map.1 hx
  exact words_getD hl _
theorem given_words {b : List Bus} {l : List Nat} (hl : Words l) (more : Nat) : ∀ r ∈ givenN b l more, Words r := by
  intro r hr
  rcases List.mem_append.1 hr with hr | hr
  · exact givenTo_words hl _ r hr
  · rw [(List.mem_replicate.1 hr).2]
    intro x hx
    rw [List.mem_singleton.1 hx]
    omega
theorem su64_info' : (Tryz.prog.info? 78).map (fun i => (i.zero, i.size, i.bytes)) = some (some (.slice none 0 0), 1, 24) := by kernel_rfl
theorem own_fresh (w : World) (e : TypeId) (K : IntKind) (l : List Nat) (h : l.length ≤ maxLen) : Own (w.alloc (.cells (nats K l).toArray e)) e (some ⟨w.heap.size, 0, none⟩) l.length l.length (nats K l) :=
  ⟨by simp [nats], .inr ⟨w.heap.size, l.length, _, rfl, Nat.zero_le _, heap_alloc_new w _, Nat.le_refl _, h, by simp [nats], List.take_of_length_le (by simp [nats])⟩⟩
/-- rows of words, new -/
def NewRows (rows : List (List Nat)) (w : World) (e : Ending) (w' : World) : Prop :=
  ∃ a n c rs, e = .returned (.slice a n c) ∧ WRows w' a n c rs ∧ rs.map (·.l) = rows ∧ Kept [] w w' ∧ ∀ b ∈ ft a ++ wrBlocks rs, w.heap.size ≤ b
end Go.Proofs.YtdmcdhkkbkgnbaaGreat
