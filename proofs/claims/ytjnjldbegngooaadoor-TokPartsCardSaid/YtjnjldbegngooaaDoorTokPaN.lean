/-
  TokParts, plain: what holds of one token of a chain; how long joined texts are.
-/
import Derived.Test.YtjnjldbegngooaaDoorTokPaM
import Derived.Lib.Join
namespace Go.Proofs.YtjnjldbegngooaaDoor
set_option linter.unusedVariables false
set_option linter.unusedSimpArgs false

def blkB (l : List UInt8) : Bool := decide (blankB l = [])
theorem numB_kind {l : List UInt8} {x : Tk} (h : oneB l = some x) : x.kind ≠ 7 := by
  unfold oneB at h
  split at h
  · cases h
  · rename_i c r
    split at h
    · unfold numB at h
      simp only at h
      split at h
      · cases h
      · split at h
        · injection h with h; subst h; simp
        · split at h
          · cases h
          · split at h
            · injection h with h; subst h; simp
            · cases h
    · split at h
      · unfold nameB at h
        simp only at h
        split at h
        · cases h
        · split at h
          · injection h with h; subst h; simp
          · injection h with h; subst h; simp only; split <;> decide
      · unfold signB at h
        rw [Option.map_eq_some_iff] at h
        obtain ⟨s, hs, rfl⟩ := h
        show (6 : Nat) ≠ 7
        decide
/-- where the law's loop stands: k tokens gone through, p bytes -/
def AtTk (M : List UInt8) (xs : List Tk) (k p : Nat) : Prop := (k < xs.length ∧ p ≤ M.length ∧ Chain p (M.drop p) (xs.drop k)) ∨ (k = xs.length ∧ p = M.length)
/-- what holds of the token there -/
structure TkFacts (M : List UInt8) (xs : List Tk) (k p : Nat) (y : Tk) : Prop where
  ge : p ≤ y.at_
  le : y.at_ + y.text.length ≤ M.length
  txt : (M.drop y.at_).take y.text.length = y.text
  blk : blkB ((M.drop p).take (y.at_ - p)) = true
  lst : y.kind = 7 ↔ k + 1 = xs.length
  emp : y.text = [] ↔ y.kind = 7
  nxt : AtTk M xs (k + 1) (y.at_ + y.text.length)
  one : ∃ zs, allB y.text = .ok zs ∧ (y.kind ≠ 7 → zs.map noAt = [noAt y, noAt (endTk 0)])
theorem at_tk {M : List UInt8} {xs : List Tk} {k p : Nat} (h : AtTk M xs k p) (hk : k < xs.length) : TkFacts M xs k p (xs[k]'hk) := by
  obtain ⟨_, hp, hc⟩ := h.resolve_right (fun h => by have := h.1; omega)
  have hd : xs.drop k = xs[k]'hk :: xs.drop (k + 1) := List.drop_eq_getElem_cons hk
  rw [hd] at hc
  generalize xs[k]'hk = y at *
  have hdl : (M.drop p).length = M.length - p := List.length_drop ..
  have hrl : (xs.drop (k + 1)).length = xs.length - (k + 1) := List.length_drop ..
  generalize hys : xs.drop (k + 1) = ys at *
  generalize hl : M.drop p = l at *
  cases hc with
  | last _ _ hb =>
    have e1 : k + 1 = xs.length := by simp at hrl; omega
    have e2 : p + l.length = M.length := by omega
    refine ⟨by show p ≤ p + l.length; omega, by show p + l.length + 0 ≤ _; omega, by simp [endTk], ?_, by simp [endTk]; omega, by simp [endTk], .inr ⟨e1, by show p + l.length + 0 = _; omega⟩, ⟨_, allP_end 0, fun h => absurd rfl h⟩⟩
    show blkB ((M.drop p).take (p + l.length - p)) = true
    rw [hl, Nat.add_sub_cancel_left, List.take_length]
    exact decide_eq_true hb
  | more _ _ B R x _ hlB hB hb ho hr =>
    have hk7 := numB_kind ho
    have hpos := oneB_pos ho
    have hlen := congrArg List.length hlB
    rw [List.length_append, List.length_append] at hlen
    have hrp := hr.pos
    have hne : x.text ≠ [] := fun h => by rw [h] at hpos; simp at hpos
    have hd2 : M.drop (p + B.length) = x.text ++ R := by
      rw [← List.drop_drop, hl, hlB, List.drop_left]
    refine ⟨by show p ≤ p + B.length; omega, by show p + B.length + x.text.length ≤ _; omega, ?_, ?_, ?_, ?_, .inl ⟨by omega, by show p + B.length + x.text.length ≤ _; omega, ?_⟩, ⟨_, one_alone (x := x) hb ho, fun _ => rfl⟩⟩
    · show (M.drop (p + B.length)).take x.text.length = x.text
      rw [hd2, List.take_left]
    · show blkB ((M.drop p).take (p + B.length - p)) = true
      rw [hl, Nat.add_sub_cancel_left, hlB, List.take_left]
      exact decide_eq_true hB
    · exact ⟨fun h => absurd h hk7, fun h => by omega⟩
    · exact ⟨fun h => absurd h hne, fun h => absurd h hk7⟩
    · show Chain (p + B.length + x.text.length) (M.drop (p + B.length + x.text.length)) _
      rw [← List.drop_drop (i := x.text.length), hd2, List.drop_left, hys]
      exact hr
theorem at_start {M : List UInt8} {xs : List Tk} (h : allB M = .ok xs) : AtTk M xs 0 0 := by
  have hc := chain_of M.length M 0 xs (Nat.le_refl _) h
  exact .inl ⟨hc.pos, Nat.zero_le _, hc⟩
theorem join_lib (sep : List UInt8) : ∀ l : List (List UInt8), Lib.join l sep = joinL sep l
  | [] => rfl
  | [t] => by rw [Lib.join_one]; rfl
  | t :: u :: r => by
    rw [joinL_cons _ _ _ (by simp), ← join_lib sep (u :: r), Lib.join_cons, Lib.join_cons]
    simp [Lib.joinTail]
theorem chain_join_len (sep : List UInt8) {s : Nat} {l : List UInt8} {xs : List Tk} (h : Chain s l xs) : (joinL sep (xs.map (·.text))).length ≤ l.length + sep.length * xs.length := by
  induction h with
  | last s l h => simp [joinL, endTk]
  | more s l B R x xs hl hB hb ho hr ih =>
    have hp := hr.pos
    rw [List.map_cons, joinL_cons _ _ _ (by simpa using hp)]
    have hlen := congrArg List.length hl
    simp only [List.length_append, List.length_cons, Nat.mul_add, Nat.mul_one] at hlen ⊢
    have : ({ x with at_ := s + B.length } : Tk).text = x.text := rfl
    rw [this]
    omega
end Go.Proofs.YtjnjldbegngooaaDoor
