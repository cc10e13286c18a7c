/-
  Law 15, plain: all tokens, seen from behind a blank.
-/
import Derived.Test.YtjnjldbegngooaaDoorTokN
namespace Go.Proofs.YtjnjldbegngooaaDoor
set_option linter.unusedVariables false
set_option linter.unusedSimpArgs false

theorem blankB_idem (l : List UInt8) : blankB (blankB l) = blankB l := by
  have key : ∀ n (l : List UInt8), l.length ≤ n → blankB (blankB l) = blankB l := by
    intro n
    induction n with
    | zero =>
      intro l hl
      have : l = [] := List.eq_nil_of_length_eq_zero (by omega)
      subst this
      rfl
    | succ n ih =>
      intro l hl
      match l with
      | [] => rfl
      | c :: r =>
        simp only [List.length_cons] at hl
        cases hw : wsB c with
        | true => rw [blankB_ws hw]; exact ih r (by omega)
        | false =>
          cases hp : [45, 45].isPrefixOf (c :: r) with
          | true =>
            rw [blankB_com hw hp]
            have := comment_drop hp
            simp only [List.length_cons] at this
            exact ih _ (by omega)
          | false => rw [blankB_stop hw hp, blankB_stop hw hp]
  exact key _ l (Nat.le_refl _)
theorem allP_skip (p : Nat) (l : List UInt8) : allP p l = allP (p + (l.length - (blankB l).length)) (blankB l) := by
  have hl := blankB_len l
  by_cases h : blankB l = []
  · rw [allP_nil h, allP_nil (by rw [blankB_idem]; exact h), h]
    simp
  · cases ho : oneB (blankB l) with
    | none =>
      rw [allP_no h ho, allP_no (by rw [blankB_idem]; exact h) (by rw [blankB_idem]; exact ho), blankB_idem]
      simp
    | some x =>
      rw [allP_one ho, allP_one (l := blankB l) (by rw [blankB_idem]; exact ho), blankB_idem]
      simp
theorem takeWhile_len_le (p : UInt8 → Bool) (l : List UInt8) : (l.takeWhile p).length ≤ l.length := by
  have h := congrArg List.length (List.takeWhile_append_dropWhile (p := p) (l := l))
  rw [List.length_append] at h
  omega
theorem oneB_len {l : List UInt8} {x : Tk} (h : oneB l = some x) : x.text.length ≤ l.length := by
  unfold oneB at h
  split at h
  · cases h
  · rename_i c r
    generalize c :: r = L at *
    split at h
    · unfold numB at h
      simp only at h
      have h1 := takeWhile_len_le dgB L
      have h2 := takeWhile_len_le moB (L.drop (L.takeWhile dgB).length)
      rw [List.length_drop] at h2
      split at h
      · cases h
      · split at h
        · injection h with h; subst h; exact h1
        · split at h
          · cases h
          · split at h
            · injection h with h; subst h; rw [List.length_append]; omega
            · cases h
    · split at h
      · unfold nameB at h
        simp only at h
        have h1 := takeWhile_len_le moB L
        split at h
        · cases h
        · split at h
          · injection h with h; subst h; exact h1
          · injection h with h; subst h; exact h1
      · unfold signB at h
        rw [Option.map_eq_some_iff] at h
        obtain ⟨s, hs, rfl⟩ := h
        have hp := List.find?_some hs
        exact (List.isPrefixOf_iff_prefix.1 hp).length_le
theorem oneB_at {l : List UInt8} {x : Tk} (h : oneB l = some x) : x.at_ = 0 := by
  unfold oneB at h
  split at h
  · cases h
  · rename_i c r
    generalize c :: r = L at *
    split at h
    · unfold numB at h
      simp only at h
      split at h
      · cases h
      · split at h
        · injection h with h; subst h; rfl
        · split at h
          · cases h
          · split at h
            · injection h with h; subst h; rfl
            · cases h
    · split at h
      · unfold nameB at h
        simp only at h
        split at h
        · cases h
        · split at h
          · injection h with h; subst h; rfl
          · injection h with h; subst h; rfl
      · unfold signB at h
        rw [Option.map_eq_some_iff] at h
        obtain ⟨s, hs, rfl⟩ := h
        rfl
/-- tokens ahead of what is still to come -/
def preTk (xs : List Tk) (r : Except Nat (List Tk)) : Except Nat (List Tk) := match r with
  | .error e => .error e
  | .ok ys => .ok (xs ++ ys)
theorem preTk_nil (r : Except Nat (List Tk)) : preTk [] r = r := by cases r <;> rfl
theorem preTk_snoc (xs : List Tk) (x : Tk) (r : Except Nat (List Tk)) : preTk xs (preTk [x] r) = preTk (xs ++ [x]) r := by
  cases r with
  | error e => rfl
  | ok ys => simp [preTk]
theorem allP_step {p : Nat} {l : List UInt8} {x : Tk} (hb : blankB l = l) (ho : oneB l = some x) : allP p l = preTk [{ x with at_ := p }] (allP (p + x.text.length) (l.drop x.text.length)) := by
  rw [allP_one (l := l) (by rw [hb]; exact ho), hb]
  simp only [Nat.sub_self, Nat.add_zero]
  cases allP (p + x.text.length) (l.drop x.text.length) <;> rfl
theorem allP_fail {p : Nat} {l : List UInt8} (hb : blankB l = l) (hn : l ≠ []) (ho : oneB l = none) : allP p l = .error p := by
  rw [allP_no (by rw [hb]; exact hn) (by rw [hb]; exact ho), hb]
  simp
theorem allP_end (p : Nat) : allP p [] = .ok [endTk p] := by
  rw [allP_nil blankB_nil]; rfl
end Go.Proofs.YtjnjldbegngooaaDoor
