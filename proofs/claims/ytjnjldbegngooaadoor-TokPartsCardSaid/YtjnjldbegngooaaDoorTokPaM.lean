/-
  TokParts, plain: tokens one behind the other; each text alone; the texts joined by what is blank.
-/
import Derived.Test.YtjnjldbegngooaaDoorTokL
namespace Go.Proofs.YtjnjldbegngooaaDoor
set_option linter.unusedVariables false
set_option linter.unusedSimpArgs false

/-- tokens of what stands from a place on, one behind the other -/
inductive Chain : Nat → List UInt8 → List Tk → Prop
  | last (s : Nat) (l : List UInt8) (h : blankB l = []) : Chain s l [endTk (s + l.length)]
  | more (s : Nat) (l B R : List UInt8) (x : Tk) (xs : List Tk) (hl : l = B ++ (x.text ++ R)) (hB : blankB B = []) (hb : blankB (x.text ++ R) = x.text ++ R) (ho : oneB (x.text ++ R) = some x) (hr : Chain (s + B.length + x.text.length) R xs) : Chain s l ({ x with at_ := s + B.length } :: xs)
theorem chain_of : ∀ n (l : List UInt8) (s : Nat) (xs : List Tk), l.length ≤ n → allP s l = .ok xs → Chain s l xs := by
  intro n
  induction n with
  | zero =>
    intro l s xs hl he
    have : l = [] := List.eq_nil_of_length_eq_zero (by omega)
    subst this
    rw [allP_end] at he
    injection he with he
    subst he
    exact .last s [] blankB_nil
  | succ n ih =>
    intro l s xs hl he
    by_cases hb : blankB l = []
    · rw [allP_nil hb] at he
      injection he with he
      subst he
      exact .last s l hb
    have hbl := blankB_len l
    have hsplit := blank_split l
    have hsw := blank_swap [] l.length l (Nat.le_refl _) hb
    rw [List.append_nil, blankB_nil] at hsw
    have hidem := blankB_idem l
    cases ho : oneB (blankB l) with
    | none => rw [allP_no hb ho] at he; cases he
    | some x =>
      have hpos := oneB_pos ho
      have htx := oneB_text ho
      rw [allP_one ho] at he
      generalize hR : (blankB l).drop x.text.length = R at *
      have hRl : R.length = (blankB l).length - x.text.length := by rw [← hR, List.length_drop]
      generalize hBB : l.take (l.length - (blankB l).length) = B at *
      have hBl : B.length = l.length - (blankB l).length := by rw [← hBB, List.length_take]; omega
      rw [← hBl] at he
      have hpos2 : 0 < (blankB l).length := List.length_pos_iff.2 hb
      cases hq : allP (s + B.length + x.text.length) R with
      | error e => rw [hq] at he; cases he
      | ok ys =>
        rw [hq] at he
        injection he with he
        subst he
        rw [htx] at hidem ho hsplit
        exact .more s l B R x ys hsplit hsw hidem ho (ih R _ ys (by omega) hq)
theorem Chain.pos {s : Nat} {l : List UInt8} {xs : List Tk} (h : Chain s l xs) : 0 < xs.length := by cases h <;> simp
/-- a token's text alone -/
theorem one_alone {x : Tk} {R : List UInt8} (hb : blankB (x.text ++ R) = x.text ++ R) (ho : oneB (x.text ++ R) = some x) : allB x.text = .ok [{ x with at_ := 0 }, endTk x.text.length] := by
  have hY : OkTail R [] := .inr (.inl rfl)
  have h1 := oneB_swap ho rfl hY
  have h2 := blank_fix_swap ho rfl hb hY
  rw [List.append_nil] at h1 h2
  show allP 0 x.text = _
  rw [allP_step h2 h1, List.drop_length, allP_end, Nat.zero_add]
  rfl
/-- what is told of a token but for its place -/
def noAt (x : Tk) : Tk := { x with at_ := 0 }
/-- texts joined -/
def joinL (sep : List UInt8) : List (List UInt8) → List UInt8
  | [] => []
  | [t] => t
  | t :: u :: r => t ++ (sep ++ joinL sep (u :: r))
theorem joinL_cons (sep t : List UInt8) (r : List (List UInt8)) (h : 0 < r.length) : joinL sep (t :: r) = t ++ (sep ++ joinL sep r) := by
  cases r with
  | nil => simp at h
  | cons u r => rfl
/-- what joins the texts: it begins with a blank, and is passed over whatever stands behind -/
def Sep (sep : List UInt8) : Prop := sep.head? = some 32 ∧ ∀ Z, blankB (sep ++ Z) = blankB Z
theorem sep_one : Sep [32] := ⟨rfl, fun Z => blankB_ws (by rfl)⟩
theorem sep_com : Sep [32, 45, 45, 32, 120, 10, 9] := ⟨rfl, fun Z => by
  show blankB (32 :: 45 :: 45 :: 32 :: 120 :: 10 :: 9 :: Z) = _
  rw [blankB_ws (by rfl), blankB_com (by rfl) (by rfl)]
  show blankB (10 :: 9 :: Z) = _
  rw [blankB_ws (by rfl), blankB_ws (by rfl)]⟩
theorem chain_join {sep : List UInt8} (hs : Sep sep) {s : Nat} {l : List UInt8} {xs : List Tk} (h : Chain s l xs) : ∀ p, ∃ ys, allP p (joinL sep (xs.map (·.text))) = .ok ys ∧ ys.map noAt = xs.map noAt := by
  induction h with
  | last s l h => exact fun p => ⟨_, allP_end p, rfl⟩
  | more s l B R x xs hl hB hb ho hr ih =>
    intro p
    have hp := hr.pos
    rw [List.map_cons, joinL_cons _ _ _ (by simpa using hp)]
    show ∃ ys, allP p (x.text ++ (sep ++ joinL sep (xs.map (·.text)))) = .ok ys ∧ _
    generalize joinL sep (xs.map (·.text)) = J at *
    have hY : OkTail R (sep ++ J) := .inr (.inr (by
      cases sep with
      | nil => have := hs.1; simp at this
      | cons c sep => exact hs.1))
    rw [allP_step (blank_fix_swap ho rfl hb hY) (oneB_swap ho rfl hY), List.drop_left]
    obtain ⟨ys, h1, h2⟩ := ih (p + x.text.length + sep.length)
    have h3 : allP (p + x.text.length) (sep ++ J) = .ok ys := by
      rw [allP_skip, hs.2 J, ← h1, allP_skip _ J]
      congr 1
      have := blankB_len J
      rw [List.length_append]
      omega
    rw [h3]
    exact ⟨_, rfl, by rw [List.map_append, h2]; rfl⟩
/-- of a source without a fault -/
theorem parts_join {sep : List UInt8} (hs : Sep sep) {l : List UInt8} {xs : List Tk} (h : allB l = .ok xs) : ∃ ys, allB (joinL sep (xs.map (·.text))) = .ok ys ∧ ys.map noAt = xs.map noAt :=
  chain_join hs (chain_of l.length l 0 xs (Nat.le_refl _) h) 0
theorem err_in {l : List UInt8} {p : Nat} (h : allB l = .error p) : p < l.length := by
  have h1 := err_cut [] (.inl rfl) l.length l 0 p (Nat.le_refl _) h
  have := h1.2.1
  omega
theorem Chain.len {s : Nat} {l : List UInt8} {xs : List Tk} (h : Chain s l xs) : xs.length ≤ l.length + 1 := by
  induction h with
  | last s l h => simp
  | more s l B R x xs hl hB hb ho hr ih =>
    have h1 := oneB_pos ho
    have h2 := congrArg List.length hl
    rw [List.length_append, List.length_append] at h2
    rw [List.length_cons]
    omega
theorem allB_len {l : List UInt8} {xs : List Tk} (h : allB l = .ok xs) : xs.length ≤ l.length + 1 := (chain_of l.length l 0 xs (Nat.le_refl _) h).len
end Go.Proofs.YtjnjldbegngooaaDoor
