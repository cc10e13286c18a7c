/-
  Law 15: tokens, in plain Lean (no program): types and their texts, numbers, one token, all of them.
-/
import Derived.Lib.AtoiAll
import Derived.Lib.ParseIntB
import Derived.Lib.ItoaNum
import Derived.KernelRfl
namespace Go.Proofs.YtjnjldbegngooaaDoor
set_option linter.unusedVariables false
set_option linter.unusedSimpArgs false

/-- a type -/
structure Ty where
  b : Bool
  sg : Bool
  w : Int
def tyEq (t u : Ty) : Bool := (t.b == u.b) && ((t.sg == u.sg) && decide (t.w = u.w))
theorem tyEq_iff (t u : Ty) : tyEq t u = true ↔ t = u := by
  obtain ⟨b, s, w⟩ := t
  obtain ⟨b', s', w'⟩ := u
  simp [tyEq]
def noTy : Ty := ⟨false, false, 0⟩
def boolTy : Ty := ⟨true, false, 1⟩
def mayTy (t : Ty) : Bool := if t.b then !t.sg && decide (t.w = 1) else decide (1 ≤ t.w) && decide (t.w ≤ 64)
/-- a number of at most two digits -/
def dec2 (n : Nat) : List UInt8 := if n < 10 then [UInt8.ofNat (48 + n)] else [UInt8.ofNat (48 + n / 10), UInt8.ofNat (48 + n % 10)]
theorem dec2_dec {n : Nat} (h : n < 100) : Lib.decDigits n = dec2 n := by
  unfold dec2
  split
  · rename_i h1; exact Lib.decDigits_one h1
  · rename_i h1; exact Lib.decDigits_two h1 h
def boolL : List UInt8 := [98, 111, 111, 108]
def headT (s : Bool) : UInt8 := if s then 105 else 117
def sayB (t : Ty) : List UInt8 := if mayTy t then (if t.b then boolL else headT t.sg :: dec2 t.w.toNat) else []
/-- what a row of at most two digits says -/
def val2 (l : List UInt8) : Nat := l.foldl (fun a c => 10 * a + (c.toNat - 48)) 0
theorem val2_dec : ∀ n, n < 65 → val2 (dec2 n) = n := by
  have h : ((List.range 65).all fun n => decide (val2 (dec2 n) = n)) = true := by kernel_rfl
  intro n hn
  have := List.all_eq_true.1 h n (List.mem_range.2 hn)
  simpa using this
/-- the number's type of a sign and a width -/
def numTy (s : Bool) (w : Nat) : Ty := ⟨false, s, (w : Int)⟩
/-- the type whose text it is -/
def typeB (s : List UInt8) : Option Ty :=
  if s = boolL then some boolTy else
  match s with
  | [] => none
  | c :: r => if c = 117 ∨ c = 105 then (if 1 ≤ val2 r ∧ val2 r ≤ 64 ∧ dec2 (val2 r) = r then some (numTy (decide (c = 105)) (val2 r)) else none) else none
theorem mayTy_num {t : Ty} (h : mayTy t = true) (hb : t.b = false) : 1 ≤ t.w ∧ t.w ≤ 64 := by
  unfold mayTy at h
  rw [hb] at h
  simpa using h
theorem mayTy_bool {t : Ty} (h : mayTy t = true) (hb : t.b = true) : t = boolTy := by
  obtain ⟨b, s, w⟩ := t
  simp only at hb
  subst hb
  simp [mayTy] at h
  obtain ⟨rfl, rfl⟩ := h
  rfl
theorem typeB_say {t : Ty} (h : mayTy t = true) : typeB (sayB t) = some t := by
  unfold sayB
  rw [if_pos h]
  cases hb : t.b with
  | true =>
    have := mayTy_bool h hb
    subst this
    rfl
  | false =>
    obtain ⟨h1, h2⟩ := mayTy_num h hb
    obtain ⟨n, hn⟩ : ∃ n : Nat, t.w = n := ⟨t.w.toNat, by omega⟩
    obtain ⟨b, s, w⟩ := t
    simp only at hb hn h1 h2
    subst hb hn
    have hv := val2_dec n (by omega)
    simp only [Bool.false_eq_true, if_false, Int.toNat_natCast]
    unfold typeB
    rw [if_neg (by unfold headT boolL; cases s <;> simp)]
    cases s <;> simp [headT, hv, numTy] <;> omega
theorem say_typeB {s : List UInt8} {t : Ty} (h : typeB s = some t) : mayTy t = true ∧ sayB t = s := by
  unfold typeB at h
  split at h
  · rename_i hs
    injection h with h
    subst h hs
    exact ⟨rfl, rfl⟩
  · split at h
    · cases h
    · rename_i c r hs
      split at h
      · rename_i hc
        split at h
        · rename_i h1
          obtain ⟨h1, h2, h3⟩ := h1
          injection h with h
          subst h
          have hm : mayTy (numTy (decide (c = 105)) (val2 r)) = true := by
            simp only [mayTy, numTy, Bool.false_eq_true, if_false, Bool.and_eq_true, decide_eq_true_eq]
            exact ⟨decide_eq_true (show (1 : Int) ≤ (val2 r : Int) by omega), decide_eq_true (show ((val2 r : Nat) : Int) ≤ 64 by omega)⟩
          refine ⟨hm, ?_⟩
          unfold sayB
          rw [if_pos hm]
          simp only [numTy, Bool.false_eq_true, if_false, Int.toNat_natCast, h3]
          rcases hc with rfl | rfl <;> simp [headT]
        · cases h
      · cases h
theorem typeB_iff (s : List UInt8) (t : Ty) : typeB s = some t ↔ (mayTy t = true ∧ sayB t = s) :=
  ⟨say_typeB, fun h => by rw [← h.2]; exact typeB_say h.1⟩
/-! bytes -/
def dgB (c : UInt8) : Bool := decide (48 ≤ c.toNat) && decide (c.toNat ≤ 57)
def bgB (c : UInt8) : Bool := (decide (97 ≤ c.toNat) && decide (c.toNat ≤ 122)) || ((decide (65 ≤ c.toNat) && decide (c.toNat ≤ 90)) || decide (c.toNat = 95))
def moB (c : UInt8) : Bool := bgB c || dgB c
def wsB (c : UInt8) : Bool := decide (c.toNat = 32) || (decide (c.toNat = 9) || (decide (c.toNat = 10) || decide (c.toNat = 13)))
def valL (l : List UInt8) : Nat := l.foldl (fun a c => 10 * a + (c.toNat - 48)) 0
def wordsL : List (List UInt8) := [[110, 111, 100, 101], [114, 101, 116, 117, 114, 110, 115], [118, 97, 114], [108, 101, 116], [116, 101, 108], [119, 104, 101, 110], [110, 111, 116], [112, 114, 101], [102, 98, 121], [109, 101, 114, 103, 101], [105, 102], [116, 104, 101, 110], [101, 108, 115, 101], [97, 110, 100], [111, 114], [120, 111, 114], [116, 114, 117, 101], [102, 97, 108, 115, 101]]
def resB (s : List UInt8) : Bool := wordsL.any fun x => decide (x = s)
def signsL : List (List UInt8) := [[45, 62], [60, 60], [62, 62], [60, 61], [62, 61], [60, 62], [40], [41], [44], [59], [58], [61], [60], [62], [43], [45], [42]]
def holdB (t : Ty) (n : Nat) : Bool := decide (n < 2 ^ (if t.sg then t.w.toNat - 1 else t.w.toNat))
structure Tk where
  kind : Nat
  text : List UInt8
  at_ : Nat
  n : Nat
  ty : Ty
def signB (l : List UInt8) : Option Tk := (signsL.find? fun s => s.isPrefixOf l).map fun s => ⟨6, s, 0, 0, noTy⟩
def nameB (l : List UInt8) : Option Tk :=
  let s := l.takeWhile moB
  if 32 < s.length then none else
  match typeB s with
  | some t => some ⟨3, s, 0, 0, t⟩
  | none => some ⟨if resB s then 2 else 1, s, 0, 0, noTy⟩
def numB (l : List UInt8) : Option Tk :=
  let d := l.takeWhile dgB
  let m := (l.drop d.length).takeWhile moB
  if 20 < d.length ∨ 18446744073709551616 ≤ valL d then none else
  if m = [] then some ⟨4, d, 0, valL d, noTy⟩ else
  match typeB m with
  | none => none
  | some t => if !t.b && holdB t (valL d) then some ⟨5, d ++ m, 0, valL d, t⟩ else none
def oneB (l : List UInt8) : Option Tk :=
  match l with
  | [] => none
  | c :: _ => if dgB c then numB l else if bgB c then nameB l else signB l
def notNl (c : UInt8) : Bool := decide (c.toNat ≠ 10)
/-- blanks and comments passed over -/
def blankF : Nat → List UInt8 → List UInt8
  | 0, l => l
  | f + 1, l => match l with
    | [] => []
    | c :: r => if wsB c then blankF f r else if [45, 45].isPrefixOf (c :: r) then blankF f ((c :: r).dropWhile notNl) else c :: r
def blankB (l : List UInt8) : List UInt8 := blankF l.length l
def endTk (p : Nat) : Tk := ⟨7, [], p, 0, noTy⟩
/-- all tokens of what is left, which begins at a place -/
def allF : Nat → Nat → List UInt8 → Except Nat (List Tk)
  | 0, p, l => .ok [endTk p]
  | f + 1, p, l =>
    let r := blankB l
    let q := p + (l.length - r.length)
    match r with
    | [] => .ok [endTk q]
    | _ => match oneB r with
      | none => .error q
      | some x => match allF f (q + x.text.length) (r.drop x.text.length) with
        | .error e => .error e
        | .ok xs => .ok ({ x with at_ := q } :: xs)
def allB (l : List UInt8) : Except Nat (List Tk) := allF (l.length + 1) 0 l
/-! more fuel turns nothing -/
theorem dropWhile_len {p : UInt8 → Bool} (l : List UInt8) : (l.dropWhile p).length ≤ l.length := by
  induction l with
  | nil => simp
  | cons c l ih => rw [List.dropWhile_cons]; split <;> simp <;> omega
theorem blankF_len (f : Nat) (l : List UInt8) : (blankF f l).length ≤ l.length := by
  induction f generalizing l with
  | zero => simp [blankF]
  | succ f ih =>
    unfold blankF
    split
    · simp
    · rename_i c r
      split
      · have := ih r; simp; omega
      · split
        · have h1 := ih ((c :: r).dropWhile notNl)
          have h2 := dropWhile_len (p := notNl) (c :: r)
          omega
        · simp
theorem comment_drop {c : UInt8} {r : List UInt8} (h : [45, 45].isPrefixOf (c :: r) = true) : ((c :: r).dropWhile notNl).length < (c :: r).length := by
  have hc : c = 45 := by
    simp [List.isPrefixOf] at h
    exact h.1.symm
  subst hc
  rw [List.dropWhile_cons, if_pos (by rfl)]
  have := dropWhile_len (p := notNl) r
  simp
  omega
theorem blankF_more (f g : Nat) (l : List UInt8) (hf : l.length ≤ f) (hg : l.length ≤ g) : blankF f l = blankF g l := by
  induction f generalizing l g with
  | zero =>
    have : l = [] := List.eq_nil_of_length_eq_zero (by omega)
    subst this
    cases g <;> simp [blankF]
  | succ f ih =>
    cases g with
    | zero =>
      have : l = [] := List.eq_nil_of_length_eq_zero (by omega)
      subst this
      simp [blankF]
    | succ g =>
      unfold blankF
      match l with
      | [] => rfl
      | c :: r =>
        simp only [List.length_cons] at hf hg
        simp only
        split
        · exact ih g r (by omega) (by omega)
        · split
          · rename_i hp
            have := comment_drop hp
            simp only [List.length_cons] at this
            exact ih g _ (by omega) (by omega)
          · rfl
theorem blankB_nil : blankB [] = [] := rfl
theorem blankB_ws {c : UInt8} {r : List UInt8} (h : wsB c = true) : blankB (c :: r) = blankB r := by
  unfold blankB
  rw [List.length_cons]
  conv => lhs; unfold blankF
  simp only
  rw [if_pos h]
theorem blankB_com {c : UInt8} {r : List UInt8} (hw : wsB c = false) (h : [45, 45].isPrefixOf (c :: r) = true) : blankB (c :: r) = blankB ((c :: r).dropWhile notNl) := by
  unfold blankB
  conv => lhs; rw [List.length_cons]; unfold blankF
  simp only
  rw [if_neg (by rw [hw]; simp), if_pos h]
  have := comment_drop h
  rw [List.length_cons] at this
  exact blankF_more _ _ _ (by omega) (Nat.le_refl _)
theorem blankB_stop {c : UInt8} {r : List UInt8} (hw : wsB c = false) (h : [45, 45].isPrefixOf (c :: r) = false) : blankB (c :: r) = c :: r := by
  unfold blankB
  rw [List.length_cons]
  unfold blankF
  simp only
  rw [if_neg (by rw [hw]; simp), if_neg (by rw [h]; simp)]
theorem blankB_len (l : List UInt8) : (blankB l).length ≤ l.length := blankF_len _ _
theorem oneB_pos {l : List UInt8} {x : Tk} (h : oneB l = some x) : 0 < x.text.length := by
  unfold oneB at h
  split at h
  · cases h
  · rename_i c r
    split at h
    · rename_i hc
      unfold numB at h
      simp only at h
      have hd : (c :: r).takeWhile dgB = c :: r.takeWhile dgB := by rw [List.takeWhile_cons, if_pos hc]
      rw [hd] at h
      split at h
      · cases h
      · split at h
        · injection h with h; subst h; simp
        · split at h
          · cases h
          · split at h
            · injection h with h; subst h; simp
            · cases h
    · split at h
      · rename_i hc
        unfold nameB at h
        simp only at h
        have hd : (c :: r).takeWhile moB = c :: r.takeWhile moB := by rw [List.takeWhile_cons, if_pos (by simp [moB, hc])]
        rw [hd] at h
        split at h
        · cases h
        · split at h
          · injection h with h; subst h; simp
          · injection h with h; subst h; simp
      · unfold signB at h
        rw [Option.map_eq_some_iff] at h
        obtain ⟨s, hs, rfl⟩ := h
        have hm := List.mem_of_find?_eq_some hs
        have : (signsL.all fun s => decide (0 < s.length)) = true := by kernel_rfl
        simpa using List.all_eq_true.1 this s hm
theorem allF_more (f g p : Nat) (l : List UInt8) (hf : l.length < f) (hg : l.length < g) : allF f p l = allF g p l := by
  induction f generalizing l g p with
  | zero => omega
  | succ f ih =>
    cases g with
    | zero => omega
    | succ g =>
      unfold allF
      simp only
      have hb := blankB_len l
      generalize blankB l = r at *
      match r, hb with
      | [], _ => rfl
      | c :: r, hb =>
        simp only
        cases ho : oneB (c :: r) with
        | none => rfl
        | some x =>
          have h1 := oneB_pos ho
          have h2 : 0 < (c :: r).length := by simp
          simp only
          rw [ih g (p + (l.length - (c :: r).length) + x.text.length) ((c :: r).drop x.text.length) (by rw [List.length_drop]; omega) (by rw [List.length_drop]; omega)]
/-- all tokens behind a place: the step -/
def allP (p : Nat) (l : List UInt8) : Except Nat (List Tk) := allF (l.length + 1) p l
theorem allP_nil {p : Nat} {l : List UInt8} (h : blankB l = []) : allP p l = .ok [endTk (p + l.length)] := by
  unfold allP allF
  simp only [h]
  simp
theorem allP_no {p : Nat} {l : List UInt8} (h : blankB l ≠ []) (ho : oneB (blankB l) = none) : allP p l = .error (p + (l.length - (blankB l).length)) := by
  unfold allP allF
  simp only
  generalize blankB l = r at *
  match r, h with
  | c :: r, _ => simp only [ho]
theorem allP_one {p : Nat} {l : List UInt8} {x : Tk} (ho : oneB (blankB l) = some x) : allP p l = match allP (p + (l.length - (blankB l).length) + x.text.length) ((blankB l).drop x.text.length) with
    | .error e => .error e
    | .ok xs => .ok ({ x with at_ := p + (l.length - (blankB l).length) } :: xs) := by
  have h1 := oneB_pos ho
  have hb := blankB_len l
  conv => lhs; unfold allP allF
  unfold allP
  simp only
  generalize blankB l = r at *
  match r with
  | [] => simp [oneB] at ho
  | c :: r =>
    have h2 : 0 < (c :: r).length := by simp
    simp only [ho]
    rw [allF_more l.length (((c :: r).drop x.text.length).length + 1) (p + (l.length - (c :: r).length) + x.text.length) ((c :: r).drop x.text.length) (by rw [List.length_drop]; omega) (by omega)]
end Go.Proofs.YtjnjldbegngooaaDoor
