/-
  TokTypes, plain: a number's text and a type's text, alone and side by side.
-/
import Derived.Test.YtjnjldbegngooaaDoorTokL
namespace Go.Proofs.YtjnjldbegngooaaDoor
set_option linter.unusedVariables false
set_option linter.unusedSimpArgs false

theorem valA_pow (l : List UInt8) (a : Nat) : valA a l = a * 10 ^ l.length + valL l := by
  induction l generalizing a with
  | nil => show a = a * 10 ^ 0 + 0; omega
  | cons c l ih =>
    have h1 : valA a (c :: l) = valA (10 * a + (c.toNat - 48)) l := rfl
    have h2 : valL (c :: l) = valA (c.toNat - 48) l := by
      show valA (10 * 0 + (c.toNat - 48)) l = _
      rw [Nat.mul_zero, Nat.zero_add]
    rw [h1, h2, ih, ih, List.length_cons, Nat.pow_succ, Nat.add_mul]
    have : 10 * a * 10 ^ l.length = a * (10 ^ l.length * 10) := by rw [Nat.mul_comm 10 a, Nat.mul_assoc, Nat.mul_comm 10]
    omega
theorem valL_cons (c : UInt8) (l : List UInt8) : valL (c :: l) = (c.toNat - 48) * 10 ^ l.length + valL l := by
  have h : valL (c :: l) = valA (c.toNat - 48) l := by
    show valA (10 * 0 + (c.toNat - 48)) l = _
    rw [Nat.mul_zero, Nat.zero_add]
  rw [h, valA_pow]
theorem digL_cons {c : UInt8} {l : List UInt8} (hc : dgB c = true) (hl : DigL l) : DigL (c :: l) := fun x hx => by
  rcases List.mem_cons.1 hx with rfl | hx
  · exact hc
  · exact hl x hx
theorem dig_not {c : UInt8} (h : dgB c = true) : wsB c = false ∧ c ≠ 45 := by
  obtain ⟨h1, h2⟩ := (dgB_iff c).1 h
  constructor
  · unfold wsB
    simp only [Bool.or_eq_false_iff, decide_eq_false_iff_not]
    omega
  · rintro rfl
    exact absurd h1 (by decide)
theorem blank_dig {c : UInt8} {r : List UInt8} (h : dgB c = true) : blankB (c :: r) = c :: r := by
  obtain ⟨h1, h2⟩ := dig_not h
  refine blankB_stop h1 ?_
  have : ((45 : UInt8) == c) = false := by rw [beq_eq_false_iff_ne]; exact fun e => h2 e.symm
  simp [List.isPrefixOf, this]
theorem oneB_dig {c : UInt8} {r : List UInt8} (h : dgB c = true) : oneB (c :: r) = numB (c :: r) := by
  unfold oneB
  simp only
  rw [if_pos h]
/-- a text of one token, which begins with a digit -/
theorem all_one {l : List UInt8} {x : Tk} (hl : ∃ c r, l = c :: r ∧ dgB c = true) (h : numB l = some x) (hx : x.text = l) : allB l = .ok [{ x with at_ := 0 }, endTk l.length] := by
  obtain ⟨c, r, rfl, hc⟩ := hl
  show allP 0 _ = _
  rw [allP_step (blank_dig hc) (by rw [oneB_dig hc]; exact h), hx, List.drop_length, allP_end]
  simp [preTk]
theorem all_bad {l : List UInt8} (hl : ∃ c r, l = c :: r ∧ dgB c = true) (h : numB l = none) : allB l = .error 0 := by
  obtain ⟨c, r, rfl, hc⟩ := hl
  exact allP_fail (blank_dig hc) (by simp) (by rw [oneB_dig hc]; exact h)
theorem num_text {T : List UInt8} {n : Nat} (hd : DigL T) (hl : T.length ≤ 20) (hv : valL T = n) (hn : n < 18446744073709551616) : numB T = some ⟨4, T, 0, n, noTy⟩ := by
  unfold numB
  simp only
  have h1 : T.takeWhile dgB = T := by
    have := takeWhile_app (p := dgB) T [] hd (fun c h => by simp at h)
    simpa using this
  rw [h1, List.drop_length, List.takeWhile_nil, if_neg (by omega), if_pos rfl, hv]
theorem say_more {t : Ty} (h : mayTy t = true) : (∀ c ∈ sayB t, moB c = true) ∧ sayB t ≠ [] ∧ (∀ c, (sayB t).head? = some c → dgB c = false) ∧ resB (sayB t) = false ∧ (sayB t).length ≤ 4 := by
  cases hb : t.b with
  | true =>
    rw [sayB_bool h hb]
    exact ⟨by decide, by decide, fun c hc => by simp [boolL] at hc; subst hc; rfl, by decide, by decide⟩
  | false =>
    have key : ((List.range 65).all fun n => [true, false].all fun s => ((headT s :: dec2 n).all moB) && ((!dgB (headT s)) && ((!resB (headT s :: dec2 n)) && decide ((headT s :: dec2 n).length ≤ 4)))) = true := by kernel_rfl
    obtain ⟨h1, h2⟩ := mayTy_num h hb
    have h3 := List.all_eq_true.1 key t.w.toNat (List.mem_range.2 (by omega))
    have h4 := List.all_eq_true.1 h3 t.sg (by cases t.sg <;> simp)
    simp only [Bool.and_eq_true, Bool.not_eq_true', decide_eq_true_eq] at h4
    rw [sayB_num h hb]
    exact ⟨fun c hc => List.all_eq_true.1 h4.1 c hc, by simp, fun c hc => by simp at hc; subst hc; exact h4.2.1, h4.2.2.1, h4.2.2.2⟩
theorem num_lit {T : List UInt8} {n : Nat} {t : Ty} (hd : DigL T) (hl : T.length ≤ 20) (hv : valL T = n) (hn : n < 18446744073709551616) (ht : mayTy t = true) : numB (T ++ sayB t) = if !t.b && holdB t n then some ⟨5, T ++ sayB t, 0, n, t⟩ else none := by
  obtain ⟨h1, h2, h3, _, _⟩ := say_more ht
  unfold numB
  simp only
  rw [takeWhile_app (p := dgB) T (sayB t) hd h3, List.drop_left]
  have h4 : (sayB t).takeWhile moB = sayB t := by
    have := takeWhile_app (p := moB) (sayB t) [] h1 (fun c h => by simp at h)
    simpa using this
  rw [h4, if_neg (by omega), if_neg h2, typeB_say ht, hv]
theorem hold_le {t : Ty} {k n : Nat} (hw : t.w = (k : Int)) (h1 : 1 ≤ k) (h2 : k ≤ 64) : holdB t n = decide (n ≤ (if t.sg then (2 ^ k - 1) / 2 else 2 ^ k - 1)) := by
  unfold holdB
  rw [hw, Int.toNat_natCast]
  have hp : 0 < 2 ^ (k - 1) := Nat.two_pow_pos _
  have hp2 : 2 ^ k = 2 ^ (k - 1) * 2 := by rw [← Nat.pow_succ]; congr 1; omega
  rw [Bool.eq_iff_iff, decide_eq_true_eq, decide_eq_true_eq]
  cases t.sg <;> simp <;> omega
end Go.Proofs.YtjnjldbegngooaaDoor
