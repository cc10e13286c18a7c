/-
  Law 15, plain: how the library's numerals meet the document's.
-/
import Derived.Test.YtjnjldbegngooaaDoorTokM
namespace Go.Proofs.YtjnjldbegngooaaDoor
set_option linter.unusedVariables false
set_option linter.unusedSimpArgs false

theorem atoi_dec : ∀ n, n < 65 → Lib.atoiAll (dec2 n) = .ok (n : Int) := by
  have h : ((List.range 65).all fun n => decide (Lib.atoiAll (dec2 n) = .ok (n : Int))) = true := by kernel_rfl
  intro n hn
  have := List.all_eq_true.1 h n (List.mem_range.2 hn)
  simpa using this
theorem sayB_num {t : Ty} (h : mayTy t = true) (hb : t.b = false) : sayB t = headT t.sg :: dec2 t.w.toNat := by
  unfold sayB
  rw [if_pos h, if_neg (by simp [hb])]
theorem sayB_bool {t : Ty} (h : mayTy t = true) (hb : t.b = true) : sayB t = boolL := by
  unfold sayB
  rw [if_pos h, if_pos hb]
theorem headT_105 (s : Bool) : decide (headT s = 105) = s := by cases s <;> rfl
/-- what Atoi's number makes of a text -/
theorem typeB_ok {c : UInt8} {r : List UInt8} {v : Int} (hc : c = 117 ∨ c = 105) (h : Lib.atoiAll r = .ok v) : typeB (c :: r) = if mayTy ⟨false, decide (c = 105), v⟩ = true ∧ sayB ⟨false, decide (c = 105), v⟩ = c :: r then some ⟨false, decide (c = 105), v⟩ else none := by
  split
  · rename_i h1
    exact (typeB_iff _ _).2 h1
  · rename_i h1
    cases ht : typeB (c :: r) with
    | none => rfl
    | some t =>
      obtain ⟨h2, h3⟩ := say_typeB ht
      exfalso
      apply h1
      cases hb : t.b with
      | true =>
        rw [sayB_bool h2 hb] at h3
        unfold boolL at h3
        injection h3 with h3 _
        rcases hc with rfl | rfl <;> exact absurd h3 (by decide)
      | false =>
        have hw := mayTy_num h2 hb
        have h4 := h3
        rw [sayB_num h2 hb] at h4
        injection h4 with h5 h6
        obtain ⟨b, sg, x⟩ := t
        obtain ⟨n, rfl⟩ : ∃ n : Nat, x = n := ⟨x.toNat, by have := hw.1; simp only at this; omega⟩
        simp only at hb hw h6
        subst hb
        have h7 := atoi_dec n (by omega)
        rw [Int.toNat_natCast] at h6
        rw [h6, h] at h7
        injection h7 with h7
        subst h7
        rw [← h5, headT_105, h5]
        exact ⟨h2, h3⟩
theorem typeB_bad {c : UInt8} {r : List UInt8} (h : ∀ v, Lib.atoiAll r ≠ .ok v) (hn : c :: r ≠ boolL) : typeB (c :: r) = none := by
  cases ht : typeB (c :: r) with
  | none => rfl
  | some t =>
    obtain ⟨h2, h3⟩ := say_typeB ht
    exfalso
    cases hb : t.b with
    | true =>
      rw [sayB_bool h2 hb] at h3
      exact hn h3.symm
    | false =>
      have hw := mayTy_num h2 hb
      rw [sayB_num h2 hb] at h3
      injection h3 with h5 h6
      have h7 := atoi_dec t.w.toNat (by omega)
      rw [h6] at h7
      exact h _ h7
theorem typeB_head {c : UInt8} {r : List UInt8} (hc : ¬ (c = 117 ∨ c = 105)) (hn : c :: r ≠ boolL) : typeB (c :: r) = none := by
  unfold typeB
  rw [if_neg hn]
  simp only
  rw [if_neg hc]
theorem typeB_nil : typeB [] = none := rfl
theorem typeB_bool : typeB boolL = some boolTy := rfl
/-! numbers -/
def DigL (l : List UInt8) : Prop := ∀ c ∈ l, dgB c = true
theorem dgB_iff (c : UInt8) : dgB c = true ↔ 48 ≤ c.toNat ∧ c.toNat ≤ 57 := by unfold dgB; simp
def valA (a : Nat) (l : List UInt8) : Nat := l.foldl (fun a c => 10 * a + (c.toNat - 48)) a
theorem valA_ge (l : List UInt8) (a : Nat) : a ≤ valA a l := by
  induction l generalizing a with
  | nil => exact Nat.le_refl _
  | cons c l ih =>
    have := ih (10 * a + (c.toNat - 48))
    show a ≤ valA (10 * a + (c.toNat - 48)) l
    omega
theorem parseM_val (l : List UInt8) (a : Nat) (h : DigL l) (ha : a < 18446744073709551616) : Lib.parseUintM 18446744073709551615 a l = if valA a l < 18446744073709551616 then .ok (valA a l) else .range := by
  induction l generalizing a with
  | nil =>
    rw [show valA a [] = a from rfl, if_pos ha]
    rfl
  | cons c l ih =>
    have hd := (dgB_iff c).1 (h c (by simp))
    have hl : DigL l := fun x hx => h x (by simp [hx])
    have hv : valA a (c :: l) = valA (10 * a + (c.toNat - 48)) l := rfl
    have hge := valA_ge l (10 * a + (c.toNat - 48))
    rw [hv]
    unfold Lib.parseUintM
    rw [if_pos hd]
    split
    · rw [if_neg (by omega)]
    · split
      · rw [if_neg (by omega)]
      · have e : a * 10 + (c.toNat - 48) = 10 * a + (c.toNat - 48) := by omega
        rw [e, ih _ hl (by omega)]
theorem parse_val (l : List UInt8) (h : DigL l) (hne : l ≠ []) : Lib.parseUintB 64 l = if valL l < 18446744073709551616 then .ok (valL l) else .range := by
  unfold Lib.parseUintB
  rw [if_neg hne]
  exact parseM_val l 0 h (by decide)
theorem takeWhile_all (p : UInt8 → Bool) (l : List UInt8) : ∀ c ∈ l.takeWhile p, p c = true := by
  induction l with
  | nil => intro c hc; simp at hc
  | cons x l ih =>
    rw [List.takeWhile_cons]
    split
    · rename_i hx
      intro c hc
      rcases List.mem_cons.1 hc with rfl | hc
      · exact hx
      · exact ih c hc
    · intro c hc; simp at hc
end Go.Proofs.YtjnjldbegngooaaDoor
