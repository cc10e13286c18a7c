/-
  Law 10: EmitOnce, plain: no line holds a line's end.
-/
import Derived.Test.YtnjoklcddodfeaaGreatDoorQEmitM
import Derived.Test.YtnjoklcddodfeaaGreatDoorQInsOf
import Derived.Lib.Bytealg
namespace Go.Proofs.YtnjoklcddodfeaaGreatDoor
open Go.ChangeShapes Go.WideShapes Go.ChangeAt Go.RowKit
set_option linter.unusedVariables false
set_option linter.unusedSimpArgs false

variable {k : Nat} {N : Nt}
theorem dec_big {m : Nat} (h : ¬ m < 10) : Lib.decDigits m = Lib.decDigits (m / 10) ++ [UInt8.ofNat (48 + m % 10)] := by
  rw [Lib.decDigits, dif_neg h]
theorem dec_small {m : Nat} (h : m < 10) : Lib.decDigits m = [UInt8.ofNat (48 + m)] := by
  rw [Lib.decDigits, dif_pos h]
theorem dec_ge (u : Nat) : ∀ b ∈ Lib.decDigits u, 48 ≤ b.toNat := by
  induction u using Nat.strongRecOn with
  | _ u ih =>
    intro b hb
    by_cases h : u < 10
    · rw [dec_small h, List.mem_singleton] at hb
      subst hb
      rw [UInt8.toNat_ofNat']
      omega
    · rw [dec_big h, List.mem_append, List.mem_singleton] at hb
      rcases hb with hb | rfl
      · exact ih (u / 10) (by omega) b hb
      · rw [UInt8.toNat_ofNat']
        omega
theorem words_no (l : List Nat) : (10 : UInt8) ∉ wordsB l := by
  unfold wordsB
  intro h
  obtain ⟨x, _, hx⟩ := List.mem_flatMap.1 h
  rcases List.mem_cons.1 hx with h1 | h1
  · exact absurd h1 (by decide)
  · exact absurd (dec_ge x 10 h1) (by decide)
theorem name_no {s : ByteArray} (h : mayB s = true) : (10 : UInt8) ∉ bytesL s := by
  unfold mayB at h
  rw [Bool.and_eq_true] at h
  have h2 := h.2
  unfold allOk at h2
  rw [List.all_eq_true] at h2
  intro hm
  exact absurd (h2 10 hm) (by decide)
theorem line_no {word : List UInt8} {s : List UInt8} (hw : (10 : UInt8) ∉ word) (hs : (10 : UInt8) ∉ s) (l : List Nat) : (10 : UInt8) ∉ lineB word s l := by
  unfold lineB nameB1
  rw [List.mem_append, List.mem_append]
  rintro ((h | h) | h)
  · exact hw h
  · split at h
    · simp at h
    · rcases List.mem_cons.1 h with h | h
      · exact absurd h (by decide)
      · exact hs h
  · exact words_no l h
theorem lines_no (h : NtFine k N) : ∀ s ∈ linesN N, (10 : UInt8) ∉ s := by
  intro s hs
  unfold linesN at hs
  split at hs
  · unfold bodyL at hs
    simp only [List.mem_cons, List.mem_append, List.mem_map, List.not_mem_nil, or_false] at hs
    rcases hs with rfl | ⟨b, hb, rfl⟩ | ⟨r, hr, rfl⟩ | hs | ⟨b, hb, rfl⟩ | rfl
    · exact line_no (by decide) (name_no h.nm) _
    · exact line_no (by decide) (name_no (h.ok.il b hb).2.2.1) _
    · exact line_no (by decide) (by simp) _
    · unfold gatesL at hs
      obtain ⟨j, hj, h1⟩ := List.mem_filterMap.1 hs
      cases hg : gateAt N.g j with
      | none => rw [hg] at h1; cases h1
      | some p =>
        rw [hg] at h1
        injection h1 with h1
        subst h1
        exact line_no (by decide) (by simp) _
    · exact line_no (by decide) (name_no (h.ok.ol b hb).2.2.1) _
    · decide
  · simp at hs
theorem index_no {l : List UInt8} (h : (10 : UInt8) ∉ l) : decide (0 ≤ Lib.indexByte l 10) = false := by
  have e : Lib.indexByte l 10 = -1 := by
    induction l with
    | nil => rfl
    | cons b l ih =>
      rw [List.mem_cons, not_or] at h
      unfold Lib.indexByte
      have hb : (b == 10) = false := by rw [beq_eq_false_iff_ne]; exact fun e => h.1 e.symm
      rw [hb, ih h.2]
      rfl
  rw [e]
  decide
theorem insFrom_mem6 (i : Nat) (l : List (Nat × Nat)) (j : Nat) (p : Nat × Nat) (h : l[j]? = some p) (hp : p.1 / 2 = i + j) (h0 : i + j ≠ 0) : i + j ∈ insFrom i l := by
  induction l generalizing i j with
  | nil => simp at h
  | cons a l ih =>
    simp only [insFrom]
    cases j with
    | zero =>
      simp at h
      subst h
      rw [if_pos (by simp [inAt]; omega)]
      simp
    | succ j =>
      have := ih (i + 1) j (by simpa using h) (by omega) (by omega)
      have e : i + 1 + j = i + (j + 1) := by omega
      rw [e] at this
      split
      · exact List.mem_cons_of_mem _ this
      · exact this
theorem name_pos {s : ByteArray} (h : mayB s = true) : bytesL s ≠ [] := by
  intro he
  unfold mayB at h
  simp only [Bool.and_eq_true, decide_eq_true_eq] at h
  have e : (bytesL s).length = s.size := rfl
  rw [he] at e
  have := h.1.1
  simp at e this
  omega
end Go.Proofs.YtnjoklcddodfeaaGreatDoor
