/-
  Law 10: EmitOnce, plain: each node above 0 is driven once.
-/
import Derived.Test.YtnjoklcddodfeaaGreatDoorQEmOnN
import Derived.Test.YtnjoklcddodfeaaGreatDoorQInsOf
namespace Go.Proofs.YtnjoklcddodfeaaGreatDoor
open Go.ChangeShapes Go.WideShapes Go.ChangeAt Go.RowKit
set_option linter.unusedVariables false
set_option linter.unusedSimpArgs false

variable {k : Nat} {N : Nt}
/-- the numbers that gates have -/
def gnum (g : Gr) (n : Nat) : List Nat := (List.range n).filterMap fun k => (gateAt g k).map fun _ => 2 * k
theorem mem_gnum {g : Gr} {n x : Nat} : x ∈ gnum g n ↔ ∃ k, k < n ∧ (gateAt g k).isSome = true ∧ x = 2 * k := by
  unfold gnum
  rw [List.mem_filterMap]
  constructor
  · rintro ⟨k, hk, h⟩
    cases hg : gateAt g k with
    | none => rw [hg] at h; cases h
    | some p =>
      rw [hg] at h
      injection h with h
      exact ⟨k, List.mem_range.1 hk, by rw [hg]; rfl, h.symm⟩
  · rintro ⟨k, hk, h, rfl⟩
    cases hg : gateAt g k with
    | none => rw [hg] at h; cases h
    | some p => exact ⟨k, List.mem_range.2 hk, by rw [hg]; rfl⟩
theorem gnum_succ (g : Gr) (n : Nat) : gnum g (n + 1) = gnum g n ++ (if (gateAt g n).isSome then [2 * n] else []) := by
  unfold gnum
  rw [List.range_succ, List.filterMap_append]
  congr 1
  cases h : gateAt g n <;> simp [h]
theorem gnum_nodup (g : Gr) (n : Nat) : (gnum g n).Nodup := by
  induction n with
  | zero => simp [gnum]
  | succ n ih =>
    rw [gnum_succ]
    split
    · rw [List.nodup_append]
      refine ⟨ih, by simp, fun a ha b hb => ?_⟩
      rw [List.mem_singleton] at hb
      obtain ⟨j, hj, _, rfl⟩ := mem_gnum.1 ha
      omega
    · simpa using ih
theorem ins_gate (hw : WF N.g.nodes) {i : Nat} (hi : i ∈ ins N.g.nodes) : gateAt N.g i = none := by
  obtain ⟨_, a, b, hab, hai⟩ := ins_of hi
  unfold gateAt
  rw [hab]
  simp [hai]
/-- each once -/
theorem drv_nodup (h : NtFine k N) : (drivenN N ++ gnum N.g N.g.nodes.length).Nodup := by
  rw [List.nodup_append]
  refine ⟨h.dn, gnum_nodup _ _, fun a ha b hb => ?_⟩
  obtain ⟨i, hi, rfl⟩ := h.di a ha
  obtain ⟨j, hj, hg, rfl⟩ := mem_gnum.1 hb
  intro e
  have e2 : i = j := by omega
  subst e2
  rw [ins_gate h.ok.wf hi] at hg
  cases hg
/-- each at all -/
theorem drv_all (h : NtFine k N) (hc : checkN N = 0) (j : Nat) (h1 : 1 ≤ j) (h2 : j < N.g.nodes.length) : 2 * j ∈ drivenN N ++ gnum N.g N.g.nodes.length := by
  rw [List.mem_append]
  cases hg : gateAt N.g j with
  | some p => exact .inr (mem_gnum.2 ⟨j, h2, by rw [hg]; rfl, rfl⟩)
  | none =>
    left
    have hin : j ∈ ins N.g.nodes := by
      unfold gateAt at hg
      rw [List.getElem?_eq_getElem h2] at hg
      simp only at hg
      split at hg
      · rename_i hh
        have h0 := insFrom_mem6 0 N.g.nodes j (N.g.nodes[j]) (List.getElem?_eq_getElem h2) (by rw [Nat.zero_add]; exact hh) (by omega)
        rw [Nat.zero_add] at h0
        exact h0
      · cases hg
    have hf : fullB N = true := by
      unfold checkN at hc
      by_cases hb : fullB N = true
      · exact hb
      · rw [if_neg hb] at hc; omega
    unfold fullB at hf
    rw [List.all_eq_true] at hf
    simpa using hf j hin
end Go.Proofs.YtnjoklcddodfeaaGreatDoor
