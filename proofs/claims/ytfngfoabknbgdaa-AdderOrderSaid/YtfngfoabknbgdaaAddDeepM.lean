/-
  Law 12: how deep, how many. Plain.
-/
import Derived.Test.YtfngfoabknbgdaaAddTells
import Derived.Test.YtfngfoabknbgdaaAddDeepB
namespace Go.Proofs.Ytfngfoabknbgdaa
set_option linter.unusedVariables false
variable {g : Gr} {n : Nat}
theorem mostD_bound {D l : List Nat} {m : Nat} (h : ∀ x ∈ l, dl D x ≤ m) : mostD D l ≤ m := by
  suffices hs : ∀ (l : List Nat) (k : Nat), k ≤ m → (∀ x ∈ l, dl D x ≤ m) → l.foldl (fun m x => max m (dl D x)) k ≤ m from hs l 0 (Nat.zero_le _) h
  intro l
  induction l with
  | nil => intro k hk _; exact hk
  | cons x l ih => intro k hk h; exact ih _ (Nat.max_le.2 ⟨hk, h x (by simp)⟩) (fun y hy => h y (by simp [hy]))
def mostOf (how n : Nat) : Nat := if how = 1 then 2 * n + 2 else 5 + 2 * rnds n
def gatesOf (how n : Nat) : Nat := if how = 1 then 9 * n else 9 * n + 3 * wideTo n (rnds n)
structure DeepK (o1 o2 : Bool) (how n : Nat) (r : Gr × List Nat × Nat) (deep gt : Nat) : Prop where
  ok : AddOk (9 * n + 1152) (freshG o1 o2 (2 * n + 1)) (rowL 1 n) (rowL (1 + n) n) (2 * (1 + 2 * n)) n r
  dEq : mostD (dpL r.1.nodes) (r.2.1 ++ [r.2.2]) = deep
  gEq : gatesN r.1 = (gt : Int)
  most : deep ≤ mostOf how n
  few : gt ≤ gatesOf how n
  just : o1 = false → o2 = false → gt = gatesOf how n
theorem rnds_le (n : Nat) : rnds n ≤ 6 := by
  unfold rnds; repeat' split
  all_goals omega
theorem deepK (o1 o2 : Bool) (how : Nat) (hh : how = 1 ∨ how = 2) (h1 : 1 ≤ n) (hn : n ≤ 64) : ∃ deep gt, DeepK o1 o2 how n (addG how (freshG o1 o2 (2 * n + 1)) (rowL 1 n) (rowL (1 + n) n) (2 * (1 + 2 * n)) n) deep gt := by
  have hw := (freshG_wf o1 o2 (2 * n + 1)).1
  obtain ⟨d1, d2⟩ := fresh_deep o1 o2 n
  have kc : (freshG o1 o2 (2 * n + 1)).ok (2 * (1 + 2 * n)) := freshG_ok _ _ (by omega)
  have dc : dp (freshG o1 o2 (2 * n + 1)) (2 * (1 + 2 * n)) = 0 := freshG_dp _ _ _ _ (by omega)
  have lA := rowL_length 1 n
  have lB := rowL_length (1 + n) n
  have hok := addG_ok (how := how) hw (fun x hx => (d1 x hx).1) (fun x hx => (d2 x hx).1) kc lA lB hn
  have hle := hok.ext.le
  rw [freshG_length] at hle
  refine ⟨_, (addG how (freshG o1 o2 (2 * n + 1)) (rowL 1 n) (rowL (1 + n) n) (2 * (1 + 2 * n)) n).1.nodes.length - (2 * n + 2), hok, rfl, fresh_gates hok.ext (by omega), ?_, ?_, ?_⟩
  · refine mostD_bound fun x hx => ?_
    rcases hh with rfl | rfl
    · have h := rip_dp hw (fun x hx => (d1 x hx).1) (fun x hx => (d2 x hx).1) kc (fun x hx => (d1 x hx).2) (fun x hx => (d2 x hx).2) dc n (by omega) (by omega)
      rcases List.mem_append.1 hx with hx | hx
      · exact h.1 x hx
      · rw [List.mem_singleton] at hx; subst hx; exact h.2
    · have h := ahead_dp hw (fun x hx => (d1 x hx).1) (fun x hx => (d2 x hx).1) kc (fun x hx => Nat.le_of_eq (d1 x hx).2) (fun x hx => Nat.le_of_eq (d2 x hx).2) dc h1
      have e : mostOf 2 n = 2 * rnds n + 5 := by simp [mostOf]; omega
      rw [e]
      rcases List.mem_append.1 hx with hx | hx
      · exact h.1 x hx
      · rw [List.mem_singleton] at hx; subst hx; exact h.2
  · rcases hh with rfl | rfl
    · have h := (rip_ok hw (fun x hx => (d1 x hx).1) (fun x hx => (d2 x hx).1) kc lA lB).ext.le
      rw [freshG_length] at h
      show (ripTo _ _ _ _ _).1.nodes.length - _ ≤ 9 * n
      omega
    · have h := (ahead_ok hw (fun x hx => (d1 x hx).1) (fun x hx => (d2 x hx).1) kc lA lB hn).ext.le
      rw [freshG_length] at h
      show (aheadG _ _ _ _ _).1.nodes.length - _ ≤ 9 * n + 3 * wideTo n (rnds n)
      omega
  · intro e1 e2
    subst e1 e2
    rcases hh with rfl | rfl
    · have h := (rip_just (g := freshG false false (2 * n + 1)) rfl rfl (rowL 1 n) (rowL (1 + n) n) (2 * (1 + 2 * n)) n).len
      rw [freshG_length] at h
      show (ripTo _ _ _ _ _).1.nodes.length - _ = 9 * n
      omega
    · have h := (ahead_just (g := freshG false false (2 * n + 1)) rfl rfl (rowL 1 n) (rowL (1 + n) n) (2 * (1 + 2 * n)) n).len
      rw [freshG_length] at h
      show (aheadG _ _ _ _ _).1.nodes.length - _ = 9 * n + 3 * wideTo n (rnds n)
      omega
theorem rnds_is {r : Nat} (h : n ≤ 64) (h1 : n ≤ 2 ^ r) (h2 : ∀ q, q < r → 2 ^ q < n) : rnds n = r := by
  obtain ⟨a1, a2⟩ := rnds_spec n h
  rcases Nat.lt_trichotomy (rnds n) r with h3 | h3 | h3
  · have := h2 _ h3; omega
  · exact h3
  · have := a2 _ h3; omega
end Go.Proofs.Ytfngfoabknbgdaa
