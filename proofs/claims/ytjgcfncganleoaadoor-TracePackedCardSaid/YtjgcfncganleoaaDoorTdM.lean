/-
  Law 09, plain: one number of a table is another one: where tables differ.
-/
import Derived.Test.YtjgcfncganleoaaDoorTrcT
namespace Go.Proofs.YtjgcfncganleoaaDoor
set_option linter.unusedVariables false
set_option linter.unusedSimpArgs false

def setT (F : Tb) (i k v : Nat) : Tb := ⟨F.bs, F.rs.set i ((F.rs.getD i []).set k v)⟩
theorem okR_get : ∀ {bs : List (ByteArray × Int)} {ns : List Nat}, okR bs ns → ∀ k (hk : k < bs.length), ns.getD k 0 < 2 ^ bs[k].2.toNat
  | b :: bs, n :: ns, h, 0, _ => h.1
  | b :: bs, n :: ns, h, k + 1, hk => by simpa using okR_get h.2 k (by simpa using hk)
theorem okR_set : ∀ {bs : List (ByteArray × Int)} {ns : List Nat}, okR bs ns → ∀ k (hk : k < bs.length) v, v < 2 ^ bs[k].2.toNat → okR bs (ns.set k v)
  | b :: bs, n :: ns, h, 0, _, v, hv => ⟨hv, h.2⟩
  | b :: bs, n :: ns, h, k + 1, hk, v, hv => ⟨h.1, okR_set h.2 k (by simpa using hk) v (by simpa using hv)⟩
variable {F : Tb} {i k v : Nat}
theorem setT_may (hm : mayT F = true) (hi : i < F.rs.length) (hk : k < F.bs.length) (hv : v < 2 ^ F.bs[k].2.toNat) : mayT (setT F i k v) = true := by
  obtain ⟨h1, h2, h3, h4, h5⟩ := (mayT_iff F).1 hm
  refine (mayT_iff _).2 ⟨h1, h2, h3, fun r hr => ?_, by simpa [setT] using h5⟩
  rcases List.mem_or_eq_of_mem_set hr with hr | rfl
  · exact h4 r hr
  · have : F.rs.getD i [] ∈ F.rs := by simp [List.getD, List.getElem?_eq_getElem hi]
    exact okR_set (h4 _ this) k hk v hv
theorem setT_len : (setT F i k v).rs.length = F.rs.length := by simp [setT]
theorem setT_at (hm : mayT F = true) (hi : i < F.rs.length) (hk : k < F.bs.length) (i' k' : Nat) : atT (setT F i k v) i' k' = if i' = i ∧ k' = k then v else atT F i' k' := by
  have hl : (F.rs.getD i []).length = F.bs.length := mayT_row hm _ (by simp [List.getD, List.getElem?_eq_getElem hi])
  unfold atT setT
  by_cases h1 : i' = i
  · subst h1
    obtain ⟨R, hR⟩ : ∃ R, R = F.rs.getD i' [] := ⟨_, rfl⟩
    rw [← hR] at hl ⊢
    have e : (F.rs.set i' (R.set k v)).getD i' [] = R.set k v := by
      rw [List.getD_eq_getElem?_getD, List.getElem?_set_self hi]; rfl
    rw [e]
    by_cases h2 : k' = k
    · subst h2
      rw [if_pos ⟨rfl, rfl⟩, List.getD_eq_getElem?_getD, List.getElem?_set_self (by omega)]; rfl
    · rw [if_neg (by simp [h2]), List.getD_eq_getElem?_getD, List.getElem?_set_ne (Ne.symm h2), ← List.getD_eq_getElem?_getD]
  · simp only [h1, false_and, if_false]
    rw [List.getD_eq_getElem?_getD (l := F.rs.set i _), List.getElem?_set_ne (Ne.symm h1), ← List.getD_eq_getElem?_getD]
theorem setT_same (hi : i < F.rs.length) (h : atT F i k = v) (hk : k < (F.rs.getD i []).length) : setT F i k v = F := by
  have e : (F.rs.getD i []).set k v = F.rs.getD i [] := by
    subst h
    unfold atT
    rw [List.getD_eq_getElem?_getD (i := k), List.getElem?_eq_getElem hk, Option.getD_some]
    exact List.set_getElem_self hk
  unfold setT
  rw [e, List.getD_eq_getElem?_getD, List.getElem?_eq_getElem hi, Option.getD_some, List.set_getElem_self hi]
theorem diff_self (hm : mayT F = true) : DiffIs F F (0, 0, false) := .inr ⟨hm, hm, rfl, .inr ⟨fun _ _ _ _ => rfl, .inr ⟨rfl, rfl⟩⟩⟩
theorem diff_no (hm : mayT F = false) (G : Tb) : DiffIs F G (0, 0, true) := .inl ⟨by simp [hm], rfl⟩
theorem diff_set (hm : mayT F = true) (hi : i < F.rs.length) (hk : k < F.bs.length) (hv : v < 2 ^ F.bs[k].2.toNat) (hne : atT F i k ≠ v) : DiffIs F (setT F i k v) (i, k, true) ∧ DiffIs (setT F i k v) F (i, k, true) := by
  have h2 := setT_may hm hi hk hv
  have hat := fun i' k' => setT_at (v := v) hm hi hk i' k'
  have hl : (setT F i k v).rs.length = F.rs.length := setT_len
  refine ⟨.inr ⟨hm, h2, rfl, .inl ⟨i, k, by rw [hl]; omega, hk, ?_, fun i' h k' _ => ?_, fun k' h => ?_, rfl⟩⟩, .inr ⟨h2, hm, rfl, .inl ⟨i, k, by rw [hl]; omega, hk, ?_, fun i' h k' _ => ?_, fun k' h => ?_, rfl⟩⟩⟩
  · rw [hat, if_pos ⟨rfl, rfl⟩]; exact hne
  · rw [hat, if_neg (by omega)]
  · rw [hat, if_neg (by omega)]
  · rw [hat, if_pos ⟨rfl, rfl⟩]; exact Ne.symm hne
  · rw [hat, if_neg (by omega)]
  · rw [hat, if_neg (by omega)]
theorem diff_less (hm : mayT F = true) (hl : 0 < F.rs.length) : DiffIs F ⟨F.bs, F.rs.take (F.rs.length - 1)⟩ (F.rs.length - 1, 0, true) := by
  have h2 := mayT_take hm (F.rs.length - 1)
  refine .inr ⟨hm, h2, rfl, .inr ⟨fun i' hi k' hk => ?_, .inl ⟨by simp; omega, ?_⟩⟩⟩
  · simp only [List.length_take] at hi
    unfold atT
    rw [List.getD_eq_getElem?_getD (l := F.rs.take _), List.getElem?_take_of_lt (by omega), ← List.getD_eq_getElem?_getD]
  · simp only [List.length_take]
    congr 1
    omega
theorem same_set (hm : mayT F = true) (hi : i < F.rs.length) (hk : k < F.bs.length) : sameT F (setT F i k v) = decide (atT F i k = v) := by
  have hl : (F.rs.getD i []).length = F.bs.length := mayT_row hm _ (by simp [List.getD, List.getElem?_eq_getElem hi])
  rw [Bool.eq_iff_iff, sameT_iff, decide_eq_true_eq]
  constructor
  · intro h
    have := congrArg (fun t => atT t i k) h
    simp only [setT_at (v := v) hm hi hk] at this
    simpa using this
  · intro h
    exact (setT_same hi h (by omega)).symm
theorem xor_lt {a b w : Nat} (ha : a < 2 ^ w) : a ^^^ (b &&& (2 ^ w - 1)) < 2 ^ w :=
  Nat.xor_lt_two_pow ha (Nat.lt_of_le_of_lt Nat.and_le_right (by have := Nat.two_pow_pos w; omega))
/-- the columns of the bus -/
theorem col_set (hm : mayT F = true) (hi : i < F.rs.length) (hk : k < F.bs.length) (hv : v < 2 ^ F.bs[k].2.toNat) :
    columnT F F.bs[k].1 = (F.rs.map fun r => r.getD k 0, true) ∧ columnT (setT F i k v) F.bs[k].1 = ((setT F i k v).rs.map fun r => r.getD k 0, true) := by
  have hfind : F.bs.findIdx? (fun b => decide (b.1 = F.bs[k].1)) = some k := by
    have h3 := ((mayT_iff F).1 hm).2.2.1
    rw [okB_is] at h3
    refine findIdx_some hk (by simp) fun j hj => ⟨by omega, ?_⟩
    unfold busesB busesTo at h3
    rw [List.all_eq_true] at h3
    have h4 := h3 k (List.mem_range.2 hk)
    rw [List.getElem?_eq_getElem hk] at h4
    simp only [busB, Bool.and_eq_true, Bool.not_eq_true'] at h4
    have h5 := h4.2.1
    rw [List.any_eq_false] at h5
    have h6 := h5 F.bs[j] (by rw [List.mem_take_iff_getElem]; exact ⟨j, by omega, rfl⟩)
    simpa using h6
  have h2 := setT_may hm hi hk hv
  have hb : (setT F i k v).bs = F.bs := rfl
  constructor
  · unfold columnT; rw [if_pos hm, hfind]
  · unfold columnT; rw [if_pos h2, hb, hfind]
theorem col_at (G : Tb) (j k : Nat) : (G.rs.map fun r => r.getD k 0).getD j 0 = atT G j k := by
  unfold atT
  rw [List.getD_eq_getElem?_getD, List.getElem?_map, List.getD_eq_getElem?_getD (l := G.rs)]
  cases G.rs[j]? <;> simp
end Go.Proofs.YtjgcfncganleoaaDoor
