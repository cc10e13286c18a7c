/-
  Law 10: EmitOnce, plain: what the loop over lines holds.
-/
import Derived.Test.YtnjoklcddodfeaaGreatDoorQEmOnV
namespace Go.Proofs.YtnjoklcddodfeaaGreatDoor
open Go.ChangeShapes Go.WideShapes Go.ChangeAt Go.RowKit
set_option linter.unusedVariables false
set_option linter.unusedSimpArgs false

variable {k j : Nat} {N : Nt}
theorem drvs_take {RS : List Rec} {r : Rec} (hk : RS[k]? = some r) : drvs (RS.take (k + 1)) = drvs (RS.take k) ++ drvR r := by
  obtain ⟨h1, h2⟩ := List.getElem?_eq_some_iff.1 hk
  rw [List.take_succ_eq_append_getElem h1, drvs_app, h2]
  simp [drvs]
theorem drv_next {RS : List Rec} {r : Rec} {u : Nat} (hn : (drvs RS).Nodup) (hk : RS[k]? = some r) (hj : (drvR r)[j]? = some u) : u ∉ drvs (RS.take k) ++ (drvR r).take j := by
  have h1 : drvs RS = drvs (RS.take k) ++ drvR r ++ drvs (RS.drop (k + 1)) := by
    rw [← drvs_take hk, ← drvs_app, List.take_append_drop]
  rw [h1] at hn
  have h2 := (List.nodup_append.1 hn).1
  obtain ⟨hj1, hj2⟩ := List.getElem?_eq_some_iff.1 hj
  have h3 : drvR r = (drvR r).take j ++ (u :: (drvR r).drop (j + 1)) := by
    rw [← hj2, ← List.drop_eq_getElem_cons hj1, List.take_append_drop]
  rw [h3, ← List.append_assoc] at h2
  have h4 := (List.nodup_append.1 h2).2.2
  intro hm
  exact h4 u hm u (by simp) rfl
theorem recs_take {RS : List Rec} {r : Rec} (hk : RS[k]? = some r) : RS.take (k + 1) = RS.take k ++ [r] := by
  obtain ⟨h1, h2⟩ := List.getElem?_eq_some_iff.1 hk
  rw [List.take_succ_eq_append_getElem h1, h2]
theorem take_next {l : List Nat} {u : Nat} (h : l[j]? = some u) : l.take (j + 1) = l.take j ++ [u] := by
  obtain ⟨h1, h2⟩ := List.getElem?_eq_some_iff.1 h
  rw [List.take_succ_eq_append_getElem h1, h2]
/-- the words' count, all in all -/
theorem drvs_len (hf : NtFine k N) (hc : checkN N = 0) : (drvs (recsN N)).length + 1 = N.g.nodes.length := by
  rw [drvs_N]
  have hnd := drv_nodup hf
  have hall := drv_all hf hc
  have hmem : ∀ x ∈ drivenN N ++ gnum N.g N.g.nodes.length, ∃ j, 1 ≤ j ∧ j < N.g.nodes.length ∧ x = 2 * j := by
    intro x hx
    rcases List.mem_append.1 hx with hx | hx
    · obtain ⟨i, hi, rfl⟩ := hf.di x hx
      have h1 := ins_of hi
      have h2 := ins_lt N.g.nodes i hi
      exact ⟨i, by omega, h2, rfl⟩
    · obtain ⟨i, hi, hg, rfl⟩ := mem_gnum.1 hx
      refine ⟨i, ?_, hi, rfl⟩
      rcases Nat.eq_zero_or_pos i with h0 | h0
      · subst h0
        cases hgg : gateAt N.g 0 with
        | none => rw [hgg] at hg; cases hg
        | some p => have := (gateAt_lt hf.ok.wf hgg).2.1; omega
      · exact h0
  generalize drivenN N ++ gnum N.g N.g.nodes.length = D at *
  have hpos := hf.ok.wf.pos
  generalize N.g.nodes.length = M at *
  have hp : D.Perm ((List.range (M - 1)).map fun j => 2 * (j + 1)) := by
    rw [List.perm_iff_count]
    intro a
    have hn2 : ((List.range (M - 1)).map fun j => 2 * (j + 1)).Nodup := by
      rw [List.nodup_iff_pairwise_ne, List.pairwise_map]
      refine (List.nodup_range (n := M - 1)).imp fun {a b} hab => ?_
      omega
    rw [hnd.count, hn2.count]
    have : a ∈ D ↔ a ∈ (List.range (M - 1)).map fun j => 2 * (j + 1) := by
      constructor
      · intro ha
        obtain ⟨j, h1, h2, rfl⟩ := hmem a ha
        exact List.mem_map.2 ⟨j - 1, List.mem_range.2 (by omega), by omega⟩
      · intro ha
        obtain ⟨j, hj, rfl⟩ := List.mem_map.1 ha
        have := List.mem_range.1 hj
        exact hall (j + 1) (by omega) (by omega)
    simp only [this]
  rw [hp.length_eq, List.length_map, List.length_range]
  omega
/-- a line's words, one by one -/
theorem words_join {r : Rec} : joinC 32 (wordsR r) = recL r := (lineB_join _ _ _).symm
theorem words_no32 {N : Nt} {j : Nat} {r : Rec} (h : RecOk N j r) : ∀ s ∈ wordsR r, (32 : UInt8) ∉ s := by
  intro s hs
  unfold wordsR at hs
  rcases List.mem_cons.1 hs with rfl | hs
  · exact wordK_no32 _
  · rcases List.mem_append.1 hs with hs | hs
    · split at hs
      · simp at hs
      · rw [List.mem_singleton] at hs
        subst hs
        exact h.n32
    · obtain ⟨x, _, rfl⟩ := List.mem_map.1 hs
      exact dec_no32 x
theorem own_keptBx {w w' : World} {B n size : Nat} {e : TypeId} {v : Value} {xs : List Value} {F : List Nat} (h : w.ownsRow B e size v n xs) (hk : Kept F w w') (hd : ∀ g, v.ownBlock = some g → g ∉ F) : w'.ownsRow B e size v n xs := by
  refine ⟨h.1, ?_⟩
  rcases h.2 with hn | ⟨g, cap', cur, hv, hb, hg, rest⟩
  · exact .inl hn
  · exact .inr ⟨g, cap', cur, hv, hb, hk.heap hg (hd g (by rw [hv]; rfl)), rest⟩
theorem NetC.kept0q {w : World} {n p : Nat} {G : List Nat} {ia ra oa : Option Addr} {ic rc oc : Nat} {ri ro : List BR} (h : NetC w n N p G ia ic ra rc oa oc ri ro) (i : Nat) : NetC (w.drewN i) n N p G ia ic ra rc oa oc ri ro := h.kept ((Kept.refl [] w).drewN i) (by simp) (by simp)
theorem ntL_okx {g : Gr} {x : Nat} (h : g.ok x) : g.ok (ntL x) := by
  unfold Gr.ok ntL at *
  split <;> omega
theorem ntL_nex (x : Nat) : ntL x ≠ x := by
  unfold ntL
  split <;> omega
theorem lits_nex {l : List Nat} {gl uu : Nat} (h1 : gl < l.length) (h2 : uu = l[gl]) (h : l.set gl (ntL uu) = l) : False := by
  have h3 : (l.set gl (ntL uu))[gl]? = l[gl]? := by rw [h]
  rw [List.getElem?_set_self h1, List.getElem?_eq_getElem h1, ← h2] at h3
  injection h3 with h3
  exact ntL_nex uu h3
end Go.Proofs.YtnjoklcddodfeaaGreatDoor
