/-
  Package sim, plain: what a cycle does.
  A copy's words and depths. Plain.
  Package sweep, plain: sweeping again and again comes to an end.
-/
import Derived.Test.YtdmcdhkkbkgnbaaGreatP24
import Derived.Test.YtdmcdhkkbkgnbaaGreatP07
import Derived.Test.YtdmcdhkkbkgnbaaGreatP02
namespace Go.Proofs.YtdmcdhkkbkgnbaaGreat
set_option linter.unusedVariables false
set_option linter.unusedSimpArgs false

variable {N M : Nt} {k : Nat}
theorem leant_ok (hf : NtFine k N) : ∀ x ∈ leantN N, N.g.ok x := fun x hx => by
  unfold leantN at hx
  rcases List.mem_append.1 hx with hx | hx
  · exact outs_ok hf x hx
  · obtain ⟨r, hr, hx⟩ := List.mem_flatMap.1 hx
    have := hf.ok.rl r hr
    simp only [List.mem_cons, List.not_mem_nil, or_false] at hx
    rcases hx with rfl | rfl
    · exact this.2.1
    · exact this.2.2
theorem wanted_leant : ∀ x ∈ wantedN N, x ∈ leantN N := fun x hx => by
  unfold wantedN at hx
  unfold leantN
  rcases List.mem_append.1 hx with hx | hx
  · exact List.mem_append_left _ hx
  · obtain ⟨r, hr, hx⟩ := List.mem_flatMap.1 hx
    exact List.mem_append_right _ (List.mem_flatMap.2 ⟨r, going_in hr, hx⟩)
theorem pick_le (n : Nat) (P Q : Nat → Bool) (h : ∀ j, j < n → P j = true → Q j = true) : (pick n P).length ≤ (pick n Q).length := by
  induction n with
  | zero => simp [pick]
  | succ n ih =>
    have h1 := ih fun j hj => h j (by omega)
    rw [pick_succ, pick_succ, List.length_append, List.length_append]
    have h2 := h n (by omega)
    cases hp : P n
    · simp; omega
    · rw [h2 hp]; simp; omega
theorem pick_lt {n j : Nat} {P Q : Nat → Bool} (hj : j < n) (hp : P j = false) (hq : Q j = true) (h : ∀ i, i < n → P i = true → Q i = true) : (pick n P).length < (pick n Q).length := by
  induction n with
  | zero => omega
  | succ n ih =>
    rw [pick_succ, pick_succ, List.length_append, List.length_append]
    rcases Nat.lt_or_eq_of_le (Nat.le_of_lt_succ hj) with h1 | h1
    · have h2 := ih h1 fun i hi => h i (by omega)
      have h3 := h n (by omega)
      cases hpn : P n
      · simp; omega
      · rw [h3 hpn]; simp; omega
    · subst h1
      have h2 := pick_le j P Q fun i hi => h i (by omega)
      rw [hp, hq]
      simp
      omega
theorem reached_pick (N : Nt) : reachedN N = (pick N.g.nodes.length (fun j => gAt N.g.nodes j && (marksL N.g.nodes (leantN N)).getD j false)).length := by
  unfold reachedN reachL
  rw [pick_filter]
theorem reached_le (hf : NtFine k N) : reachedN N ≤ gatesX N := by
  rw [reached_pick]
  have h := pick_ins N.g.nodes (marksL N.g.nodes (leantN N)) N.g.nodes.length (Nat.le_refl _)
  rw [List.take_length] at h
  have := hf.ok.wf.pos
  unfold gatesX
  omega
theorem gates_once (hf : NtFine k N) : gatesX (onceN N) ≤ reachedN N := by
  rw [reached_pick]
  refine Nat.le_trans (once_gates hf) (pick_le _ _ _ fun j hj h => ?_)
  rw [Bool.and_eq_true] at h ⊢
  refine ⟨h.1, ?_⟩
  have h1 := (marks_cn hf.ok.wf (wanted_ok hf) j).1 h.2
  obtain ⟨h0, x, hx, hc⟩ := h1
  exact (marks_cn hf.ok.wf (leant_ok hf) j).2 ⟨h0, x, wanted_leant x hx, hc⟩
theorem once_regs (N : Nt) : (onceN N).regs.length = (goingL N).length := newRegs_length _ _ _
theorem size_le (hf : NtFine k N) : sizeN (onceN N) ≤ sizeN N := by
  have h1 := gates_once hf
  have h2 := reached_le hf
  have h3 := goingTo_length N N.regs.length
  unfold sizeN
  rw [once_regs]
  unfold goingL
  omega
/-- all registers go on -/
theorem going_full (h : (goingL N).length = N.regs.length) : ∀ j, j < N.regs.length → goesB N j = true := by
  intro j hj
  apply Classical.byContradiction
  intro hg
  have hg' : goesB N j = false := by simpa using hg
  have key : ∀ m, j < m → m ≤ N.regs.length → (goingTo N m).length < m := by
    intro m
    induction m with
    | zero => intro h; omega
    | succ m ih =>
      intro h1 h2
      simp only [goingTo, List.length_append]
      rcases Nat.lt_or_eq_of_le (Nat.le_of_lt_succ h1) with h3 | h3
      · have := ih h3 (by omega)
        split <;> simp <;> omega
      · subst h3
        have := goingTo_length N j
        rw [hg']
        simp
        omega
  have := key N.regs.length hj (Nat.le_refl _)
  unfold goingL at h
  omega
theorem done_iff (hf : NtFine k N) : doneN N = true ↔ (∀ j, j < N.regs.length → goesB N j = true) ∧ reachedN N = gatesX N := by
  have hl := needed_length hf
  unfold doneN
  rw [Bool.and_eq_true, Bool.and_eq_true, decide_eq_true_eq]
  constructor
  · rintro ⟨⟨h1, h2⟩, h3⟩
    refine ⟨fun j hj => ?_, h3⟩
    unfold goesB
    rw [Bool.and_eq_true]
    constructor
    · cases hb : (neededN N).getD j false with
      | true => rfl
      | false =>
        exfalso
        have hm : false ∈ neededN N := by
          rw [List.getD_eq_getElem?_getD, List.getElem?_eq_getElem (by omega)] at hb
          simp only [Option.getD_some] at hb
          rw [← hb]
          exact List.getElem_mem _
        simp [hm] at h1
    · simp only [Bool.not_eq_true', List.any_eq_false] at h2 ⊢
      have := h2 _ (getD_regs hj)
      simpa using this
  · rintro ⟨h1, h2⟩
    refine ⟨⟨?_, ?_⟩, h2⟩
    · simp only [Bool.not_eq_true']
      apply Classical.byContradiction
      intro hc
      have hm : false ∈ neededN N := by simpa using hc
      obtain ⟨j, hj, he⟩ := List.getElem_of_mem hm
      have h3 := h1 j (by omega)
      unfold goesB at h3
      rw [Bool.and_eq_true, List.getD_eq_getElem?_getD, List.getElem?_eq_getElem hj, he] at h3
      simp at h3
    · simp only [Bool.not_eq_true', List.any_eq_false]
      intro r hr
      obtain ⟨j, hj, rfl⟩ := List.getElem_of_mem hr
      have h3 := h1 j hj
      unfold goesB at h3
      rw [Bool.and_eq_true, List.getD_eq_getElem?_getD (l := N.regs), List.getElem?_eq_getElem hj] at h3
      simpa using h3.2
theorem size_lt (hf : NtFine k N) (h : doneN N = false) : sizeN (onceN N) < sizeN N := by
  have h1 := gates_once hf
  have h2 := reached_le hf
  have h3 := goingTo_length N N.regs.length
  have hr := once_regs N
  unfold sizeN
  apply Classical.byContradiction
  intro hc
  have e1 : (goingL N).length = N.regs.length := by unfold goingL at *; omega
  have e2 : reachedN N = gatesX N := by unfold goingL at *; omega
  have := (done_iff hf).2 ⟨going_full e1, e2⟩
  rw [h] at this
  cases this
theorem allGo_fuel : ∀ (c f1 f2 : Nat) (N : Nt), NtFine k N → sizeN (onceN N) ≤ c → sizeN (onceN N) < f1 → sizeN (onceN N) < f2 → allGo f1 N = allGo f2 N := by
  intro c
  induction c with
  | zero =>
    intro f1 f2 N hf hc h1 h2
    obtain ⟨f1, rfl⟩ : ∃ g, f1 = g + 1 := ⟨f1 - 1, by omega⟩
    obtain ⟨f2, rfl⟩ : ∃ g, f2 = g + 1 := ⟨f2 - 1, by omega⟩
    have hd : doneN (onceN N) = true := by
      cases hh : doneN (onceN N) with
      | true => rfl
      | false => have := size_lt (once_fine hf).1 hh; omega
    simp only [allGo, hd, if_true]
  | succ c ih =>
    intro f1 f2 N hf hc h1 h2
    obtain ⟨f1, rfl⟩ : ∃ g, f1 = g + 1 := ⟨f1 - 1, by omega⟩
    obtain ⟨f2, rfl⟩ : ∃ g, f2 = g + 1 := ⟨f2 - 1, by omega⟩
    cases hh : doneN (onceN N) with
    | true => simp only [allGo, hh, if_true]
    | false =>
      have := size_lt (once_fine hf).1 hh
      simp only [allGo, hh]
      exact ih _ _ _ (once_fine hf).1 (by omega) (by omega) (by omega)
/-- all, step by step -/
def sweptN (N : Nt) : Nt := allGo (sizeN (onceN N) + 1) N
theorem swept_step (hf : NtFine k N) : sweptN N = if doneN (onceN N) then onceN N else sweptN (onceN N) := by
  unfold sweptN
  rw [allGo]
  split
  · rfl
  · rename_i hh
    have := size_lt (once_fine hf).1 (by simpa using hh)
    exact allGo_fuel _ _ _ _ (once_fine hf).1 (Nat.le_refl _) (by omega) (by omega)
/-- what holds of a sweep's outcome, and stays when it is swept, holds at the end -/
theorem swept_ind (hf : NtFine k N) (P : Nt → Prop) (h1 : P (onceN N)) (h2 : ∀ M, NtFine k M → checkN M = 0 → P M → P (onceN M)) : P (sweptN N) ∧ NtFine k (sweptN N) ∧ checkN (sweptN N) = 0 ∧ doneN (sweptN N) = true ∧ ∃ M, NtFine k M ∧ sweptN N = onceN M ∧ (M = N ∨ P M) := by
  have key : ∀ (c : Nat) (N : Nt), NtFine k N → sizeN (onceN N) ≤ c → P (onceN N) → (P (sweptN N) ∧ NtFine k (sweptN N) ∧ checkN (sweptN N) = 0 ∧ doneN (sweptN N) = true ∧ ∃ M, NtFine k M ∧ sweptN N = onceN M ∧ (M = N ∨ P M)) := by
    intro c
    induction c with
    | zero =>
      intro N hf hc hp
      have hd : doneN (onceN N) = true := by
        cases hh : doneN (onceN N) with
        | true => rfl
        | false => have := size_lt (once_fine hf).1 hh; omega
      rw [swept_step hf, if_pos hd]
      exact ⟨hp, (once_fine hf).1, (once_fine hf).2, hd, N, hf, rfl, .inl rfl⟩
    | succ c ih =>
      intro N hf hc hp
      rw [swept_step hf]
      cases hh : doneN (onceN N) with
      | true => rw [if_pos rfl]; exact ⟨hp, (once_fine hf).1, (once_fine hf).2, hh, N, hf, rfl, .inl rfl⟩
      | false =>
        rw [if_neg (by simp)]
        have := size_lt (once_fine hf).1 hh
        obtain ⟨a, b, c1, d, M, m1, m2, m3⟩ := ih (onceN N) (once_fine hf).1 (by omega) (h2 _ (once_fine hf).1 (once_fine hf).2 hp)
        refine ⟨a, b, c1, d, M, m1, m2, .inr ?_⟩
        rcases m3 with rfl | m3
        · exact hp
        · exact m3
  exact key _ N hf (Nat.le_refl _) h1
end Go.Proofs.YtdmcdhkkbkgnbaaGreat

namespace Go.Proofs.YtdmcdhkkbkgnbaaGreat
set_option linter.unusedVariables false
variable {g0 g2 : Gr} {bys l inp : List Nat}

theorem lw_half {g : Gr} (hi : Words inp) (a : Nat) : lw inp g a = if a % 2 = 1 then noW (lw inp g (2 * (a / 2))) else lw inp g (2 * (a / 2)) := by
  by_cases h : a % 2 = 1
  · rw [if_pos h]
    have e : a = ntL (2 * (a / 2)) := by unfold ntL; rw [if_pos (by omega)]; omega
    conv => lhs; rw [e]
    exact lw_nt hi _ _
  · rw [if_neg h, show 2 * (a / 2) = a by omega]
theorem lw_ifL {g : Gr} (hi : Words inp) (x : Nat) (t : Bool) : lw inp g (ifL x t) = if t then noW (lw inp g x) else lw inp g x := by
  cases t
  · rfl
  · exact lw_nt hi _ _
theorem node_at {ns : List (Nat × Nat)} {j : Nat} (h : j < ns.length) : ns[j]? = some (gA ns j, gB ns j) := by
  unfold gA gB
  rw [List.getD_eq_getElem?_getD, List.getElem?_eq_getElem h]
  rfl
theorem gAt_ne {ns : List (Nat × Nat)} {j : Nat} (h : gAt ns j = true) : gA ns j / 2 ≠ j ∧ 1 ≤ j ∧ j < ns.length := by
  unfold gAt at h
  simp only [decide_eq_true_eq] at h
  exact ⟨h.2.2, h.1, h.2.1⟩
theorem in_lw {g : Gr} (hw : WF g.nodes) {i : Nat} (hi : i < (ins g.nodes).length) : lw inp g (2 * (ins g.nodes).getD i 0) = inp.getD i 0 := by
  have he : (ins g.nodes).getD i 0 = (ins g.nodes)[i] := by rw [List.getD_eq_getElem?_getD, List.getElem?_eq_getElem hi]; rfl
  have hm := List.getElem_mem hi
  rw [he]
  generalize hk : (ins g.nodes)[i] = k at *
  have hlt := ins_lt g.nodes k hm
  have hp := ins_pos g.nodes k hm
  have hnode := node_at hlt
  have hin : gA g.nodes k / 2 = k := by
    suffices h : ∀ (l : List (Nat × Nat)) (i k : Nat), k ∈ insFrom i l → ∃ p, l[k - i]? = some p ∧ p.1 / 2 = k ∧ i ≤ k by
      obtain ⟨p, h1, h2, _⟩ := h g.nodes 0 k hm
      rw [Nat.sub_zero, hnode] at h1
      injection h1 with h1
      rw [← h1] at h2
      exact h2
    intro l
    induction l with
    | nil => intro i k h; simp [insFrom] at h
    | cons p l ih =>
      intro i k h
      simp only [insFrom] at h
      have key : k ∈ insFrom (i + 1) l → ∃ q, (p :: l)[k - i]? = some q ∧ q.1 / 2 = k ∧ i ≤ k := fun h' => by
        obtain ⟨q, h1, h2, h3⟩ := ih _ _ h'
        refine ⟨q, ?_, h2, by omega⟩
        rw [show k - i = (k - (i + 1)) + 1 by omega]
        simpa using h1
      split at h
      · rename_i hc
        rcases List.mem_cons.1 h with h1 | h1
        · subst h1
          simp [inAt] at hc
          exact ⟨p, by simp, hc.1, Nat.le_refl _⟩
        · exact key h1
      · exact key h
  have hv := in_val (inp := inp) hnode hin (by omega)
  rw [lw_node (by omega) hv]
  congr 1
  have hat := ins_at hnode hin (by omega)
  obtain ⟨hlt2, he2⟩ := List.getElem?_eq_some_iff.1 hat
  have hs := insFrom_sorted 0 g.nodes
  have hs' : (ins g.nodes).Pairwise (· < ·) := hs
  rw [List.pairwise_iff_getElem] at hs'
  rcases Nat.lt_trichotomy (ins (g.nodes.take k)).length i with h1 | h1 | h1
  · have := hs' _ _ hlt2 hi h1; omega
  · exact h1
  · have := hs' _ _ hi hlt2 h1; omega
theorem gate_lw {g : Gr} (hw : WF g.nodes) {j : Nat} (h : gAt g.nodes j = true) : lw inp g (2 * j) = lw inp g (gA g.nodes j) &&& lw inp g (gB g.nodes j) := by
  obtain ⟨h1, h2, h3⟩ := gAt_ne h
  exact lw_node (by omega) (gate_val hw (node_at h3) h1)
theorem map_words (hi : Words inp) : Words (bys.map (lw inp g0)) := by
  intro x hx
  obtain ⟨y, _, rfl⟩ := List.mem_map.1 hx
  exact lw_lt hi _ _
/-- THE COPY's WORDS -/
theorem copy_words (hi : Words inp) (hw0 : WF g0.nodes) (hw2 : WF g2.nodes) (hb : ∀ x ∈ bys, g0.ok x) (hbl : bys.length = (ins g2.nodes).length) (hl : ∀ x ∈ l, g2.ok x) :
    l.map (fun x => lw inp (copyG g0 g2 bys l).1 (overL (copyG g0 g2 bys l).2 x)) = l.map (lw (bys.map (lw inp g0)) g2) := by
  have hgv := map_words (bys := bys) (g0 := g0) hi
  have h := copy_inv (P := fun g x j => lw inp g x = lw (bys.map (lw inp g0)) g2 (2 * j)) hw0 hw2 hb hbl hl
    (fun c g g' x j hx ho hp => (lw_ext hx ho).trans hp) (by rw [lw_zero, show 2 * 0 = 0 from rfl, lw_zero])
    (fun i hi' => by
      show lw inp g0 (bys.getD i 0) = lw (bys.map (lw inp g0)) g2 (2 * (ins g2.nodes).getD i 0)
      rw [in_lw hw2 (by omega)]
      simp only [List.getD_eq_getElem?_getD, List.getElem?_map, List.getElem?_eq_getElem hi', Option.map_some, Option.getD_some])
    (fun c g j x y hx hwg ox oy hg px py => by
      show lw inp (andG g _ _).1 (andG g _ _).2 = _
      have oi : ∀ z t, g.ok z → g.ok (ifL z t) := fun z t hz => by unfold ifL; split; exact ok_nt hz; exact hz
      rw [andG_val hwg hi (oi _ _ ox) (oi _ _ oy), lw_ifL hi, lw_ifL hi, gate_lw hw2 hg, lw_half hgv (gA g2.nodes j), lw_half hgv (gB g2.nodes j)]
      have px' : lw inp g x = lw (bys.map (lw inp g0)) g2 (2 * (gA g2.nodes j / 2)) := px
      have py' : lw inp g y = lw (bys.map (lw inp g0)) g2 (2 * (gB g2.nodes j / 2)) := py
      rw [px', py']
      simp only [decide_eq_true_eq])
  apply List.map_congr_left
  intro x hx
  have hp := h x hx
  show lw inp _ (overL _ x) = _
  unfold overL
  rw [lw_ifL hi, hp, lw_half hgv x]
  simp only [decide_eq_true_eq]
/-! ### Depths -/
theorem dl_ext {c x : Nat} {g g' : Gr} (h : Ext c g g') (hx : g.ok x) : dl (dpL g'.nodes) x = dl (dpL g.nodes) x := by
  obtain ⟨m, h1, _⟩ := h.pre
  obtain ⟨t, ht⟩ := dpL_append g.nodes m
  rw [h1, ht]
  exact dl_append t (by rw [dpL_length]; exact hx)
theorem dl_half (D : List Nat) (a : Nat) : dl D a = dl D (2 * (a / 2)) := by unfold dl; rw [show 2 * (a / 2) / 2 = a / 2 by omega]
theorem dl_ifL (D : List Nat) (x : Nat) (t : Bool) : dl D (ifL x t) = dl D x := by
  unfold dl ifL
  cases t
  · rfl
  · simp only [if_true]; rw [ntL_half]
theorem dl_node {ns : List (Nat × Nat)} {j v : Nat} (h : (dpL ns)[j]? = some v) : dl (dpL ns) (2 * j) = v := by
  unfold dl
  rw [show 2 * j / 2 = j by omega, List.getD_eq_getElem?_getD, h]; rfl
theorem dl_gate {ns : List (Nat × Nat)} (hw : WF ns) {j : Nat} (h : gAt ns j = true) : dl (dpL ns) (2 * j) = 1 + max (dl (dpL ns) (gA ns j)) (dl (dpL ns) (gB ns j)) := by
  obtain ⟨h1, h2, h3⟩ := gAt_ne h
  exact dl_node (dp_gate hw (node_at h3) h1 (by omega))
theorem dl_free {ns : List (Nat × Nat)} {j : Nat} (hj : j < ns.length) (h : gAt ns j = false) : dl (dpL ns) (2 * j) = 0 := by
  refine dl_node (dp_none (node_at hj) ?_)
  by_cases h0 : j = 0
  · exact .inr h0
  · exact .inl (not_gate (by omega) hj h)
theorem dl_gateG {g : Gr} (hw : WF g.nodes) {a b : Nat} (ha : g.ok a) (hb : g.ok b) : dl (dpL (gateG g a b).1.nodes) (gateG g a b).2 = 1 + max (dl (dpL g.nodes) a) (dl (dpL g.nodes) b) := by
  have hs := gateG_spec hw ha hb
  have hp := hw.pos
  have hm := half_max ha hb
  have hk : (gateG g a b).1.nodes[g.nodes.length]? = some (max a b, min a b) := by simp [gateG]
  have hd := dp_gate hs.1 hk (by omega) (by omega)
  have e : dl (dpL (gateG g a b).1.nodes) (gateG g a b).2 = 1 + max (dl (dpL (gateG g a b).1.nodes) (max a b)) (dl (dpL (gateG g a b).1.nodes) (min a b)) := dl_node hd
  rw [e]
  rcases Nat.le_total a b with h | h
  · rw [Nat.max_eq_right h, Nat.min_eq_left h, dl_ext hs.2.1 ha, dl_ext hs.2.1 hb, Nat.max_comm]
  · rw [Nat.max_eq_left h, Nat.min_eq_right h, dl_ext hs.2.1 ha, dl_ext hs.2.1 hb]
theorem mostD_map {D E : List Nat} {f : Nat → Nat} {l : List Nat} (h : ∀ x ∈ l, dl D (f x) = dl E x) : mostD D (l.map f) = mostD E l := by
  suffices hs : ∀ (l : List Nat) (m : Nat), (∀ x ∈ l, dl D (f x) = dl E x) → (l.map f).foldl (fun m x => max m (dl D x)) m = l.foldl (fun m x => max m (dl E x)) m from hs l 0 h
  intro l
  induction l with
  | nil => intro m _; rfl
  | cons x l ih =>
    intro m h
    simp only [List.map_cons, List.foldl_cons]
    rw [h x (by simp)]
    exact ih _ (fun y hy => h y (by simp [hy]))
/-- THE COPY's DEPTHS: into a graph without options, by literals of depth 0 -/
theorem copy_depth (hf : g0.fold = false) (hh : g0.hash = false) (hw0 : WF g0.nodes) (hw2 : WF g2.nodes) (hb : ∀ x ∈ bys, g0.ok x) (hbl : bys.length = (ins g2.nodes).length) (hb0 : ∀ x ∈ bys, dl (dpL g0.nodes) x = 0) (hl : ∀ x ∈ l, g2.ok x) :
    mostD (dpL (copyG g0 g2 bys l).1.nodes) (l.map (overL (copyG g0 g2 bys l).2)) = mostD (dpL g2.nodes) l := by
  have h := copy_inv (P := fun g x j => dl (dpL g.nodes) x = dl (dpL g2.nodes) (2 * j)) hw0 hw2 hb hbl hl
    (fun c g g' x j hx ho hp => (dl_ext hx ho).trans hp)
    (by rw [dl_free hw2.pos (by unfold gAt; simp)]; exact dl_node (j := 0) (dp_none hw0.zero (.inr rfl)))
    (fun i hi' => by
      have hil : i < (ins g2.nodes).length := by omega
      have hm : (ins g2.nodes).getD i 0 ∈ ins g2.nodes := by
        rw [List.getD_eq_getElem?_getD, List.getElem?_eq_getElem hil]; exact List.getElem_mem hil
      have hbm : bys.getD i 0 ∈ bys := by
        rw [List.getD_eq_getElem?_getD, List.getElem?_eq_getElem hi']; exact List.getElem_mem hi'
      rw [hb0 _ hbm]
      have hlt := ins_lt g2.nodes _ hm
      symm
      apply dl_free hlt
      obtain ⟨k, hk⟩ : ∃ k, k = (ins g2.nodes).getD i 0 := ⟨_, rfl⟩
      rw [← hk] at hm hlt ⊢
      have hgoal : gA g2.nodes k / 2 = k := by
        suffices h : ∀ (l : List (Nat × Nat)) (i k : Nat), k ∈ insFrom i l → ∃ p, l[k - i]? = some p ∧ p.1 / 2 = k ∧ i ≤ k by
          obtain ⟨p, h1, h2, _⟩ := h g2.nodes 0 k hm
          rw [Nat.sub_zero, node_at hlt] at h1
          injection h1 with h1
          rw [← h1] at h2
          exact h2
        intro l
        induction l with
        | nil => intro i k h; simp [insFrom] at h
        | cons p l ih =>
          intro i k h
          simp only [insFrom] at h
          have key : k ∈ insFrom (i + 1) l → ∃ q, (p :: l)[k - i]? = some q ∧ q.1 / 2 = k ∧ i ≤ k := fun h' => by
            obtain ⟨q, h1, h2, h3⟩ := ih _ _ h'
            refine ⟨q, ?_, h2, by omega⟩
            rw [show k - i = (k - (i + 1)) + 1 by omega]
            simpa using h1
          split at h
          · rename_i hc
            rcases List.mem_cons.1 h with h1 | h1
            · subst h1
              simp [inAt] at hc
              exact ⟨p, by simp, hc.1, Nat.le_refl _⟩
            · exact key h1
          · exact key h
      have hga : (g2.nodes.getD k (0, 0)).1 / 2 = k := hgoal
      unfold gAt
      rw [hga]
      simp)
    (fun c g j x y hx hwg ox oy hg px py => by
      have oi : ∀ z t, g.ok z → g.ok (ifL z t) := fun z t hz => by unfold ifL; split; exact ok_nt hz; exact hz
      have e : ∀ x y, andG g x y = gateG g x y := fun x y => by unfold andG; rw [hx.fold, hx.hash, hf, hh]; simp
      show dl (dpL (andG g _ _).1.nodes) (andG g _ _).2 = _
      rw [e, dl_gateG hwg (oi _ _ ox) (oi _ _ oy), dl_ifL, dl_ifL, dl_gate hw2 hg, dl_half _ (gA g2.nodes j), dl_half _ (gB g2.nodes j)]
      have px' : dl (dpL g.nodes) x = dl (dpL g2.nodes) (2 * (gA g2.nodes j / 2)) := px
      have py' : dl (dpL g.nodes) y = dl (dpL g2.nodes) (2 * (gB g2.nodes j / 2)) := py
      rw [px', py'])
  refine mostD_map fun x hx => ?_
  have hp := h x hx
  unfold overL
  rw [dl_ifL, hp, ← dl_half]
end Go.Proofs.YtdmcdhkkbkgnbaaGreat

namespace Go.Proofs.YtdmcdhkkbkgnbaaGreat
set_option linter.unusedVariables false

/-- words for inputs, by the literals that they drive -/
def asg (is : List Nat) (ps : List (Nat × Nat)) : List Nat := is.map fun i => ((ps.find? fun p => decide (p.1 = 2 * i)).map (·.2)).getD 0
theorem asg_length (is : List Nat) (ps : List (Nat × Nat)) : (asg is ps).length = is.length := by simp [asg]
theorem asg_nil (is : List Nat) : asg is [] = List.replicate is.length 0 := by
  unfold asg
  induction is with
  | nil => rfl
  | cons i is ih => simp [List.replicate_succ] at ih ⊢; exact ih
theorem asg_snoc {is : List Nat} {ps : List (Nat × Nat)} {i v k : Nat} (hn : is.Nodup) (hk : is[k]? = some i) (hx : ∀ p ∈ ps, p.1 ≠ 2 * i) : asg is (ps ++ [(2 * i, v)]) = (asg is ps).set k v := by
  obtain ⟨hkl, hki⟩ := List.getElem?_eq_some_iff.1 hk
  apply List.ext_getElem (by simp [asg])
  intro j h1 h2
  have hj : j < is.length := by simpa [asg] using h1
  rw [List.getElem_set]
  simp only [asg, List.getElem_map, List.find?_append]
  by_cases hjk : k = j
  · subst hjk
    rw [if_pos rfl]
    have hno : ps.find? (fun p => decide (p.1 = 2 * is[k])) = none := by
      rw [List.find?_eq_none]
      intro p hp
      have := hx p hp
      simp; omega
    rw [hno, hki]
    simp
  · rw [if_neg hjk]
    have hne : is[j] ≠ i := fun e => by
      have := (List.nodup_iff_pairwise_ne.1 hn)
      rcases Nat.lt_or_gt_of_ne hjk with h | h
      · exact List.pairwise_iff_getElem.1 this k j hkl hj h (by rw [hki, e])
      · exact List.pairwise_iff_getElem.1 this j k hj hkl h (by rw [hki, e])
    cases hf : ps.find? (fun p => decide (p.1 = 2 * is[j])) with
    | some p => simp
    | none =>
      have : ¬ (2 * i = 2 * is[j]) := by omega
      simp [this]
theorem asg_words {is : List Nat} {ps : List (Nat × Nat)} (h : ∀ p ∈ ps, p.2 < 18446744073709551616) : Words (asg is ps) := by
  intro x hx
  unfold asg at hx
  obtain ⟨i, _, rfl⟩ := List.mem_map.1 hx
  cases hf : ps.find? (fun p => decide (p.1 = 2 * i)) with
  | none => simp
  | some p => simpa using h p (List.mem_of_find?_eq_some hf)
def pairsB (l : List Bus) (rows : List (List Nat)) : List (Nat × Nat) := (l.zip rows).flatMap fun p => p.1.lits.zip p.2
def pairsN (N : Nt) (inp : List (List Nat)) (regs : List Nat) : List (Nat × Nat) := pairsB N.inb inp ++ (N.regs.map (·.q)).zip regs
/-- words fit the buses -/
def fitsN (l : List Bus) (rows : List (List Nat)) : Prop := rows.length = l.length ∧ ∀ k (h1 : k < l.length) (h2 : k < rows.length), rows[k].length = l[k].lits.length
def inpN (N : Nt) (inp : List (List Nat)) (regs : List Nat) : List Nat := asg (ins N.g.nodes) (pairsN N inp regs)
def wordsN (N : Nt) (inp : List (List Nat)) (regs : List Nat) : List Nat := evalG N.g (inpN N inp regs)
def nextR (ws : List Nat) (r : Rg) (was : Nat) : Nat := (wd ws r.d &&& wd ws r.en) ||| (was &&& noW (wd ws r.en))
def nextN (N : Nt) (ws regs : List Nat) : List Nat := (N.regs.zip regs).map fun p => nextR ws p.1 p.2
def outN (N : Nt) (ws : List Nat) : List (List Nat) := N.outb.map fun b => b.lits.map (wd ws)
def resetN (N : Nt) : List Nat := N.regs.map fun r => if r.init then 18446744073709551615 else 0
theorem resetN_words (N : Nt) : Words (resetN N) := by
  intro x hx
  unfold resetN at hx
  obtain ⟨r, _, rfl⟩ := List.mem_map.1 hx
  split <;> omega
theorem pairs_words {N : Nt} {inp : List (List Nat)} {regs : List Nat} (h1 : ∀ r ∈ inp, Words r) (h2 : Words regs) : ∀ p ∈ pairsN N inp regs, p.2 < 18446744073709551616 := by
  intro p hp
  unfold pairsN pairsB at hp
  rcases List.mem_append.1 hp with hp | hp
  · obtain ⟨q, hq, hp⟩ := List.mem_flatMap.1 hp
    exact h1 _ (List.of_mem_zip hq).2 _ (List.of_mem_zip hp).2
  · exact h2 _ (List.of_mem_zip hp).2
theorem inpN_words {N : Nt} {inp : List (List Nat)} {regs : List Nat} (h1 : ∀ r ∈ inp, Words r) (h2 : Words regs) : Words (inpN N inp regs) := asg_words (pairs_words h1 h2)
theorem wordsN_words {N : Nt} {inp : List (List Nat)} {regs : List Nat} (h1 : ∀ r ∈ inp, Words r) (h2 : Words regs) : Words (wordsN N inp regs) := evalG_words _ (inpN_words h1 h2)
theorem nextR_lt {ws : List Nat} (hw : Words ws) (r : Rg) {was : Nat} (h : was < 18446744073709551616) : nextR ws r was < 18446744073709551616 := by
  unfold nextR
  exact Nat.or_lt_two_pow (n := 64) (and_lt (wd_lt hw _)) (and_lt h)
theorem nextN_words {N : Nt} {ws regs : List Nat} (hw : Words ws) (h : Words regs) : Words (nextN N ws regs) := by
  intro x hx
  unfold nextN at hx
  obtain ⟨p, hp, rfl⟩ := List.mem_map.1 hx
  exact nextR_lt hw _ (h _ (List.of_mem_zip hp).2)
theorem nextN_length {N : Nt} {ws regs : List Nat} (h : regs.length = N.regs.length) : (nextN N ws regs).length = N.regs.length := by simp [nextN, h]
theorem ins_nodup (ns : List (Nat × Nat)) : (ins ns).Nodup := by
  rw [List.nodup_iff_pairwise_ne]
  exact (insFrom_sorted 0 ns).imp fun h e => by omega
end Go.Proofs.YtdmcdhkkbkgnbaaGreat
