/-
  Package sweep, plain: of what is swept nothing is left to sweep.
-/
import Derived.Test.YtdmcdhkkbkgnbaaGreatP28
namespace Go.Proofs.YtdmcdhkkbkgnbaaGreat
set_option linter.unusedVariables false
set_option linter.unusedSimpArgs false

variable {N M : Nt} {k : Nat}
/-- gates as And makes them: none that folds, none twice -/
def Tidy (g : Gr) : Prop := ∀ m, m < g.nodes.length → gAt g.nodes m = true → ¬ (foldB (gA g.nodes m) (gB g.nodes m) = true ∧ g.fold = true) ∧ ¬ ((look (g.nodes.take m) (gA g.nodes m) (gB g.nodes m)).isSome = true ∧ g.hash = true)
theorem foldB_max (a b : Nat) : foldB (max a b) (min a b) = foldB a b := by
  rcases Nat.le_total a b with h | h
  · rw [Nat.max_eq_right h, Nat.min_eq_left h, foldB_comm]
  · rw [Nat.max_eq_left h, Nat.min_eq_right h]
theorem Tidy.and {g : Gr} (h : Tidy g) (hw : WF g.nodes) {a b : Nat} : Tidy (andG g a b).1 := by
  unfold andG
  split
  · exact h
  · rename_i h1
    split
    · exact h
    · rename_i h2
      intro m hm hg
      have hlen : (gateG g a b).1.nodes.length = g.nodes.length + 1 := by simp [gateG]
      have hnd : (gateG g a b).1.nodes = g.nodes ++ [(max a b, min a b)] := rfl
      rw [hlen] at hm
      rw [hnd] at hg ⊢
      rcases Nat.lt_or_eq_of_le (Nat.le_of_lt_succ hm) with h3 | h3
      · have e : (g.nodes ++ [(max a b, min a b)]).getD m (0, 0) = g.nodes.getD m (0, 0) := by
          simp only [List.getD_eq_getElem?_getD]
          rw [List.getElem?_append_left h3]
        have hg' : gAt g.nodes m = true := by
          unfold gAt at hg ⊢
          rw [e] at hg
          simp only [decide_eq_true_eq] at hg ⊢
          exact ⟨hg.1, h3, hg.2.2⟩
        have := h m h3 hg'
        unfold gA gB at this ⊢
        rw [e, List.take_append_of_le_length (by omega)]
        exact this
      · subst h3
        have e : (g.nodes ++ [(max a b, min a b)]).getD g.nodes.length (0, 0) = (max a b, min a b) := by
          simp only [List.getD_eq_getElem?_getD]
          rw [List.getElem?_append_right (Nat.le_refl _), Nat.sub_self]
          rfl
        unfold gA gB
        rw [e, List.take_left]
        refine ⟨fun hx => h1 ?_, fun hx => h2 ?_⟩
        · rw [foldB_max] at hx
          rw [Bool.and_eq_true]
          exact hx
        · rw [Bool.and_eq_true]
          exact hx
theorem Tidy.copy {ns : List (Nat × Nat)} {Ms : List Bool} {s0 : Gr × List Nat} {c n : Nat} {g0 : Gr} (h0 : CpOk c g0 n s0) (h : Tidy s0.1) (m : Nat) : Tidy (copyTo ns Ms s0 m).1 := by
  induction m with
  | zero => exact h
  | succ m ih =>
    have hc := copyTo_ok h0 ns Ms m
    show Tidy (copyAt ns Ms (copyTo ns Ms s0 m) m).1
    unfold copyAt
    split
    · exact ih.and hc.wf
    · exact ih
theorem base_tidy (N : Nt) : Tidy (baseG N) := by
  intro m hm hg
  exfalso
  rw [base_length] at hm
  have h0 : 1 ≤ m := by unfold gAt at hg; simp at hg; exact hg.1
  have hi : m ∈ ins (baseG N).nodes := by
    rw [base_ins]
    exact List.mem_map.2 ⟨m - 1, List.mem_range.2 (by omega), by omega⟩
  obtain ⟨_, a, b, hab, hai⟩ := ins_of hi
  unfold gAt at hg
  rw [List.getD_eq_getElem?_getD, hab] at hg
  simp [hai] at hg
theorem once_tidy (N : Nt) : Tidy (onceN N).g := Tidy.copy (start_ok (base_wf N) (byN_ok N) N.g.nodes.length (ins N.g.nodes) (ins N.g.nodes).length) (base_tidy N) _
/-! a netlist that a sweep has made -/
structure Neat (M : Nt) : Prop where
  wf : WF M.g.nodes
  tidy : Tidy M.g
  inb : M.inb = inRows 1 M.inb
  rq : ∀ j, j < M.regs.length → (M.regs.getD j ⟨0, 0, 0, false⟩).q = 2 * (1 + inMany M.inb + j)
  inp : ins M.g.nodes = (List.range (inMany M.inb + M.regs.length)).map (1 + ·)
  len : 1 + (inMany M.inb + M.regs.length) ≤ M.g.nodes.length
  pre : M.g.nodes.take (1 + (inMany M.inb + M.regs.length)) = (0, 0) :: (rowFrom 1 (inMany M.inb + M.regs.length)).map fun x => (x, x)
theorem inRows_many (a : Nat) (l : List Bus) : inMany (inRows a l) = inMany l := by
  unfold inMany
  rw [inRows_flat, rowFrom_length]
  rfl
theorem inRows_again (a : Nat) (l : List Bus) : inRows a (inRows a l) = inRows a l := by
  induction l generalizing a with
  | nil => rfl
  | cons b l ih =>
    show (⟨b.name, rowFrom a (rowFrom a b.lits.length).length⟩ : Bus) :: inRows (a + (rowFrom a b.lits.length).length) (inRows (a + b.lits.length) l) = _
    rw [rowFrom_length, ih]
    rfl
theorem base_nodes' (N : Nt) : (baseG N).nodes = (0, 0) :: (rowFrom 1 (inMany N.inb + (goingL N).length)).map fun x => (x, x) := by
  unfold baseG
  rw [inputsG_nodes]
  rfl
theorem once_neat (N : Nt) : Neat (onceN N) := by
  have hm : inMany (onceN N).inb = inMany N.inb := inRows_many 1 N.inb
  have hr := once_regs N
  refine ⟨(copyN_ok N).wf, once_tidy N, (inRows_again 1 N.inb).symm, fun j hj => ?_, ?_, ?_, ?_⟩
  · rw [hr] at hj
    have h1 := newRegs_get (s := (copyN N).2) (a := 1 + inMany N.inb) (List.getElem?_eq_getElem hj)
    rw [hm, List.getD_eq_getElem?_getD, show (onceN N).regs = newRegs (copyN N).2 (1 + inMany N.inb) (goingL N) from rfl, h1]
    rfl
  · rw [hm, hr]; exact once_ins N
  · rw [hm, hr]; exact once_mono N
  · rw [hm, hr]
    obtain ⟨more, h1, _⟩ := (copyN_ok N).ext.pre
    show (copyN N).1.nodes.take _ = _
    rw [h1, List.take_append_of_le_length (by rw [base_length]; exact Nat.le_refl _), List.take_of_length_le (by rw [base_length]; exact Nat.le_refl _)]
    exact base_nodes' N
/-! swept again -/
theorem neat_going (hf : NtFine k M) (hd : doneN M = true) : goingL M = M.regs := by
  have h := going_all ((done_iff hf).1 hd).1 M.regs.length (Nat.le_refl _)
  unfold goingL
  rw [h, List.take_length]
theorem neat_base (hn : Neat M) (hg : goingL M = M.regs) : (baseG M).nodes = M.g.nodes.take (1 + (inMany M.inb + M.regs.length)) ∧ (baseG M).fold = M.g.fold ∧ (baseG M).hash = M.g.hash := by
  refine ⟨by rw [base_nodes', hg, hn.pre], (inputsG_opts _ _).1, (inputsG_opts _ _).2⟩
theorem neat_stand (hf : NtFine k M) (hn : Neat M) (hd : doneN M = true) {node : Nat} (h : node ∈ ins M.g.nodes) : standN M node = 2 * node := by
  rw [hn.inp] at h
  obtain ⟨t, ht, rfl⟩ := List.mem_map.1 h
  have ht := List.mem_range.1 ht
  have hfl : M.inb.flatMap (·.lits) = rowFrom 1 (inMany M.inb) := by
    conv => lhs; rw [hn.inb]
    exact inRows_flat 1 M.inb
  unfold standN
  rw [hfl]
  by_cases h1 : t < inMany M.inb
  · have hp : posOf (rowFrom 1 (inMany M.inb)) (1 + t) = some t := by
      unfold posOf
      rw [List.findIdx?_eq_some_iff_getElem]
      refine ⟨by rw [rowFrom_length]; exact h1, ?_, fun j hj => ?_⟩
      · simp [rowFrom]
      · simp [rowFrom]; omega
    rw [hp]
  · have hp : posOf (rowFrom 1 (inMany M.inb)) (1 + t) = none := by
      unfold posOf
      rw [List.findIdx?_eq_none_iff]
      intro x hx
      obtain ⟨i, i1, i2, rfl⟩ := mem_rowFrom.1 hx
      simp; omega
    rw [hp]
    obtain ⟨j, hj⟩ : ∃ j, j = t - inMany M.inb := ⟨_, rfl⟩
    have hjl : j < M.regs.length := by omega
    have h2 := placeR_of hf hjl
    rw [hn.rq j hjl, show 2 * (1 + inMany M.inb + j) / 2 = 1 + t by omega] at h2
    rw [h2]
    show standR M j = _
    have hall := ((done_iff hf).1 hd).1
    unfold standR
    rw [if_pos (hall j hjl), going_all hall j (by omega), List.length_take, Nat.min_eq_left (by omega)]
    omega
theorem getD_take {l : List (Nat × Nat)} {m j : Nat} (h : j < m) : (l.take m).getD j (0, 0) = l.getD j (0, 0) := by
  simp only [List.getD_eq_getElem?_getD]
  rw [List.getElem?_take_of_lt h]
/-- what the copy of a neat one, all of whose gates are leant on, is at each step -/
theorem neat_copy (hf : NtFine k M) (hn : Neat M) (hd : doneN M = true) : ∀ m, m ≤ M.g.nodes.length →
    (copyTo M.g.nodes (marksL M.g.nodes (wantedN M)) (baseG M, byTo M.g.nodes.length (ins M.g.nodes) (byN M) (ins M.g.nodes).length) m).1 = { M.g with nodes := M.g.nodes.take (max m (1 + (inMany M.inb + M.regs.length))) } ∧
    ∀ j, (j < m ∨ gAt M.g.nodes j = false) → j < M.g.nodes.length → (copyTo M.g.nodes (marksL M.g.nodes (wantedN M)) (baseG M, byTo M.g.nodes.length (ins M.g.nodes) (byN M) (ins M.g.nodes).length) m).2.getD j 0 = 2 * j := by
  have hw := hn.wf
  have hg := neat_going hf hd
  obtain ⟨b1, b2, b3⟩ := neat_base hn hg
  have hsort : (ins M.g.nodes).Pairwise (· < ·) := by
    rw [hn.inp, List.pairwise_map]
    exact (List.pairwise_lt_range (n := inMany M.inb + M.regs.length)).imp fun h => by omega
  -- each gate is leant on
  have hall : ∀ j, gAt M.g.nodes j = true → (marksL M.g.nodes (wantedN M)).getD j false = true := by
    have hwl : wantedN M = leantN M := by unfold wantedN leantN; rw [hg]
    rw [hwl]
    have hr := ((done_iff hf).1 hd).2
    rw [reached_pick] at hr
    intro j hj
    apply Classical.byContradiction
    intro hc
    have hjl := (gAt_lt hw hj).2.2.2
    -- one fewer
    have h1 := pick_ins M.g.nodes ((marksL M.g.nodes (leantN M)).set j true) M.g.nodes.length (Nat.le_refl _)
    rw [List.take_length] at h1
    have hml : j < (marksL M.g.nodes (leantN M)).length := by rw [marksL_length]; exact hjl
    have h2 : (pick M.g.nodes.length (fun i => gAt M.g.nodes i && (marksL M.g.nodes (leantN M)).getD i false)).length < (pick M.g.nodes.length (fun i => gAt M.g.nodes i && ((marksL M.g.nodes (leantN M)).set j true).getD i false)).length := by
      refine pick_lt hjl (by simpa [hj] using hc) ?_ fun i _ h => ?_
      · rw [getB_set hml, if_pos rfl, hj]; rfl
      · rw [getB_set hml]
        split
        · rw [Bool.and_eq_true] at h; rw [h.1]; rfl
        · exact h
    have := hw.pos
    unfold gatesX at hr
    omega
  have hby : ∀ p, p < (ins M.g.nodes).length → (byN M).getD p 0 = 2 * (ins M.g.nodes).getD p 0 := by
    intro p hp
    unfold byN
    simp only [List.getD_eq_getElem?_getD, List.getElem?_map, List.getElem?_eq_getElem hp, Option.map_some, Option.getD_some]
    exact neat_stand hf hn hd (List.getElem_mem hp)
  have free : ∀ j, gAt M.g.nodes j = false → j < M.g.nodes.length → (byTo M.g.nodes.length (ins M.g.nodes) (byN M) (ins M.g.nodes).length).getD j 0 = 2 * j := by
    intro j hj hjl
    by_cases h0 : j = 0
    · subst h0
      exact byTo_zero hw.pos (ins_pos _) (Nat.le_refl _)
    · have hm : j ∈ ins M.g.nodes := by
        have h1 := not_gate (by omega) hjl hj
        have := insFrom_mem 0 M.g.nodes j (M.g.nodes.getD j (0, 0)) (by rw [List.getD_eq_getElem?_getD, List.getElem?_eq_getElem hjl]; rfl) (by rw [Nat.zero_add]; exact h1) (by omega)
        rw [Nat.zero_add] at this
        exact this
      obtain ⟨p, hp, rfl⟩ := List.getElem_of_mem hm
      have h2 := byTo_get hsort (fun x hx => ins_lt M.g.nodes x hx) (by_ := byN M) (Nat.le_refl _) p hp
      have h3 : (ins M.g.nodes).getD p 0 = (ins M.g.nodes)[p] := by rw [List.getD_eq_getElem?_getD, List.getElem?_eq_getElem hp]; rfl
      rw [h3] at h2
      rw [h2, hby p hp, h3]
  intro m
  induction m with
  | zero =>
    intro _
    refine ⟨?_, fun j hj hjl => ?_⟩
    · show baseG M = _
      rw [Nat.max_eq_right (Nat.zero_le _), ← b1]
      cases hb : baseG M with
      | mk f h n => rw [hb] at b2 b3; simp only at b2 b3; rw [b2, b3]
    · rcases hj with hj | hj
      · omega
      · exact free j hj hjl
  | succ m ih =>
    intro hm
    obtain ⟨ih1, ih2⟩ := ih (by omega)
    show (copyAt M.g.nodes _ (copyTo _ _ _ m) m).1 = _ ∧ _
    have hlen2 := copyTo_length M.g.nodes (marksL M.g.nodes (wantedN M)) (baseG M, byTo M.g.nodes.length (ins M.g.nodes) (byN M) (ins M.g.nodes).length) m
    rw [byTo_length] at hlen2
    generalize hS : copyTo M.g.nodes (marksL M.g.nodes (wantedN M)) (baseG M, byTo M.g.nodes.length (ins M.g.nodes) (byN M) (ins M.g.nodes).length) m = S at *
    have hstep : copyTo M.g.nodes (marksL M.g.nodes (wantedN M)) (baseG M, byTo M.g.nodes.length (ins M.g.nodes) (byN M) (ins M.g.nodes).length) (m + 1) = copyAt M.g.nodes (marksL M.g.nodes (wantedN M)) S m := by rw [← hS]; rfl
    rw [hstep]
    cases hgm : gAt M.g.nodes m with
    | false =>
      have e : copyAt M.g.nodes (marksL M.g.nodes (wantedN M)) S m = S := by unfold copyAt; rw [hgm]; simp
      rw [e]
      refine ⟨?_, fun j hj hjl => ?_⟩
      · rw [ih1]
        -- below the first gate
        have hmb : m < 1 + (inMany M.inb + M.regs.length) := by
          by_cases h0 : m = 0
          · omega
          · have h1 := not_gate (by omega) (show m < M.g.nodes.length by omega) hgm
            have hin : m ∈ ins M.g.nodes := by
              have := insFrom_mem 0 M.g.nodes m (M.g.nodes.getD m (0, 0)) (by rw [List.getD_eq_getElem?_getD, List.getElem?_eq_getElem (show m < M.g.nodes.length by omega)]; rfl) (by rw [Nat.zero_add]; exact h1) (by omega)
              rw [Nat.zero_add] at this
              exact this
            rw [hn.inp] at hin
            obtain ⟨t, ht, rfl⟩ := List.mem_map.1 hin
            have := List.mem_range.1 ht
            omega
        rw [Nat.max_eq_right (by omega), Nat.max_eq_right (by omega)]
      · rcases hj with hj | hj
        · by_cases hjm : j = m
          · subst hjm; exact ih2 j (.inr hgm) hjl
          · exact ih2 j (.inl (by omega)) hjl
        · exact ih2 j (.inr hj) hjl
    | true =>
      have hmk := hall m hgm
      obtain ⟨ga, gb, g1, g2⟩ := gAt_lt hw hgm
      have hmb : 1 + (inMany M.inb + M.regs.length) ≤ m := by
        apply Classical.byContradiction
        intro hc
        have hin : m ∈ ins M.g.nodes := by
          rw [hn.inp]
          exact List.mem_map.2 ⟨m - 1, List.mem_range.2 (by omega), by omega⟩
        obtain ⟨_, a, b, hab, hai⟩ := ins_of hin
        unfold gAt at hgm
        rw [List.getD_eq_getElem?_getD, hab] at hgm
        simp [hai] at hgm
      have hov : ∀ a, a / 2 < m → overL S.2 a = a := fun a ha => by
        unfold overL
        rw [ih2 (a / 2) (.inl ha) (by omega)]
        unfold ifL ntL
        by_cases h2 : a % 2 = 1
        · simp only [h2, decide_true, if_true]; split <;> omega
        · simp only [h2, decide_false]; simp; omega
      have hS1 : S.1 = { M.g with nodes := M.g.nodes.take m } := by rw [ih1, Nat.max_eq_left hmb]
      have hnm : M.g.nodes[m]? = some (gA M.g.nodes m, gB M.g.nodes m) := by
        unfold gA gB
        rw [List.getD_eq_getElem?_getD, List.getElem?_eq_getElem g2]
        rfl
      have hle : gB M.g.nodes m ≤ gA M.g.nodes m := by
        rcases hw.each m _ _ hnm with h1 | h1
        · omega
        · exact h1.1
      have hand : andG S.1 (gA M.g.nodes m) (gB M.g.nodes m) = ({ M.g with nodes := M.g.nodes.take (m + 1) }, 2 * m) := by
        obtain ⟨t1, t2⟩ := hn.tidy m g2 hgm
        unfold andG
        rw [hS1]
        simp only
        rw [if_neg (by rw [Bool.and_eq_true]; exact t1), Nat.max_eq_left hle, Nat.min_eq_right hle, if_neg (by rw [Bool.and_eq_true]; exact t2)]
        unfold gateG
        simp only
        rw [Nat.max_eq_left hle, Nat.min_eq_right hle, List.length_take, Nat.min_eq_left (by omega)]
        have e : M.g.nodes.take (m + 1) = M.g.nodes.take m ++ [(gA M.g.nodes m, gB M.g.nodes m)] := by
          rw [List.take_succ_eq_append_getElem g2]
          rw [List.getElem?_eq_getElem g2] at hnm
          injection hnm with hnm
          rw [hnm]
        rw [e]
      have e : copyAt M.g.nodes (marksL M.g.nodes (wantedN M)) S m = ({ M.g with nodes := M.g.nodes.take (m + 1) }, S.2.set m (2 * m)) := by
        unfold copyAt
        rw [hgm, hmk, hov _ ga, hov _ gb, hand]
        simp
      rw [e]
      refine ⟨?_, fun j hj hjl => ?_⟩
      · rw [Nat.max_eq_left (by omega)]
      · show (S.2.set m (2 * m)).getD j 0 = 2 * j
        rw [getN_set (by omega)]
        split
        · rename_i h; rw [h]
        · rename_i h
          exact ih2 j (hj.imp (fun h2 => by omega) id) hjl
theorem newRegs_same (s : List Nat) (a : Nat) (l : List Rg) (hq : ∀ j, j < l.length → (l.getD j ⟨0, 0, 0, false⟩).q = 2 * (a + j)) (hs : ∀ r ∈ l, overL s r.d = r.d ∧ overL s r.en = r.en) : newRegs s a l = l := by
  induction l generalizing a with
  | nil => rfl
  | cons r l ih =>
    have h0 := hq 0 (by simp)
    have h1 := hs r (by simp)
    show (⟨2 * a, overL s r.d, overL s r.en, r.init⟩ : Rg) :: newRegs s (a + 1) l = r :: l
    rw [h1.1, h1.2, ih (a + 1) (fun j hj => by have := hq (j + 1) (by simp; omega); simp at this; rw [show a + 1 + j = a + (j + 1) by omega]; simpa using this) (fun x hx => hs x (by simp [hx]))]
    congr 1
    have : r.q = 2 * a := by simpa using h0
    rw [← this]
/-- swept again it is the same -/
theorem neat_again (hf : NtFine k M) (hn : Neat M) (hd : doneN M = true) : onceN M = M := by
  obtain ⟨c1, c2⟩ := neat_copy hf hn hd M.g.nodes.length (Nat.le_refl _)
  have hc1 : (copyN M).1 = M.g := by
    show (copyTo _ _ _ M.g.nodes.length).1 = M.g
    rw [c1, Nat.max_eq_left hn.len, List.take_length]
  have hov : ∀ x, M.g.ok x → overL (copyN M).2 x = x := fun x hx => by
    have h1 : (copyN M).2.getD (x / 2) 0 = 2 * (x / 2) := c2 (x / 2) (.inl hx) hx
    unfold overL
    rw [h1]
    unfold ifL ntL
    by_cases h2 : x % 2 = 1
    · simp only [h2, decide_true, if_true]; split <;> omega
    · simp only [h2, decide_false]; simp; omega
  have hregs : newRegs (copyN M).2 (1 + inMany M.inb) (goingL M) = M.regs := by
    rw [neat_going hf hd]
    exact newRegs_same _ _ _ hn.rq fun r hr => ⟨hov _ (hf.ok.rl r hr).2.1, hov _ (hf.ok.rl r hr).2.2⟩
  have houts : (M.outb.map fun b => (⟨b.name, b.lits.map (overL (copyN M).2)⟩ : Bus)) = M.outb := by
    conv => rhs; rw [← List.map_id M.outb]
    apply List.map_congr_left
    intro b hb
    have : b.lits.map (overL (copyN M).2) = b.lits := by
      conv => rhs; rw [← List.map_id b.lits]
      exact List.map_congr_left fun x hx => hov x ((hf.ok.ol b hb).2.2.2 x hx)
    rw [this]
    rfl
  unfold onceN
  rw [hc1, hregs, houts, ← hn.inb]
theorem swept_neat (hf : NtFine k N) : Neat (sweptN N) := (swept_ind hf Neat (once_neat N) (fun M _ _ _ => once_neat M)).1
/-- nothing left -/
theorem swept_again (hf : NtFine k N) : sweptN (sweptN N) = sweptN N := by
  obtain ⟨hn, h1, _, hd, _⟩ := swept_ind hf Neat (once_neat N) (fun M _ _ _ => once_neat M)
  have h := neat_again h1 hn hd
  rw [swept_step h1, h, if_pos hd]
end Go.Proofs.YtdmcdhkkbkgnbaaGreat
