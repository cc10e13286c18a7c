/-
  Package sweep, plain: registers that are not needed may be spoilt; the law's own search.
-/
import Derived.Test.YtdmcdhkkbkgnbaaGreatQSwQ
namespace Go.Proofs.YtdmcdhkkbkgnbaaGreat
set_option linter.unusedVariables false
set_option linter.unusedSimpArgs false

variable {N : Nt} {k : Nat}
/-- registers that are not needed, spoilt -/
def spoilR (nd : Bool) (r : Rg) : Rg := if nd then r else ⟨r.q, ntL r.d, 1, !r.init⟩
def spoilTo (N : Nt) (m : Nat) : List Rg := ((List.range m).map fun j => spoilR ((neededN N).getD j false) (N.regs.getD j ⟨0, 0, 0, false⟩)) ++ N.regs.drop m
def spoilN (N : Nt) : Nt := { N with regs := spoilTo N N.regs.length }
theorem spoilTo_zero (N : Nt) : spoilTo N 0 = N.regs := by simp [spoilTo]
theorem spoilTo_length (N : Nt) {m : Nat} (h : m ≤ N.regs.length) : (spoilTo N m).length = N.regs.length := by simp [spoilTo]; omega
theorem spoilTo_get (N : Nt) {m j : Nat} (hj : j < N.regs.length) : (spoilTo N m).getD j ⟨0, 0, 0, false⟩ = if j < m then spoilR ((neededN N).getD j false) (N.regs.getD j ⟨0, 0, 0, false⟩) else N.regs.getD j ⟨0, 0, 0, false⟩ := by
  unfold spoilTo
  simp only [List.getD_eq_getElem?_getD]
  by_cases h : j < m
  · rw [if_pos h, List.getElem?_append_left (by simpa using h), List.getElem?_map, List.getElem?_eq_getElem (by simpa using h)]
    simp
  · rw [if_neg h, List.getElem?_append_right (by simp; omega), List.getElem?_drop]
    simp only [List.length_map, List.length_range]
    rw [show m + (j - m) = j by omega]
theorem spoilTo_succ (N : Nt) {m : Nat} (h : m < N.regs.length) : spoilTo N (m + 1) = (spoilTo N m).set m (spoilR ((neededN N).getD m false) (N.regs.getD m ⟨0, 0, 0, false⟩)) := by
  apply List.ext_getElem
  · rw [spoilTo_length N (by omega), List.length_set, spoilTo_length N (by omega)]
  · intro j h1 h2
    rw [spoilTo_length N (by omega)] at h1
    have e1 := spoilTo_get N (m := m + 1) h1
    have e2 := spoilTo_get N (m := m) h1
    have g1 : (spoilTo N (m + 1))[j]'(by rw [spoilTo_length N (by omega)]; exact h1) = (spoilTo N (m + 1)).getD j ⟨0, 0, 0, false⟩ := by
      rw [List.getD_eq_getElem?_getD, List.getElem?_eq_getElem (by rw [spoilTo_length N (by omega)]; exact h1)]; rfl
    have g2 : (spoilTo N m)[j]'(by rw [spoilTo_length N (by omega)]; exact h1) = (spoilTo N m).getD j ⟨0, 0, 0, false⟩ := by
      rw [List.getD_eq_getElem?_getD, List.getElem?_eq_getElem (by rw [spoilTo_length N (by omega)]; exact h1)]; rfl
    rw [List.getElem_set, g1, g2, e1, e2]
    by_cases hm : m = j
    · subst hm; rw [if_pos (by omega), if_pos rfl]
    · rw [if_neg hm]
      by_cases hj : j < m
      · rw [if_pos (by omega), if_pos hj]
      · rw [if_neg (by omega), if_neg hj]
theorem spoil_get (N : Nt) {j : Nat} (hj : j < N.regs.length) : (spoilN N).regs.getD j ⟨0, 0, 0, false⟩ = spoilR ((neededN N).getD j false) (N.regs.getD j ⟨0, 0, 0, false⟩) := by
  show (spoilTo N N.regs.length).getD j _ = _
  rw [spoilTo_get N hj, if_pos hj]
theorem spoil_length (N : Nt) : (spoilN N).regs.length = N.regs.length := spoilTo_length N (Nat.le_refl _)
theorem spoilR_q (b : Bool) (r : Rg) : (spoilR b r).q = r.q := by unfold spoilR; split <;> rfl
theorem spoil_q (N : Nt) : (spoilN N).regs.map (·.q) = N.regs.map (·.q) := by
  apply List.ext_getElem
  · simp [spoil_length]
  · intro j h1 h2
    have hj : j < N.regs.length := by simpa using h2
    have := spoil_get N hj
    rw [List.getElem_map, List.getElem_map]
    have g1 : (spoilN N).regs[j]'(by rw [spoil_length]; exact hj) = (spoilN N).regs.getD j ⟨0, 0, 0, false⟩ := by
      rw [List.getD_eq_getElem?_getD, List.getElem?_eq_getElem (by rw [spoil_length]; exact hj)]; rfl
    rw [g1, this, spoilR_q, List.getD_eq_getElem?_getD, List.getElem?_eq_getElem hj]
    rfl
theorem spoilTo_fine (hf : NtFine k N) {m : Nat} (hm : m ≤ N.regs.length) : NtFine k { N with regs := spoilTo N m } ∧ drivenN { N with regs := spoilTo N m } = drivenN N := by
  have hok := hf.ok
  have hq : (spoilTo N m).map (·.q) = N.regs.map (·.q) := by
    apply List.ext_getElem
    · simp [spoilTo_length N hm]
    · intro j h1 h2
      have hj : j < N.regs.length := by simpa using h2
      have := spoilTo_get N (m := m) hj
      rw [List.getElem_map, List.getElem_map]
      have g1 : (spoilTo N m)[j]'(by rw [spoilTo_length N hm]; exact hj) = (spoilTo N m).getD j ⟨0, 0, 0, false⟩ := by
        rw [List.getD_eq_getElem?_getD, List.getElem?_eq_getElem (by rw [spoilTo_length N hm]; exact hj)]; rfl
      have e0 : N.regs.getD j ⟨0, 0, 0, false⟩ = N.regs[j] := by rw [List.getD_eq_getElem?_getD, List.getElem?_eq_getElem hj]; rfl
      rw [g1, this, e0]
      split
      · rw [spoilR_q]
      · rfl
  have hd : drivenN { N with regs := spoilTo N m } = drivenN N := by
    unfold drivenN
    show _ ++ (spoilTo N m).map (·.q) = _
    rw [hq]
  refine ⟨⟨⟨hok.wf, hok.len, hok.ik, by show (spoilTo N m).length ≤ k; rw [spoilTo_length N hm]; exact hok.rk, hok.ok, hok.il, hok.ol, fun r hr => ?_⟩, hf.nm, hf.ni, hf.no, by rw [hd]; exact hf.dn, by rw [hd]; exact hf.di⟩, hd⟩
  obtain ⟨j, hj, rfl⟩ := List.getElem_of_mem hr
  have hj' : j < N.regs.length := by
    have := hj
    show j < _
    have e : ({ N with regs := spoilTo N m } : Nt).regs.length = N.regs.length := spoilTo_length N hm
    omega
  have h1 := spoilTo_get N (m := m) hj'
  have g1 : ({ N with regs := spoilTo N m } : Nt).regs[j] = (spoilTo N m).getD j ⟨0, 0, 0, false⟩ := by
    rw [List.getD_eq_getElem?_getD, List.getElem?_eq_getElem (by rw [spoilTo_length N hm]; exact hj')]; rfl
  rw [g1, h1]
  have h2 := hok.rl _ (getD_regs hj')
  split
  · unfold spoilR
    split
    · exact h2
    · refine ⟨h2.1, ?_, ?_⟩
      · show N.g.ok (ntL _)
        have := h2.2.1
        unfold Gr.ok ntL at *
        split <;> omega
      · show 1 / 2 < _
        exact hok.wf.pos
  · exact h2
theorem spoil_fine (hf : NtFine k N) : NtFine k (spoilN N) ∧ drivenN (spoilN N) = drivenN N := spoilTo_fine hf (Nat.le_refl _)
theorem spoil_check (hf : NtFine k N) : checkN (spoilN N) = checkN N := by
  unfold checkN fullB
  rw [(spoil_fine hf).2]
  rfl
/-- what is needed stays -/
theorem spoil_nd (hf : NtFine k N) (n : Nat) : Nd (spoilN N) n ↔ Nd N n := by
  have same : ∀ j, j < N.regs.length → Nd N ((N.regs.getD j ⟨0, 0, 0, false⟩).q / 2) → (spoilN N).regs.getD j ⟨0, 0, 0, false⟩ = N.regs.getD j ⟨0, 0, 0, false⟩ := fun j hj hn => by
    rw [spoil_get N hj, (needed_iff hf hj).2 hn]
    rfl
  constructor
  · intro h
    induction h with
    | out hx => exact .out hx
    | ga _ hg ih => exact .ga ih hg
    | gb _ hg ih => exact .gb ih hg
    | @rd r hr _ ih =>
      obtain ⟨j, hj, rfl⟩ := List.getElem_of_mem hr
      have hj' : j < N.regs.length := by rw [← spoil_length]; exact hj
      have e : (spoilN N).regs[j] = (spoilN N).regs.getD j ⟨0, 0, 0, false⟩ := by rw [List.getD_eq_getElem?_getD, List.getElem?_eq_getElem hj]; rfl
      rw [e, spoil_get N hj', spoilR_q] at ih
      rw [e, same j hj' ih]
      exact .rd (getD_regs hj') ih
    | @re r hr _ ih =>
      obtain ⟨j, hj, rfl⟩ := List.getElem_of_mem hr
      have hj' : j < N.regs.length := by rw [← spoil_length]; exact hj
      have e : (spoilN N).regs[j] = (spoilN N).regs.getD j ⟨0, 0, 0, false⟩ := by rw [List.getD_eq_getElem?_getD, List.getElem?_eq_getElem hj]; rfl
      rw [e, spoil_get N hj', spoilR_q] at ih
      rw [e, same j hj' ih]
      exact .re (getD_regs hj') ih
  · intro h
    induction h with
    | out hx => exact .out hx
    | ga _ hg ih => exact .ga ih hg
    | gb _ hg ih => exact .gb ih hg
    | @rd r hr hn ih =>
      obtain ⟨j, hj, rfl⟩ := List.getElem_of_mem hr
      have e : N.regs[j] = N.regs.getD j ⟨0, 0, 0, false⟩ := by rw [List.getD_eq_getElem?_getD, List.getElem?_eq_getElem hj]; rfl
      rw [e] at hn ih ⊢
      have h1 := same j hj hn
      have hj2 : j < (spoilN N).regs.length := by rw [spoil_length]; exact hj
      rw [← h1] at ih ⊢
      exact .rd (getD_regs hj2) ih
    | @re r hr hn ih =>
      obtain ⟨j, hj, rfl⟩ := List.getElem_of_mem hr
      have e : N.regs[j] = N.regs.getD j ⟨0, 0, 0, false⟩ := by rw [List.getD_eq_getElem?_getD, List.getElem?_eq_getElem hj]; rfl
      rw [e] at hn ih ⊢
      have h1 := same j hj hn
      have hj2 : j < (spoilN N).regs.length := by rw [spoil_length]; exact hj
      rw [← h1] at ih ⊢
      exact .re (getD_regs hj2) ih
theorem spoil_needed (hf : NtFine k N) {j : Nat} (hj : j < N.regs.length) : (neededN (spoilN N)).getD j false = (neededN N).getD j false := by
  have hj2 : j < (spoilN N).regs.length := by rw [spoil_length]; exact hj
  have h1 := needed_iff (spoil_fine hf).1 hj2
  have h2 := needed_iff hf hj
  rw [spoil_get N hj, spoilR_q, spoil_nd hf, ← h2] at h1
  rw [Bool.eq_iff_iff]
  exact h1
theorem spoil_goes (hf : NtFine k N) {j : Nat} (hj : j < N.regs.length) : goesB (spoilN N) j = goesB N j := by
  unfold goesB
  rw [spoil_needed hf hj, spoil_get N hj]
  cases h : (neededN N).getD j false with
  | true => rfl
  | false => rfl
theorem spoil_going (hf : NtFine k N) : ∀ m, m ≤ N.regs.length → goingTo (spoilN N) m = goingTo N m := by
  intro m
  induction m with
  | zero => intro _; rfl
  | succ m ih =>
    intro hm
    simp only [goingTo]
    rw [ih (by omega), spoil_goes hf (show m < N.regs.length from hm)]
    split
    · rename_i hg
      rw [spoil_get N (show m < N.regs.length from hm)]
      have : (neededN N).getD m false = true := by unfold goesB at hg; rw [Bool.and_eq_true] at hg; exact hg.1
      rw [this]
      rfl
    · rfl
theorem spoil_goingL (hf : NtFine k N) : goingL (spoilN N) = goingL N := by
  unfold goingL
  rw [spoil_length]
  exact spoil_going hf _ (Nat.le_refl _)
/-- a copy hangs on what stands for the inputs that are leant on -/
theorem copy_same {ns : List (Nat × Nat)} (hw : WF ns) {l : List Nat} (hl : ∀ x ∈ l, x / 2 < ns.length) {g : Gr} {s t : List Nat} (hs : s.length = ns.length) (ht : t.length = ns.length) (h0 : s.getD 0 0 = 0 ∧ t.getD 0 0 = 0) (h : ∀ j, (marksL ns l).getD j false = true → gAt ns j = false → s.getD j 0 = t.getD j 0) :
    ∀ m, (copyTo ns (marksL ns l) (g, s) m).1 = (copyTo ns (marksL ns l) (g, t) m).1 ∧ ∀ j, (j = 0 ∨ ((marksL ns l).getD j false = true ∧ (gAt ns j = false ∨ j < m))) → (copyTo ns (marksL ns l) (g, s) m).2.getD j 0 = (copyTo ns (marksL ns l) (g, t) m).2.getD j 0 := by
  have hM := marks_ok hw hl
  intro m
  induction m with
  | zero =>
    refine ⟨rfl, fun j hj => ?_⟩
    rcases hj with rfl | ⟨h1, h2 | h2⟩
    · show s.getD 0 0 = t.getD 0 0
      rw [h0.1, h0.2]
    · exact h j h1 h2
    · omega
  | succ m ih =>
    obtain ⟨i1, i2⟩ := ih
    have l1 := copyTo_length ns (marksL ns l) (g, s) m
    have l2 := copyTo_length ns (marksL ns l) (g, t) m
    have e1 : copyTo ns (marksL ns l) (g, s) (m + 1) = copyAt ns (marksL ns l) (copyTo ns (marksL ns l) (g, s) m) m := rfl
    have e2 : copyTo ns (marksL ns l) (g, t) (m + 1) = copyAt ns (marksL ns l) (copyTo ns (marksL ns l) (g, t) m) m := rfl
    rw [e1, e2]
    generalize copyTo ns (marksL ns l) (g, s) m = A at *
    generalize copyTo ns (marksL ns l) (g, t) m = B at *
    unfold copyAt
    by_cases hc : (gAt ns m && (marksL ns l).getD m false) = true
    · rw [if_pos hc, if_pos hc]
      rw [Bool.and_eq_true] at hc
      obtain ⟨ga, gb, g1, g2⟩ := gAt_lt hw hc.1
      have hd := hM.down m hc.1 hc.2
      have ha : overL A.2 (gA ns m) = overL B.2 (gA ns m) := by
        unfold overL
        rw [i2 (gA ns m / 2) (by
          by_cases hz : gA ns m / 2 = 0
          · exact .inl hz
          · exact .inr ⟨hd.1 hz, .inr ga⟩)]
      have hb : overL A.2 (gB ns m) = overL B.2 (gB ns m) := by
        unfold overL
        rw [i2 (gB ns m / 2) (by
          by_cases hz : gB ns m / 2 = 0
          · exact .inl hz
          · exact .inr ⟨hd.2 hz, .inr gb⟩)]
      rw [ha, hb, i1]
      refine ⟨rfl, fun j hj => ?_⟩
      show (A.2.set m _).getD j 0 = (B.2.set m _).getD j 0
      have l1' : A.2.length = ns.length := l1.trans hs
      have l2' : B.2.length = ns.length := l2.trans ht
      rw [getN_set (by omega), getN_set (by omega)]
      split
      · rfl
      · rename_i hne
        exact i2 j (hj.imp id fun hx => ⟨hx.1, hx.2.imp id fun hy => by omega⟩)
    · rw [if_neg hc, if_neg hc]
      refine ⟨i1, fun j hj => ?_⟩
      refine i2 j (hj.imp id fun hx => ⟨hx.1, ?_⟩)
      rcases hx.2 with hy | hy
      · exact .inl hy
      · by_cases hjm : j = m
        · subst hjm
          left
          cases hg : gAt ns j with
          | false => rfl
          | true => rw [hg, hx.1] at hc; simp at hc
        · exact .inr (by omega)
theorem spoil_once (hf : NtFine k N) (hsort : (ins N.g.nodes).Pairwise (· < ·)) : onceN (spoilN N) = onceN N := by
  have hw := hf.ok.wf
  have hg := spoil_goingL hf
  have hwant : wantedN (spoilN N) = wantedN N := by unfold wantedN; rw [hg]; rfl
  have hbase : baseG (spoilN N) = baseG N := by unfold baseG; rw [hg]; rfl
  have hstand : ∀ p, p < (ins N.g.nodes).length → (marksL N.g.nodes (wantedN N)).getD ((ins N.g.nodes).getD p 0) false = true → (byN (spoilN N)).getD p 0 = (byN N).getD p 0 := by
    intro p hp hm
    obtain ⟨_, x, hx, hc⟩ := (marks_cn hw (wanted_ok hf) _).1 hm
    have hnd : Nd N ((ins N.g.nodes).getD p 0) := Nd.cn (by
      unfold wantedN at hx
      rcases List.mem_append.1 hx with hx | hx
      · exact .out hx
      · obtain ⟨r, hr, hx⟩ := List.mem_flatMap.1 hx
        obtain ⟨j, h1, h2, rfl⟩ := goingTo_mem hr
        have hn : Nd N ((N.regs.getD j ⟨0, 0, 0, false⟩).q / 2) := (needed_iff hf h1).1 (by unfold goesB at h2; rw [Bool.and_eq_true] at h2; exact h2.1)
        simp only [List.mem_cons, List.not_mem_nil, or_false] at hx
        rcases hx with rfl | rfl
        · exact .rd (getD_regs h1) hn
        · exact .re (getD_regs h1) hn) hc
    unfold byN
    simp only [List.getD_eq_getElem?_getD, List.getElem?_map]
    show Option.getD (Option.map _ (ins N.g.nodes)[p]?) 0 = _
    rw [List.getElem?_eq_getElem hp]
    have e : (ins N.g.nodes).getD p 0 = (ins N.g.nodes)[p] := by rw [List.getD_eq_getElem?_getD, List.getElem?_eq_getElem hp]; rfl
    rw [e] at hnd
    simp only [Option.map_some, Option.getD_some]
    generalize (ins N.g.nodes)[p] = node at *
    unfold standN
    show (match posOf (N.inb.flatMap (·.lits)) node with
      | some p => 2 * (1 + p)
      | none => match placeR (spoilN N).regs node with
        | some j => standR (spoilN N) j
        | none => 0) = _
    cases posOf (N.inb.flatMap (·.lits)) node with
    | some p => rfl
    | none =>
      have hpl : placeR (spoilN N).regs node = placeR N.regs node := by
        unfold placeR
        have : ∀ l : List Rg, l.findIdx? (fun r => decide (r.q / 2 = node)) = (l.map (·.q)).findIdx? (fun q => decide (q / 2 = node)) := fun l => by
          rw [List.findIdx?_map]
          rfl
        rw [this, this, spoil_q]
      rw [hpl]
      cases hpr : placeR N.regs node with
      | none => rfl
      | some j =>
        obtain ⟨hj, hq⟩ := placeR_lt hpr
        show standR (spoilN N) j = standR N j
        unfold standR
        rw [spoil_goes hf hj, spoil_going hf j (by omega)]
        show (if goesB N j = true then 2 * (1 + inMany N.inb + _) else _) = _
        split
        · rfl
        · have hn := (needed_iff hf hj).2 (by rw [hq]; exact hnd)
          rw [spoil_get N hj, hn]
          rfl
  have key := copy_same (g := baseG N) hw (wanted_ok hf) (s := byTo N.g.nodes.length (ins N.g.nodes) (byN (spoilN N)) (ins N.g.nodes).length) (t := byTo N.g.nodes.length (ins N.g.nodes) (byN N) (ins N.g.nodes).length) (byTo_length _ _ _ _) (byTo_length _ _ _ _) ⟨byTo_zero hw.pos (ins_pos _) (Nat.le_refl _), byTo_zero hw.pos (ins_pos _) (Nat.le_refl _)⟩ (fun j hm hgj => by
    have hM := marks_ok hw (wanted_ok hf)
    obtain ⟨h0, hjl, _⟩ := hM.why j hm
    have hin : j ∈ ins N.g.nodes := by
      have h1 := not_gate (by omega) hjl hgj
      have := insFrom_mem 0 N.g.nodes j (N.g.nodes.getD j (0, 0)) (by rw [List.getD_eq_getElem?_getD, List.getElem?_eq_getElem hjl]; rfl) (by rw [Nat.zero_add]; exact h1) (by omega)
      rw [Nat.zero_add] at this
      exact this
    obtain ⟨p, hp, rfl⟩ := List.getElem_of_mem hin
    have e : (ins N.g.nodes).getD p 0 = (ins N.g.nodes)[p] := by rw [List.getD_eq_getElem?_getD, List.getElem?_eq_getElem hp]; rfl
    have h2 := byTo_get hsort (fun x hx => ins_lt N.g.nodes x hx) (by_ := byN (spoilN N)) (Nat.le_refl _) p hp
    have h3 := byTo_get hsort (fun x hx => ins_lt N.g.nodes x hx) (by_ := byN N) (Nat.le_refl _) p hp
    rw [e] at h2 h3
    rw [h2, h3]
    exact hstand p hp (by rw [e]; exact hm)) N.g.nodes.length
  have hc1 : (copyN (spoilN N)).1 = (copyN N).1 := by
    show (copyG (baseG (spoilN N)) N.g (byN (spoilN N)) (wantedN (spoilN N))).1 = _
    rw [hbase, hwant]
    exact key.1
  have hov : ∀ x ∈ wantedN N, overL (copyN (spoilN N)).2 x = overL (copyN N).2 x := fun x hx => by
    unfold overL
    have : (copyN (spoilN N)).2.getD (x / 2) 0 = (copyN N).2.getD (x / 2) 0 := by
      show (copyG (baseG (spoilN N)) N.g (byN (spoilN N)) (wantedN (spoilN N))).2.getD _ _ = _
      rw [hbase, hwant]
      refine key.2 (x / 2) ?_
      by_cases hz : x / 2 = 0
      · exact .inl hz
      · exact .inr ⟨(marks_ok hw (wanted_ok hf)).has x hx hz, .inr (wanted_ok hf x hx)⟩
    rw [this]
  have hregs : ∀ (a : Nat) (l : List Rg), (∀ r ∈ l, r.d ∈ wantedN N ∧ r.en ∈ wantedN N) → newRegs (copyN (spoilN N)).2 a l = newRegs (copyN N).2 a l := by
    intro a l
    induction l generalizing a with
    | nil => intro _; rfl
    | cons r l ih =>
      intro h
      have h1 := h r (by simp)
      show (⟨2 * a, overL _ r.d, overL _ r.en, r.init⟩ : Rg) :: newRegs _ (a + 1) l = (⟨2 * a, overL _ r.d, overL _ r.en, r.init⟩ : Rg) :: newRegs _ (a + 1) l
      rw [hov _ h1.1, hov _ h1.2, ih (a + 1) fun x hx => h x (by simp [hx])]
  unfold onceN
  show ({ name := N.name, g := (copyN (spoilN N)).1, inb := inRows 1 N.inb, regs := newRegs (copyN (spoilN N)).2 (1 + inMany N.inb) (goingL (spoilN N)), outb := N.outb.map fun b => ⟨b.name, b.lits.map (overL (copyN (spoilN N)).2)⟩ } : Nt) = _
  rw [hc1, hg, hregs _ _ fun r hr => ⟨List.mem_append_right _ (List.mem_flatMap.2 ⟨r, hr, by simp⟩), List.mem_append_right _ (List.mem_flatMap.2 ⟨r, hr, by simp⟩)⟩]
  congr 1
  apply List.map_congr_left
  intro b hb
  congr 1
  exact List.map_congr_left fun x hx => hov x (List.mem_append_left _ (List.mem_flatMap.2 ⟨b, hb, hx⟩))
/-- the same is swept -/
theorem spoil_swept (hf : NtFine k N) (hsort : (ins N.g.nodes).Pairwise (· < ·)) : sweptN (spoilN N) = sweptN N := by
  rw [swept_step (spoil_fine hf).1, swept_step hf, spoil_once hf hsort]
/-! the law's own search -/
def succN (N : Nt) (n : Nat) : List Nat := (if gAt N.g.nodes n then [gA N.g.nodes n, gB N.g.nodes n] else []) ++ N.regs.flatMap fun r => if r.q / 2 = n then [r.d, r.en] else []
structure BfsOk (N : Nt) (seen todo : List Nat) : Prop where
  nod : seen.Nodup
  snd : ∀ n ∈ seen, Nd N n ∧ n < N.g.nodes.length
  std : ∀ x ∈ todo, Nd N (x / 2) ∧ N.g.ok x
  out : ∀ x ∈ outsN N, x / 2 ∈ seen ∨ x ∈ todo
  cls : ∀ n ∈ seen, ∀ y ∈ succN N n, y / 2 ∈ seen ∨ y ∈ todo
theorem succ_ok (hf : NtFine k N) {n : Nat} (hn : Nd N n) : ∀ y ∈ succN N n, Nd N (y / 2) ∧ N.g.ok y := by
  intro y hy
  unfold succN at hy
  rcases List.mem_append.1 hy with hy | hy
  · split at hy
    · rename_i hg
      obtain ⟨ga, gb, g1, g2⟩ := gAt_lt hf.ok.wf hg
      simp only [List.mem_cons, List.not_mem_nil, or_false] at hy
      rcases hy with rfl | rfl
      · exact ⟨.ga hn hg, by unfold Gr.ok; omega⟩
      · exact ⟨.gb hn hg, by unfold Gr.ok; omega⟩
    · simp at hy
  · obtain ⟨r, hr, hz⟩ := List.mem_flatMap.1 hy
    have hrl := hf.ok.rl r hr
    by_cases hq : r.q / 2 = n
    · rw [if_pos hq] at hz
      subst hq
      rcases List.mem_cons.1 hz with rfl | hz
      · exact ⟨.rd hr hn, hrl.2.1⟩
      · rw [List.mem_singleton] at hz
        subst hz
        exact ⟨.re hr hn, hrl.2.2⟩
    · rw [if_neg hq] at hz
      simp at hz
theorem BfsOk.start (hf : NtFine k N) : BfsOk N [] (outsN N) := ⟨by simp, by simp, fun x hx => ⟨.out hx, outs_ok hf x hx⟩, fun x hx => .inr hx, by simp⟩
theorem BfsOk.skip {x : Nat} {seen todo : List Nat} (h : BfsOk N seen (x :: todo)) (hx : x / 2 ∈ seen) : BfsOk N seen todo := by
  refine ⟨h.nod, h.snd, fun y hy => h.std y (by simp [hy]), fun y hy => ?_, fun n hn y hy => ?_⟩
  · rcases h.out y hy with h1 | h1
    · exact .inl h1
    · rcases List.mem_cons.1 h1 with rfl | h1
      · exact .inl hx
      · exact .inr h1
  · rcases h.cls n hn y hy with h1 | h1
    · exact .inl h1
    · rcases List.mem_cons.1 h1 with rfl | h1
      · exact .inl hx
      · exact .inr h1
theorem BfsOk.go (hf : NtFine k N) {x : Nat} {seen todo : List Nat} (h : BfsOk N seen (x :: todo)) (hx : x / 2 ∉ seen) : BfsOk N (seen ++ [x / 2]) (todo ++ succN N (x / 2)) := by
  have hxs := h.std x (by simp)
  refine ⟨?_, fun n hn => ?_, fun y hy => ?_, fun y hy => ?_, fun n hn y hy => ?_⟩
  · rw [List.nodup_append]
    exact ⟨h.nod, by simp, fun a ha b hb => by rw [List.mem_singleton] at hb; subst hb; exact fun e => hx (e ▸ ha)⟩
  · rcases List.mem_append.1 hn with hn | hn
    · exact h.snd n hn
    · rw [List.mem_singleton] at hn; subst hn; exact ⟨hxs.1, hxs.2⟩
  · rcases List.mem_append.1 hy with hy | hy
    · exact h.std y (by simp [hy])
    · exact succ_ok hf hxs.1 y hy
  · rcases h.out y hy with h1 | h1
    · exact .inl (List.mem_append_left _ h1)
    · rcases List.mem_cons.1 h1 with rfl | h1
      · exact .inl (List.mem_append_right _ (by simp))
      · exact .inr (List.mem_append_left _ h1)
  · rcases List.mem_append.1 hn with hn | hn
    · rcases h.cls n hn y hy with h1 | h1
      · exact .inl (List.mem_append_left _ h1)
      · rcases List.mem_cons.1 h1 with rfl | h1
        · exact .inl (List.mem_append_right _ (by simp))
        · exact .inr (List.mem_append_left _ h1)
    · rw [List.mem_singleton] at hn
      subst hn
      exact .inr (List.mem_append_right _ hy)
theorem BfsOk.all {seen : List Nat} (h : BfsOk N seen []) (n : Nat) : Nd N n ↔ n ∈ seen := by
  constructor
  · intro hn
    induction hn with
    | out hx => rcases h.out _ hx with h1 | h1; exact h1; simp at h1
    | @ga n _ hg ih =>
      rcases h.cls n ih _ (show gA N.g.nodes n ∈ succN N n from by unfold succN; rw [if_pos hg]; simp) with h1 | h1
      · exact h1
      · simp at h1
    | @gb n _ hg ih =>
      rcases h.cls n ih _ (show gB N.g.nodes n ∈ succN N n from by unfold succN; rw [if_pos hg]; simp) with h1 | h1
      · exact h1
      · simp at h1
    | @rd r hr _ ih =>
      rcases h.cls _ ih r.d (List.mem_append_right _ (List.mem_flatMap.2 ⟨r, hr, by simp⟩)) with h1 | h1
      · exact h1
      · simp at h1
    | @re r hr _ ih =>
      rcases h.cls _ ih r.en (List.mem_append_right _ (List.mem_flatMap.2 ⟨r, hr, by simp⟩)) with h1 | h1
      · exact h1
      · simp at h1
  · exact fun hn => (h.snd n hn).1
theorem seen_few {seen todo : List Nat} (h : BfsOk N seen todo) : seen.length ≤ N.g.nodes.length := by
  have := nodup_le h.nod (m := List.range N.g.nodes.length) fun x hx => List.mem_range.2 (h.snd x hx).2
  simpa using this
theorem succ_few (N : Nt) (n : Nat) : (succN N n).length ≤ 2 + 2 * N.regs.length := by
  unfold succN
  rw [List.length_append]
  have h1 : (if gAt N.g.nodes n then [gA N.g.nodes n, gB N.g.nodes n] else []).length ≤ 2 := by split <;> simp
  have h2 : (N.regs.flatMap fun r => if r.q / 2 = n then [r.d, r.en] else []).length ≤ 2 * N.regs.length := by
    induction N.regs with
    | nil => simp
    | cons r l ih =>
      rw [List.flatMap_cons, List.length_append, List.length_cons]
      have : (if r.q / 2 = n then [r.d, r.en] else []).length ≤ 2 := by split <;> simp
      omega
  omega
end Go.Proofs.YtdmcdhkkbkgnbaaGreat
