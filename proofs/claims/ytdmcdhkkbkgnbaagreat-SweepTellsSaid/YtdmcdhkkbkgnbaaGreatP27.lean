/-
  Package sweep: a sweeper in memory.
  Package sweep, plain: one sweep, step by step.
-/
import Derived.Test.YtdmcdhkkbkgnbaaGreatP26
import Derived.Test.YtdmcdhkkbkgnbaaGreatP23
namespace Go.Proofs.YtdmcdhkkbkgnbaaGreat
set_option linter.unusedVariables false
set_option linter.unusedSimpArgs false

variable {N : Nt} {k : Nat}
def baseO (N : Nt) : Gr := ⟨N.g.fold, N.g.hash, [(0, 0)]⟩
theorem inputsG_add (g : Gr) (m : Nat) : ∀ n, inputsG g (m + n) = inputsG (inputsG g m) n
  | 0 => rfl
  | n + 1 => by rw [← Nat.add_assoc]; show (inputG (inputsG g (m + n))).1 = (inputG (inputsG (inputsG g m) n)).1; rw [inputsG_add g m n]
theorem baseO_len (N : Nt) (m : Nat) : (inputsG (baseO N) m).nodes.length = 1 + m := by rw [inputsG_length]; rfl
/-- the netlist behind some buses -/
def inTo (N : Nt) (m : Nat) : Nt := { name := N.name, g := inputsG (baseO N) (inMany (N.inb.take m)), inb := inRows 1 (N.inb.take m), regs := [], outb := [] }
theorem inTo_zero (N : Nt) : inTo N 0 = newN N.name N.g.fold N.g.hash := by simp [inTo, newN, inMany, inRows, inputsG, baseO]
theorem findB_none_of {l : List Bus} {s : ByteArray} (h : ∀ b ∈ l, b.name ≠ s) : findB l s = none := by
  unfold findB
  rw [List.findIdx?_eq_none_iff]
  intro b hb
  simpa using h b hb
theorem inMany_len (hf : NtFine k N) (m : Nat) : inMany (N.inb.take m) ≤ 64 * m := by
  induction m with
  | zero => simp [inMany]
  | succ m ih =>
    cases h : N.inb[m]? with
    | none =>
      have hl : N.inb.length ≤ m := List.getElem?_eq_none_iff.1 h
      rw [List.take_of_length_le (by omega)]
      rw [List.take_of_length_le hl] at ih
      omega
    | some b =>
      obtain ⟨h1, h2⟩ := List.getElem?_eq_some_iff.1 h
      rw [List.take_succ_eq_append_getElem h1, inMany_app, h2]
      have := (hf.ok.il b (List.mem_of_getElem? h)).2.1
      simp [inMany] at ih ⊢
      omega
theorem names_apart {l : List Bus} (h : (l.map (·.name)).Pairwise (· ≠ ·)) {m : Nat} {b : Bus} (hb : l[m]? = some b) : ∀ c ∈ l.take m, c.name ≠ b.name := by
  intro c hc e
  obtain ⟨h1, h2⟩ := List.getElem?_eq_some_iff.1 hb
  obtain ⟨i, hi, rfl⟩ := List.getElem_of_mem hc
  rw [List.length_take] at hi
  have h3 := List.pairwise_iff_getElem.1 h i m (by simp; omega) (by simpa using h1) (by omega)
  simp only [List.getElem_map, List.getElem_take] at h3 e
  rw [h2] at h3
  exact h3 e
theorem inTo_succ (hf : NtFine k N) {m : Nat} {b : Bus} (hb : N.inb[m]? = some b) : addIn (inTo N m) b.name (b.lits.length : Nat) = (inTo N (m + 1), rowFrom (1 + inMany (N.inb.take m)) b.lits.length, 0) := by
  obtain ⟨h1, h2⟩ := List.getElem?_eq_some_iff.1 hb
  have hil := hf.ok.il b (List.mem_of_getElem? hb)
  have hfind : findB (inTo N m).inb b.name = none := by
    apply findB_none_of
    intro c hc e
    have hc' : c.name ∈ (inRows 1 (N.inb.take m)).map (·.name) := List.mem_map_of_mem hc
    rw [inRows_names] at hc'
    obtain ⟨d, hd, he⟩ := List.mem_map.1 hc'
    exact names_apart hf.ni hb d hd (by rw [he, e])
  have hbad : ((!mayB b.name) || decide ((b.lits.length : Int) < 1) || decide (64 < (b.lits.length : Int))) = false := by
    have e1 : ¬ ((b.lits.length : Int) < 1) := by omega
    have e2 : ¬ (64 < (b.lits.length : Int)) := by omega
    simp [hil.2.2.1, e1, e2]
  have hlen : (inTo N m).g.nodes.length = 1 + inMany (N.inb.take m) := baseO_len N _
  unfold addIn
  rw [hbad, hfind, hlen]
  simp only [Bool.false_eq_true, if_false, Option.isSome_none, Int.toNat_natCast]
  congr 1
  unfold inTo
  rw [List.take_succ_eq_append_getElem h1, h2, inRows_snoc, inMany_app]
  congr 1
  rw [show inMany [b] = b.lits.length by simp [inMany], inputsG_add]
theorem inTo_ok (hf : NtFine k N) (m : Nat) (hm : m ≤ N.inb.length) : (inTo N m).g.nodes.length ≤ 1 + 64 * k ∧ (inTo N m).inb.length ≤ k := by
  have h1 := inMany_len hf m
  have h2 := hf.ok.ik
  refine ⟨?_, ?_⟩
  · show (inputsG (baseO N) _).nodes.length ≤ _
    rw [baseO_len]; omega
  · show (inRows 1 (N.inb.take m)).length ≤ k
    rw [inRows_length, List.length_take]; omega
/-! what stands for inputs, half done -/
def posM (l : List Nat) : Nat → Option Nat := fun node => (posOf l node).map fun p => 2 * (1 + p)
theorem posM_nil : posM [] = fun _ => none := by funext x; rfl
theorem posM_snoc {l : List Nat} {x : Nat} (h : x / 2 ∉ l.map (· / 2)) : (fun y => if y = x / 2 then some (2 * (1 + l.length)) else posM l y) = posM (l ++ [x]) := by
  funext y
  unfold posM posOf
  rw [List.findIdx?_append]
  by_cases hy : y = x / 2
  · rw [if_pos hy]
    have : l.findIdx? (fun z => decide (z / 2 = y)) = none := by
      rw [List.findIdx?_eq_none_iff]
      intro z hz
      simp only [decide_eq_false_iff_not]
      intro e
      exact h (List.mem_map.2 ⟨z, hz, by rw [e, hy]⟩)
    rw [this]
    simp [List.findIdx?_singleton, hy]
  · rw [if_neg hy]
    have e : ¬ (x / 2 = y) := fun e => hy e.symm
    cases hc : l.findIdx? (fun z => decide (z / 2 = y)) <;> simp [List.findIdx?_singleton, e]
/-- all inputs' literals ahead of the i-th of bus m -/
def litsTo (N : Nt) (m i : Nat) : List Nat := (N.inb.take m).flatMap (·.lits) ++ ((N.inb.getD m ⟨ByteArray.empty, []⟩).lits.take i)
theorem litsTo_next {m : Nat} {b : Bus} (hb : N.inb[m]? = some b) : litsTo N m b.lits.length = litsTo N (m + 1) 0 := by
  obtain ⟨h1, h2⟩ := List.getElem?_eq_some_iff.1 hb
  unfold litsTo
  rw [List.getD_eq_getElem?_getD, hb, List.take_succ_eq_append_getElem h1, h2]
  simp
theorem litsTo_zero (N : Nt) : litsTo N 0 0 = [] := by simp [litsTo]
theorem litsTo_all (N : Nt) : litsTo N N.inb.length 0 = N.inb.flatMap (·.lits) := by simp [litsTo]
theorem litsTo_succ (hf : NtFine k N) {m i x : Nat} {b : Bus} (hb : N.inb[m]? = some b) (hx : b.lits[i]? = some x) :
    (fun y => if y = x / 2 then some (2 * (1 + inMany (N.inb.take m) + i)) else posM (litsTo N m i) y) = posM (litsTo N m (i + 1)) := by
  obtain ⟨h1, h2⟩ := List.getElem?_eq_some_iff.1 hb
  obtain ⟨h3, h4⟩ := List.getElem?_eq_some_iff.1 hx
  have hs : litsTo N m (i + 1) = litsTo N m i ++ [x] := by
    unfold litsTo
    rw [List.getD_eq_getElem?_getD, hb]
    simp only [Option.getD_some]
    rw [List.take_succ_eq_append_getElem h3, h4, List.append_assoc]
  have hl : (litsTo N m i).length = inMany (N.inb.take m) + i := by
    unfold litsTo inMany
    rw [List.getD_eq_getElem?_getD, hb]
    simp only [Option.getD_some, List.length_append, List.length_take]
    omega
  have hpre : litsTo N m (i + 1) <+: drivenN N := by
    refine List.IsPrefix.trans ?_ (List.prefix_append _ _)
    unfold litsTo
    rw [List.getD_eq_getElem?_getD, hb]
    simp only [Option.getD_some]
    have e : N.inb.flatMap (·.lits) = (N.inb.take m).flatMap (·.lits) ++ (b.lits ++ (N.inb.drop (m + 1)).flatMap (·.lits)) := by
      have e2 : N.inb = N.inb.take m ++ (b :: N.inb.drop (m + 1)) := by
        rw [← h2, List.getElem_cons_drop, List.take_append_drop]
      conv => lhs; rw [e2]
      simp
    rw [e]
    exact (List.prefix_append_right_inj _).2 ((List.take_prefix _ _).trans (List.prefix_append _ _))
  have hnd := (hpre.map (· / 2)).sublist.nodup (driven_half hf)
  rw [hs, List.map_append, List.nodup_append] at hnd
  have hnot : x / 2 ∉ (litsTo N m i).map (· / 2) := fun h => hnd.2.2 _ h (x / 2) (by simp) rfl
  rw [hs, ← posM_snoc hnot, hl]
  simp only [Nat.add_assoc]
/-! registers -/
def openRegs : Nat → List Rg → List Rg
  | _, [] => []
  | a, r :: l => ⟨2 * a, 0, 0, r.init⟩ :: openRegs (a + 1) l
theorem openRegs_snoc (a : Nat) (l : List Rg) (r : Rg) : openRegs a (l ++ [r]) = openRegs a l ++ [⟨2 * (a + l.length), 0, 0, r.init⟩] := by
  induction l generalizing a with
  | nil => rfl
  | cons c l ih =>
    show _ :: openRegs (a + 1) (l ++ [r]) = _
    rw [ih, List.length_cons, show a + 1 + l.length = a + (l.length + 1) by omega]
    rfl
theorem openRegs_length (a : Nat) (l : List Rg) : (openRegs a l).length = l.length := by
  induction l generalizing a with
  | nil => rfl
  | cons c l ih => simp [openRegs, ih]
/-- the netlist behind some registers -/
def regTo (N : Nt) (j : Nat) : Nt := { name := N.name, g := inputsG (baseO N) (inMany N.inb + (goingTo N j).length), inb := inRows 1 N.inb, regs := openRegs (1 + inMany N.inb) (goingTo N j), outb := [] }
theorem regTo_zero (N : Nt) : regTo N 0 = inTo N N.inb.length := by
  unfold regTo inTo
  rw [List.take_length]
  simp [goingTo, openRegs]
theorem regTo_stay {j : Nat} (h : goesB N j = false) : regTo N (j + 1) = regTo N j := by
  have e : goingTo N (j + 1) = goingTo N j := by simp [goingTo, h]
  unfold regTo
  rw [e]
theorem regTo_succ {j : Nat} (h : goesB N j = true) : addReg (regTo N j) (N.regs.getD j ⟨0, 0, 0, false⟩).init = (regTo N (j + 1), 2 * (1 + inMany N.inb + (goingTo N j).length)) := by
  have e : goingTo N (j + 1) = goingTo N j ++ [N.regs.getD j ⟨0, 0, 0, false⟩] := by simp [goingTo, h]
  have hlen : (regTo N j).g.nodes.length = 1 + (inMany N.inb + (goingTo N j).length) := baseO_len N _
  unfold addReg
  rw [hlen]
  congr 1
  · unfold regTo
    rw [e, openRegs_snoc, List.length_append]
    congr 1
    congr 1
    simp [Nat.add_assoc]
  · omega
theorem regTo_ok (hf : NtFine k N) (j : Nat) (hj : j ≤ N.regs.length) : (regTo N j).g.nodes.length ≤ 1 + 65 * k ∧ (regTo N j).regs.length ≤ k := by
  have h1 := inMany_len hf N.inb.length
  rw [List.take_length] at h1
  have h2 := hf.ok.ik
  have h3 := hf.ok.rk
  have h4 := goingTo_length N j
  refine ⟨?_, ?_⟩
  · show (inputsG (baseO N) _).nodes.length ≤ _
    rw [baseO_len]; omega
  · show (openRegs _ _).length ≤ k
    rw [openRegs_length]; omega
/-- what stands behind some registers -/
def regM (N : Nt) (j : Nat) : Nat → Option Nat := fun node =>
  match posOf (N.inb.flatMap (·.lits)) node with
  | some p => some (2 * (1 + p))
  | none => (placeR (N.regs.take j) node).map (standR N)
theorem regM_zero (N : Nt) : regM N 0 = posM (N.inb.flatMap (·.lits)) := by
  funext x
  unfold regM posM
  cases posOf (N.inb.flatMap (·.lits)) x <;> simp [placeR]
theorem regM_succ (hf : NtFine k N) {j : Nat} (hj : j < N.regs.length) : (fun y => if y = (N.regs.getD j ⟨0, 0, 0, false⟩).q / 2 then some (standR N j) else regM N j y) = regM N (j + 1) := by
  funext y
  have ha := (regs_apart hf).2
  have e : N.regs.getD j ⟨0, 0, 0, false⟩ = N.regs[j] := by rw [List.getD_eq_getElem?_getD, List.getElem?_eq_getElem hj]; rfl
  have hd := driven_half hf
  unfold drivenN at hd
  rw [List.map_append, List.nodup_append] at hd
  have hno : posOf (N.inb.flatMap (·.lits)) (N.regs[j].q / 2) = none := by
    unfold posOf
    rw [List.findIdx?_eq_none_iff]
    intro z hz
    simp only [decide_eq_false_iff_not]
    intro e2
    exact hd.2.2 (z / 2) (List.mem_map_of_mem hz) (N.regs[j].q / 2) (List.mem_map.2 ⟨N.regs[j].q, List.mem_map_of_mem (List.getElem_mem hj), rfl⟩) e2
  unfold regM
  rw [e]
  by_cases hy : y = N.regs[j].q / 2
  · rw [if_pos hy, hy, hno]
    have hp : placeR (N.regs.take (j + 1)) (N.regs[j].q / 2) = some j := by
      unfold placeR
      rw [List.take_succ_eq_append_getElem hj, List.findIdx?_append]
      have hnone : (N.regs.take j).findIdx? (fun r => decide (r.q / 2 = N.regs[j].q / 2)) = none := by
        rw [List.findIdx?_eq_none_iff]
        intro r hr
        obtain ⟨i, hi, rfl⟩ := List.getElem_of_mem hr
        rw [List.length_take] at hi
        have hil : i < N.regs.length := by omega
        simp only [List.getElem_take, decide_eq_false_iff_not]
        intro hh
        have e2 : N.regs.getD i ⟨0, 0, 0, false⟩ = N.regs[i] := by rw [List.getD_eq_getElem?_getD, List.getElem?_eq_getElem hil]; rfl
        have := ha i j hil hj (by rw [e2, e, hh])
        omega
      rw [hnone]
      simp [List.findIdx?_singleton, Nat.min_eq_left (Nat.le_of_lt hj)]
    simp only
    rw [hp]
    rfl
  · rw [if_neg hy]
    have hp : placeR (N.regs.take (j + 1)) y = placeR (N.regs.take j) y := by
      unfold placeR
      rw [List.take_succ_eq_append_getElem hj, List.findIdx?_append]
      have hne : ¬ (N.regs[j].q / 2 = y) := fun h => hy h.symm
      cases (N.regs.take j).findIdx? (fun r => decide (r.q / 2 = y)) <;> simp [List.findIdx?_singleton, hne]
    rw [hp]
theorem regM_all (N : Nt) (node : Nat) : (regM N N.regs.length node).getD 0 = standN N node := by
  unfold regM standN
  rw [List.take_length]
  cases posOf (N.inb.flatMap (·.lits)) node with
  | some p => rfl
  | none => cases placeR N.regs node <;> rfl
/-- what is wanted, half done -/
def wantTo (N : Nt) (j : Nat) : List Nat := outsN N ++ (goingTo N j).flatMap fun r => [r.d, r.en]
theorem wantTo_stay {j : Nat} (h : goesB N j = false) : wantTo N (j + 1) = wantTo N j := by simp [wantTo, goingTo, h]
theorem wantTo_succ {j : Nat} (h : goesB N j = true) : wantTo N (j + 1) = wantTo N j ++ [(N.regs.getD j ⟨0, 0, 0, false⟩).d, (N.regs.getD j ⟨0, 0, 0, false⟩).en] := by simp [wantTo, goingTo, h]
theorem wantTo_all (N : Nt) : wantTo N N.regs.length = wantedN N := rfl
theorem goingTwo (l : List Rg) : (l.flatMap fun r => [r.d, r.en]).length = 2 * l.length := by
  induction l with
  | nil => rfl
  | cons r l ih => simp only [List.flatMap_cons, List.length_append, ih, List.length_cons, List.length_nil]; omega
theorem wantTo_len (N : Nt) (j : Nat) : (wantTo N j).length = (outsN N).length + 2 * (goingTo N j).length := by
  unfold wantTo
  rw [List.length_append, goingTwo]
theorem standN_lt (hf : NtFine k N) (hk : k ≤ 700) (node : Nat) : standN N node < 4294967296 := by
  have h1 := standN_ok N node
  unfold Gr.ok at h1
  rw [base_length] at h1
  have h2 := inMany_len hf N.inb.length
  rw [List.take_length] at h2
  have h3 := hf.ok.ik
  have h4 := hf.ok.rk
  have h5 := goingTo_length N N.regs.length
  unfold goingL at h1
  omega
/-! what goes out, and what registers take -/
def outTo (N : Nt) (m : Nat) : Nt := { name := N.name, g := (copyN N).1, inb := inRows 1 N.inb, regs := openRegs (1 + inMany N.inb) (goingL N), outb := (N.outb.take m).map fun b => ⟨b.name, b.lits.map (overL (copyN N).2)⟩ }
theorem outTo_zero (N : Nt) : outTo N 0 = { regTo N N.regs.length with g := (copyN N).1 } := by simp [outTo, regTo, goingL]
theorem outTo_succ (hf : NtFine k N) {m : Nat} {b : Bus} (hb : N.outb[m]? = some b) : addOut (outTo N m) b.name (b.lits.map (overL (copyN N).2)) = (outTo N (m + 1), 0) := by
  obtain ⟨h1, h2⟩ := List.getElem?_eq_some_iff.1 hb
  have hol := hf.ok.ol b (List.mem_of_getElem? hb)
  have hfind : findB (outTo N m).outb b.name = none := by
    apply findB_none_of
    intro c hc e
    obtain ⟨d, hd, rfl⟩ := List.mem_map.1 hc
    exact names_apart hf.no hb d hd e
  have hg : gone (outTo N m).g (b.lits.map (overL (copyN N).2)) = false := by
    rw [gone_false]
    intro x hx
    obtain ⟨y, _, rfl⟩ := List.mem_map.1 hx
    exact over_ok N y
  unfold addOut
  rw [hg, hfind, List.length_map]
  have e1 : ¬ (b.lits.length < 1) := by omega
  have e2 : ¬ (64 < b.lits.length) := by omega
  simp only [hol.2.2.1, e1, e2, Bool.not_true, decide_false, Bool.or_false, Bool.false_eq_true, if_false, Option.isSome_none]
  unfold outTo
  rw [List.take_succ_eq_append_getElem h1, h2, List.map_append]
  rfl
def settTo (N : Nt) (j : Nat) : Nt := { name := N.name, g := (copyN N).1, inb := inRows 1 N.inb, regs := (newRegs (copyN N).2 (1 + inMany N.inb) (goingL N)).take j ++ (openRegs (1 + inMany N.inb) (goingL N)).drop j, outb := N.outb.map fun b => ⟨b.name, b.lits.map (overL (copyN N).2)⟩ }
theorem settTo_zero (N : Nt) : settTo N 0 = outTo N N.outb.length := by simp [settTo, outTo]
theorem settTo_all (N : Nt) : settTo N (goingL N).length = onceN N := by
  unfold settTo onceN
  rw [List.take_of_length_le (by rw [newRegs_length]; exact Nat.le_refl _), List.drop_of_length_le (by rw [openRegs_length]; exact Nat.le_refl _), List.append_nil]
theorem openRegs_get {a : Nat} {l : List Rg} {i : Nat} {r : Rg} (h : l[i]? = some r) : (openRegs a l)[i]? = some ⟨2 * (a + i), 0, 0, r.init⟩ := by
  induction l generalizing a i with
  | nil => simp at h
  | cons c l ih =>
    cases i with
    | zero => simp at h; subst h; rfl
    | succ i =>
      have := ih (a := a + 1) (i := i) (by simpa using h)
      show (openRegs (a + 1) l)[i]? = _
      rw [this, show a + 1 + i = a + (i + 1) by omega]
theorem settTo_len (N : Nt) (j : Nat) (hj : j ≤ (goingL N).length) : (settTo N j).regs.length = (goingL N).length := by
  show ((newRegs (copyN N).2 (1 + inMany N.inb) (goingL N)).take j ++ (openRegs (1 + inMany N.inb) (goingL N)).drop j).length = _
  rw [List.length_append, List.length_take, List.length_drop, newRegs_length, openRegs_length]
  omega
theorem settTo_get (N : Nt) {j i : Nat} {r : Rg} (hj : j ≤ (goingL N).length) (h : (goingL N)[i]? = some r) : (settTo N j).regs[i]? = some (if i < j then ⟨2 * (1 + inMany N.inb + i), overL (copyN N).2 r.d, overL (copyN N).2 r.en, r.init⟩ else ⟨2 * (1 + inMany N.inb + i), 0, 0, r.init⟩) := by
  show (_ ++ _)[i]? = _
  by_cases hi : i < j
  · rw [if_pos hi, List.getElem?_append_left (by rw [List.length_take, newRegs_length]; omega), List.getElem?_take_of_lt hi]
    exact newRegs_get h
  · rw [if_neg hi, List.getElem?_append_right (by rw [List.length_take, newRegs_length]; omega), List.length_take, newRegs_length, Nat.min_eq_left hj, List.getElem?_drop, show j + (i - j) = i by omega]
    exact openRegs_get h
theorem settTo_find (N : Nt) {j : Nat} (h : j < (goingL N).length) : findR (settTo N j).regs (2 * (1 + inMany N.inb + j)) = some j := by
  unfold findR
  rw [List.findIdx?_eq_some_iff_getElem]
  have hg := settTo_get N (j := j) (by omega) (List.getElem?_eq_getElem h)
  obtain ⟨h3, h4⟩ := List.getElem?_eq_some_iff.1 hg
  refine ⟨h3, ?_, fun i hi => ?_⟩
  · rw [h4]; simp
  · have hg2 := settTo_get N (j := j) (i := i) (by omega) (List.getElem?_eq_getElem (show i < (goingL N).length by omega))
    obtain ⟨h5, h6⟩ := List.getElem?_eq_some_iff.1 hg2
    rw [h6, if_pos hi]
    simp only [decide_eq_true_eq]
    omega
theorem settTo_succ (N : Nt) {j : Nat} {r : Rg} (h : (goingL N)[j]? = some r) : setReg (settTo N j) (2 * (1 + inMany N.inb + j)) (overL (copyN N).2 r.d) (overL (copyN N).2 r.en) = (settTo N (j + 1), 0) := by
  obtain ⟨h1, h2⟩ := List.getElem?_eq_some_iff.1 h
  have hlen := settTo_len N j (by omega)
  have hfind : findR (settTo N j).regs (2 * (1 + inMany N.inb + j)) = some j := by
    unfold findR
    rw [List.findIdx?_eq_some_iff_getElem]
    have hg := settTo_get N (j := j) (by omega) h
    obtain ⟨h3, h4⟩ := List.getElem?_eq_some_iff.1 hg
    refine ⟨h3, ?_, fun i hi => ?_⟩
    · rw [h4]; simp
    · have hg2 := settTo_get N (j := j) (i := i) (by omega) (List.getElem?_eq_getElem (show i < (goingL N).length by omega))
      obtain ⟨h5, h6⟩ := List.getElem?_eq_some_iff.1 hg2
      rw [h6, if_pos hi]
      simp only [decide_eq_true_eq]
      omega
  have hgone : gone (settTo N j).g [overL (copyN N).2 r.d, overL (copyN N).2 r.en] = false := by
    rw [gone_false]
    intro x hx
    simp only [List.mem_cons, List.not_mem_nil, or_false] at hx
    rcases hx with rfl | rfl
    · exact over_ok N _
    · exact over_ok N _
  unfold setReg
  rw [hfind]
  simp only
  rw [hgone, if_neg (by simp)]
  congr 1
  have hregs : putR (settTo N j).regs j (overL (copyN N).2 r.d) (overL (copyN N).2 r.en) = (settTo N (j + 1)).regs := by
    apply List.ext_getElem?
    intro i
    unfold putR
    rw [List.getElem?_modify]
    by_cases hi : i < (goingL N).length
    · have a1 := settTo_get N (j := j) (i := i) (by omega) (List.getElem?_eq_getElem hi)
      have a2 := settTo_get N (j := j + 1) (i := i) (by omega) (List.getElem?_eq_getElem hi)
      rw [a1, a2]
      by_cases hij : j = i
      · subst hij
        have e1 : ¬ (j < j) := by omega
        have e2 : j < j + 1 := by omega
        simp [e2, h2]
      · by_cases h3 : i < j
        · have e1 : i < j + 1 := by omega
          simp [hij, h3, e1]
        · have e1 : ¬ i < j + 1 := by omega
          simp [hij, h3, e1]
    · have l1 : (settTo N j).regs[i]? = none := List.getElem?_eq_none_iff.2 (by rw [hlen]; omega)
      have l2 : (settTo N (j + 1)).regs[i]? = none := List.getElem?_eq_none_iff.2 (by rw [settTo_len N (j + 1) (by omega)]; omega)
      rw [l1, l2]; rfl
  show ({ settTo N j with regs := _ } : Nt) = _
  rw [hregs]
  rfl
/-- the copied row: what goes out, then what registers take -/
def rowN (N : Nt) : List Nat := (wantedN N).map (overL (copyN N).2)
def outLits (N : Nt) (m : Nat) : List Nat := (N.outb.take m).flatMap (·.lits)
theorem outLits_next {m : Nat} {b : Bus} (hb : N.outb[m]? = some b) : outLits N (m + 1) = outLits N m ++ b.lits := by
  obtain ⟨h1, h2⟩ := List.getElem?_eq_some_iff.1 hb
  unfold outLits
  rw [List.take_succ_eq_append_getElem h1, List.flatMap_append, h2]
  simp
/-- the rest of the row behind m buses -/
def rowTo (N : Nt) (m : Nat) : List Nat := (rowN N).drop (outLits N m).length
theorem rowTo_zero (N : Nt) : rowTo N 0 = rowN N := by simp [rowTo, outLits]
theorem outLits_pre (N : Nt) (m : Nat) : ∃ r, outsN N = outLits N m ++ r := by
  refine ⟨(N.outb.drop m).flatMap (·.lits), ?_⟩
  unfold outsN outLits
  rw [← List.flatMap_append, List.take_append_drop]
theorem rowTo_head {m : Nat} {b : Bus} (hb : N.outb[m]? = some b) : (rowTo N m).take b.lits.length = b.lits.map (overL (copyN N).2) ∧ (rowTo N m).drop b.lits.length = rowTo N (m + 1) ∧ b.lits.length ≤ (rowTo N m).length := by
  obtain ⟨r, hr⟩ := outLits_pre N (m + 1)
  have e : rowN N = (outLits N m).map (overL (copyN N).2) ++ (b.lits.map (overL (copyN N).2) ++ (r ++ (goingL N).flatMap fun r => [r.d, r.en]).map (overL (copyN N).2)) := by
    unfold rowN wantedN
    rw [hr, outLits_next hb]
    simp
  have e2 : rowTo N m = b.lits.map (overL (copyN N).2) ++ (r ++ (goingL N).flatMap fun r => [r.d, r.en]).map (overL (copyN N).2) := by
    unfold rowTo
    rw [e, List.drop_left' (by simp)]
  refine ⟨?_, ?_, ?_⟩
  · rw [e2, List.take_left' (by simp)]
  · rw [e2, List.drop_left' (by simp)]
    unfold rowTo
    rw [e, outLits_next hb, ← List.append_assoc, List.drop_left' (by simp)]
  · rw [e2, List.length_append, List.length_map]; omega
theorem rowTo_all (N : Nt) : rowTo N N.outb.length = ((goingL N).flatMap fun r => [r.d, r.en]).map (overL (copyN N).2) := by
  have e : outLits N N.outb.length = outsN N := by unfold outLits outsN; rw [List.take_length]
  unfold rowTo rowN wantedN
  rw [e, List.map_append, List.drop_left' (by simp)]
theorem two_get (l : List Rg) (s : List Nat) {j : Nat} {r : Rg} (h : l[j]? = some r) : ((l.flatMap fun r => [r.d, r.en]).map (overL s))[2 * j]? = some (overL s r.d) ∧ ((l.flatMap fun r => [r.d, r.en]).map (overL s))[2 * j + 1]? = some (overL s r.en) := by
  induction l generalizing j with
  | nil => simp at h
  | cons c l ih =>
    cases j with
    | zero => simp at h; subst h; simp
    | succ j =>
      have := ih (j := j) (by simpa using h)
      rw [show 2 * (j + 1) = 2 * j + 1 + 1 by omega]
      simpa using this
end Go.Proofs.YtdmcdhkkbkgnbaaGreat

namespace Go.Proofs.YtdmcdhkkbkgnbaaGreat
open Go.ChangeShapes Go.WideShapes Go.ChangeAt Go.RowKit
open Go.Maps (Keyed)
open Go.WideMaps
set_option linter.unusedVariables false
set_option linter.unusedSimpArgs false

variable {w w' W w0 : World} {p n n' k m s mp gd fb : Nat} {fcs : Array Value} {F R S F' R' F'' R'' : List Nat} {g : Gr} {N M M' : Nt} {φ ψ : Nat → Option Nat} {wl : List Nat}
/-- a map from nodes to literals -/
def sdF (φ : Nat → Option Nat) : Value → Option Value
  | .int .i64 z => if 0 ≤ z then (φ z.toNat).map (fun x => Value.int .u32 (x : Nat)) else none
  | _ => none
theorem sdF_get (φ : Nat → Option Nat) (x : Nat) : sdF φ (.int .i64 (x : Int)) = (φ x).map (fun y => Value.int .u32 (y : Nat)) := by simp [sdF]
theorem sdF_none : (fun _ => none : Value → Option Value) = sdF (fun _ => none) := by
  funext v
  unfold sdF
  split
  · split <;> rfl
  · rfl
theorem sdF_upd (φ : Nat → Option Nat) (x z : Nat) : upd (sdF φ) (.int .i64 (x : Int)) (.int .u32 (z : Nat)) = sdF (fun y => if y = x then some z else φ y) := by
  funext v
  unfold upd
  by_cases h : v = .int .i64 (x : Int)
  · subst h
    rw [if_pos rfl, sdF_get]
    simp
  · rw [if_neg h]
    unfold sdF
    split
    · rename_i y
      split
      · rename_i hy
        show _ = Option.map _ (if y.toNat = x then some z else φ y.toNat)
        rw [if_neg]
        intro e
        apply h
        congr 1
        omega
      · rfl
    · rfl
theorem lit_zero' (w : World) : (zeroValue 61).run Tryz.prog w = .ok (.int .u32 0) w := by kernel_rfl
def SdMap (w : World) (m : Nat) (φ : Nat → Option Nat) : Prop := MapV w Tryz.prog 3 m (sdF φ)
theorem SdMap.look (h : SdMap w m φ) (x : Nat) (hx : x < 4294967296) : (Instr.lookup 97 (.map (some m)) (.int .i64 (x : Int)) false).run Tryz.prog w = .ok (.int .u32 ((φ x).getD 0 : Nat)) w := by
  obtain ⟨kl, hkl⟩ := i64_key x hx
  have h2 := MapV.look h false i64_law Tryz.underlying97 (lit_zero' _) hkl
  rw [sdF_get] at h2
  cases hφ : φ x <;> rw [hφ] at h2 <;> simpa using h2
theorem SdMap.put (h : SdMap w m φ) (x z : Nat) (hx : x < 4294967296) : ∃ w', (Instr.mapUpdate 97 (.map (some m)) (.int .i64 (x : Int)) (.int .u32 (z : Int))).run Tryz.prog w = .ok () w' ∧ SdMap w' m (fun y => if y = x then some z else φ y) ∧ Kept [m] w w' := by
  obtain ⟨kl, hkl⟩ := i64_key x hx
  obtain ⟨w', h1, h2, h3⟩ := MapV.update h i64_law Tryz.underlying97 (val := .int .u32 (z : Int)) hkl
  refine ⟨w', h1, ?_, h3⟩
  have e := sdF_upd φ x z
  unfold SdMap
  rw [← e]
  exact h2
def goesL (N : Nt) : List Bool := (List.range N.regs.length).map (goesB N)
theorem goesL_length (N : Nt) : (goesL N).length = N.regs.length := by simp [goesL]
theorem goesL_get (N : Nt) {j : Nat} (h : j < N.regs.length) : (goesL N)[j]? = some (goesB N j) := by simp [goesL, h]
/-- a block of other things is none of what a netlist writes -/
theorem net_blk {w : World} {n : Nat} {F R : List Nat} {N : Nt} (h : NetAt w n F R N) {b : Nat} {cs : Array Value} {t : TypeId} (hb : w.heap[b]? = some (.cells cs t (0, 0))) (h1 : t ≠ 57) (h2 : t ≠ 139) (h3 : t ≠ 143) (h4 : t ≠ 3) (h5 : t ≠ 60) (h6 : t ≠ 63) : b ∉ F := by
  obtain ⟨p, G, ia, ic, ra, rc, oa, oc, ri, ro, rfl, rfl, hc⟩ := h
  intro hx
  simp only [List.mem_cons, List.mem_append] at hx
  rcases hx with rfl | hx | hx | hx | hx
  · rw [hc.blk] at hb; injection hb with hb; injection hb with _ ht; exact h1 ht.symm
  · exact hc.gr.apart_blk hb h2 h3 h4 hx
  · exact blk_apart hb hc.ib.own h5.symm hx
  · exact blk_apart hb hc.rb h6.symm hx
  · exact blk_apart hb hc.ob.own h5.symm hx
structure SwpAt (w0 w : World) (s n n' mp gd fb : Nat) (fcs : Array Value) (F' R' : List Nat) (N M : Nt) (φ : Nat → Option Nat) (wl : List Nat) : Prop where
  cs : ∃ a c, w.heap[s]? = some (.cells #[.pointer (some ⟨n, 0, none⟩), .pointer (some ⟨n', 0, none⟩), .slice (some ⟨gd, 0, none⟩) N.regs.length N.regs.length, .map (some mp), .slice a wl.length c] 99 (0, 0)) ∧ Own w 61 a wl.length c (nats .u32 wl) ∧ ∀ b ∈ ft a, w0.heap.size ≤ b ∧ b ∉ F' ∧ b ∉ R'
  net : NetAt w n' F' R' M
  pm : SdMap w mp φ
  own : Own w 4 (some ⟨gd, 0, none⟩) N.regs.length N.regs.length (bls (goesL N))
  kept : Kept [] w0 w
  newF : ∀ b ∈ F' ++ R', w0.heap.size ≤ b
  new : ∀ b ∈ [s, mp, gd], w0.heap.size ≤ b ∧ b ∉ F' ∧ b ∉ R'
  fnb : w.heap[fb]? = some (.cells fcs 52 (0, 0))
theorem SwpAt.kept0 (h : SwpAt w0 w s n n' mp gd fb fcs F' R' N M φ wl) (hk : Kept [] w w') : SwpAt w0 w' s n n' mp gd fb fcs F' R' N M φ wl := by
  obtain ⟨a, c, h1, h2, h3⟩ := h.cs
  exact ⟨⟨a, c, hk.heap h1 (by simp), h2.kept0 hk, h3⟩, h.net.kept0 hk, MapV.kept h.pm hk (by simp), h.own.kept0 hk, h.kept.trans hk, h.newF, h.new, hk.heap h.fnb (by simp)⟩
theorem SwpAt.gdb (h : SwpAt w0 w s n n' mp gd fb fcs F' R' N M φ wl) : ∃ cs, w.heap[gd]? = some (.cells cs 4 (0, 0)) := by
  obtain ⟨cur, hc⟩ := h.own.apart (b := gd) (by simp [ft])
  exact ⟨cur, hc⟩
/-- the new netlist, a step further -/
theorem SwpAt.step (h : SwpAt w0 w s n n' mp gd fb fcs F' R' N M φ wl) (hn : NetAt w' n' F'' R'' M') (hs : NStep w w' F' R' F'' R'') : SwpAt w0 w' s n n' mp gd fb fcs F'' R'' N M' φ wl := by
  obtain ⟨a, c, h1, h2, h3⟩ := h.cs
  obtain ⟨cg, hg⟩ := h.gdb
  have hk := hs.st.kept
  have nw := h.new
  have fs := nw s (by simp)
  have fm := nw mp (by simp)
  have fg := nw gd (by simp)
  have lt1 := blk_lt h1
  have lt2 := h.pm.lt
  have lt3 := blk_lt hg
  have ap : ∀ b, b < w.heap.size → b ∉ F' → b ∉ R' → b ∉ F'' ∧ b ∉ R'' := fun b hb hf hr => ⟨fun hx => (hs.st.fresh b hx).elim hf (fun h2 => by omega), fun hx => (hs.rows b hx).elim hr (fun h2 => by omega)⟩
  refine ⟨⟨a, c, hk.heap h1 fs.2.1, h2.kept hk (fun b hb => (h3 b hb).2.1), fun b hb => ⟨(h3 b hb).1, ap b (h2.lt b hb) (h3 b hb).2.1 (h3 b hb).2.2⟩⟩, hn, MapV.kept h.pm hk fm.2.1, h.own.kept hk (fun b hb => by simp [ft] at hb; subst hb; exact fg.2.1), kept_up h.kept hk (fun b hb => h.newF b (List.mem_append_left _ hb)), fun b hb => ?_, fun b hb => ?_, hk.heap h.fnb (net_blk h.net h.fnb (by decide) (by decide) (by decide) (by decide) (by decide) (by decide))⟩
  · rcases List.mem_append.1 hb with hb | hb
    · exact (hs.st.fresh b hb).elim (fun h2 => h.newF b (List.mem_append_left _ h2)) (fun h2 => Nat.le_trans h.kept.size h2)
    · exact (hs.rows b hb).elim (fun h2 => h.newF b (List.mem_append_right _ h2)) (fun h2 => Nat.le_trans h.kept.size h2)
  · have hb0 := nw b hb
    simp only [List.mem_cons, List.not_mem_nil, or_false] at hb
    refine ⟨hb0.1, ap b ?_ hb0.2.1 hb0.2.2⟩
    rcases hb with rfl | rfl | rfl
    · exact lt1
    · exact lt2
    · exact lt3
/-- the map, another -/
theorem SwpAt.setMap (h : SwpAt w0 w s n n' mp gd fb fcs F' R' N M φ wl) (hk : Kept [mp] w w') (hm : SdMap w' mp ψ) : SwpAt w0 w' s n n' mp gd fb fcs F' R' N M ψ wl := by
  obtain ⟨a, c, h1, h2, h3⟩ := h.cs
  obtain ⟨cg, hg⟩ := h.gdb
  have nw := h.new
  have fm := nw mp (by simp)
  refine ⟨⟨a, c, hk.heap h1 (by simpa using h.pm.nocell h1), h2.kept hk (fun b hb hx => ?_), h3⟩, h.net.kept hk (fun b hb hx => ?_) (fun b hb hx => ?_), hm, h.own.kept hk (fun b hb hx => ?_), kept_up h.kept hk (fun b hb => by simp at hb; subst hb; exact fm.1), h.newF, h.new, hk.heap h.fnb (by simpa using h.pm.nocell h.fnb)⟩
  · simp at hx
    subst hx
    obtain ⟨cur, hc⟩ := h2.apart hb
    exact h.pm.nocell hc rfl
  · simp at hx; subst hx; exact fm.2.1 hb
  · simp at hx; subst hx; exact fm.2.2 hb
  · simp at hx
    subst hx
    simp [ft] at hb
    exact h.pm.nocell hg hb.symm
/-- what is wanted, another -/
theorem SwpAt.setWant (h : SwpAt w0 w s n n' mp gd fb fcs F' R' N M φ wl) {a : Option Addr} {c : Nat} {l : List Nat} (ho : Own w 61 a l.length c (nats .u32 l)) (hf : ∀ b ∈ ft a, w0.heap.size ≤ b ∧ b ∉ F' ∧ b ∉ R') :
    SwpAt w0 (w.setCell ⟨s, 4, none⟩ (.slice a l.length c)) s n n' mp gd fb fcs F' R' N M φ l ∧ Kept [s] w (w.setCell ⟨s, 4, none⟩ (.slice a l.length c)) := by
  obtain ⟨a0, c0, h1, h2, h3⟩ := h.cs
  obtain ⟨cg, hg⟩ := h.gdb
  have hk : Kept [s] w (w.setCell ⟨s, 4, none⟩ (.slice a l.length c)) := (Kept.refl [s] w).setCell (p := ⟨s, 4, none⟩) (.inl (by simp)) _
  have nw := h.new
  have fs := nw s (by simp)
  refine ⟨⟨⟨a, c, ?_, ho.kept hk (fun b hb hx => ?_), hf⟩, h.net.kept hk (fun b hb hx => ?_) (fun b hb hx => ?_), MapV.kept h.pm hk ?_, h.own.kept hk (fun b hb hx => ?_), kept_up h.kept hk (fun b hb => by simp at hb; subst hb; exact fs.1), h.newF, h.new, hk.heap h.fnb (by simpa using blk_ne h.fnb h1 (by decide))⟩, hk⟩
  · rw [blk_set h1 4]
    rfl
  · simp at hx
    subst hx
    exact blk_apart h1 ho (by decide) hb
  · simp at hx; subst hx; exact fs.2.1 hb
  · simp at hx; subst hx; exact fs.2.2 hb
  · have := h.pm.nocell h1
    simpa using this.symm
  · simp at hx
    subst hx
    simp [ft] at hb
    subst hb
    exact blk_ne hg h1 (by decide) rfl
/-- what is wanted, gone on with -/
theorem SwpAt.push (h : SwpAt w0 w s n n' mp gd fb fcs F' R' N M φ wl) {a a' : Option Addr} {c c' : Nat} {l : List Nat} (ho : Own w 61 a wl.length c (nats .u32 wl)) (hf : ∀ b ∈ ft a, w0.heap.size ≤ b ∧ b ∉ F' ∧ b ∉ R')
    (hs : Stepped w w' (ft a) (ft a')) (ho' : Own w' 61 a' l.length c' (nats .u32 l)) :
    SwpAt w0 (w'.setCell ⟨s, 4, none⟩ (.slice a' l.length c')) s n n' mp gd fb fcs F' R' N M φ l ∧ Kept (s :: ft a) w (w'.setCell ⟨s, 4, none⟩ (.slice a' l.length c')) := by
  obtain ⟨a0, c0, h1, h2, h3⟩ := h.cs
  obtain ⟨cg, hg⟩ := h.gdb
  have hk1 := hs.kept
  have nw := h.new
  have fs := nw s (by simp)
  have a1 := blk_apart h1 ho (by decide)
  have a4 := blk_apart hg ho (by decide)
  have a5 : mp ∉ ft a := fun hx => by
    obtain ⟨cur, hc⟩ := ho.apart hx
    exact h.pm.nocell hc rfl
  have lt := h.net.lt
  have fr : ∀ b ∈ ft a', w0.heap.size ≤ b ∧ b ∉ F' ∧ b ∉ R' := fun b hb => (hs.fresh b hb).elim (hf b) (fun x => ⟨Nat.le_trans h.kept.size x, fun hx => by have := lt.1 b hx; omega, fun hx => by have := lt.2 b hx; omega⟩)
  have h1' := hk1.heap h1 a1
  have hg' := hk1.heap hg a4
  have pm' : SdMap w' mp φ := MapV.kept h.pm hk1 a5
  have own' := h.own.kept hk1 (fun b hb hx => by simp [ft] at hb; subst hb; exact a4 hx)
  have net' := h.net.kept hk1 (fun b hb hx => (hf b hx).2.1 hb) (fun b hb hx => (hf b hx).2.2 hb)
  have kept' := kept_up h.kept hk1 (fun b hb => (hf b hb).1)
  have hk : Kept [s] w' (w'.setCell ⟨s, 4, none⟩ (.slice a' l.length c')) := (Kept.refl [s] w').setCell (p := ⟨s, 4, none⟩) (.inl (by simp)) _
  refine ⟨⟨⟨a', c', ?_, ho'.kept hk (fun b hb hx => ?_), fr⟩, net'.kept hk (fun b hb hx => ?_) (fun b hb hx => ?_), MapV.kept pm' hk ?_, own'.kept hk (fun b hb hx => ?_), kept_up kept' hk (fun b hb => by simp at hb; subst hb; exact fs.1), h.newF, h.new, hk.heap (hk1.heap h.fnb (blk_apart h.fnb ho (by decide))) (by simpa using blk_ne h.fnb h1 (by decide))⟩, (hk1.more (by simp; exact fun b hb => .inr hb)).trans (hk.more (by simp))⟩
  · rw [blk_set h1' 4]
    rfl
  · simp at hx
    subst hx
    exact blk_apart h1' ho' (by decide) hb
  · simp at hx; subst hx; exact fs.2.1 hb
  · simp at hx; subst hx; exact fs.2.2 hb
  · have := pm'.nocell h1'
    simpa using this.symm
  · simp at hx
    subst hx
    simp [ft] at hb
    subst hb
    exact blk_ne hg' h1' (by decide) rfl
end Go.Proofs.YtdmcdhkkbkgnbaaGreat
