/-
  Law 10: EmitOnce, plain: a netlist's lines as records; what the law's loop counts.
-/
import Derived.Test.YtnjoklcddodfeaaGreatDoorQEmOnQ
import Derived.Test.YtnjoklcddodfeaaGreatDoorP24
import Derived.Maps.StringElems
namespace Go.Proofs.YtnjoklcddodfeaaGreatDoor
open Go.ChangeShapes Go.WideShapes Go.ChangeAt Go.RowKit
open Go.Maps (Keyed)
set_option linter.unusedVariables false
set_option linter.unusedSimpArgs false

variable {k : Nat} {N : Nt}
/-- a line: which, its name, its numbers -/
structure Rec where
  kd : Nat
  name : List UInt8
  nums : List Nat
def wordK : Nat → List UInt8
  | 0 => wModel
  | 1 => wInput
  | 2 => wLatch
  | 3 => wAnd
  | 4 => wOutput
  | _ => wEnd
def recL (r : Rec) : List UInt8 := lineB (wordK r.kd) r.name r.nums
def recsG (g : Gr) (n : Nat) : List Rec := (List.range n).filterMap fun k => (gateAt g k).map fun p => ⟨3, [], [2 * k, p.1, p.2]⟩
def recIn (b : Bus) : Rec := ⟨1, bytesL b.name, b.lits⟩
def recOut (b : Bus) : Rec := ⟨4, bytesL b.name, b.lits⟩
def recReg (r : Rg) : Rec := ⟨2, [], [r.q, r.d, r.en, if r.init then 1 else 0]⟩
def recsN (N : Nt) : List Rec := ⟨0, bytesL N.name, []⟩ :: (N.inb.map recIn ++ (N.regs.map recReg ++ (recsG N.g N.g.nodes.length ++ (N.outb.map recOut ++ [⟨5, [], []⟩]))))
theorem recs_body (N : Nt) : (recsN N).map recL = bodyL N := by
  unfold recsN bodyL
  simp only [List.map_cons, List.map_append, List.map_map, List.map_nil]
  have h : (recsG N.g N.g.nodes.length).map recL = gatesL N.g N.g.nodes.length := by
    unfold recsG gatesL
    rw [List.map_filterMap]
    congr 1
    funext j
    cases gateAt N.g j <;> rfl
  rw [h]
  rfl
theorem recs_len (N : Nt) : (recsN N).length = (bodyL N).length := by rw [← recs_body, List.length_map]
/-- what a line drives -/
def drvR (r : Rec) : List Nat := if r.kd = 1 then r.nums else if r.kd = 2 ∨ r.kd = 3 then r.nums.take 1 else []
def drvs (l : List Rec) : List Nat := l.flatMap drvR
theorem drvs_app (l m : List Rec) : drvs (l ++ m) = drvs l ++ drvs m := by simp [drvs]
theorem drvs_in (l : List Bus) : drvs (l.map recIn) = l.flatMap (·.lits) := by
  induction l with
  | nil => rfl
  | cons b l ih => simp only [List.map_cons, drvs, List.flatMap_cons] at ih ⊢; rw [ih]; rfl
theorem drvs_out (l : List Bus) : drvs (l.map recOut) = [] := by
  induction l with
  | nil => rfl
  | cons b l ih => simp only [List.map_cons, drvs, List.flatMap_cons] at ih ⊢; rw [ih]; rfl
theorem drvs_reg (l : List Rg) : drvs (l.map recReg) = l.map (·.q) := by
  induction l with
  | nil => rfl
  | cons b l ih => simp only [List.map_cons, drvs, List.flatMap_cons] at ih ⊢; rw [ih]; rfl
theorem recsG_succ (g : Gr) (n : Nat) : recsG g (n + 1) = recsG g n ++ (match gateAt g n with
    | some p => [⟨3, [], [2 * n, p.1, p.2]⟩]
    | none => []) := by
  unfold recsG
  rw [List.range_succ, List.filterMap_append]
  congr 1
  cases h : gateAt g n <;> simp [h]
theorem drvs_g (g : Gr) (n : Nat) : drvs (recsG g n) = gnum g n := by
  induction n with
  | zero => rfl
  | succ n ih =>
    rw [recsG_succ, gnum_succ, drvs_app, ih]
    cases h : gateAt g n <;> rfl
theorem drvs_N (N : Nt) : drvs (recsN N) = drivenN N ++ gnum N.g N.g.nodes.length := by
  unfold recsN
  rw [show ∀ (r : Rec) (l : List Rec), r :: l = [r] ++ l from fun _ _ => rfl]
  rw [drvs_app, drvs_app, drvs_app, drvs_app, drvs_app, drvs_in, drvs_reg, drvs_g, drvs_out]
  show [] ++ (_ ++ (_ ++ (_ ++ ([] ++ [])))) = _
  unfold drivenN
  simp
/-- how many lines begin with a word -/
def manyR (l : List Rec) (s : List UInt8) : Nat := l.countP fun r => wordK r.kd == s
theorem manyR_app (l m : List Rec) (s : List UInt8) : manyR (l ++ m) s = manyR l s + manyR m s := by unfold manyR; rw [List.countP_append]
theorem manyR_same (l : List Rec) (s : List UInt8) (h : ∀ r ∈ l, wordK r.kd = s) : manyR l s = l.length := by
  unfold manyR
  rw [List.countP_eq_length]
  intro r hr
  simpa using h r hr
theorem manyR_none (l : List Rec) (s : List UInt8) (h : ∀ r ∈ l, wordK r.kd ≠ s) : manyR l s = 0 := by
  unfold manyR
  rw [List.countP_eq_zero]
  intro r hr
  simpa using h r hr
theorem many_kd (l : List Rec) (c : Nat) (s : List UInt8) (h : ∀ r ∈ l, r.kd = c) : manyR l s = if wordK c = s then l.length else 0 := by
  split
  · rename_i hs
    exact manyR_same l s fun r hr => by rw [h r hr, hs]
  · rename_i hs
    exact manyR_none l s fun r hr => by rw [h r hr]; exact hs
theorem recsG_kd {g : Gr} {n : Nat} {r : Rec} (h : r ∈ recsG g n) : ∃ j p, j < n ∧ gateAt g j = some p ∧ r = ⟨3, [], [2 * j, p.1, p.2]⟩ := by
  unfold recsG at h
  obtain ⟨j, hj, h⟩ := List.mem_filterMap.1 h
  cases hg : gateAt g j with
  | none => rw [hg] at h; cases h
  | some p =>
    rw [hg] at h
    injection h with h
    exact ⟨j, p, List.mem_range.1 hj, hg, h.symm⟩
theorem recsG_len (g : Gr) (n : Nat) : (recsG g n).length = (gnum g n).length := by
  induction n with
  | zero => rfl
  | succ n ih =>
    rw [recsG_succ, gnum_succ, List.length_append, List.length_append, ih]
    cases h : gateAt g n <;> rfl
theorem gnum_len (g : Gr) (hw : WF g.nodes) : ∀ n, n ≤ g.nodes.length → (gnum g n).length + (ins (g.nodes.take n)).length + min n 1 = n := by
  intro n
  induction n with
  | zero => intro _; rfl
  | succ n ih =>
    intro hn
    have h := ih (by omega)
    rw [gnum_succ, List.take_succ_eq_append_getElem (show n < g.nodes.length by omega), ins_snoc, List.length_append, List.length_append, List.length_take, Nat.min_eq_left (show n ≤ g.nodes.length by omega)]
    have hg : gateAt g n = if (g.nodes[n]'(by omega)).1 / 2 = n then none else some (g.nodes[n]'(by omega)) := by
      unfold gateAt
      rw [List.getElem?_eq_getElem (show n < g.nodes.length by omega)]
    by_cases h1 : (g.nodes[n]'(by omega)).1 / 2 = n
    · rw [if_pos h1] at hg
      rw [hg]
      by_cases h0 : n = 0
      · subst h0
        simp [inAt, gnum, ins, insFrom]
      · simp only [Option.isSome_none, inAt, h1, decide_true, Bool.true_and, decide_eq_true_eq]
        rw [if_pos h0]
        simp
        omega
    · rw [if_neg h1] at hg
      rw [hg]
      have h0 : n ≠ 0 ∨ n = 0 := by omega
      simp only [Option.isSome_some, inAt, h1, decide_false, Bool.false_and]
      simp
      rcases h0 with h0 | h0
      · omega
      · subst h0
        exfalso
        have hz := hw.1
        rw [List.getElem?_eq_getElem (show 0 < g.nodes.length by omega)] at hz
        injection hz with hz
        rw [hz] at h1
        exact h1 rfl
theorem gates_len {g : Gr} (hw : WF g.nodes) (h : 1 ≤ g.nodes.length) : ((recsG g g.nodes.length).length : Int) = gatesN g := by
  have h1 := gnum_len g hw g.nodes.length (Nat.le_refl _)
  rw [List.take_length] at h1
  rw [recsG_len]
  unfold gatesN
  omega
theorem many_N (N : Nt) : manyR (recsN N) wModel = 1 ∧ manyR (recsN N) wInput = N.inb.length ∧ manyR (recsN N) wLatch = N.regs.length ∧ manyR (recsN N) wAnd = (recsG N.g N.g.nodes.length).length ∧ manyR (recsN N) wOutput = N.outb.length ∧ manyR (recsN N) wEnd = 1 := by
  have hc : ∀ (r : Rec) (l : List Rec), r :: l = [r] ++ l := fun _ _ => rfl
  have m0 : ∀ s, manyR [⟨0, bytesL N.name, []⟩] s = if wordK 0 = s then 1 else 0 := fun s => many_kd _ 0 s fun r hr => by rw [List.mem_singleton] at hr; rw [hr]
  have m5 : ∀ s, manyR [⟨5, [], []⟩] s = if wordK 5 = s then 1 else 0 := fun s => many_kd _ 5 s fun r hr => by rw [List.mem_singleton] at hr; rw [hr]
  have m1 : ∀ s, manyR (N.inb.map recIn) s = if wordK 1 = s then N.inb.length else 0 := fun s => by
    rw [many_kd _ 1 s fun r hr => by obtain ⟨b, _, rfl⟩ := List.mem_map.1 hr; rfl, List.length_map]
  have m2 : ∀ s, manyR (N.regs.map recReg) s = if wordK 2 = s then N.regs.length else 0 := fun s => by
    rw [many_kd _ 2 s fun r hr => by obtain ⟨b, _, rfl⟩ := List.mem_map.1 hr; rfl, List.length_map]
  have m3 : ∀ s, manyR (recsG N.g N.g.nodes.length) s = if wordK 3 = s then (recsG N.g N.g.nodes.length).length else 0 := fun s =>
    many_kd _ 3 s fun r hr => by obtain ⟨_, _, _, _, rfl⟩ := recsG_kd hr; rfl
  have m4 : ∀ s, manyR (N.outb.map recOut) s = if wordK 4 = s then N.outb.length else 0 := fun s => by
    rw [many_kd _ 4 s fun r hr => by obtain ⟨b, _, rfl⟩ := List.mem_map.1 hr; rfl, List.length_map]
  unfold recsN
  rw [hc]
  simp only [manyR_app, m0, m1, m2, m3, m4, m5]
  refine ⟨?_, ?_, ?_, ?_, ?_, ?_⟩ <;> simp [wordK, wModel, wInput, wLatch, wAnd, wOutput, wEnd]
/-- what each record is -/
structure RecOk (N : Nt) (j : Nat) (r : Rec) : Prop where
  lt : ∀ x ∈ r.nums, x < 4294967296
  few : r.nums.length ≤ 64
  n32 : (32 : UInt8) ∉ r.name
  nlen : r.name.length ≤ 80
  nm : r.name = [] ↔ ¬ (r.kd = 0 ∨ r.kd = 1 ∨ r.kd = 4)
  k0 : r.kd = 0 → j = 0 ∧ r.nums = [] ∧ r.name = bytesL N.name
  k1 : r.kd = 1 → ∃ (i : Nat) (b : Bus), N.inb[i]? = some b ∧ r.name = bytesL b.name ∧ r.nums = b.lits
  k2 : r.kd = 2 → ∃ a b c d, r.nums = [a, b, c, d] ∧ d ≤ 1
  k3 : r.kd = 3 → ∃ a b c, r.nums = [a, b, c] ∧ b < a ∧ c ≤ b
  k4 : r.kd = 4 → ∃ (i : Nat) (b : Bus), N.outb[i]? = some b ∧ r.name = bytesL b.name ∧ r.nums = b.lits
  k5 : r.kd = 5 → j + 1 = (recsN N).length ∧ r.nums = [] ∧ r.name = []
  kd : r.kd ≤ 5
theorem rec_ok (h : NtFine k N) (hk : k ≤ 60) {j : Nat} {r : Rec} (hj : (recsN N)[j]? = some r) : RecOk N j r := by
  have hok := h.ok
  have hlen := (List.getElem?_eq_some_iff.1 hj).1
  cases j with
  | zero =>
    simp only [recsN, List.getElem?_cons_zero, Option.some.injEq] at hj
    subst hj
    have h1 := mayB_len h.nm
    exact ⟨by simp, by simp, name_no32 h.nm, h1, ⟨fun e => absurd e (name_pos h.nm), fun e => by simp at e⟩, fun _ => ⟨rfl, rfl, rfl⟩, fun e => by simp at e, fun e => by simp at e, fun e => by simp at e, fun e => by simp at e, fun e => by simp at e, by simp⟩
  | succ j =>
    have hj0 := hj
    simp only [recsN, List.getElem?_cons_succ] at hj
    have hm := List.mem_of_getElem? hj
    simp only [List.mem_append, List.mem_map, List.mem_singleton] at hm
    rcases hm with ⟨b, hb, rfl⟩ | ⟨g, hg, rfl⟩ | hr | ⟨b, hb, rfl⟩ | rfl
    · obtain ⟨h1, h2, h3, h4⟩ := hok.il b hb
      obtain ⟨i, hi⟩ := List.getElem?_of_mem hb
      refine ⟨fun x hx => ok_lt32 hok (by omega) (h4 x hx), h2, name_no32 h3, mayB_len h3, ⟨fun e => absurd e (name_pos h3), fun e => by simp [recIn] at e⟩, fun e => by simp [recIn] at e, fun _ => ⟨i, b, hi, rfl, rfl⟩, fun e => by simp [recIn] at e, fun e => by simp [recIn] at e, fun e => by simp [recIn] at e, fun e => by simp [recIn] at e, by simp [recIn]⟩
    · obtain ⟨h1, h2, h3⟩ := hok.rl g hg
      refine ⟨fun x hx => ?_, by simp [recReg], by simp [recReg], by simp [recReg], by simp [recReg], fun e => by simp [recReg] at e, fun e => by simp [recReg] at e, fun _ => ⟨_, _, _, _, rfl, by split <;> omega⟩, fun e => by simp [recReg] at e, fun e => by simp [recReg] at e, fun e => by simp [recReg] at e, by simp [recReg]⟩
      simp only [recReg, List.mem_cons, List.not_mem_nil, or_false] at hx
      rcases hx with rfl | rfl | rfl | rfl
      · exact ok_lt32 hok (by omega) h1
      · exact ok_lt32 hok (by omega) h2
      · exact ok_lt32 hok (by omega) h3
      · split <;> omega
    · obtain ⟨i, p, hi, hg, rfl⟩ := recsG_kd hr
      obtain ⟨g1, g2, g3⟩ := gateAt_lt hok.wf hg
      have hl := hok.len
      refine ⟨fun x hx => ?_, by simp, by simp, by simp, by simp, fun e => by simp at e, fun e => by simp at e, fun e => by simp at e, fun _ => ⟨_, _, _, rfl, by omega, g3⟩, fun e => by simp at e, fun e => by simp at e, by simp⟩
      simp only [List.mem_cons, List.not_mem_nil, or_false] at hx
      rcases hx with rfl | rfl | rfl <;> omega
    · obtain ⟨h1, h2, h3, h4⟩ := hok.ol b hb
      obtain ⟨i, hi⟩ := List.getElem?_of_mem hb
      refine ⟨fun x hx => ok_lt32 hok (by omega) (h4 x hx), h2, name_no32 h3, mayB_len h3, ⟨fun e => absurd e (name_pos h3), fun e => by simp [recOut] at e⟩, fun e => by simp [recOut] at e, fun e => by simp [recOut] at e, fun e => by simp [recOut] at e, fun e => by simp [recOut] at e, fun _ => ⟨i, b, hi, rfl, rfl⟩, fun e => by simp [recOut] at e, by simp [recOut]⟩
    · have hl : j + 1 + 1 = (recsN N).length := by
        have e1 : (recsN N)[j + 1]? = some ⟨5, [], []⟩ := hj0
        have hlast : ∀ i, i + 1 < (recsN N).length → (recsN N)[i]? ≠ some ⟨5, [], []⟩ := by
          intro i hi he
          cases i with
          | zero => simp [recsN] at he
          | succ i =>
            simp only [recsN, List.getElem?_cons_succ, List.length_cons] at he hi
            rw [show ∀ (a b c d e : List Rec), a ++ (b ++ (c ++ (d ++ e))) = (a ++ (b ++ (c ++ d))) ++ e from fun a b c d e => by simp] at he hi
            rw [List.getElem?_append_left (by simp only [List.length_append, List.length_singleton] at hi ⊢; omega)] at he
            have hm := List.mem_of_getElem? he
            simp only [List.mem_append, List.mem_map] at hm
            rcases hm with ⟨b, _, h⟩ | ⟨b, _, h⟩ | h | ⟨b, _, h⟩
            · simp [recIn] at h
            · simp [recReg] at h
            · obtain ⟨_, _, _, _, h⟩ := recsG_kd h
              simp at h
            · simp [recOut] at h
        by_cases hh : j + 1 + 1 < (recsN N).length
        · exact absurd e1 (hlast _ hh)
        · omega
      exact ⟨by simp, by simp, by simp, by simp, by simp, fun e => by simp at e, fun e => by simp at e, fun e => by simp at e, fun e => by simp at e, fun e => by simp at e, fun _ => ⟨hl, rfl, rfl⟩, by simp⟩
/-- a line's words -/
def wordsR (r : Rec) : List (List UInt8) := wordK r.kd :: ((if r.name = [] then [] else [r.name]) ++ r.nums.map Lib.decDigits)
theorem wordK_no32 (j : Nat) : (32 : UInt8) ∉ wordK j := by
  match j with
  | 0 => decide
  | 1 => decide
  | 2 => decide
  | 3 => decide
  | 4 => decide
  | (j + 5) => show (32 : UInt8) ∉ wEnd; decide
theorem recL_split {j : Nat} {r : Rec} (h : RecOk N j r) : Lib.split (recL r) [32] = wordsR r := lineB_split _ _ _ (wordK_no32 _) h.n32
/-- keys of 64 bits -/
def u64F (l : List Nat) : Value → Option Value
  | .int .u64 z => if 0 ≤ z ∧ z.toNat ∈ l then some (.int .i64 1) else none
  | _ => none
theorem u64F_get (l : List Nat) (x : Nat) : u64F l (.int .u64 (x : Int)) = if x ∈ l then some (.int .i64 1) else none := by simp [u64F]
theorem u64F_nil : (fun _ => none : Value → Option Value) = u64F [] := by
  funext v
  unfold u64F
  split <;> simp
theorem u64F_upd (l : List Nat) (x : Nat) : upd (u64F l) (.int .u64 (x : Int)) (.int .i64 1) = u64F (l ++ [x]) := by
  funext v
  unfold upd
  by_cases h : v = .int .u64 (x : Int)
  · subst h
    rw [if_pos rfl, u64F_get]
    simp
  · rw [if_neg h]
    unfold u64F
    split
    · rename_i z
      have hz : ¬ (0 ≤ z ∧ z.toNat = x) := fun ⟨h1, h2⟩ => h (by congr 1; omega)
      have : (0 ≤ z ∧ z.toNat ∈ l) ↔ (0 ≤ z ∧ z.toNat ∈ l ++ [x]) := by
        rw [List.mem_append, List.mem_singleton]
        constructor
        · rintro ⟨a, b⟩; exact ⟨a, .inl b⟩
        · rintro ⟨a, b | b⟩
          · exact ⟨a, b⟩
          · exact absurd ⟨a, b⟩ hz
      simp only [this]
    · rfl
/-- keys that are texts -/
def strF (φ : List UInt8 → Nat) : Value → Option Value
  | .string s => if φ s.data.toList = 0 then none else some (.int .i64 (φ s.data.toList : Nat))
  | _ => none
theorem strF_get (φ : List UInt8 → Nat) (s : List UInt8) : (strF φ (.string ⟨s.toArray⟩)).getD (.int .i64 0) = .int .i64 (φ s : Nat) := by
  unfold strF
  show (if φ s = 0 then none else some (Value.int .i64 (φ s : Nat))).getD (Value.int .i64 0) = _
  split
  · rename_i h; rw [h]; rfl
  · rfl
theorem strF_nil : (fun _ => none : Value → Option Value) = strF (manyR []) := by
  funext v
  unfold strF
  split <;> simp [manyR]
theorem strF_upd (l : List Rec) (r : Rec) : upd (strF (manyR l)) (.string ⟨(wordK r.kd).toArray⟩) (.int .i64 ((manyR l (wordK r.kd) : Int) + 1)) = strF (manyR (l ++ [r])) := by
  funext v
  unfold upd
  by_cases h : v = .string ⟨(wordK r.kd).toArray⟩
  · subst h
    rw [if_pos rfl]
    unfold strF
    show _ = if manyR (l ++ [r]) (wordK r.kd) = 0 then none else some (Value.int .i64 (manyR (l ++ [r]) (wordK r.kd) : Nat))
    rw [manyR_app, show manyR [r] (wordK r.kd) = 1 from by simp [manyR], if_neg (by omega)]
    congr 2
  · rw [if_neg h]
    unfold strF
    split
    · rename_i s
      have : manyR (l ++ [r]) s.data.toList = manyR l s.data.toList := by
        rw [manyR_app, manyR_none [r] _ (fun x hx => by
          rw [List.mem_singleton] at hx
          subst hx
          intro e
          apply h
          congr 1
          cases s with | mk d => cases d with | mk d => exact congrArg _ (congrArg _ e.symm))]
        rfl
      rw [this]
    · rfl
end Go.Proofs.YtnjoklcddodfeaaGreatDoor
