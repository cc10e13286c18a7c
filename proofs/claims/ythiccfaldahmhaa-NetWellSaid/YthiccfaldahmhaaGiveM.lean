/-
  NetGives, plain: what the law's maps say; what a step that succeeds has done.
-/
import Derived.Test.YthiccfaldahmhaaNetU
import Derived.Test.YthiccfaldahmhaaNetOpen
namespace Go.Proofs.Ythiccfaldahmhaa
open Go.ChangeShapes Go.WideShapes Go.ChangeAt Go.RowKit
open Go.Maps (Keyed)
open Go.WideMaps
set_option linter.unusedVariables false
set_option linter.unusedSimpArgs false

/-- a map of rows by name -/
def rowF (l : List BR) (key : Value) : Option Value :=
  match key with
  | .string s => (l.find? fun r => decide (r.b.name = s)).map fun r => .slice r.a r.b.lits.length r.c
  | _ => none
/-- a map of what registers take -/
def takeF (l : List Rg) (key : Value) : Option Value :=
  match key with
  | .int .u32 x => (l.find? fun r => decide ((r.q : Int) = x)).map fun r => .agg #[.int .u32 (r.d : Int), .int .u32 (r.en : Int)]
  | _ => none
theorem rowF_snoc {l : List BR} {s : ByteArray} (h : ∀ r ∈ l, r.b.name ≠ s) (row : List Nat) (a : Option Addr) (c : Nat) : upd (rowF l) (.string s) (.slice a row.length c) = rowF (l ++ [⟨⟨s, row⟩, a, c⟩]) := by
  funext key
  by_cases hk : key = .string s
  · subst hk
    rw [upd_same]
    have hn : l.find? (fun r => decide (r.b.name = s)) = none := by
      rw [List.find?_eq_none]
      intro r hr; simpa using h r hr
    simp only [rowF, List.find?_append, hn]
    simp
  · rw [upd_other _ hk]
    cases key <;> try rfl
    rename_i s2
    have hne : ¬ s = s2 := fun e => hk (by rw [e])
    simp only [rowF, List.find?_append]
    simp [hne]
theorem takeF_snoc {l : List Rg} {q : Nat} (h : ∀ r ∈ l, r.q ≠ q) (b : Bool) : upd (takeF l) (.int .u32 (q : Int)) (.agg #[.int .u32 0, .int .u32 0]) = takeF (l ++ [⟨q, 0, 0, b⟩]) := by
  funext key
  by_cases hk : key = .int .u32 (q : Int)
  · subst hk
    rw [upd_same]
    have hn : l.find? (fun r => decide ((r.q : Int) = (q : Int))) = none := by
      rw [List.find?_eq_none]
      intro r hr
      have := h r hr
      simp only [decide_eq_true_eq]
      omega
    simp only [takeF, List.find?_append, hn]
    simp
  · rw [upd_other _ hk]
    cases key <;> try rfl
    rename_i k x
    cases k <;> try rfl
    have hne : ¬ (q : Int) = x := fun e => hk (by rw [e])
    simp only [takeF, List.find?_append]
    simp [hne]
theorem takeF_some {l : List Rg} {q k : Nat} (h : findR l q = some k) : (takeF l (.int .u32 (q : Int))).isSome = true := by
  unfold findR at h
  obtain ⟨hk, h1, h2⟩ := List.findIdx?_eq_some_iff_getElem.1 h
  simp only [takeF, Option.isSome_map, List.find?_isSome]
  exact ⟨l[k], List.getElem_mem hk, by simp at h1; simp [h1]⟩
theorem putR_find (l : List Rg) (q k d en : Nat) (h : findR l q = some k) (x : Int) :
    (putR l k d en).find? (fun r => decide ((r.q : Int) = x)) = if (q : Int) = x then l[k]?.map (fun r => { r with d := d, en := en }) else l.find? (fun r => decide ((r.q : Int) = x)) := by
  induction l generalizing k with
  | nil => simp [findR] at h
  | cons r l ih =>
    unfold findR at h
    rw [List.findIdx?_cons] at h
    by_cases hq : r.q = q
    · simp [hq] at h
      subst h
      simp only [putR, List.modify_zero_cons, List.find?_cons, hq]
      by_cases hx : (q : Int) = x
      · simp [hx, hq]
      · simp [hx]
    · simp [hq] at h
      obtain ⟨j, hj, rfl⟩ := h
      have h2 := ih j hj
      simp only [putR, List.modify_succ_cons, List.find?_cons] at *
      by_cases hx : (q : Int) = x
      · have hr : ¬ (r.q : Int) = x := by omega
        simp [hr, hx] at h2 ⊢
        exact h2
      · by_cases hr : (r.q : Int) = x
        · simp [hr, hx]
        · simp [hr, hx] at h2 ⊢
          exact h2
theorem takeF_put {l : List Rg} {q k : Nat} (h : findR l q = some k) (d en : Nat) : upd (takeF l) (.int .u32 (q : Int)) (.agg #[.int .u32 (d : Int), .int .u32 (en : Int)]) = takeF (putR l k d en) := by
  have hk : k < l.length := (List.findIdx?_eq_some_iff_getElem.1 h).1
  funext key
  by_cases hkey : key = .int .u32 (q : Int)
  · subst hkey
    rw [upd_same]
    simp only [takeF, putR_find l q k d en h]
    simp [List.getElem?_eq_getElem hk]
  · rw [upd_other _ hkey]
    cases key <;> try rfl
    rename_i k' x
    cases k' <;> try rfl
    have hne : ¬ (q : Int) = x := fun e => hkey (by rw [e])
    simp only [takeF, putR_find l q k d en h, if_neg hne]
theorem takeF_get {l : List Rg} (hd : (l.map (·.q)).Nodup) {r : Rg} (hr : r ∈ l) : takeF l (.int .u32 (r.q : Int)) = some (.agg #[.int .u32 (r.d : Int), .int .u32 (r.en : Int)]) := by
  have : l.find? (fun r' => decide ((r'.q : Int) = (r.q : Int))) = some r := by
    induction l with
    | nil => simp at hr
    | cons a l ih =>
      rw [List.map_cons, List.nodup_cons] at hd
      rcases List.mem_cons.1 hr with rfl | hr
      · simp
      · have hne : ¬ (a.q : Int) = (r.q : Int) := fun e => hd.1 (by rw [show a.q = r.q by omega]; exact List.mem_map_of_mem hr)
        rw [List.find?_cons]
        simp only [hne]
        exact ih hd.2 hr
  simp only [takeF, this]
  rfl
theorem rowF_get {l : List BR} {key v : Value} (h : rowF l key = some v) : ∃ r ∈ l, key = .string r.b.name ∧ v = .slice r.a r.b.lits.length r.c := by
  unfold rowF at h
  split at h
  · rename_i s
    rw [Option.map_eq_some_iff] at h
    obtain ⟨r, h1, h2⟩ := h
    have hm := List.mem_of_find?_eq_some h1
    have hp := List.find?_some h1
    exact ⟨r, hm, by simp at hp; rw [hp], h2.symm⟩
  · cases h
theorem findRow_get {rs : List BR} {s : ByteArray} {b : Bus} (hd : (rs.map fun r => r.b.name).Pairwise (· ≠ ·)) (hb : b ∈ rs.map (·.b)) (hs : b.name = s) : ∃ r ∈ rs, findRow rs s = some r ∧ r.b = b := by
  obtain ⟨r, hr, rfl⟩ := List.mem_map.1 hb
  obtain ⟨k, hk, rfl⟩ := List.getElem_of_mem hr
  refine ⟨rs[k], hr, ?_, rfl⟩
  unfold findRow
  rw [← hs, findP_first hd hk]
  simp [List.getElem?_eq_getElem hk]
/-- what a step that succeeds has done -/
theorem did_0 {N : Nt} {s : NStp} (h0 : s.what = 0) (he : (doesN N s).2.2 = 0) :
    1 ≤ s.n ∧ s.n ≤ 64 ∧ (∀ b ∈ N.inb, b.name ≠ s.name) ∧ doesN N s = ({ N with g := inputsG N.g s.n.toNat, inb := N.inb ++ [⟨s.name, rowFrom N.g.nodes.length s.n.toNat⟩] }, rowFrom N.g.nodes.length s.n.toNat, 0) := by
  unfold doesN at *
  rw [if_pos h0] at *
  unfold addIn at *
  split at he
  · simp at he
  · rename_i hc
    split at he
    · simp at he
    · rename_i hf
      simp only [Bool.or_eq_true, decide_eq_true_eq, not_or, Bool.not_eq_true', Bool.not_eq_false] at hc
      refine ⟨by omega, by omega, findB_none (by simpa using hf), ?_⟩
      rw [if_neg (by simp only [Bool.or_eq_true, decide_eq_true_eq, not_or, Bool.not_eq_true', Bool.not_eq_false]; exact hc), if_neg hf]
theorem did_1 {N : Nt} {s : NStp} (h1 : s.what = 1) : doesN N s = ((addReg N (decide (s.n % 2 ≠ 0))).1, [2 * N.g.nodes.length], 0) := by
  unfold doesN
  rw [if_neg (by omega), if_pos h1]
  rfl
theorem did_2 {N : Nt} {s : NStp} (h2 : s.what = 2) (he : (doesN N s).2.2 = 0) : ∃ k, findR N.regs s.a = some k ∧ doesN N s = ({ N with regs := putR N.regs k s.b s.c }, [], 0) := by
  unfold doesN at *
  rw [if_neg (by omega), if_neg (by omega), if_pos h2] at *
  unfold setReg at *
  cases hf : findR N.regs s.a with
  | none => rw [hf] at he; simp at he
  | some k =>
    rw [hf] at he
    simp only at he ⊢
    split at he
    · simp at he
    · rename_i hg
      exact ⟨k, rfl, by rw [if_neg hg]⟩
theorem did_3 {N : Nt} {s : NStp} (h3 : s.what = 3) (he : (doesN N s).2.2 = 0) : (∀ b ∈ N.outb, b.name ≠ s.name) ∧ doesN N s = ({ N with outb := N.outb ++ [⟨s.name, s.lits.take 70⟩] }, [], 0) := by
  unfold doesN at *
  rw [if_neg (by omega), if_neg (by omega), if_neg (by omega), if_pos h3] at *
  unfold addOut at *
  split at he
  · simp at he
  · rename_i hc
    split at he
    · simp at he
    · rename_i hf
      refine ⟨findB_none (by simpa using hf), ?_⟩
      rw [if_neg hc, if_neg hf]
theorem did_4 {N : Nt} {s : NStp} (h0 : s.what ≠ 0) (h1 : s.what ≠ 1) (h2 : s.what ≠ 2) (h3 : s.what ≠ 3) : (doesN N s).1.inb = N.inb ∧ (doesN N s).1.regs = N.regs ∧ (doesN N s).1.outb = N.outb := by
  unfold doesN
  rw [if_neg h0, if_neg h1, if_neg h2, if_neg h3]
  unfold gateN
  repeat' split
  all_goals exact ⟨rfl, rfl, rfl⟩
/-- a step that fails has done nothing to buses and registers -/
theorem did_not {N : Nt} {s : NStp} (he : (doesN N s).2.2 ≠ 0) : (doesN N s).1.inb = N.inb ∧ (doesN N s).1.regs = N.regs ∧ (doesN N s).1.outb = N.outb := by
  unfold doesN at *
  repeat' split at he
  all_goals first
    | exact absurd rfl he
    | skip
  all_goals (repeat (first | rw [if_pos (by assumption)] | rw [if_neg (by assumption)]))
  · unfold addIn at *
    repeat' split at he
    all_goals (repeat (first | rw [if_pos (by assumption)] | rw [if_neg (by assumption)]))
    all_goals first
      | exact ⟨rfl, rfl, rfl⟩
      | exact absurd rfl he
  · unfold setReg at *
    cases hf : findR N.regs s.a with
    | none => exact ⟨rfl, rfl, rfl⟩
    | some k =>
      rw [hf] at he
      simp only at he ⊢
      split at he
      · rename_i hg; rw [if_pos hg]; exact ⟨rfl, rfl, rfl⟩
      · exact absurd rfl he
  · unfold addOut at *
    repeat' split at he
    all_goals (repeat (first | rw [if_pos (by assumption)] | rw [if_neg (by assumption)]))
    all_goals first
      | exact ⟨rfl, rfl, rfl⟩
      | exact absurd rfl he
  all_goals (unfold gateN; split <;> exact ⟨rfl, rfl, rfl⟩)
theorem string_law : Keyed Try.prog 9 := Go.Maps.string_keyed Try.underlying9
end Go.Proofs.Ythiccfaldahmhaa
