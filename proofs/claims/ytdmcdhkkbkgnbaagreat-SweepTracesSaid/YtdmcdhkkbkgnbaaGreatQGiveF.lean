/-
  Joined: QGiveM, QGiveR, QGiveF.
-/
import Derived.Test.YtdmcdhkkbkgnbaaGreatP35
import Derived.Test.YtdmcdhkkbkgnbaaGreatP40
import Derived.RegionTactic
import Derived.Deep.RegionLaw
namespace Go.Proofs.YtdmcdhkkbkgnbaaGreat
open Go.ChangeShapes Go.WideShapes Go.ChangeAt Go.RowKit
open Go.Maps (Keyed)
open Go.WideMaps
set_option linter.unusedVariables false
set_option linter.unusedSimpArgs false

/-- a map of rows by name -/
def rowF (l : List BR) (key : Value) : Option Value :=
  match key with
  | .string s => (l.find? fun r => decide (r.b.name = s)).map fun r => .slice r.a r.b.lits.length r.c
  | _ => none
/-- a map of what registers take -/
def takeF (l : List Rg) (key : Value) : Option Value :=
  match key with
  | .int .u32 x => (l.find? fun r => decide ((r.q : Int) = x)).map fun r => .agg #[.int .u32 (r.d : Int), .int .u32 (r.en : Int)]
  | _ => none
theorem rowF_snoc {l : List BR} {s : ByteArray} (h : ∀ r ∈ l, r.b.name ≠ s) (row : List Nat) (a : Option Addr) (c : Nat) : upd (rowF l) (.string s) (.slice a row.length c) = rowF (l ++ [⟨⟨s, row⟩, a, c⟩]) := by
  funext key
  by_cases hk : key = .string s
  · subst hk
    rw [upd_same]
    have hn : l.find? (fun r => decide (r.b.name = s)) = none := by
      rw [List.find?_eq_none]
      intro r hr; simpa using h r hr
    simp only [rowF, List.find?_append, hn]
    simp
  · rw [upd_other _ hk]
    cases key <;> try rfl
    rename_i s2
    have hne : ¬ s = s2 := fun e => hk (by rw [e])
    simp only [rowF, List.find?_append]
    simp [hne]
theorem takeF_snoc {l : List Rg} {q : Nat} (h : ∀ r ∈ l, r.q ≠ q) (b : Bool) : upd (takeF l) (.int .u32 (q : Int)) (.agg #[.int .u32 0, .int .u32 0]) = takeF (l ++ [⟨q, 0, 0, b⟩]) := by
  funext key
  by_cases hk : key = .int .u32 (q : Int)
  · subst hk
    rw [upd_same]
    have hn : l.find? (fun r => decide ((r.q : Int) = (q : Int))) = none := by
      rw [List.find?_eq_none]
      intro r hr
      have := h r hr
      simp only [decide_eq_true_eq]
      omega
    simp only [takeF, List.find?_append, hn]
    simp
  · rw [upd_other _ hk]
    cases key <;> try rfl
    rename_i k x
    cases k <;> try rfl
    have hne : ¬ (q : Int) = x := fun e => hk (by rw [e])
    simp only [takeF, List.find?_append]
    simp [hne]
theorem takeF_some {l : List Rg} {q k : Nat} (h : findR l q = some k) : (takeF l (.int .u32 (q : Int))).isSome = true := by
  unfold findR at h
  obtain ⟨hk, h1, h2⟩ := List.findIdx?_eq_some_iff_getElem.1 h
  simp only [takeF, Option.isSome_map, List.find?_isSome]
  exact ⟨l[k], List.getElem_mem hk, by simp at h1; simp [h1]⟩
theorem putR_find (l : List Rg) (q k d en : Nat) (h : findR l q = some k) (x : Int) :
    (putR l k d en).find? (fun r => decide ((r.q : Int) = x)) = if (q : Int) = x then l[k]?.map (fun r => { r with d := d, en := en }) else l.find? (fun r => decide ((r.q : Int) = x)) := by
  induction l generalizing k with
  | nil => simp [findR] at h
  | cons r l ih =>
    unfold findR at h
    rw [List.findIdx?_cons] at h
    by_cases hq : r.q = q
    · simp [hq] at h
      subst h
      simp only [putR, List.modify_zero_cons, List.find?_cons, hq]
      by_cases hx : (q : Int) = x
      · simp [hx, hq]
      · simp [hx]
    · simp [hq] at h
      obtain ⟨j, hj, rfl⟩ := h
      have h2 := ih j hj
      simp only [putR, List.modify_succ_cons, List.find?_cons] at *
      by_cases hx : (q : Int) = x
      · have hr : ¬ (r.q : Int) = x := by omega
        simp [hr, hx] at h2 ⊢
        exact h2
      · by_cases hr : (r.q : Int) = x
        · simp [hr, hx]
        · simp [hr, hx] at h2 ⊢
          exact h2
theorem takeF_put {l : List Rg} {q k : Nat} (h : findR l q = some k) (d en : Nat) : upd (takeF l) (.int .u32 (q : Int)) (.agg #[.int .u32 (d : Int), .int .u32 (en : Int)]) = takeF (putR l k d en) := by
  have hk : k < l.length := (List.findIdx?_eq_some_iff_getElem.1 h).1
  funext key
  by_cases hkey : key = .int .u32 (q : Int)
  · subst hkey
    rw [upd_same]
    simp only [takeF, putR_find l q k d en h]
    simp [List.getElem?_eq_getElem hk]
  · rw [upd_other _ hkey]
    cases key <;> try rfl
    rename_i k' x
    cases k' <;> try rfl
    have hne : ¬ (q : Int) = x := fun e => hkey (by rw [e])
    simp only [takeF, putR_find l q k d en h, if_neg hne]
theorem takeF_get {l : List Rg} (hd : (l.map (·.q)).Nodup) {r : Rg} (hr : r ∈ l) : takeF l (.int .u32 (r.q : Int)) = some (.agg #[.int .u32 (r.d : Int), .int .u32 (r.en : Int)]) := by
  have : l.find? (fun r' => decide ((r'.q : Int) = (r.q : Int))) = some r := by
    induction l with
    | nil => simp at hr
    | cons a l ih =>
      rw [List.map_cons, List.nodup_cons] at hd
      rcases List.mem_cons.1 hr with rfl | hr
      · simp
      · have hne : ¬ (a.q : Int) = (r.q : Int) := fun e => hd.1 (by rw [show a.q = r.q by omega]; exact List.mem_map_of_mem hr)
        rw [List.find?_cons]
        simp only [hne]
        exact ih hd.2 hr
  simp only [takeF, this]
  rfl
theorem rowF_get {l : List BR} {key v : Value} (h : rowF l key = some v) : ∃ r ∈ l, key = .string r.b.name ∧ v = .slice r.a r.b.lits.length r.c := by
  unfold rowF at h
  split at h
  · rename_i s
    rw [Option.map_eq_some_iff] at h
    obtain ⟨r, h1, h2⟩ := h
    have hm := List.mem_of_find?_eq_some h1
    have hp := List.find?_some h1
    exact ⟨r, hm, by simp at hp; rw [hp], h2.symm⟩
  · cases h
theorem findRow_get {rs : List BR} {s : ByteArray} {b : Bus} (hd : (rs.map fun r => r.b.name).Pairwise (· ≠ ·)) (hb : b ∈ rs.map (·.b)) (hs : b.name = s) : ∃ r ∈ rs, findRow rs s = some r ∧ r.b = b := by
  obtain ⟨r, hr, rfl⟩ := List.mem_map.1 hb
  obtain ⟨k, hk, rfl⟩ := List.getElem_of_mem hr
  refine ⟨rs[k], hr, ?_, rfl⟩
  unfold findRow
  rw [← hs, findP_first hd hk]
  simp [List.getElem?_eq_getElem hk]
/-- what a step that succeeds has done -/
theorem did_0 {N : Nt} {s : NStp} (h0 : s.what = 0) (he : (doesN N s).2.2 = 0) :
    1 ≤ s.n ∧ s.n ≤ 64 ∧ (∀ b ∈ N.inb, b.name ≠ s.name) ∧ doesN N s = ({ N with g := inputsG N.g s.n.toNat, inb := N.inb ++ [⟨s.name, rowFrom N.g.nodes.length s.n.toNat⟩] }, rowFrom N.g.nodes.length s.n.toNat, 0) := by
  unfold doesN at *
  rw [if_pos h0] at *
  unfold addIn at *
  split at he
  · simp at he
  · rename_i hc
    split at he
    · simp at he
    · rename_i hf
      simp only [Bool.or_eq_true, decide_eq_true_eq, not_or, Bool.not_eq_true', Bool.not_eq_false] at hc
      refine ⟨by omega, by omega, findB_none (by simpa using hf), ?_⟩
      rw [if_neg (by simp only [Bool.or_eq_true, decide_eq_true_eq, not_or, Bool.not_eq_true', Bool.not_eq_false]; exact hc), if_neg hf]
theorem did_1 {N : Nt} {s : NStp} (h1 : s.what = 1) : doesN N s = ((addReg N (decide (s.n % 2 ≠ 0))).1, [2 * N.g.nodes.length], 0) := by
  unfold doesN
  rw [if_neg (by omega), if_pos h1]
  rfl
theorem did_2 {N : Nt} {s : NStp} (h2 : s.what = 2) (he : (doesN N s).2.2 = 0) : ∃ k, findR N.regs s.a = some k ∧ doesN N s = ({ N with regs := putR N.regs k s.b s.c }, [], 0) := by
  unfold doesN at *
  rw [if_neg (by omega), if_neg (by omega), if_pos h2] at *
  unfold setReg at *
  cases hf : findR N.regs s.a with
  | none => rw [hf] at he; simp at he
  | some k =>
    rw [hf] at he
    simp only at he ⊢
    split at he
    · simp at he
    · rename_i hg
      exact ⟨k, rfl, by rw [if_neg hg]⟩
theorem did_3 {N : Nt} {s : NStp} (h3 : s.what = 3) (he : (doesN N s).2.2 = 0) : (∀ b ∈ N.outb, b.name ≠ s.name) ∧ doesN N s = ({ N with outb := N.outb ++ [⟨s.name, s.lits.take 70⟩] }, [], 0) := by
  unfold doesN at *
  rw [if_neg (by omega), if_neg (by omega), if_neg (by omega), if_pos h3] at *
  unfold addOut at *
  split at he
  · simp at he
  · rename_i hc
    split at he
    · simp at he
    · rename_i hf
      refine ⟨findB_none (by simpa using hf), ?_⟩
      rw [if_neg hc, if_neg hf]
theorem did_4 {N : Nt} {s : NStp} (h0 : s.what ≠ 0) (h1 : s.what ≠ 1) (h2 : s.what ≠ 2) (h3 : s.what ≠ 3) : (doesN N s).1.inb = N.inb ∧ (doesN N s).1.regs = N.regs ∧ (doesN N s).1.outb = N.outb := by
  unfold doesN
  rw [if_neg h0, if_neg h1, if_neg h2, if_neg h3]
  unfold gateN
  repeat' split
  all_goals exact ⟨rfl, rfl, rfl⟩
/-- a step that fails has done nothing to buses and registers -/
theorem did_not {N : Nt} {s : NStp} (he : (doesN N s).2.2 ≠ 0) : (doesN N s).1.inb = N.inb ∧ (doesN N s).1.regs = N.regs ∧ (doesN N s).1.outb = N.outb := by
  unfold doesN at *
  repeat' split at he
  all_goals first
    | exact absurd rfl he
    | skip
  all_goals (repeat (first | rw [if_pos (by assumption)] | rw [if_neg (by assumption)]))
  · unfold addIn at *
    repeat' split at he
    all_goals (repeat (first | rw [if_pos (by assumption)] | rw [if_neg (by assumption)]))
    all_goals first
      | exact ⟨rfl, rfl, rfl⟩
      | exact absurd rfl he
  · unfold setReg at *
    cases hf : findR N.regs s.a with
    | none => exact ⟨rfl, rfl, rfl⟩
    | some k =>
      rw [hf] at he
      simp only at he ⊢
      split at he
      · rename_i hg; rw [if_pos hg]; exact ⟨rfl, rfl, rfl⟩
      · exact absurd rfl he
  · unfold addOut at *
    repeat' split at he
    all_goals (repeat (first | rw [if_pos (by assumption)] | rw [if_neg (by assumption)]))
    all_goals first
      | exact ⟨rfl, rfl, rfl⟩
      | exact absurd rfl he
  all_goals (unfold gateN; split <;> exact ⟨rfl, rfl, rfl⟩)
theorem string_law : Keyed Tryz.prog 9 := Go.Maps.string_keyed Tryz.underlying9
end Go.Proofs.YtdmcdhkkbkgnbaaGreat

namespace Go.Proofs.YtdmcdhkkbkgnbaaGreat
open Go.ChangeShapes Go.WideShapes Go.ChangeAt Go.RowKit
open Go.Maps (Keyed)
open Go.WideMaps
set_option linter.unusedVariables false
set_option linter.unusedSimpArgs false

structure Gives (w wr : World) (n mi mo mt : Nat) (F R : List Nat) (N : Nt) (li lo : List BR) (lr : List Rg) : Prop where
  net : NetAt wr n F R N
  kept : Kept [] w wr
  fF : ∀ b ∈ F, w.heap.size ≤ b
  mm : w.heap.size ≤ mi ∧ w.heap.size ≤ mo ∧ w.heap.size ≤ mt ∧ mi ≠ mo ∧ mi ≠ mt ∧ mo ≠ mt
  mf : mi ∉ F ∧ mo ∉ F ∧ mt ∉ F ∧ mi ∉ R ∧ mo ∉ R ∧ mt ∉ R
  gi : MapG wr Tryz.prog 9 mi (rowF li) li.length
  go : MapG wr Tryz.prog 9 mo (rowF lo) lo.length
  gt : MapG wr Tryz.prog 61 mt (takeF lr) lr.length
  rows : ∀ r ∈ li ++ lo, SlN wr .u32 r.a r.b.lits ∧ ∀ b ∈ ft r.a, b < wr.heap.size ∧ w.heap.size ≤ b ∧ b ∉ F ∧ b ≠ mi ∧ b ≠ mo ∧ b ≠ mt
variable {w wr w1 : World} {n mi mo mt : Nat} {F R F' R' : List Nat} {N N' : Nt} {li lo : List BR} {lr lr' : List Rg}
theorem Gives.step (h : Gives w wr n mi mo mt F R N li lo lr) (hn : NetAt w1 n F' R' N') (hs : NStep wr w1 F R F' R') : Gives w w1 n mi mo mt F' R' N' li lo lr := by
  have hk := hs.st.kept
  have l1 := h.gi.lt
  have l2 := h.go.lt
  have l3 := h.gt.lt
  have nf : ∀ b, b < wr.heap.size → b ∉ F → b ∉ F' := fun b hb hF hx => (hs.st.fresh b hx).elim hF (fun h => by omega)
  have nr : ∀ b, b < wr.heap.size → b ∉ R → b ∉ R' := fun b hb hF hx => (hs.rows b hx).elim hF (fun h => by omega)
  obtain ⟨a1, a2, a3, a4, a5, a6⟩ := h.mf
  obtain ⟨k1, k2⟩ := NStep.up h.kept h.fF hs
  refine ⟨hn, k1, k2, h.mm, ⟨nf _ l1 a1, nf _ l2 a2, nf _ l3 a3, nr _ l1 a4, nr _ l2 a5, nr _ l3 a6⟩, h.gi.kept hk a1, h.go.kept hk a2, h.gt.kept hk a3, fun r hr => ?_⟩
  obtain ⟨r1, r2⟩ := h.rows r hr
  exact ⟨r1.kept hk (fun b hb => (r2 b hb).2.2.1), fun b hb => ⟨Nat.lt_of_lt_of_le (r2 b hb).1 hk.size, (r2 b hb).2.1, nf b (r2 b hb).1 (r2 b hb).2.2.1, (r2 b hb).2.2.2⟩⟩
theorem Gives.keep (h : Gives w wr n mi mo mt F R N li lo lr) (hk : Kept [] wr w1) : Gives w w1 n mi mo mt F R N li lo lr :=
  h.step (h.net.kept0 hk) ((NStep.refl wr F R).keep hk)
theorem Gives.setIn (h : Gives w wr n mi mo mt F R N li lo lr) {s : ByteArray} {row : List Nat} {a : Option Addr} {c : Nat} (hne : ∀ r ∈ li, r.b.name ≠ s)
    (hm : MapG w1 Tryz.prog 9 mi (upd (rowF li) (.string s) (.slice a row.length c)) (if (rowF li (.string s)).isSome then li.length else li.length + 1)) (hk : Kept [mi] wr w1)
    (hrow : SlN wr .u32 a row) (ha : ∀ b ∈ ft a, b < wr.heap.size ∧ w.heap.size ≤ b ∧ b ∉ F ∧ b ≠ mi ∧ b ≠ mo ∧ b ≠ mt) :
    Gives w w1 n mi mo mt F R N (li ++ [⟨⟨s, row⟩, a, c⟩]) lo lr := by
  obtain ⟨m1, m2, m3, m4, m5, m6⟩ := h.mm
  obtain ⟨a1, a2, a3, a4, a5, a6⟩ := h.mf
  have hnone : rowF li (.string s) = none := by
    have hn : li.find? (fun r => decide (r.b.name = s)) = none := by
      rw [List.find?_eq_none]
      intro r hr; simpa using hne r hr
    simp only [rowF, hn]
    rfl
  rw [hnone] at hm
  rw [rowF_snoc hne] at hm
  have hmf : ∀ b, b ≠ mi → b ∉ [mi] := by simp
  refine ⟨h.net.kept hk (fun b hb => by simp; rintro rfl; exact a1 hb) (fun b hb => by simp; rintro rfl; exact a4 hb), kept_up h.kept hk (fun b hb => by simp at hb; subst hb; exact m1), h.fF, h.mm, h.mf, by simpa using hm, h.go.kept hk (hmf _ (Ne.symm m4)), h.gt.kept hk (hmf _ (Ne.symm m5)), fun r hr => ?_⟩
  have hcase : (r ∈ li ++ lo) ∨ r = ⟨⟨s, row⟩, a, c⟩ := by simp at hr ⊢; rcases hr with hr | hr | hr <;> simp [hr]
  rcases hcase with hr | rfl
  · obtain ⟨r1, r2⟩ := h.rows r hr
    exact ⟨r1.kept hk (fun b hb => hmf _ (r2 b hb).2.2.2.1), fun b hb => ⟨Nat.lt_of_lt_of_le (r2 b hb).1 hk.size, (r2 b hb).2⟩⟩
  · exact ⟨hrow.kept hk (fun b hb => hmf _ (ha b hb).2.2.2.1), fun b hb => ⟨Nat.lt_of_lt_of_le (ha b hb).1 hk.size, (ha b hb).2⟩⟩
theorem Gives.setOut (h : Gives w wr n mi mo mt F R N li lo lr) {s : ByteArray} {row : List Nat} {a : Option Addr} {c : Nat} (hne : ∀ r ∈ lo, r.b.name ≠ s)
    (hm : MapG w1 Tryz.prog 9 mo (upd (rowF lo) (.string s) (.slice a row.length c)) (if (rowF lo (.string s)).isSome then lo.length else lo.length + 1)) (hk : Kept [mo] wr w1)
    (hrow : SlN wr .u32 a row) (ha : ∀ b ∈ ft a, b < wr.heap.size ∧ w.heap.size ≤ b ∧ b ∉ F ∧ b ≠ mi ∧ b ≠ mo ∧ b ≠ mt) :
    Gives w w1 n mi mo mt F R N li (lo ++ [⟨⟨s, row⟩, a, c⟩]) lr := by
  obtain ⟨m1, m2, m3, m4, m5, m6⟩ := h.mm
  obtain ⟨a1, a2, a3, a4, a5, a6⟩ := h.mf
  have hnone : rowF lo (.string s) = none := by
    have hn : lo.find? (fun r => decide (r.b.name = s)) = none := by
      rw [List.find?_eq_none]
      intro r hr; simpa using hne r hr
    simp only [rowF, hn]
    rfl
  rw [hnone] at hm
  rw [rowF_snoc hne] at hm
  have hmf : ∀ b, b ≠ mo → b ∉ [mo] := by simp
  refine ⟨h.net.kept hk (fun b hb => by simp; rintro rfl; exact a2 hb) (fun b hb => by simp; rintro rfl; exact a5 hb), kept_up h.kept hk (fun b hb => by simp at hb; subst hb; exact m2), h.fF, h.mm, h.mf, h.gi.kept hk (hmf _ m4), by simpa using hm, h.gt.kept hk (hmf _ (Ne.symm m6)), fun r hr => ?_⟩
  have hcase : (r ∈ li ++ lo) ∨ r = ⟨⟨s, row⟩, a, c⟩ := by simp at hr ⊢; rcases hr with hr | hr | hr <;> simp [hr]
  rcases hcase with hr | rfl
  · obtain ⟨r1, r2⟩ := h.rows r hr
    exact ⟨r1.kept hk (fun b hb => hmf _ (r2 b hb).2.2.2.2.1), fun b hb => ⟨Nat.lt_of_lt_of_le (r2 b hb).1 hk.size, (r2 b hb).2⟩⟩
  · exact ⟨hrow.kept hk (fun b hb => hmf _ (ha b hb).2.2.2.2.1), fun b hb => ⟨Nat.lt_of_lt_of_le (ha b hb).1 hk.size, (ha b hb).2⟩⟩
theorem Gives.setT (h : Gives w wr n mi mo mt F R N li lo lr) (hm : MapG w1 Tryz.prog 61 mt (takeF lr') lr'.length) (hk : Kept [mt] wr w1) : Gives w w1 n mi mo mt F R N li lo lr' := by
  obtain ⟨m1, m2, m3, m4, m5, m6⟩ := h.mm
  obtain ⟨a1, a2, a3, a4, a5, a6⟩ := h.mf
  have hmf : ∀ b, b ≠ mt → b ∉ [mt] := by simp
  refine ⟨h.net.kept hk (fun b hb => by simp; rintro rfl; exact a3 hb) (fun b hb => by simp; rintro rfl; exact a6 hb), kept_up h.kept hk (fun b hb => by simp at hb; subst hb; exact m3), h.fF, h.mm, h.mf, h.gi.kept hk (hmf _ m5), h.go.kept hk (hmf _ m6), hm, fun r hr => ?_⟩
  obtain ⟨r1, r2⟩ := h.rows r hr
  exact ⟨r1.kept hk (fun b hb => hmf _ (r2 b hb).2.2.2.2.2), fun b hb => ⟨Nat.lt_of_lt_of_le (r2 b hb).1 hk.size, (r2 b hb).2⟩⟩
theorem NetAt.graphAt (h : NetAt w n F R N) : ∃ p G, w.cell? ⟨n, 0, none⟩ = some (.pointer (some ⟨p, 0, none⟩)) ∧ GraphAt w p G N.g := by
  obtain ⟨p, G, ia, ic, ra, rc, oa, oc, ri, ro, rfl, rfl, hc⟩ := h
  exact ⟨p, G, hc.c0, hc.gr⟩
def GiveRel (w wr : World) (n mi mo mt len : Nat) (v : Value) : Prop :=
  ∃ (k : Nat) (F R : List Nat) (N : Nt) (li lo : List BR), k ≤ 60 ∧ k ≤ len ∧ v = .int .i64 k ∧ Gives w wr n mi mo mt F R N li lo N.regs ∧ li.map (·.b) = N.inb ∧ lo.map (·.b) = N.outb ∧ NtFine k N
theorem Gives.start (w1 : World) {w : World} {n : Nat} {F : List Nat} {N : Nt} (hn : NetAt w1 n F [] N) (hk : Kept [] w w1) (hf : ∀ b ∈ F, w.heap.size ≤ b) :
    Gives w (((w1.alloc (.map #[] 0)).alloc (.map #[] 0)).alloc (.map #[] 0)) n w1.heap.size (w1.heap.size + 1) (w1.heap.size + 1 + 1) F [] N [] [] [] := by
  have k1 : Kept [] w1 (w1.alloc (.map #[] 0)) := (Kept.refl [] w1).alloc _
  have k2 : Kept [] (w1.alloc (.map #[] 0)) ((w1.alloc (.map #[] 0)).alloc (.map #[] 0)) := (Kept.refl [] _).alloc _
  have k3 : Kept [] ((w1.alloc (.map #[] 0)).alloc (.map #[] 0)) (((w1.alloc (.map #[] 0)).alloc (.map #[] 0)).alloc (.map #[] 0)) := (Kept.refl [] _).alloc _
  have e0 : rowF [] = fun _ => none := by funext key; cases key <;> rfl
  have e1 : takeF [] = fun _ => none := by funext key; cases key <;> try rfl
                                           rename_i k x; cases k <;> rfl
  have m1 := MapG.new w1 Tryz.prog 9
  have m2 := MapG.new (w1.alloc (.map #[] 0)) Tryz.prog 9
  have m3 := MapG.new ((w1.alloc (.map #[] 0)).alloc (.map #[] 0)) Tryz.prog 61
  rw [← e0] at m1 m2
  rw [← e1] at m3
  simp only [World.size_alloc] at m2 m3
  have lt := hn.lt
  have hs := hk.size
  refine ⟨((hn.kept0 k1).kept0 k2).kept0 k3, ((hk.trans k1).trans k2).trans k3, hf, ⟨hs, by omega, by omega, by omega, by omega, by omega⟩, ⟨fun h => ?_, fun h => ?_, fun h => ?_, by simp, by simp, by simp⟩, (m1.kept k2 (by simp)).kept k3 (by simp), m2.kept k3 (by simp), m3, by simp⟩
  all_goals (have := lt.1 _ h; omega)
theorem step_updG {P : Program} {w : World} {ops : Array Oper} {o : Oper} {act : Act} {K' : Act → World → Prop} {Q : Exit → Act → World → Prop} {E : Prop} {k : TypeId} {m c : Nat} {f : Value → Option Value} {mo x y : Operand} {t e : TypeId} {key val : Value}
    (hgd : o.guard = none) (hop : o.op = Op.mapUpdate t mo x y) (KK : Keyed P k) (ht : P.underlying t = some (.map k e)) (hm : act.eval mo = .map (some m)) (hx : act.eval x = key) (hy : act.eval y = val) (hown : MapG w P k m f c) (hkey : ∃ kl, keyOf P k key = some kl)
    (h : ∀ w', MapG w' P k m (upd f key val) (if (f key).isSome then c else c + 1) → Kept [m] w w' → K' (act.put o.dst undef) w') :
    if Region.wanted o (yielded ops act.tmps) = true then Oper.wp P o act w K' Q else E := by
  rw [if_pos (by simp [Region.wanted, hgd])]
  obtain ⟨kl, hkl⟩ := hkey
  obtain ⟨w', hrun, r1, r2⟩ := hown.update KK ht (val := val) hkl
  unfold Oper.wp
  simp [execOp, hop, hm, hx, hy, hrun, Result.andThen]
  exact h _ r1 r2
theorem string_key (s : ByteArray) (h : s.size ≤ 140737488351232) : ∃ kl, keyOf Tryz.prog 9 (.string s) = some kl :=
  ⟨_, keyOf_string_mk Tryz.underlying9 (by unfold maxLen; omega)⟩
end Go.Proofs.YtdmcdhkkbkgnbaaGreat

namespace Go.Proofs.YtdmcdhkkbkgnbaaGreat
open Go.ChangeShapes Go.WideShapes Go.ChangeAt Go.RowKit
open Go.Maps (Keyed)
open Go.WideMaps
set_option linter.unusedVariables false
set_option linter.unusedSimpArgs false

variable {w wr w1 : World} {n mi mo mt : Nat} {F R F' R' : List Nat} {N N' : Nt} {li lo : List BR} {lr lr' : List Rg}
structure Far (w : World) (F R : List Nat) (mi mo mt : Nat) (li lo : List BR) (r : Nat) : Prop where
  old : w.heap.size ≤ r
  nf : r ∉ F
  nr : r ∉ R
  ni : r ≠ mi
  no : r ≠ mo
  nt : r ≠ mt
  rows : ∀ x ∈ li ++ lo, r ∉ ft x.a
theorem Gives.mkFar (h : Gives w wr n mi mo mt F R N li lo lr) : Far w F R mi mo mt li lo wr.heap.size := by
  have lt := h.net.lt
  have l1 := h.gi.lt
  have l2 := h.go.lt
  have l3 := h.gt.lt
  refine ⟨h.kept.size, fun hx => ?_, fun hx => ?_, by omega, by omega, by omega, fun x hx hb => ?_⟩
  · have := lt.1 _ hx; omega
  · have := lt.2 _ hx; omega
  · have := ((h.rows x hx).2 _ hb).1; omega
theorem Gives.far (h : Gives w wr n mi mo mt F R N li lo lr) {r : Nat} (hr : Far w F R mi mo mt li lo r) (hk : Kept [r] wr w1) : Gives w w1 n mi mo mt F R N li lo lr := by
  have nf : ∀ b, b ≠ r → b ∉ [r] := by simp
  refine ⟨h.net.kept hk (fun b hb => nf _ (fun e => hr.nf (e ▸ hb))) (fun b hb => nf _ (fun e => hr.nr (e ▸ hb))), kept_up h.kept hk (fun b hb => by simp at hb; subst hb; exact hr.old), h.fF, h.mm, h.mf, h.gi.kept hk (nf _ (Ne.symm hr.ni)), h.go.kept hk (nf _ (Ne.symm hr.no)), h.gt.kept hk (nf _ (Ne.symm hr.nt)), fun x hx => ?_⟩
  obtain ⟨r1, r2⟩ := h.rows x hx
  exact ⟨r1.kept hk (fun b hb => nf _ (fun e => hr.rows x hx (e ▸ hb))), fun b hb => ⟨Nat.lt_of_lt_of_le (r2 b hb).1 hk.size, (r2 b hb).2⟩⟩
def FoundPost (b : Bus) (w : World) (e : Ending) (w' : World) : Prop := ∃ a c, e = .returned (.tuple #[.slice a b.lits.length c, .bool true]) ∧ Own w' 61 a b.lits.length c (nats .u32 b.lits) ∧ Stepped w w' [] (ft a)
theorem NetAt.regs (h : NetAt w n F R N) : ∃ ra rc, w.cell? ⟨n, 3, none⟩ = some (.slice ra N.regs.length rc) ∧ SlR w ra N.regs := by
  obtain ⟨p, G, ia, ic, ra, rc, oa, oc, ri, ro, rfl, rfl, hc⟩ := h
  exact ⟨ra, rc, hc.c3, regs_sl rfl hc.rb⟩
theorem NetAt.buses (h : NetAt w n F R N) : ∃ ia ic oa oc, w.cell? ⟨n, 2, none⟩ = some (.slice ia N.inb.length ic) ∧ w.cell? ⟨n, 4, none⟩ = some (.slice oa N.outb.length oc) := by
  obtain ⟨p, G, ia, ic, ra, rc, oa, oc, ri, ro, rfl, rfl, hc⟩ := h
  exact ⟨ia, ic, oa, oc, hc.c2, hc.c4⟩
theorem lit_size (w : World) : (sizeOf 61).run Tryz.prog w = .ok 1 w := by kernel_rfl
theorem two_eq (w : World) (y z : Int) : (Op.equalIn 10000 142 (.agg #[.int .u32 y, .int .u32 z]) (.agg #[.int .u32 y, .int .u32 z])).run Tryz.prog w = .ok true w := by
  have ht : Tryz.prog.underlying 142 = some (.array 2 61) := by kernel_rfl
  have he := Tryz.underlying61
  have pe : ∀ x : Int, (Op.equalIn 9999 61 (.int .u32 x) (.int .u32 x)).run Tryz.prog w = .ok true w := fun x => by
    rw [run_equalIn_int w 9998 _ .u32 .u32 _ _ he]
    simp
  have p1 : ∀ a b : Int, (part 61 #[.int .u32 a, .int .u32 b] 0).run Tryz.prog w = .ok (.int .u32 a) w := fun a b => by simp [part, isAgg, run_underlying he]
  have p2 : ∀ a b : Int, (part 61 #[.int .u32 a, .int .u32 b] 1).run Tryz.prog w = .ok (.int .u32 b) w := fun a b => by simp [part, isAgg, run_underlying he]
  rw [show (10000 : Nat) = 9999 + 1 from rfl, Op.equalIn]
  simp only [Sem.run_bind, run_underlying ht, Result.andThen_ok, lit_size, Std.Legacy.Range.forIn_eq_forIn_range', Std.Legacy.Range.size, Nat.sub_zero, Nat.add_sub_cancel, Nat.div_one]
  simp [List.range', p1, p2, pe]
end Go.Proofs.YtdmcdhkkbkgnbaaGreat
