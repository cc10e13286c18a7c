/-
  NetGives, plain: what the law's maps say; what a step that succeeds has done.
  Law 06's arguments, opened: rows of steps.
  Opening a law's argument: a graph's options.
-/
import Derived.Test.YtielfgngdhcpfaaGreatP26
import Derived.Test.YtielfgngdhcpfaaGreatP20
namespace Go.Proofs.YtielfgngdhcpfaaGreat
open Go.ChangeShapes Go.WideShapes Go.ChangeAt Go.RowKit Go.Deep Go.Joins
set_option linter.unusedVariables false

section
variable {H : Type} {enc : TypeId × Value → H} {W : World} {base : Nat} {v : Value} {d : DataW H} {ps : List MemPlace}
set_option maxRecDepth 100000 in
theorem open_opts (hv : Value.okWide Tryz.prog W .any base 23 v) (h : DataW.Trod enc Tryz.prog W 0 (fun _ => true) true 23 v d ps) (hz : Sized Tryz.prog 23 d) : ∃ a b : Bool, v = .agg #[.bool a, .bool b] :=
  open_bools2 Tryz.underlying23 (by kernel_rfl) (by kernel_rfl) Tryz.underlying4 Tryz.underlying4 hv h
end
end Go.Proofs.YtielfgngdhcpfaaGreat

namespace Go.Proofs.YtielfgngdhcpfaaGreat
open Go.ChangeShapes Go.WideShapes Go.ChangeAt Go.RowKit Go.Deep Go.Joins
set_option linter.unusedVariables false

/-- the cells of a step -/
def StepCells (W : World) (b o : Nat) (s : NStp) (la : Option Addr) (lc : Nat) : Prop :=
  W.cell? ⟨b, o, none⟩ = some (.int .i64 s.what) ∧ W.cell? ⟨b, o + 1, none⟩ = some (.string s.name) ∧ W.cell? ⟨b, o + 2, none⟩ = some (.int .i64 s.n) ∧ W.cell? ⟨b, o + 3, none⟩ = some (.int .u32 (s.a : Int)) ∧
  W.cell? ⟨b, o + 4, none⟩ = some (.int .u32 (s.b : Int)) ∧ W.cell? ⟨b, o + 5, none⟩ = some (.int .u32 (s.c : Int)) ∧ W.cell? ⟨b, o + 6, none⟩ = some (.slice la s.lits.length lc)
/-- steps where they lie -/
def SlNSteps (W : World) (a : Option Addr) (l : List NStp) : Prop :=
  ∀ k, (hk : k < l.length) → ∃ b o, a = some ⟨b, o, none⟩ ∧ ∃ la lc, StepCells W b (o + k * 7) l[k] la lc ∧ SlN W .u32 la l[k].lits
theorem SlNSteps.kept0 {W W' : World} {a : Option Addr} {l : List NStp} (h : SlNSteps W a l) (hk : Kept [] W W') : SlNSteps W' a l := by
  intro k hkl
  obtain ⟨b, o, h1, la, lc, ⟨c0, c1, c2, c3, c4, c5, c6⟩, h3⟩ := h k hkl
  exact ⟨b, o, h1, la, lc, ⟨hk.cell c0 (by simp), hk.cell c1 (by simp), hk.cell c2 (by simp), hk.cell c3 (by simp), hk.cell c4 (by simp), hk.cell c5 (by simp), hk.cell c6 (by simp)⟩, h3.kept0 hk⟩
section
variable {H : Type} {enc : TypeId × Value → H} {W : World} {base : Nat} {v : Value} {d : DataW H} {ps : List MemPlace}
set_option maxRecDepth 100000 in
theorem open_nsteps (hv : Value.okWide Tryz.prog W .any base 24 v) (h : DataW.Trod enc Tryz.prog W 0 (fun _ => true) true 24 v d ps) (hz : Sized Tryz.prog 24 d) :
    ∃ (a : Option Addr) (l : List NStp) (c : Nat), v = .slice a l.length c ∧ l.length ≤ 140737488351232 ∧ SlNSteps W a l ∧ ∀ s ∈ l, s.ok := by
  obtain ⟨a0, len0, cap0, rfl⟩ := okWide_slice Tryz.underlying24 hv
  obtain ⟨fuel, hf⟩ := h
  obtain ⟨a, len, cap, hvv, hlc, hcb, hnil, hat⟩ := open_recs (v := .slice a0 len0 cap0) Tryz.underlying24 Tryz.underlying93 (by kernel_rfl) (by kernel_rfl) hf hz
  injection hvv with h1 h2 h3
  subst h1 h2 h3
  have hb : Tryz.prog.bytesOf 93 = 72 := by kernel_rfl
  rw [hb] at hcb
  obtain ⟨acts, hl, hacts⟩ := choose_list (n := len0) (p := fun k (x : NStp) => (∃ b o, a0 = some ⟨b, o, none⟩ ∧ ∃ la lc, StepCells W b (o + k * 7) x la lc ∧ SlN W .u32 la x.lits) ∧ x.ok) fun i hi => by
    have h00 := hat 0 (by omega)
    obtain ⟨ad, m, rfl, hfields⟩ := hat i hi
    obtain ⟨u0, z0, hc0, ht0, _⟩ := hfields 0 _ rfl
    obtain ⟨u1, z1, hc1, ht1, hz1⟩ := hfields 1 _ rfl
    obtain ⟨u2, z2, hc2, ht2, _⟩ := hfields 2 _ rfl
    obtain ⟨u3, z3, hc3, ht3, _⟩ := hfields 3 _ rfl
    obtain ⟨u4, z4, hc4, ht4, _⟩ := hfields 4 _ rfl
    obtain ⟨u5, z5, hc5, ht5, _⟩ := hfields 5 _ rfl
    obtain ⟨u6, z6, hc6, ht6, hz6⟩ := hfields 6 _ rfl
    obtain ⟨x0, e0, _, f0⟩ := DataW.trod_int Tryz.underlying3 ht0
    obtain ⟨x1, e1, d1, f1⟩ := DataW.trod_string Tryz.underlying9 ht1
    obtain ⟨x2, e2, _, f2⟩ := DataW.trod_int Tryz.underlying3 ht2
    obtain ⟨x3, e3, _, f3⟩ := DataW.trod_int Tryz.underlying58 ht3
    obtain ⟨x4, e4, _, f4⟩ := DataW.trod_int Tryz.underlying58 ht4
    obtain ⟨x5, e5, _, f5⟩ := DataW.trod_int Tryz.underlying58 ht5
    simp at e0 e1 e2 e3 e4 e5
    subst e0 e1 e2 e3 e4 e5
    obtain ⟨x3, rfl, y3⟩ := wf_nat (m := 4294967296) rfl rfl f3
    obtain ⟨x4, rfl, y4⟩ := wf_nat (m := 4294967296) rfl rfl f4
    obtain ⟨x5, rfl, y5⟩ := wf_nat (m := 4294967296) rfl rfl f5
    have fx : -9223372036854775808 ≤ x2 ∧ x2 ≤ 9223372036854775807 := by
      simp [Lit.wf, IntKind.min, IntKind.max, IntKind.signed, IntKind.bits] at f2
      omega
    have hs1 : x1.size ≤ 140737488351232 := by
      have h := hz1 x1.size (by rw [d1]; simp [DataW.weights])
      simpa [reachBytes] using h
    obtain ⟨al, cl, l, rfl, hlcl, hsl, hlm, hnl, hclb⟩ := open_natsT (m := 4294967296) (bytes := 4) Tryz.underlying79 Tryz.underlying58 (by kernel_rfl) (by kernel_rfl) rfl rfl ht6 hz6
    obtain ⟨ad2, m2, e2, hf2⟩ := h00
    injection e2 with e2
    subst e2
    obtain ⟨u7, z7, hc7, _, _⟩ := hf2 0 _ rfl
    obtain ⟨b, o, rfl⟩ := plain_spot (by simpa using hc7)
    rw [add_at] at hc0 hc1 hc2 hc3 hc4 hc5 hc6
    exact ⟨⟨x0, x1, x2, x3, x4, x5, l⟩, ⟨b, o, rfl, al, cl, ⟨hc0, hc1, hc2, hc3, hc4, hc5, hc6⟩, hsl⟩, ⟨hs1, fx.1, fx.2, y3, y4, y5, hlm, by show l.length ≤ _; omega⟩⟩
  refine ⟨a0, acts, cap0, by rw [hl], by omega, fun k hk => (hacts k hk).1, fun s hs => ?_⟩
  obtain ⟨k, hk, rfl⟩ := List.getElem_of_mem hs
  exact (hacts k hk).2
end
end Go.Proofs.YtielfgngdhcpfaaGreat

namespace Go.Proofs.YtielfgngdhcpfaaGreat
open Go.ChangeShapes Go.WideShapes Go.ChangeAt Go.RowKit
open Go.Maps (Keyed)
open Go.WideMaps
set_option linter.unusedVariables false
set_option linter.unusedSimpArgs false

/-- a map of rows by name -/
def rowF (l : List BR) (key : Value) : Option Value :=
  match key with
  | .string s => (l.find? fun r => decide (r.b.name = s)).map fun r => .slice r.a r.b.lits.length r.c
  | _ => none
/-- a map of what registers take -/
def takeF (l : List Rg) (key : Value) : Option Value :=
  match key with
  | .int .u32 x => (l.find? fun r => decide ((r.q : Int) = x)).map fun r => .agg #[.int .u32 (r.d : Int), .int .u32 (r.en : Int)]
  | _ => none
theorem rowF_snoc {l : List BR} {s : ByteArray} (h : ∀ r ∈ l, r.b.name ≠ s) (row : List Nat) (a : Option Addr) (c : Nat) : upd (rowF l) (.string s) (.slice a row.length c) = rowF (l ++ [⟨⟨s, row⟩, a, c⟩]) := by
  funext key
  by_cases hk : key = .string s
  · subst hk
    rw [upd_same]
    have hn : l.find? (fun r => decide (r.b.name = s)) = none := by
      rw [List.find?_eq_none]
      intro r hr; simpa using h r hr
    simp only [rowF, List.find?_append, hn]
    simp
  · rw [upd_other _ hk]
    cases key <;> try rfl
    rename_i s2
    have hne : ¬ s = s2 := fun e => hk (by rw [e])
    simp only [rowF, List.find?_append]
    simp [hne]
theorem takeF_snoc {l : List Rg} {q : Nat} (h : ∀ r ∈ l, r.q ≠ q) (b : Bool) : upd (takeF l) (.int .u32 (q : Int)) (.agg #[.int .u32 0, .int .u32 0]) = takeF (l ++ [⟨q, 0, 0, b⟩]) := by
  funext key
  by_cases hk : key = .int .u32 (q : Int)
  · subst hk
    rw [upd_same]
    have hn : l.find? (fun r => decide ((r.q : Int) = (q : Int))) = none := by
      rw [List.find?_eq_none]
      intro r hr
      have := h r hr
      simp only [decide_eq_true_eq]
      omega
    simp only [takeF, List.find?_append, hn]
    simp
  · rw [upd_other _ hk]
    cases key <;> try rfl
    rename_i k x
    cases k <;> try rfl
    have hne : ¬ (q : Int) = x := fun e => hk (by rw [e])
    simp only [takeF, List.find?_append]
    simp [hne]
theorem takeF_some {l : List Rg} {q k : Nat} (h : findR l q = some k) : (takeF l (.int .u32 (q : Int))).isSome = true := by
  unfold findR at h
  obtain ⟨hk, h1, h2⟩ := List.findIdx?_eq_some_iff_getElem.1 h
  simp only [takeF, Option.isSome_map, List.find?_isSome]
  exact ⟨l[k], List.getElem_mem hk, by simp at h1; simp [h1]⟩
theorem putR_find (l : List Rg) (q k d en : Nat) (h : findR l q = some k) (x : Int) :
    (putR l k d en).find? (fun r => decide ((r.q : Int) = x)) = if (q : Int) = x then l[k]?.map (fun r => { r with d := d, en := en }) else l.find? (fun r => decide ((r.q : Int) = x)) := by
  induction l generalizing k with
  | nil => simp [findR] at h
  | cons r l ih =>
    unfold findR at h
    rw [List.findIdx?_cons] at h
    by_cases hq : r.q = q
    · simp [hq] at h
      subst h
      simp only [putR, List.modify_zero_cons, List.find?_cons, hq]
      by_cases hx : (q : Int) = x
      · simp [hx, hq]
      · simp [hx]
    · simp [hq] at h
      obtain ⟨j, hj, rfl⟩ := h
      have h2 := ih j hj
      simp only [putR, List.modify_succ_cons, List.find?_cons] at *
      by_cases hx : (q : Int) = x
      · have hr : ¬ (r.q : Int) = x := by omega
        simp [hr, hx] at h2 ⊢
        exact h2
      · by_cases hr : (r.q : Int) = x
        · simp [hr, hx]
        · simp [hr, hx] at h2 ⊢
          exact h2
theorem takeF_put {l : List Rg} {q k : Nat} (h : findR l q = some k) (d en : Nat) : upd (takeF l) (.int .u32 (q : Int)) (.agg #[.int .u32 (d : Int), .int .u32 (en : Int)]) = takeF (putR l k d en) := by
  have hk : k < l.length := (List.findIdx?_eq_some_iff_getElem.1 h).1
  funext key
  by_cases hkey : key = .int .u32 (q : Int)
  · subst hkey
    rw [upd_same]
    simp only [takeF, putR_find l q k d en h]
    simp [List.getElem?_eq_getElem hk]
  · rw [upd_other _ hkey]
    cases key <;> try rfl
    rename_i k' x
    cases k' <;> try rfl
    have hne : ¬ (q : Int) = x := fun e => hkey (by rw [e])
    simp only [takeF, putR_find l q k d en h, if_neg hne]
theorem takeF_get {l : List Rg} (hd : (l.map (·.q)).Nodup) {r : Rg} (hr : r ∈ l) : takeF l (.int .u32 (r.q : Int)) = some (.agg #[.int .u32 (r.d : Int), .int .u32 (r.en : Int)]) := by
  have : l.find? (fun r' => decide ((r'.q : Int) = (r.q : Int))) = some r := by
    induction l with
    | nil => simp at hr
    | cons a l ih =>
      rw [List.map_cons, List.nodup_cons] at hd
      rcases List.mem_cons.1 hr with rfl | hr
      · simp
      · have hne : ¬ (a.q : Int) = (r.q : Int) := fun e => hd.1 (by rw [show a.q = r.q by omega]; exact List.mem_map_of_mem hr)
        rw [List.find?_cons]
        simp only [hne]
        exact ih hd.2 hr
  simp only [takeF, this]
  rfl
theorem rowF_get {l : List BR} {key v : Value} (h : rowF l key = some v) : ∃ r ∈ l, key = .string r.b.name ∧ v = .slice r.a r.b.lits.length r.c := by
  unfold rowF at h
  split at h
  · rename_i s
    rw [Option.map_eq_some_iff] at h
    obtain ⟨r, h1, h2⟩ := h
    have hm := List.mem_of_find?_eq_some h1
    have hp := List.find?_some h1
    exact ⟨r, hm, by simp at hp; rw [hp], h2.symm⟩
  · cases h
theorem findRow_get {rs : List BR} {s : ByteArray} {b : Bus} (hd : (rs.map fun r => r.b.name).Pairwise (· ≠ ·)) (hb : b ∈ rs.map (·.b)) (hs : b.name = s) : ∃ r ∈ rs, findRow rs s = some r ∧ r.b = b := by
  obtain ⟨r, hr, rfl⟩ := List.mem_map.1 hb
  obtain ⟨k, hk, rfl⟩ := List.getElem_of_mem hr
  refine ⟨rs[k], hr, ?_, rfl⟩
  unfold findRow
  rw [← hs, findP_first hd hk]
  simp [List.getElem?_eq_getElem hk]
/-- what a step that succeeds has done -/
theorem did_0 {N : Nt} {s : NStp} (h0 : s.what = 0) (he : (doesN N s).2.2 = 0) :
    1 ≤ s.n ∧ s.n ≤ 64 ∧ (∀ b ∈ N.inb, b.name ≠ s.name) ∧ doesN N s = ({ N with g := inputsG N.g s.n.toNat, inb := N.inb ++ [⟨s.name, rowFrom N.g.nodes.length s.n.toNat⟩] }, rowFrom N.g.nodes.length s.n.toNat, 0) := by
  unfold doesN at *
  rw [if_pos h0] at *
  unfold addIn at *
  split at he
  · simp at he
  · rename_i hc
    split at he
    · simp at he
    · rename_i hf
      simp only [Bool.or_eq_true, decide_eq_true_eq, not_or, Bool.not_eq_true', Bool.not_eq_false] at hc
      refine ⟨by omega, by omega, findB_none (by simpa using hf), ?_⟩
      rw [if_neg (by simp only [Bool.or_eq_true, decide_eq_true_eq, not_or, Bool.not_eq_true', Bool.not_eq_false]; exact hc), if_neg hf]
theorem did_1 {N : Nt} {s : NStp} (h1 : s.what = 1) : doesN N s = ((addReg N (decide (s.n % 2 ≠ 0))).1, [2 * N.g.nodes.length], 0) := by
  unfold doesN
  rw [if_neg (by omega), if_pos h1]
  rfl
theorem did_2 {N : Nt} {s : NStp} (h2 : s.what = 2) (he : (doesN N s).2.2 = 0) : ∃ k, findR N.regs s.a = some k ∧ doesN N s = ({ N with regs := putR N.regs k s.b s.c }, [], 0) := by
  unfold doesN at *
  rw [if_neg (by omega), if_neg (by omega), if_pos h2] at *
  unfold setReg at *
  cases hf : findR N.regs s.a with
  | none => rw [hf] at he; simp at he
  | some k =>
    rw [hf] at he
    simp only at he ⊢
    split at he
    · simp at he
    · rename_i hg
      exact ⟨k, rfl, by rw [if_neg hg]⟩
theorem did_3 {N : Nt} {s : NStp} (h3 : s.what = 3) (he : (doesN N s).2.2 = 0) : (∀ b ∈ N.outb, b.name ≠ s.name) ∧ doesN N s = ({ N with outb := N.outb ++ [⟨s.name, s.lits.take 70⟩] }, [], 0) := by
  unfold doesN at *
  rw [if_neg (by omega), if_neg (by omega), if_neg (by omega), if_pos h3] at *
  unfold addOut at *
  split at he
  · simp at he
  · rename_i hc
    split at he
    · simp at he
    · rename_i hf
      refine ⟨findB_none (by simpa using hf), ?_⟩
      rw [if_neg hc, if_neg hf]
theorem did_4 {N : Nt} {s : NStp} (h0 : s.what ≠ 0) (h1 : s.what ≠ 1) (h2 : s.what ≠ 2) (h3 : s.what ≠ 3) : (doesN N s).1.inb = N.inb ∧ (doesN N s).1.regs = N.regs ∧ (doesN N s).1.outb = N.outb := by
  unfold doesN
  rw [if_neg h0, if_neg h1, if_neg h2, if_neg h3]
  unfold gateN
  repeat' split
  all_goals exact ⟨rfl, rfl, rfl⟩
/-- a step that fails has done nothing to buses and registers -/
theorem did_not {N : Nt} {s : NStp} (he : (doesN N s).2.2 ≠ 0) : (doesN N s).1.inb = N.inb ∧ (doesN N s).1.regs = N.regs ∧ (doesN N s).1.outb = N.outb := by
  unfold doesN at *
  repeat' split at he
  all_goals first
    | exact absurd rfl he
    | skip
  all_goals (repeat (first | rw [if_pos (by assumption)] | rw [if_neg (by assumption)]))
  · unfold addIn at *
    repeat' split at he
    all_goals (repeat (first | rw [if_pos (by assumption)] | rw [if_neg (by assumption)]))
    all_goals first
      | exact ⟨rfl, rfl, rfl⟩
      | exact absurd rfl he
  · unfold setReg at *
    cases hf : findR N.regs s.a with
    | none => exact ⟨rfl, rfl, rfl⟩
    | some k =>
      rw [hf] at he
      simp only at he ⊢
      split at he
      · rename_i hg; rw [if_pos hg]; exact ⟨rfl, rfl, rfl⟩
      · exact absurd rfl he
  · unfold addOut at *
    repeat' split at he
    all_goals (repeat (first | rw [if_pos (by assumption)] | rw [if_neg (by assumption)]))
    all_goals first
      | exact ⟨rfl, rfl, rfl⟩
      | exact absurd rfl he
  all_goals (unfold gateN; split <;> exact ⟨rfl, rfl, rfl⟩)
theorem string_law : Keyed Tryz.prog 9 := Go.Maps.string_keyed Tryz.underlying9
end Go.Proofs.YtielfgngdhcpfaaGreat
