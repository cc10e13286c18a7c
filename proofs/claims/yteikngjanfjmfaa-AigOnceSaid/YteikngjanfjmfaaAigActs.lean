/-
  Rows of calls that the law itself lays in memory; And of two literals that are laid for it; a guarded look-up.
-/
import Derived.Test.YteikngjanfjmfaaAigGrown
import Derived.Test.YteikngjanfjmfaaAigWakes
namespace Go.Proofs.Yteikngjanfjmfaa
open Go.ChangeShapes Go.WideShapes Go.ChangeAt Go.RowKit
open Go.Maps (Keyed)
open Go.WideMaps
set_option linter.unusedVariables false

variable {w w' : World} {p : Nat} {F S : List Nat} {g : Gr}

abbrev ARow := Int × Option Addr × Nat × Nat
def acells (R : List ARow) : List Value := R.flatMap fun r => [.int .i64 r.1, .slice r.2.1 r.2.2.1 r.2.2.2]
theorem acells_length (R : List ARow) : (acells R).length = 2 * R.length := by
  induction R with
  | nil => rfl
  | cons r R ih => simp [acells] at ih ⊢; omega
theorem acells_snoc (R : List ARow) (r : ARow) : acells R ++ [.int .i64 r.1, .slice r.2.1 r.2.2.1 r.2.2.2] = acells (R ++ [r]) := by simp [acells]
theorem acells_get (R : List ARow) (i : Nat) (r : ARow) (h : R[i]? = some r) : (acells R)[2 * i]? = some (.int .i64 r.1) ∧ (acells R)[2 * i + 1]? = some (.slice r.2.1 r.2.2.1 r.2.2.2) := by
  induction R generalizing i with
  | nil => simp at h
  | cons q R ih =>
    cases i with
    | zero => simp at h; subst h; simp [acells]
    | succ i =>
      have := ih i (by simpa using h)
      have e1 : 2 * (i + 1) = (2 * i) + 1 + 1 := by omega
      rw [e1]
      simpa [acells] using this
/-- a row stands for a call -/
structure RowOk (w : World) (r : ARow) (act : Int × List Nat) : Prop where
  what : r.1 = act.1
  len : r.2.2.1 = act.2.length
  cap : act.2.length ≤ r.2.2.2
  reach : r.2.2.2 ≤ 140737488351232
  nil : r.2.1 = none → act.2.length = 0 ∧ r.2.2.2 = 0
  sl : SlN w .u32 r.2.1 act.2
/-- the law's own slice of calls -/
def ActsAt (w0 wr : World) (a : Option Addr) (n c : Nat) (acts : List (Int × List Nat)) : Prop :=
  ∃ R : List ARow, R.length = acts.length ∧ acts.length = n ∧ (∀ (k : Nat) (r : ARow) (act : Int × List Nat), R[k]? = some r → acts[k]? = some act → RowOk w0 r act) ∧ Own2 wr 60 a n c (acells R)
theorem ActsAt.nil (w0 wr : World) : ActsAt w0 wr none 0 0 [] := ⟨[], rfl, rfl, by simp, World.ownsRow_nil _ _ _ _⟩
theorem ActsAt.kept0 {w0 wr w1 : World} {a : Option Addr} {n c : Nat} {acts : List (Int × List Nat)} (h : ActsAt w0 wr a n c acts) (hk : Kept [] wr w1) : ActsAt w0 w1 a n c acts := by
  obtain ⟨R, h1, h2, h3, h4⟩ := h
  exact ⟨R, h1, h2, h3, h4.kept hk (by simp)⟩
theorem ActsAt.push {w0 w1 : World} {a' : Option Addr} {n c' : Nat} {acts : List (Int × List Nat)} {R : List ARow} {r : ARow} {act : Int × List Nat} (h1 : R.length = acts.length) (h2 : acts.length = n) (h3 : ∀ (k : Nat) (r : ARow) (act : Int × List Nat), R[k]? = some r → acts[k]? = some act → RowOk w0 r act) (hr : RowOk w0 r act)
    (ho : w1.ownsRow 0 60 2 (.slice a' (n + 1) c') (n + 1) (acells R ++ [.int .i64 r.1, .slice r.2.1 r.2.2.1 r.2.2.2])) : ActsAt w0 w1 a' (n + 1) c' (acts ++ [act]) := by
  refine ⟨R ++ [r], by simp [h1], by simp [h2], fun k x y hx hy => ?_, by rw [acells_snoc] at ho; exact ho⟩
  by_cases hk : k < R.length
  · rw [List.getElem?_append_left hk] at hx
    rw [List.getElem?_append_left (by omega)] at hy
    exact h3 k x y hx hy
  · rw [List.getElem?_append_right (by omega)] at hx
    rw [List.getElem?_append_right (by omega)] at hy
    have : k - R.length = 0 := by
      by_cases he : k - R.length = 0
      · exact he
      · rw [List.getElem?_eq_none (by simp; omega)] at hx; cases hx
    rw [this] at hx
    rw [show k - acts.length = 0 by omega] at hy
    simp at hx hy
    subst hx hy
    exact hr
theorem ActsAt.sl {w0 wr : World} {a : Option Addr} {n c : Nat} {acts : List (Int × List Nat)} (h : ActsAt w0 wr a n c acts) (hk : Kept [] w0 wr) : SlActs wr a acts := by
  obtain ⟨R, h1, h2, h3, h4⟩ := h
  intro k hkl
  obtain ⟨gb, rfl, hcell⟩ := own2_form h4 (by omega)
  have hR : R[k]? = some (R[k]'(by omega)) := List.getElem?_eq_getElem (by omega)
  have hA : acts[k]? = some acts[k] := List.getElem?_eq_getElem hkl
  have hro := h3 k _ _ hR hA
  generalize R[k]'(by omega) = r at *
  have hg := acells_get R k r hR
  refine ⟨gb, 0, r.2.1, r.2.2.2, rfl, ?_, ?_, hro.cap, hro.reach, hro.nil, hro.sl.kept0 hk⟩
  · rw [Nat.zero_add, hcell _ (by omega), Nat.mul_comm k 2, hg.1, hro.what]
  · rw [Nat.zero_add, hcell _ (by omega), Nat.mul_comm k 2, hg.2, hro.len]
theorem act_info : (Try.prog.info? 60).map (fun i => (i.zero, i.size, i.bytes)) = some (some (.agg #[.int .i64 0, .slice none 0 0]), 2, 32) := by kernel_rfl
theorem zero_row (w : World) : RowOk w (0, none, 0, 0) (0, []) := ⟨rfl, rfl, Nat.le_refl _, by simp, by simp, SlN.nil _ _ _⟩

/-- And of two literals that are laid for it. -/
theorem and2_c {x y : Nat} (hg : GraphAt w p F g) (hm : g.nodes.length ≤ 190000) (hx : g.ok x) (hy : g.ok y) :
    Calls Try.prog 36 #[.pointer (some ⟨p, 0, none⟩), .slice (some ⟨w.heap.size, 0, none⟩) 2 2] (w.alloc (.cells #[.int .u32 x, .int .u32 y] 24)) (Twos (andG g x y) w p F) := by
  refine (aig_And_ (hg.kept0 ((Kept.refl [] w).alloc _)) (some ⟨w.heap.size, 0, none⟩) 2 2 [x, y] rfl (by omega) (by have := sln_new w .u32 [x, y] 24; exact this) (by simp [hx, hy]) (by intro b hb hF; simp [ft] at hb; subst hb; exact absurd (hg.lt _ hF) (Nat.lt_irrefl _))).mono ?_
  rintro e w' ⟨F', rfl, hg', hst⟩
  exact ⟨F', rfl, hg', ((Stepped.refl w F).alloc _).trans hst⟩

/-- 'm[k]' under a guard that lets it by. -/
theorem wpList_look1g {P : Program} {k : TypeId} {m : Nat} {f : Value → Option Value} {ops : Array Oper} {rest : List Oper} {o : Oper} {a : Act} {Q : Exit → Act → World → Prop} {mo x : Operand} {t e : TypeId} {z key : Value} (hg : Region.wanted o (yielded ops a.tmps) = true) (hop : o.op = Op.lookup t mo x false) (K : Keyed P k) (ht : P.underlying t = some (.map k e)) (hz : (zeroValue e).run P w = .ok z w)
    (hm : a.eval mo = .map (some m)) (hx : a.eval x = key) (hown : MapV w P k m f) (hkey : ∃ kl, keyOf P k key = some kl)
    (hK : wpList P ops Q rest (a.put o.dst ((f key).getD z)) w) : wpList P ops Q (o :: rest) a w := by
  refine wpList_step fun K' hK' => ?_
  rw [if_pos hg]
  obtain ⟨kl, hkl⟩ := hkey
  have hrun := hown.look false K ht hz hkl
  unfold Oper.wp
  simp [execOp, hop, hm, hx, hrun, Result.andThen]
  exact hK' _ _ hK
theorem two_arr : ArrKey Try.prog 69 24 2 := ⟨Try.underlying69, by kernel_rfl, by kernel_rfl, by kernel_rfl⟩
theorem two_law : Keyed Try.prog 69 := Keyed.of_law (deep_law_laid laidOut (m := 2) (by omega) (of_decide_eq_true (by kernel_rfl)) (by kernel_rfl) (by rw [Try.underlying69]))
theorem two_key {a b : Nat} (ha : a < 4294967296) (hb : b < 4294967296) : ∃ kl, keyOf Try.prog 69 (pairV a b) = some kl :=
  ⟨_, keyOf_pair two_arr Try.underlying24 ⟨Try.prog.types.size - 1, by have : 0 < Try.prog.types.size := of_decide_eq_true (by kernel_rfl); omega⟩
    (by simp [Lit.wf, IntKind.min, IntKind.max, IntKind.signed, IntKind.bits]; omega) (by simp [Lit.wf, IntKind.min, IntKind.max, IntKind.signed, IntKind.bits]; omega)⟩
theorem bool_zero (w : World) : (zeroValue 4).run Try.prog w = .ok (.bool false) w := by kernel_rfl

/-- what a look at a node tells -/
theorem gateA_none {g : Gr} {k a b : Nat} (h : g.nodes[k]? = some (a, b)) (hg : a / 2 = k ∨ k = 0) : gateA g k = (0, 0, false) := by
  unfold gateA
  split
  · rename_i hk
    simp only [Int.toNat_natCast, h]
    rw [if_pos (by omega)]
  · rfl
end Go.Proofs.Yteikngjanfjmfaa
