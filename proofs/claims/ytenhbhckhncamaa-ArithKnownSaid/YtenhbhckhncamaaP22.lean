/-
  Blocks of one's own: a block that is there, that holds this, and that no list of owned blocks has. Chains of worlds are gone through backwards.
-/
import Derived.Test.YtenhbhckhncamaaP03
import Derived.RegionTactic
import Derived.Laws.Rows
import Derived.Laws.Tables
namespace Go.Proofs.Ytenhbhckhncamaa
open Go.ChangeShapes Go.WideShapes Go.ChangeAt Go.RowKit
set_option linter.unusedVariables false

variable {w w' : World} {F F' : List Nat} {b : Nat} {o o' : Obj}
structure Mine (w : World) (F : List Nat) (b : Nat) (o : Obj) : Prop where
  heap : w.heap[b]? = some o
  out : b ∉ F
theorem Mine.lt (h : Mine w F b o) : b < w.heap.size := (Array.getElem?_eq_some_iff.1 h.heap).1
theorem Mine.step (h : Mine w F b o) (hst : Stepped w w' F F') : Mine w' F' b o :=
  ⟨hst.kept.heap h.heap h.out, fun hm => (hst.fresh _ hm).elim h.out fun h1 => absurd h.lt (by omega)⟩
theorem Mine.alloc (h : Mine w F b o) (o' : Obj) : Mine (w.alloc o') F b o :=
  ⟨((Kept.refl [] w).alloc o').heap h.heap (by simp), h.out⟩
theorem Mine.drew (h : Mine w F b o) : Mine w.drew F b o := ⟨h.heap, h.out⟩
theorem Mine.drewN (h : Mine w F b o) (n : Nat) : Mine (w.drewN n) F b o := ⟨h.heap, h.out⟩
theorem Mine.new (hb : b = w.heap.size) (hF : ∀ x ∈ F, x < w.heap.size) : Mine (w.alloc o) F b o := by
  subst hb
  exact ⟨by show (w.heap.push _)[w.heap.size]? = _; simp, fun hm => absurd (hF _ hm) (Nat.lt_irrefl _)⟩
theorem Mine.other (h : Mine w F b o) {p : Addr} (hp : p.block ≠ b) (v : Value) : Mine (w.setCell p v) F b o :=
  ⟨(Below.heap_setCell _ _ _ _ (fun e => hp e.symm)).trans h.heap, h.out⟩
theorem blk_set' {w : World} {b : Nat} {cs : Array Value} {t : TypeId} {fr : Nat × Nat} (h : w.heap[b]? = some (.cells cs t fr)) (j : Nat) (v : Value) : (w.setCell ⟨b, j, none⟩ v).heap[b]? = some (.cells (cs.setIfInBounds j v) t fr) := by
  simp [World.setCell, Array.getElem?_modify, h]
theorem Mine.set2 {x0 x1 a0 a1 : Value} {t : TypeId} (h : Mine w F b (.cells #[x0, x1] t (0, 0))) : Mine ((w.setCell ⟨b, 0, none⟩ a0).setCell ⟨b, 1, none⟩ a1) F b (.cells #[a0, a1] t (0, 0)) :=
  ⟨blk_set' (blk_set' h.heap 0 a0) 1 a1, h.out⟩
theorem Mine.more (h : Mine w F b o) (hF : b ∉ F') : Mine w F' b o := ⟨h.heap, hF⟩
theorem Stepped.setNew {a w : World} (h : Stepped a w F F') {p : Addr} (hp : a.heap.size ≤ p.block) (v : Value) : Stepped a (w.setCell p v) F F' := ⟨h.kept.setCell (.inr hp) v, h.fresh⟩
/-- The whole block written. -/
theorem Kept.setRow {a w : World} (h : Kept F a w) {g : Nat} (hp : g ∈ F ∨ a.heap.size ≤ g) (cs : Array Value) : Kept F a (w.setRow g cs) :=
  ⟨h.os, h.tape, h.output, by simpa using h.size, fun k hk hn => (setRow_other _ _ _ _ (by rintro rfl; rcases hp with h | h; exact hn h; omega)).trans (h.block k hk hn)⟩
theorem Stepped.rowNew {a w : World} (h : Stepped a w F F') {g : Nat} (hp : a.heap.size ≤ g) (cs : Array Value) : Stepped a (w.setRow g cs) F F' := ⟨h.kept.setRow (.inr hp) cs, h.fresh⟩
theorem Stepped.rowOwn {a w : World} (h : Stepped a w F F') {g : Nat} (hp : g ∈ F') (cs : Array Value) : Stepped a (w.setRow g cs) F F' := ⟨h.kept.setRow (h.fresh _ hp) cs, h.fresh⟩
theorem Mine.row {old cs : Array Value} {t : TypeId} {fr : Nat × Nat} (h : Mine w F b (.cells old t fr)) : Mine (w.setRow b cs) F b (.cells cs t fr) := ⟨setRow_heap _ _ _ _ _ _ h.heap, h.out⟩
theorem Mine.rowOther {g : Nat} {cs : Array Value} (h : Mine w F b o) (hne : b ≠ g) : Mine (w.setRow g cs) F b o := ⟨(setRow_other _ _ _ _ hne).trans h.heap, h.out⟩
/-- A store of a whole struct into a block of one's own, inside a region that draws its order. -/
theorem step_row {P : Program} {w : World} {ops : Array Oper} {o : Oper} {act : Act} {K : Act → World → Prop} {Q : Exit → Act → World → Prop} {E : Prop} {s x : Operand} {e t : TypeId} {b : Nat} {cells old : Array Value}
    (hgd : o.guard = none) (ho : o.op = .store e s x) (hs : act.eval s = .pointer (some ⟨b, 0, none⟩)) (hx : act.eval x = .agg cells)
    (hi : (P.info? e).map (·.size) = some cells.size) (hold : old.size = cells.size) (h1 : cells.all (·.oneCell') = true) (hb : w.heap[b]? = some (.cells old t (0, 0)))
    (h : K (act.put o.dst undef) (w.setRow b cells)) :
    if Region.wanted o (yielded ops act.tmps) = true then Oper.wp P o act w K Q else E := by
  rw [if_pos (by simp [Region.wanted, hgd])]
  exact wp_store_row e s x ho b cells hs hx t old hb hi hold h1 h
end Go.Proofs.Ytenhbhckhncamaa
