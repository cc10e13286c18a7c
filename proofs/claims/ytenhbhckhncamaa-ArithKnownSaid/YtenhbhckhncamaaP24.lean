/-
  Package compare: all, Equal, Less, Zero.
  Package compare: all bits, by a closure that calls itself.
  Package compare: one bit, for less.
-/
import Derived.Test.YtenhbhckhncamaaP18
import Derived.Deep.RegionHeld3
import Derived.BigQuiet
import Derived.Deep.DeepCutAuto
import Derived.Test.YtenhbhckhncamaaP22
import Derived.Laws.EntriesVeiled
namespace Go.Proofs.Ytenhbhckhncamaa
open Go.ChangeShapes Go.WideShapes Go.ChangeAt Go.RowKit
open Go.Maps (Keyed)
open Go.WideMaps
set_option linter.unusedVariables false

variable {w w' : World} {p mb : Nat} {F S : List Nat} {g : Gr} {sa sb : Value} {sg so : Bool}

end Go.Proofs.Ytenhbhckhncamaa

namespace Go.Proofs.Ytenhbhckhncamaa
open Go.ChangeShapes Go.WideShapes Go.ChangeAt Go.RowKit
open Go.Maps (Keyed)
open Go.WideMaps
set_option linter.unusedVariables false
set_option linter.unusedSimpArgs false

variable {w w' w1 : World} {p mb : Nat} {F F1 S : List Nat} {g : Gr} {sa sb : Value} {sg so : Bool}





variable {cbx sbx n ca cb k m : Nat} {ada adb : Addr} {la lb : List Nat}
theorem far_step {F' : List Nat} {ad : Addr} {l : List Nat} {K : IntKind} (hs : SlN w K (some ad) l) (hp : 0 < l.length) (hd : ∀ x ∈ ft (some ad), x ∉ S) (hst : Stepped w w' S F') : SlN w' K (some ad) l ∧ ∀ x ∈ ft (some ad), x ∉ F' := by
  refine ⟨hs.kept hst.kept hd, fun x hx hm => ?_⟩
  obtain ⟨a, ha, hc⟩ := hs 0 hp
  injection ha with ha
  subst ha
  have hb := World.block_lt_of_cell? w _ hc
  rw [block_add] at hb
  rw [mem_ft] at hx
  subst hx
  rcases hst.fresh _ hm with h1 | h1
  · exact hd _ (mem_ft.2 rfl) h1
  · omega
/-- a block of two cells: read, and written whole -/
theorem two_facts {b : Nat} {x0 x1 : Value} {t : TypeId} (z0 : w.heap[b]? = some (.cells #[x0, x1] t (0, 0))) :
    (w.cell? ⟨b, 0, none⟩ = some x0 ∧ w.cell? ⟨b, 1, none⟩ = some x1 ∧ w.frozen? ⟨b, 0, none⟩ = false) ∧ (∀ v, (w.setCell ⟨b, 0, none⟩ v).cell? ⟨b, 1, none⟩ = some x1) ∧ (∀ v, (w.setCell ⟨b, 0, none⟩ v).frozen? ⟨b, 1, none⟩ = false) ∧
    (∀ v u, ((w.setCell ⟨b, 0, none⟩ v).setCell ⟨b, 1, none⟩ u).cell? ⟨b, 0, none⟩ = some v) ∧ (∀ v u, ((w.setCell ⟨b, 0, none⟩ v).setCell ⟨b, 1, none⟩ u).cell? ⟨b, 1, none⟩ = some u) ∧ b < w.heap.size := by
  have z5 : ∀ v u, ((w.setCell ⟨b, 0, none⟩ v).setCell ⟨b, 1, none⟩ u).heap[b]? = some (.cells #[v, u] t (0, 0)) := fun v u => blk_set (blk_set z0 0 v) 1 u
  exact ⟨⟨blk_cell z0 0, blk_cell z0 1, blk_free z0 0⟩, fun v => blk_cell (blk_set z0 0 v) 1, fun v => blk_free (blk_set z0 0 v) 1, fun v u => blk_cell (z5 v u) 0, fun v u => blk_cell (z5 v u) 1, blk_lt z0⟩
variable {wx wy : World} {F2 F3 : List Nat} {g2 g3 : Gr}

theorem sln_mine {b x y : Nat} {t : TypeId} (h : Mine w F b (.cells #[.int .u32 (x : Nat), .int .u32 (y : Nat)] t (0, 0))) : SlN w .u32 (some ⟨b, 0, none⟩) [x, y] := fun i hi => by
  refine ⟨_, rfl, ?_⟩
  have e : (⟨b, 0, none⟩ : Addr).add i = ⟨b, i, none⟩ := by unfold Addr.add; split <;> simp_all
  rw [e, blk_cell h.heap i]
  match i, hi with
  | 0, _ => rfl
  | 1, _ => rfl
theorem far_mine {b : Nat} {o : Obj} (h : Mine w (mb :: F) b o) : ∀ x ∈ ft (some (⟨b, 0, none⟩ : Addr)), x ∉ F := fun x hx hm => by rw [mem_ft] at hx; subst hx; exact h.out (by simp [hm])
section
variable {x y b : Nat} {t : TypeId}
end
end Go.Proofs.Ytenhbhckhncamaa

namespace Go.Proofs.Ytenhbhckhncamaa
open Go.ChangeShapes Go.WideShapes Go.ChangeAt Go.RowKit
open Go.Maps (Keyed)
open Go.WideMaps
set_option linter.unusedVariables false
set_option linter.unusedSimpArgs false

variable {w w' w1 : World} {p mb : Nat} {F F1 S : List Nat} {g : Gr} {sa sb : Value} {sg so : Bool} {n ca cb : Nat} {ada adb : Addr} {la lb : List Nat}


theorem Stepped.forget {W : World} (h : Stepped W w1 (mb :: F) (mb :: F1)) (hk : Kept [] w W) (hb : w.heap.size ≤ mb) : Stepped w w1 F F1 :=
  ⟨⟨h.kept.os.trans hk.os, h.kept.tape.trans hk.tape, h.kept.output.trans hk.output, Nat.le_trans hk.size h.kept.size, fun k hlt hn => (h.kept.block k (Nat.lt_of_lt_of_le hlt hk.size) (by simp only [List.mem_cons, not_or]; exact ⟨by omega, hn⟩)).trans (hk.block k hlt (by simp))⟩,
   fun b hbm => by
    rcases h.fresh b (List.mem_cons_of_mem _ hbm) with h1 | h1
    · rcases List.mem_cons.1 h1 with h2 | h2
      · exact .inr (by omega)
      · exact .inl h2
    · exact .inr (Nat.le_trans hk.size h1)⟩
def eqG (g : Gr) (la lb : List Nat) : Gr × Nat := ((allTo true false la.length la lb la.length g 0 la.length).1, (allTo true false la.length la lb la.length g 0 la.length).2.1)
def lessG (sg : Bool) (g : Gr) (la lb : List Nat) : Gr × Nat := ((allTo false sg la.length la lb la.length g 0 la.length).1, (allTo false sg la.length la lb la.length g 0 la.length).2.2)
end Go.Proofs.Ytenhbhckhncamaa
