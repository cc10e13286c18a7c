/-
  Package compare: one bit.
-/
import Derived.Test.YtfngfoabknbgdaaCompare
import Derived.Test.YtfngfoabknbgdaaRipple
import Derived.BigQuiet
namespace Go.Proofs.Ytfngfoabknbgdaa
open Go.ChangeShapes Go.WideShapes Go.ChangeAt Go.RowKit
open Go.Maps (Keyed)
open Go.WideMaps
set_option linter.unusedVariables false

variable {w w' : World} {p mb : Nat} {F S : List Nat} {g : Gr} {sa sb : Value} {sg so : Bool}

/-- what a bit tells: turned where the sign is asked -/
def bitG (g : Gr) (so tu : Bool) (x y : Nat) : Gr × Nat × Nat :=
  if so then ((xorG g x y).1, ntL (xorG g x y).2, 0)
  else if tu then ((andG (xorG g x y).1 (ntL y) x).1, ntL (xorG g x y).2, (andG (xorG g x y).1 (ntL y) x).2)
  else ((andG (xorG g x y).1 (ntL x) y).1, ntL (xorG g x y).2, (andG (xorG g x y).1 (ntL x) y).2)
def PairPost (r : Gr × Nat × Nat) (sa sb : Value) (sg so : Bool) (w : World) (mb p : Nat) (F : List Nat) (e : Ending) (w' : World) : Prop :=
  ∃ F', e = .returned (.agg #[.int .u32 (r.2.1 : Nat), .int .u32 (r.2.2 : Nat)]) ∧ CmpAt w' mb p F' r.1 sa sb sg so ∧ Stepped w w' (mb :: F) (mb :: F')
theorem CmpAt.keptF (h : CmpAt w mb p F g sa sb sg so) {G : List Nat} (hk : Kept G w w') (hd : ∀ b ∈ G, b ∉ mb :: F) : CmpAt w' mb p F g sa sb sg so :=
  ⟨h.graph.kept hk (fun b hb hm => hd b hm (by simp [hb])), hk.heap h.blk (fun hm => hd mb hm (by simp))⟩
theorem size_new (w : World) (o : Obj) : (w.alloc o).heap.size = w.heap.size + 1 := Array.size_push _
theorem two_new {fid : FuncId} {fv v x y : Value} {R : World → Ending → World → Prop} (h : CmpAt w mb p F g sa sb sg so) (o : Obj) (nq : Nat)
    (H : ∀ {w1 : World}, CmpAt w1 mb p F g sa sb sg so → Calls Try.prog fid #[v, fv, .slice (some ⟨w1.heap.size, 0, none⟩) 2 2] (w1.alloc (.cells #[x, y] 24)) (R w1)) :
    Calls Try.prog fid #[v, fv, .slice (some ⟨w.heap.size + 1, 0, none⟩) 2 2] (((w.alloc o).drewN nq).alloc (.cells #[x, y] 24)) (R ((w.alloc o).drewN nq)) := by
  have := H (h.kept0 (((Kept.refl [] w).alloc o).drewN nq))
  rw [show ((w.alloc o).drewN nq).heap.size = w.heap.size + 1 from size_new w o] at this
  exact this
set_option maxHeartbeats 1600000 in
set_option maxRecDepth 100000 in
theorem bit_same {x y k n ca cb : Nat} {ada adb : Addr} (h : CmpAt w mb p F g (.slice (some ada) n ca) (.slice (some adb) n cb) sg true) (hm : g.nodes.length ≤ 190000) (hn : n ≤ 64) (hk : k < n)
    (hca : w.cell? (ada.add k) = some (.int .u32 x)) (hcb : w.cell? (adb.add k) = some (.int .u32 y)) (hx : g.ok x) (hy : g.ok y) :
    Calls Try.prog 120 #[.pointer (some ⟨mb, 0, none⟩), .int .i64 k] w (PairPost (bitG g true (sg && decide (k = n - 1)) x y) (.slice (some ada) n ca) (.slice (some adb) n cb) sg true w mb p F) := by
  have hlt := blk_lt h.blk
  have c0 : ∀ o, (w.alloc o).cell? ⟨mb, 0, none⟩ = some (.pointer (some ⟨p, 0, none⟩)) := fun o => ((Kept.refl [] w).alloc o).cell (blk_cell h.blk 0) (by simp)
  have c1 : ∀ o, (w.alloc o).cell? ⟨mb, 1, none⟩ = some (.slice (some ada) n ca) := fun o => ((Kept.refl [] w).alloc o).cell (blk_cell h.blk 1) (by simp)
  have c2 : ∀ o, (w.alloc o).cell? ⟨mb, 2, none⟩ = some (.slice (some adb) n cb) := fun o => ((Kept.refl [] w).alloc o).cell (blk_cell h.blk 2) (by simp)
  have c4 : ∀ o, (w.alloc o).cell? (ada.add k) = some (.int .u32 x) := fun o => ((Kept.refl [] w).alloc o).cell hca (by simp)
  have c5 : ∀ o, (w.alloc o).cell? (adb.add k) = some (.int .u32 y) := fun o => ((Kept.refl [] w).alloc o).cell hcb (by simp)
  have HS := Lib.hid (xorG_spec h.graph.wf hx hy)
  have HFL := Lib.hid h.graph.lt
  have HX := Lib.hid (fun (nq : Nat) => two_new h (.cells #[.int .u32 0, .int .u32 0] 122) nq (fun hh => ck_xor hh (by omega) hx hy))
  clear h hca hcb hx hy
  go_enter Try.func120, Try.ntmps120
  go_wp2_with fail
  go_quiet (fail)
  go_wp2_with fail
  refine (HX.out nq).mono ?_
  rintro e w1 ⟨F1, rfl, h1, hst1⟩
  have hB0 : ((w.alloc (.cells #[.int .u32 0, .int .u32 0] 122)).drewN nq).heap[w.heap.size]? = some (.cells #[.int .u32 0, .int .u32 0] 122 (0, 0)) := by show (w.heap.push _)[w.heap.size]? = _; simp
  have hB1 := hst1.kept.heap hB0 (by
    intro hm
    rcases List.mem_cons.1 hm with h2 | h2
    · omega
    · exact absurd (HFL.out _ h2) (Nat.lt_irrefl _))
  have hlt1 := blk_lt hB1
  have HNF := Lib.hid (show w.heap.size ∉ mb :: F1 from fun hm => by
    rcases hst1.fresh _ hm with h2 | h2
    · rcases List.mem_cons.1 h2 with h3 | h3
      · omega
      · exact absurd (HFL.out _ h3) (Nat.lt_irrefl _)
    · have h3 : w.heap.size + 1 ≤ w.heap.size := by rw [← size_new w (.cells #[.int .u32 0, .int .u32 0] 122)]; exact h2
      omega)
  have HST := Lib.hid (show Stepped w w1 (mb :: F) (mb :: F1) from ((((Stepped.refl w (mb :: F)).alloc _).drewN nq).trans hst1))
  have d4 : ∀ o, (w1.alloc o).cell? ⟨mb, 4, none⟩ = some (.bool true) := fun o => ((Kept.refl [] w1).alloc o).cell (blk_cell h1.blk 4) (by simp)
  have e0 : ∀ o, (w1.alloc o).heap[w.heap.size]? = some (.cells #[.int .u32 0, .int .u32 0] 122 (0, 0)) := fun o => ((Kept.refl [] w1).alloc o).heap hB1 (by simp)
  have g0 : ∀ o, (w1.alloc o).cell? ⟨w.heap.size, 0, none⟩ = some (.int .u32 0) := fun o => blk_cell (e0 o) 0
  have g1 : ∀ o, (w1.alloc o).cell? ⟨w.heap.size, 1, none⟩ = some (.int .u32 0) := fun o => blk_cell (e0 o) 1
  have f0 : ∀ o, (w1.alloc o).frozen? ⟨w.heap.size, 0, none⟩ = false := fun o => blk_free (e0 o) 0
  have f1 : ∀ o, (w1.alloc o).frozen? ⟨w.heap.size, 1, none⟩ = false := fun o => blk_free (e0 o) 1
  have e2 : ∀ o v, ((w1.alloc o).setCell ⟨w.heap.size, 0, none⟩ v).heap[w.heap.size]? = some (.cells #[v, .int .u32 0] 122 (0, 0)) := fun o v => blk_set (e0 o) 0 _
  have g2 : ∀ o v, ((w1.alloc o).setCell ⟨w.heap.size, 0, none⟩ v).cell? ⟨w.heap.size, 1, none⟩ = some (.int .u32 0) := fun o v => blk_cell (e2 o v) 1
  have f2 : ∀ o v, ((w1.alloc o).setCell ⟨w.heap.size, 0, none⟩ v).frozen? ⟨w.heap.size, 1, none⟩ = false := fun o v => blk_free (e2 o v) 1
  have e3 : ∀ o v u, (((w1.alloc o).setCell ⟨w.heap.size, 0, none⟩ v).setCell ⟨w.heap.size, 1, none⟩ u).heap[w.heap.size]? = some (.cells #[v, u] 122 (0, 0)) := fun o v u => blk_set (e2 o v) 1 _
  have g3 : ∀ o v u, (((w1.alloc o).setCell ⟨w.heap.size, 0, none⟩ v).setCell ⟨w.heap.size, 1, none⟩ u).cell? ⟨w.heap.size, 0, none⟩ = some v := fun o v u => blk_cell (e3 o v u) 0
  have g4 : ∀ o v u, (((w1.alloc o).setCell ⟨w.heap.size, 0, none⟩ v).setCell ⟨w.heap.size, 1, none⟩ u).cell? ⟨w.heap.size, 1, none⟩ = some u := fun o v u => blk_cell (e3 o v u) 1
  have q2 : ∀ v, (w1.setCell ⟨w.heap.size, 0, none⟩ v).heap[w.heap.size]? = some (.cells #[v, .int .u32 0] 122 (0, 0)) := fun v => blk_set hB1 0 _
  have r2 : ∀ o v, ((w1.setCell ⟨w.heap.size, 0, none⟩ v).alloc o).frozen? ⟨w.heap.size, 1, none⟩ = false := fun o v => blk_free (((Kept.refl [] _).alloc o).heap (q2 v) (by simp)) 1
  have r3 : ∀ o v, ((w1.setCell ⟨w.heap.size, 0, none⟩ v).alloc o).cell? ⟨w.heap.size, 1, none⟩ = some (.int .u32 0) := fun o v => blk_cell (((Kept.refl [] _).alloc o).heap (q2 v) (by simp)) 1
  have q3 : ∀ v u, ((w1.setCell ⟨w.heap.size, 0, none⟩ v).setCell ⟨w.heap.size, 1, none⟩ u).heap[w.heap.size]? = some (.cells #[v, u] 122 (0, 0)) := fun v u => blk_set (q2 v) 1 _
  have r4 : ∀ o v u, (((w1.setCell ⟨w.heap.size, 0, none⟩ v).setCell ⟨w.heap.size, 1, none⟩ u).alloc o).cell? ⟨w.heap.size, 0, none⟩ = some v := fun o v u => blk_cell (((Kept.refl [] _).alloc o).heap (q3 v u) (by simp)) 0
  have r5 : ∀ o v u, (((w1.setCell ⟨w.heap.size, 0, none⟩ v).setCell ⟨w.heap.size, 1, none⟩ u).alloc o).cell? ⟨w.heap.size, 1, none⟩ = some u := fun o v u => blk_cell (((Kept.refl [] _).alloc o).heap (q3 v u) (by simp)) 1
  have h1 : CmpAt w1 mb p F1 (xorG g x y).1 (.slice (some ada) n ca) (.slice (some adb) n cb) sg true := h1
  have H1 := Lib.hid h1; clear h1
  have HN := Lib.hid (lit_not (xorG g x y).2 w1 (Gr.ok_lt HS.out.2.2 (by have := HS.out.2.1.le; omega)))
  go_wp2_with fail
  refine HN.out.mono ?_
  rintro e w' ⟨rfl, rfl⟩
  go_wp2_with fail
  refine bodyPost_ret (v := .agg #[.int .u32 (ntL (xorG g x y).2 : Nat), .int .u32 ((0 : Nat) : Int)]) (by simp [results, Try.results120, go_sem, r4, r5]) rfl ?_
  refine ⟨F1, rfl, ?_, ?_⟩
  · exact H1.out.keptF (G := [w.heap.size]) ((((Kept.refl [w.heap.size] w1).setCell (.inl (by simp)) _).setCell (.inl (by simp)) _).alloc _) (by simpa using HNF.out)
  · exact ⟨(((HST.out.kept).setCell (.inr (Nat.le_refl _)) _).setCell (.inr (Nat.le_refl _)) _).alloc _, HST.out.fresh⟩
end Go.Proofs.Ytfngfoabknbgdaa
