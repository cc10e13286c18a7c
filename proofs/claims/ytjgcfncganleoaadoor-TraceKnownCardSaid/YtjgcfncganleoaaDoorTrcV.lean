/-
  Package trace: the reader's number.
-/
import Derived.Test.YtjgcfncganleoaaDoorTrcR
namespace Go.Proofs.YtjgcfncganleoaaDoor
open Go.ChangeShapes Go.WideShapes Go.ChangeAt Go.RowKit
set_option linter.unusedVariables false
set_option linter.unusedSimpArgs false

variable {w w' w1 W : World}
/-- what a reader's part ends in: a value, read up to a place; or a panic -/
def RdPost {α : Type} (val : α → Value) (q : Nat) (a : Option Addr) (c : Nat) (s : List UInt8) (r : PR α) (w : World) (e : Ending) (w' : World) : Prop := match r with
  | .error k => Dies k [q] w e w'
  | .ok (x, l) => ∃ pos', e = .returned (val x) ∧ s.drop pos' = l ∧ RdAt w' q a c s pos' ∧ Kept [q] w w'
theorem heap_new (w : World) (o : Obj) : (w.alloc o).heap[w.heap.size]? = some o := heap_alloc_new w o
set_option maxHeartbeats 3200000 in
set_option maxRecDepth 100000 in
theorem number_c {q c pos : Nat} {a : Option Addr} {s : List UInt8} (base first most : Nat) (hbase : base = 10 ∨ base = 16) (hm : most < 18446744073709551616) (w : World) (h : RdAt w q a c s pos) :
    Calls Tryd.prog 77 #[.pointer (some ⟨q, 0, none⟩), .int .u64 (base : Int), .int .u64 (first : Int), .int .u64 (most : Int)] w (RdPost (fun n : Nat => .int .u64 (n : Int)) q a c s (numT base first most (s.drop pos)) w) := by
  have HH := Lib.hid h
  have HBS := Lib.hid hbase
  have hql := blk_lt h.blk
  have K5 : Kept [] w (((((w.alloc (.cells #[.int .u64 (base : Int)] 27)).alloc (.cells #[.int .u64 (first : Int)] 27)).alloc (.cells #[.int .u64 (most : Int)] 27)).alloc (.cells #[.int .u64 0] 27)).alloc (.cells #[.int .i64 0] 3)) := (((((Kept.refl [] w).alloc _).alloc _).alloc _).alloc _).alloc _
  have HZ : (((((w.alloc (.cells #[.int .u64 (base : Int)] 27)).alloc (.cells #[.int .u64 (first : Int)] 27)).alloc (.cells #[.int .u64 (most : Int)] 27)).alloc (.cells #[.int .u64 0] 27)).alloc (.cells #[.int .i64 0] 3)).heap.size = w.heap.size + 5 := by simp
  have HNA : NumAt (((((w.alloc (.cells #[.int .u64 (base : Int)] 27)).alloc (.cells #[.int .u64 (first : Int)] 27)).alloc (.cells #[.int .u64 (most : Int)] 27)).alloc (.cells #[.int .u64 0] 27)).alloc (.cells #[.int .i64 0] 3)) w.heap.size (w.heap.size + 1 + 1 + 1 + 1) (w.heap.size + 1) (w.heap.size + 1 + 1 + 1) (w.heap.size + 1 + 1) base first most (0, 0) := by
    have z1 : (w.alloc (.cells #[.int .u64 (base : Int)] 27)).heap.size = w.heap.size + 1 := by simp
    have z2 : ((w.alloc (.cells #[.int .u64 (base : Int)] 27)).alloc (.cells #[.int .u64 (first : Int)] 27)).heap.size = w.heap.size + 1 + 1 := by simp
    have z3 : (((w.alloc (.cells #[.int .u64 (base : Int)] 27)).alloc (.cells #[.int .u64 (first : Int)] 27)).alloc (.cells #[.int .u64 (most : Int)] 27)).heap.size = w.heap.size + 1 + 1 + 1 := by simp
    have z4 : ((((w.alloc (.cells #[.int .u64 (base : Int)] 27)).alloc (.cells #[.int .u64 (first : Int)] 27)).alloc (.cells #[.int .u64 (most : Int)] 27)).alloc (.cells #[.int .u64 0] 27)).heap.size = w.heap.size + 1 + 1 + 1 + 1 := by simp
    exact ⟨((((Kept.refl [] _).alloc _).alloc _).alloc _).alloc _ |>.heap (heap_new w _) (by simp), z4 ▸ heap_new _ _, (((Kept.refl [] _).alloc _).alloc _).alloc _ |>.heap (z1 ▸ heap_new _ _) (by simp), ((Kept.refl [] _).alloc _) |>.heap (z3 ▸ heap_new _ _) (by simp), (((Kept.refl [] _).alloc _).alloc _) |>.heap (z2 ▸ heap_new _ _) (by simp), hm, by simp, .inl (by simp)⟩
  have HT := Lib.hid (takes_c 101 Tryd.call101 #[.pointer (some ⟨w.heap.size, 0, none⟩), .pointer (some ⟨w.heap.size + 1 + 1 + 1 + 1, 0, none⟩), .pointer (some ⟨w.heap.size + 1, 0, none⟩), .pointer (some ⟨w.heap.size + 1 + 1 + 1, 0, none⟩), .pointer (some ⟨w.heap.size + 1 + 1, 0, none⟩)] [w.heap.size + 1 + 1 + 1 + 1, w.heap.size + 1 + 1 + 1] (numSt base first most) (fun x W => NumAt W w.heap.size (w.heap.size + 1 + 1 + 1 + 1) (w.heap.size + 1) (w.heap.size + 1 + 1 + 1) (w.heap.size + 1 + 1) base first most x) (fun x W => NumAt W w.heap.size (w.heap.size + 1 + 1 + 1 + 1) (w.heap.size + 1) (w.heap.size + 1 + 1 + 1) (w.heap.size + 1 + 1) base first most x) (0, 0) (((((w.alloc (.cells #[.int .u64 (base : Int)] 27)).alloc (.cells #[.int .u64 (first : Int)] 27)).alloc (.cells #[.int .u64 (most : Int)] 27)).alloc (.cells #[.int .u64 0] 27)).alloc (.cells #[.int .i64 0] 3)) (h.kept K5) HNA (by simp; omega) (fun hs b hb => by have := h.al hs b hb; simp; omega)
    (fun x W W' hx hk => hx.kept hk (by simp; omega)) (fun x W W' hx hk => hx.kept hk (by simp)) (fun x b W hx => num1_c _ _ _ _ _ base first most x b W hx (by omega) (by omega) (by omega) (by omega) hbase))
  have HK5 := Lib.hid K5
  clear h hbase K5 HZ HNA
  go_enter Tryd.func77, Tryd.ntmps77
  go_wp2_with fail
  refine HT.out.mono ?_
  intro e w1 hp
  rcases hr : runT (numSt base first most) (0, 0) (s.drop pos) with k | ⟨x, l⟩
  · have HNT := Lib.hid (show numT base first most (s.drop pos) = .error k from by unfold numT; rw [hr])
    rw [hr] at hp
    obtain ⟨rfl, k1⟩ := hp
    have K1 := Lib.hid k1
    clear hr k1
    go_wp2_with fail
    refine ⟨rfl, ?_⟩
    rw [HNT.out]
    exact ⟨rfl, kept_mix (HK5.out.more (by simp)) K1.out (by simp; omega)⟩
  · rw [hr] at hp
    obtain ⟨pos', rfl, hpp, hdr, hra, hna, k1⟩ := hp
    have K1 := Lib.hid (kept_mix (HK5.out.more (by simp)) k1 (by simp; omega) : Kept [q] w w1)
    have HDR := Lib.hid hdr
    have HRA := Lib.hid hra
    have c2 : w1.cell? ⟨w.heap.size + 1 + 1 + 1 + 1, 0, none⟩ = some (.int .i64 (x.2 : Int)) := blk_cell hna.c2 0
    have c4 : w1.cell? ⟨w.heap.size + 1 + 1 + 1, 0, none⟩ = some (.int .u64 (x.1 : Int)) := blk_cell hna.c4 0
    clear k1 hdr hra hna
    by_cases hx : x.2 = 0
    · have HNT := Lib.hid (show numT base first most (s.drop pos) = .error 5 from by unfold numT; rw [hr]; simp [hx])
      have hxi : ((x.2 : Int) == 0) = true := beq_iff_eq.2 (by omega)
      clear hr hx
      generalize x.1 = x1 at *
      generalize x.2 = x2 at *
      go_wp2_with fail
      refine ⟨rfl, ?_⟩
      rw [HNT.out]
      exact ⟨rfl, K1.out⟩
    · have HNT := Lib.hid (show numT base first most (s.drop pos) = .ok (x.1, l) from by unfold numT; rw [hr]; simp [hx])
      have hxi : ((x.2 : Int) == 0) = false := beq_eq_false_iff_ne.2 (by omega)
      clear hr hx
      generalize x.1 = x1 at *
      generalize x.2 = x2 at *
      go_wp2_with fail
      go_ret
      rw [HNT.out]
      exact ⟨pos', rfl, HDR.out, HRA.out, K1.out⟩
end Go.Proofs.YtjgcfncganleoaaDoor
