/-
  Package compare: one bit, for less.
-/
import Derived.Test.YtfngfoabknbgdaaCmpAllMath
import Derived.Deep.RegionHeld3
import Derived.BigQuiet
namespace Go.Proofs.Ytfngfoabknbgdaa
open Go.ChangeShapes Go.WideShapes Go.ChangeAt Go.RowKit
open Go.Maps (Keyed)
open Go.WideMaps
set_option linter.unusedVariables false

variable {w w' : World} {p mb : Nat} {F S : List Nat} {g : Gr} {sa sb : Value} {sg so : Bool}

theorem two_drew {fid : FuncId} {fv v x y : Value} {R : World → Ending → World → Prop} (h : CmpAt w mb p F g sa sb sg so) (o : Obj)
    (H : ∀ {w1 : World}, CmpAt w1 mb p F g sa sb sg so → Calls Try.prog fid #[v, fv, .slice (some ⟨w1.heap.size, 0, none⟩) 2 2] (w1.alloc (.cells #[x, y] 24)) (R w1)) :
    Calls Try.prog fid #[v, fv, .slice (some ⟨w.heap.size + 1, 0, none⟩) 2 2] (((w.alloc o).drew).alloc (.cells #[x, y] 24)) (R ((w.alloc o).drew)) := by
  have := H (h.kept0 (((Kept.refl [] w).alloc o).drew))
  rw [show ((w.alloc o).drew).heap.size = w.heap.size + 1 from size_new w o] at this
  exact this
set_option maxHeartbeats 1600000 in
set_option maxRecDepth 100000 in
theorem bit_less {x y k n ca cb : Nat} {ada adb : Addr} (h : CmpAt w mb p F g (.slice (some ada) n ca) (.slice (some adb) n cb) sg false) (hm : g.nodes.length ≤ 180000) (hn : n ≤ 64) (hk : k < n)
    (hca : w.cell? (ada.add k) = some (.int .u32 x)) (hcb : w.cell? (adb.add k) = some (.int .u32 y)) (hx : g.ok x) (hy : g.ok y) :
    Calls Try.prog 120 #[.pointer (some ⟨mb, 0, none⟩), .int .i64 k] w (PairPost (bitG g false (sg && decide (k = n - 1)) x y) (.slice (some ada) n ca) (.slice (some adb) n cb) sg false w mb p F) := by
  have hlt := blk_lt h.blk
  have c0 : ∀ o, (w.alloc o).cell? ⟨mb, 0, none⟩ = some (.pointer (some ⟨p, 0, none⟩)) := fun o => ((Kept.refl [] w).alloc o).cell (blk_cell h.blk 0) (by simp)
  have c1 : ∀ o, (w.alloc o).cell? ⟨mb, 1, none⟩ = some (.slice (some ada) n ca) := fun o => ((Kept.refl [] w).alloc o).cell (blk_cell h.blk 1) (by simp)
  have c2 : ∀ o, (w.alloc o).cell? ⟨mb, 2, none⟩ = some (.slice (some adb) n cb) := fun o => ((Kept.refl [] w).alloc o).cell (blk_cell h.blk 2) (by simp)
  have c4 : ∀ o, (w.alloc o).cell? (ada.add k) = some (.int .u32 x) := fun o => ((Kept.refl [] w).alloc o).cell hca (by simp)
  have c5 : ∀ o, (w.alloc o).cell? (adb.add k) = some (.int .u32 y) := fun o => ((Kept.refl [] w).alloc o).cell hcb (by simp)
  have HS := Lib.hid (xorG_spec h.graph.wf hx hy)
  have HFL := Lib.hid h.graph.lt
  have HX := Lib.hid (fun (nq : Nat) => two_new h (.cells #[.int .u32 0, .int .u32 0] 122) nq (fun hh => ck_xor hh (by omega) hx hy))
  have HX0 := Lib.hid hx
  have HY0 := Lib.hid hy
  clear h hca hcb hx hy
  go_enter Try.func120, Try.ntmps120
  go_wp2_with fail
  go_quiet (fail)
  go_wp2_with fail
  refine (HX.out nq).mono ?_
  rintro e w1 ⟨F1, rfl, h1, hst1⟩
  have hB0 : ((w.alloc (.cells #[.int .u32 0, .int .u32 0] 122)).drewN nq).heap[w.heap.size]? = some (.cells #[.int .u32 0, .int .u32 0] 122 (0, 0)) := by show (w.heap.push _)[w.heap.size]? = _; simp
  have hB1 := hst1.kept.heap hB0 (by
    intro hm
    rcases List.mem_cons.1 hm with h2 | h2
    · omega
    · exact absurd (HFL.out _ h2) (Nat.lt_irrefl _))
  have hlt1 := blk_lt hB1
  have HNF := Lib.hid (show w.heap.size ∉ mb :: F1 from fun hm => by
    rcases hst1.fresh _ hm with h2 | h2
    · rcases List.mem_cons.1 h2 with h3 | h3
      · omega
      · exact absurd (HFL.out _ h3) (Nat.lt_irrefl _)
    · have h3 : w.heap.size + 1 ≤ w.heap.size := by rw [← size_new w (.cells #[.int .u32 0, .int .u32 0] 122)]; exact h2
      omega)
  have HST := Lib.hid (show Stepped w w1 (mb :: F) (mb :: F1) from ((((Stepped.refl w (mb :: F)).alloc _).drewN nq).trans hst1))
  have d4 : ∀ o, (w1.alloc o).cell? ⟨mb, 4, none⟩ = some (.bool false) := fun o => ((Kept.refl [] w1).alloc o).cell (blk_cell h1.blk 4) (by simp)
  have e0 : ∀ o, (w1.alloc o).heap[w.heap.size]? = some (.cells #[.int .u32 0, .int .u32 0] 122 (0, 0)) := fun o => ((Kept.refl [] w1).alloc o).heap hB1 (by simp)
  have g0 : ∀ o, (w1.alloc o).cell? ⟨w.heap.size, 0, none⟩ = some (.int .u32 0) := fun o => blk_cell (e0 o) 0
  have g1 : ∀ o, (w1.alloc o).cell? ⟨w.heap.size, 1, none⟩ = some (.int .u32 0) := fun o => blk_cell (e0 o) 1
  have f0 : ∀ o, (w1.alloc o).frozen? ⟨w.heap.size, 0, none⟩ = false := fun o => blk_free (e0 o) 0
  have f1 : ∀ o, (w1.alloc o).frozen? ⟨w.heap.size, 1, none⟩ = false := fun o => blk_free (e0 o) 1
  have e2 : ∀ o v, ((w1.alloc o).setCell ⟨w.heap.size, 0, none⟩ v).heap[w.heap.size]? = some (.cells #[v, .int .u32 0] 122 (0, 0)) := fun o v => blk_set (e0 o) 0 _
  have g2 : ∀ o v, ((w1.alloc o).setCell ⟨w.heap.size, 0, none⟩ v).cell? ⟨w.heap.size, 1, none⟩ = some (.int .u32 0) := fun o v => blk_cell (e2 o v) 1
  have f2 : ∀ o v, ((w1.alloc o).setCell ⟨w.heap.size, 0, none⟩ v).frozen? ⟨w.heap.size, 1, none⟩ = false := fun o v => blk_free (e2 o v) 1
  have e3 : ∀ o v u, (((w1.alloc o).setCell ⟨w.heap.size, 0, none⟩ v).setCell ⟨w.heap.size, 1, none⟩ u).heap[w.heap.size]? = some (.cells #[v, u] 122 (0, 0)) := fun o v u => blk_set (e2 o v) 1 _
  have g3 : ∀ o v u, (((w1.alloc o).setCell ⟨w.heap.size, 0, none⟩ v).setCell ⟨w.heap.size, 1, none⟩ u).cell? ⟨w.heap.size, 0, none⟩ = some v := fun o v u => blk_cell (e3 o v u) 0
  have g4 : ∀ o v u, (((w1.alloc o).setCell ⟨w.heap.size, 0, none⟩ v).setCell ⟨w.heap.size, 1, none⟩ u).cell? ⟨w.heap.size, 1, none⟩ = some u := fun o v u => blk_cell (e3 o v u) 1
  have q2 : ∀ v, (w1.setCell ⟨w.heap.size, 0, none⟩ v).heap[w.heap.size]? = some (.cells #[v, .int .u32 0] 122 (0, 0)) := fun v => blk_set hB1 0 _
  have r2 : ∀ o v, ((w1.setCell ⟨w.heap.size, 0, none⟩ v).alloc o).frozen? ⟨w.heap.size, 1, none⟩ = false := fun o v => blk_free (((Kept.refl [] _).alloc o).heap (q2 v) (by simp)) 1
  have r3 : ∀ o v, ((w1.setCell ⟨w.heap.size, 0, none⟩ v).alloc o).cell? ⟨w.heap.size, 1, none⟩ = some (.int .u32 0) := fun o v => blk_cell (((Kept.refl [] _).alloc o).heap (q2 v) (by simp)) 1
  have q3 : ∀ v u, ((w1.setCell ⟨w.heap.size, 0, none⟩ v).setCell ⟨w.heap.size, 1, none⟩ u).heap[w.heap.size]? = some (.cells #[v, u] 122 (0, 0)) := fun v u => blk_set (q2 v) 1 _
  have r4 : ∀ o v u, (((w1.setCell ⟨w.heap.size, 0, none⟩ v).setCell ⟨w.heap.size, 1, none⟩ u).alloc o).cell? ⟨w.heap.size, 0, none⟩ = some v := fun o v u => blk_cell (((Kept.refl [] _).alloc o).heap (q3 v u) (by simp)) 0
  have r5 : ∀ o v u, (((w1.setCell ⟨w.heap.size, 0, none⟩ v).setCell ⟨w.heap.size, 1, none⟩ u).alloc o).cell? ⟨w.heap.size, 1, none⟩ = some u := fun o v u => blk_cell (((Kept.refl [] _).alloc o).heap (q3 v u) (by simp)) 1
  have d3 : ∀ o, (w1.alloc o).cell? ⟨mb, 3, none⟩ = some (.bool sg) := fun o => ((Kept.refl [] w1).alloc o).cell (blk_cell h1.blk 3) (by simp)
  have d1 : ∀ o, (w1.alloc o).cell? ⟨mb, 1, none⟩ = some (.slice (some ada) n ca) := fun o => ((Kept.refl [] w1).alloc o).cell (blk_cell h1.blk 1) (by simp)
  have ew : IntKind.i64.wrap ((n : Int) - 1) = (n : Int) - 1 := IntWalk.i64_in _ (by omega)
  have h1 : CmpAt w1 mb p F1 (xorG g x y).1 (.slice (some ada) n ca) (.slice (some adb) n cb) sg false := h1
  have H1 := Lib.hid h1; clear h1
  have HN := Lib.hid (lit_not (xorG g x y).2 w1 (Gr.ok_lt HS.out.2.2 (by have := HS.out.2.1.le; omega)))
  go_wp2_with fail
  refine HN.out.mono ?_
  rintro e w' ⟨rfl, rfl⟩
  cases sg with
  | false =>
    go_wp2_with fail
    have HB := Lib.hid (show bitG g false (false && decide (k = n - 1)) x y = ((andG (xorG g x y).1 (ntL x) y).1, ntL (xorG g x y).2, (andG (xorG g x y).1 (ntL x) y).2) from by simp [bitG])
    have d0 : ∀ o, (w1.alloc o).cell? ⟨mb, 0, none⟩ = some (.pointer (some ⟨p, 0, none⟩)) := fun o => ((Kept.refl [] w1).alloc o).cell (blk_cell H1.out.blk 0) (by simp)
    have d0 := d0 (.cells #[.int .u32 (ntL (xorG g x y).2 : Nat), .int .u32 0] 122)
    have HA := Lib.hid (two_drew H1.out (.cells #[.int .u32 (ntL (xorG g x y).2 : Nat), .int .u32 0] 122) (fun hh => ck_and (x := ntL x) (y := y) hh (by have := HS.out.2.1.le; omega) (ok_ntL (HS.out.2.1.ok HX0.out)) (HS.out.2.1.ok HY0.out)))
    have HN1 := Lib.hid (show w1.heap.size ∉ mb :: F1 from fun hm => by
      rcases List.mem_cons.1 hm with h3 | h3
      · have := blk_lt H1.out.blk; omega
      · exact absurd (H1.out.graph.lt _ h3) (Nat.lt_irrefl _))
    have hmne : mb ≠ w1.heap.size := fun hm => HN1.out (by simp [hm])
    have HBK := Lib.hid (show ((w1.alloc (.cells #[.int .u32 (ntL (xorG g x y).2 : Nat), .int .u32 0] 122)).drew).heap[w1.heap.size]? = some (.cells #[.int .u32 (ntL (xorG g x y).2 : Nat), .int .u32 0] 122 (0, 0)) by show (w1.heap.push _)[w1.heap.size]? = _; simp)
    go_region_held3 (fun w' => w'.cell? ⟨mb, 0, none⟩ = some (.pointer (some ⟨p, 0, none⟩)))
      (first | exact (blk_cell h2.blk 0) | exact (Kept.cell ((Kept.refl [w1.heap.size] w2).setCell (p := ⟨w1.heap.size, 1, none⟩) (.inl (by simp)) _) (blk_cell h2.blk 0) (by simpa using hmne)) | go_keep)
      (first
        | (go_at_call 32; refine (lit_not _ _ (Gr.ok_lt HX0.out (by omega))).mono ?_; rintro e w' ⟨rfl, rfl⟩)
        | (go_at_call 121; refine HA.out.mono ?_; rintro e w2 ⟨F2, rfl, h2, hst2⟩; have hB2 := hst2.kept.heap HBK.out HN1.out; have y1 := blk_cell hB2 1; have y2 := blk_free hB2 1; have y3 := blk_lt hB2; simp at y1))
    all_goals
      have hZ := hst2.kept.heap (show ((w1.alloc (.cells #[.int .u32 (ntL (xorG g x y).2 : Nat), .int .u32 0] 122)).drew).heap[w.heap.size]? = some (.cells #[.int .u32 0, .int .u32 0] 122 (0, 0)) from ((Kept.refl [] w1).alloc _).heap hB1 (by simp)) HNF.out
      have hne2 : w.heap.size ≠ w1.heap.size := by omega
      generalize hz : w2.setCell ⟨w1.heap.size, 1, none⟩ (.int .u32 ((andG (xorG g x y).1 (ntL x) y).2 : Nat)) = w3
      have k3 : Kept [w1.heap.size] w2 w3 := by rw [← hz]; exact (Kept.refl [w1.heap.size] w2).setCell (.inl (by simp)) _
      have m0 : w3.heap[w1.heap.size]? = some (.cells #[.int .u32 (ntL (xorG g x y).2 : Nat), .int .u32 ((andG (xorG g x y).1 (ntL x) y).2 : Nat)] 122 (0, 0)) := by rw [← hz]; exact blk_set hB2 1 _
      have z0 : w3.heap[w.heap.size]? = some (.cells #[.int .u32 0, .int .u32 0] 122 (0, 0)) := k3.heap hZ (by simpa using hne2)
      have m1 := blk_cell m0 0
      have m2 := blk_cell m0 1
      simp at m1 m2
      have z1 : w3.cell? ⟨w.heap.size, 0, none⟩ = some (.int .u32 0) := blk_cell z0 0
      have z2 : ∀ v, (w3.setCell ⟨w.heap.size, 0, none⟩ v).cell? ⟨w.heap.size, 1, none⟩ = some (.int .u32 0) := fun v => blk_cell (blk_set z0 0 v) 1
      have z3 := blk_free z0 0
      have z4 : ∀ v, (w3.setCell ⟨w.heap.size, 0, none⟩ v).frozen? ⟨w.heap.size, 1, none⟩ = false := fun v => blk_free (blk_set z0 0 v) 1
      have z5 : ∀ v u, ((w3.setCell ⟨w.heap.size, 0, none⟩ v).setCell ⟨w.heap.size, 1, none⟩ u).heap[w.heap.size]? = some (.cells #[v, u] 122 (0, 0)) := fun v u => blk_set (blk_set z0 0 v) 1 u
      have z6 := fun v u => blk_cell (z5 v u) 0
      have z7 := fun v u => blk_cell (z5 v u) 1
      simp at z6 z7
      have hsz1 := HST.out.kept.size
      have K3 : Kept (mb :: F) w w3 := by rw [← hz]; exact ((HST.out.trans (((Stepped.refl w1 (mb :: F1)).alloc _).drew.trans hst2)).kept).setCell (p := ⟨w1.heap.size, 1, none⟩) (.inr hsz1) _
      clear hz
      have h2 : CmpAt w2 mb p F2 (andG (xorG g x y).1 (ntL x) y).1 (.slice (some ada) n ca) (.slice (some adb) n cb) false false := h2
      have HE2 := Lib.hid (show Stepped w w2 (mb :: F) (mb :: F2) from (HST.out.trans (((Stepped.refl w1 (mb :: F1)).alloc _).drew.trans hst2)))
      have HW := Lib.hid (show ∀ b ∈ [w.heap.size, w1.heap.size], b ∉ mb :: F2 from fun b hb hm => by
        have h5 := (hst2.fresh b hm)
        have h6 : ((w1.alloc (.cells #[.int .u32 (ntL (xorG g x y).2 : Nat), .int .u32 0] 122)).drew).heap.size = w1.heap.size + 1 := size_new w1 _
        rw [h6] at h5
        simp only [List.mem_cons, List.not_mem_nil, or_false] at hb
        rcases h5 with h5 | h5
        · rcases hb with rfl | rfl
          · exact HNF.out h5
          · exact HN1.out h5
        · omega)
      have H2 := Lib.hid h2
      clear h2
      go_wp2_with fail
      refine bodyPost_ret (v := .agg #[.int .u32 (ntL (xorG g x y).2 : Nat), .int .u32 ((andG (xorG g x y).1 (ntL x) y).2 : Nat)]) (by simp [results, Try.results120, go_sem, z6, z7]) rfl ?_
      rw [HB.out]
      refine ⟨F2, rfl, H2.out.keptF (G := [w.heap.size, w1.heap.size]) (((k3.more (by simp)).setCell (.inl (by simp)) _).setCell (.inl (by simp)) _) HW.out, ⟨(K3.setCell (p := ⟨w.heap.size, 0, none⟩) (.inr (Nat.le_refl _)) _).setCell (p := ⟨w.heap.size, 1, none⟩) (.inr (Nat.le_refl _)) _, HE2.out.fresh⟩⟩
  | true =>
    by_cases hkn : k = n - 1
    · have hkz : ((k : Int) == (n : Int) - 1) = true := by simp only [beq_iff_eq]; omega
      have HKN := Lib.hid hkn; clear hkn
      go_wp2_with fail
      have HB := Lib.hid (show bitG g false (true && decide (k = n - 1)) x y = ((andG (xorG g x y).1 (ntL y) x).1, ntL (xorG g x y).2, (andG (xorG g x y).1 (ntL y) x).2) from by simp [bitG, HKN.out])
      have d0 : ∀ o, (w1.alloc o).cell? ⟨mb, 0, none⟩ = some (.pointer (some ⟨p, 0, none⟩)) := fun o => ((Kept.refl [] w1).alloc o).cell (blk_cell H1.out.blk 0) (by simp)
      have d0 := d0 (.cells #[.int .u32 (ntL (xorG g x y).2 : Nat), .int .u32 0] 122)
      have HA := Lib.hid (two_drew H1.out (.cells #[.int .u32 (ntL (xorG g x y).2 : Nat), .int .u32 0] 122) (fun hh => ck_and (x := ntL y) (y := x) hh (by have := HS.out.2.1.le; omega) (ok_ntL (HS.out.2.1.ok HY0.out)) (HS.out.2.1.ok HX0.out)))
      have HN1 := Lib.hid (show w1.heap.size ∉ mb :: F1 from fun hm => by
        rcases List.mem_cons.1 hm with h3 | h3
        · have := blk_lt H1.out.blk; omega
        · exact absurd (H1.out.graph.lt _ h3) (Nat.lt_irrefl _))
      have hmne : mb ≠ w1.heap.size := fun hm => HN1.out (by simp [hm])
      have HBK := Lib.hid (show ((w1.alloc (.cells #[.int .u32 (ntL (xorG g x y).2 : Nat), .int .u32 0] 122)).drew).heap[w1.heap.size]? = some (.cells #[.int .u32 (ntL (xorG g x y).2 : Nat), .int .u32 0] 122 (0, 0)) by show (w1.heap.push _)[w1.heap.size]? = _; simp)
      go_region_held3 (fun w' => w'.cell? ⟨mb, 0, none⟩ = some (.pointer (some ⟨p, 0, none⟩)))
        (first | exact (blk_cell h2.blk 0) | exact (Kept.cell ((Kept.refl [w1.heap.size] w2).setCell (p := ⟨w1.heap.size, 1, none⟩) (.inl (by simp)) _) (blk_cell h2.blk 0) (by simpa using hmne)) | go_keep)
        (first
          | (go_at_call 32; refine (lit_not _ _ (Gr.ok_lt HY0.out (by omega))).mono ?_; rintro e w' ⟨rfl, rfl⟩)
          | (go_at_call 121; refine HA.out.mono ?_; rintro e w2 ⟨F2, rfl, h2, hst2⟩; have hB2 := hst2.kept.heap HBK.out HN1.out; have y1 := blk_cell hB2 1; have y2 := blk_free hB2 1; have y3 := blk_lt hB2; simp at y1))
      all_goals
        have hZ := hst2.kept.heap (show ((w1.alloc (.cells #[.int .u32 (ntL (xorG g x y).2 : Nat), .int .u32 0] 122)).drew).heap[w.heap.size]? = some (.cells #[.int .u32 0, .int .u32 0] 122 (0, 0)) from ((Kept.refl [] w1).alloc _).heap hB1 (by simp)) HNF.out
        have hne2 : w.heap.size ≠ w1.heap.size := by omega
        generalize hz : w2.setCell ⟨w1.heap.size, 1, none⟩ (.int .u32 ((andG (xorG g x y).1 (ntL y) x).2 : Nat)) = w3
        have k3 : Kept [w1.heap.size] w2 w3 := by rw [← hz]; exact (Kept.refl [w1.heap.size] w2).setCell (.inl (by simp)) _
        have m0 : w3.heap[w1.heap.size]? = some (.cells #[.int .u32 (ntL (xorG g x y).2 : Nat), .int .u32 ((andG (xorG g x y).1 (ntL y) x).2 : Nat)] 122 (0, 0)) := by rw [← hz]; exact blk_set hB2 1 _
        have z0 : w3.heap[w.heap.size]? = some (.cells #[.int .u32 0, .int .u32 0] 122 (0, 0)) := k3.heap hZ (by simpa using hne2)
        have m1 := blk_cell m0 0
        have m2 := blk_cell m0 1
        simp at m1 m2
        have z1 : w3.cell? ⟨w.heap.size, 0, none⟩ = some (.int .u32 0) := blk_cell z0 0
        have z2 : ∀ v, (w3.setCell ⟨w.heap.size, 0, none⟩ v).cell? ⟨w.heap.size, 1, none⟩ = some (.int .u32 0) := fun v => blk_cell (blk_set z0 0 v) 1
        have z3 := blk_free z0 0
        have z4 : ∀ v, (w3.setCell ⟨w.heap.size, 0, none⟩ v).frozen? ⟨w.heap.size, 1, none⟩ = false := fun v => blk_free (blk_set z0 0 v) 1
        have z5 : ∀ v u, ((w3.setCell ⟨w.heap.size, 0, none⟩ v).setCell ⟨w.heap.size, 1, none⟩ u).heap[w.heap.size]? = some (.cells #[v, u] 122 (0, 0)) := fun v u => blk_set (blk_set z0 0 v) 1 u
        have z6 := fun v u => blk_cell (z5 v u) 0
        have z7 := fun v u => blk_cell (z5 v u) 1
        simp at z6 z7
        have hsz1 := HST.out.kept.size
        have K3 : Kept (mb :: F) w w3 := by rw [← hz]; exact ((HST.out.trans (((Stepped.refl w1 (mb :: F1)).alloc _).drew.trans hst2)).kept).setCell (p := ⟨w1.heap.size, 1, none⟩) (.inr hsz1) _
        clear hz
        have h2 : CmpAt w2 mb p F2 (andG (xorG g x y).1 (ntL y) x).1 (.slice (some ada) n ca) (.slice (some adb) n cb) true false := h2
        have HE2 := Lib.hid (show Stepped w w2 (mb :: F) (mb :: F2) from (HST.out.trans (((Stepped.refl w1 (mb :: F1)).alloc _).drew.trans hst2)))
        have HW := Lib.hid (show ∀ b ∈ [w.heap.size, w1.heap.size], b ∉ mb :: F2 from fun b hb hm => by
          have h5 := (hst2.fresh b hm)
          have h6 : ((w1.alloc (.cells #[.int .u32 (ntL (xorG g x y).2 : Nat), .int .u32 0] 122)).drew).heap.size = w1.heap.size + 1 := size_new w1 _
          rw [h6] at h5
          simp only [List.mem_cons, List.not_mem_nil, or_false] at hb
          rcases h5 with h5 | h5
          · rcases hb with rfl | rfl
            · exact HNF.out h5
            · exact HN1.out h5
          · omega)
        have H2 := Lib.hid h2
        clear h2
        go_wp2_with fail
        refine bodyPost_ret (v := .agg #[.int .u32 (ntL (xorG g x y).2 : Nat), .int .u32 ((andG (xorG g x y).1 (ntL y) x).2 : Nat)]) (by simp [results, Try.results120, go_sem, z6, z7]) rfl ?_
        rw [HB.out]
        refine ⟨F2, rfl, H2.out.keptF (G := [w.heap.size, w1.heap.size]) (((k3.more (by simp)).setCell (.inl (by simp)) _).setCell (.inl (by simp)) _) HW.out, ⟨(K3.setCell (p := ⟨w.heap.size, 0, none⟩) (.inr (Nat.le_refl _)) _).setCell (p := ⟨w.heap.size, 1, none⟩) (.inr (Nat.le_refl _)) _, HE2.out.fresh⟩⟩
    · have hkz : ((k : Int) == (n : Int) - 1) = false := by simp only [beq_eq_false_iff_ne, ne_eq]; omega
      have HKN := Lib.hid hkn; clear hkn
      go_wp2_with fail
      have HB := Lib.hid (show bitG g false (true && decide (k = n - 1)) x y = ((andG (xorG g x y).1 (ntL x) y).1, ntL (xorG g x y).2, (andG (xorG g x y).1 (ntL x) y).2) from by simp [bitG, HKN.out])
      have d0 : ∀ o, (w1.alloc o).cell? ⟨mb, 0, none⟩ = some (.pointer (some ⟨p, 0, none⟩)) := fun o => ((Kept.refl [] w1).alloc o).cell (blk_cell H1.out.blk 0) (by simp)
      have d0 := d0 (.cells #[.int .u32 (ntL (xorG g x y).2 : Nat), .int .u32 0] 122)
      have HA := Lib.hid (two_drew H1.out (.cells #[.int .u32 (ntL (xorG g x y).2 : Nat), .int .u32 0] 122) (fun hh => ck_and (x := ntL x) (y := y) hh (by have := HS.out.2.1.le; omega) (ok_ntL (HS.out.2.1.ok HX0.out)) (HS.out.2.1.ok HY0.out)))
      have HN1 := Lib.hid (show w1.heap.size ∉ mb :: F1 from fun hm => by
        rcases List.mem_cons.1 hm with h3 | h3
        · have := blk_lt H1.out.blk; omega
        · exact absurd (H1.out.graph.lt _ h3) (Nat.lt_irrefl _))
      have hmne : mb ≠ w1.heap.size := fun hm => HN1.out (by simp [hm])
      have HBK := Lib.hid (show ((w1.alloc (.cells #[.int .u32 (ntL (xorG g x y).2 : Nat), .int .u32 0] 122)).drew).heap[w1.heap.size]? = some (.cells #[.int .u32 (ntL (xorG g x y).2 : Nat), .int .u32 0] 122 (0, 0)) by show (w1.heap.push _)[w1.heap.size]? = _; simp)
      go_region_held3 (fun w' => w'.cell? ⟨mb, 0, none⟩ = some (.pointer (some ⟨p, 0, none⟩)))
        (first | exact (blk_cell h2.blk 0) | exact (Kept.cell ((Kept.refl [w1.heap.size] w2).setCell (p := ⟨w1.heap.size, 1, none⟩) (.inl (by simp)) _) (blk_cell h2.blk 0) (by simpa using hmne)) | go_keep)
        (first
          | (go_at_call 32; refine (lit_not _ _ (Gr.ok_lt HX0.out (by omega))).mono ?_; rintro e w' ⟨rfl, rfl⟩)
          | (go_at_call 121; refine HA.out.mono ?_; rintro e w2 ⟨F2, rfl, h2, hst2⟩; have hB2 := hst2.kept.heap HBK.out HN1.out; have y1 := blk_cell hB2 1; have y2 := blk_free hB2 1; have y3 := blk_lt hB2; simp at y1))
      all_goals
        have hZ := hst2.kept.heap (show ((w1.alloc (.cells #[.int .u32 (ntL (xorG g x y).2 : Nat), .int .u32 0] 122)).drew).heap[w.heap.size]? = some (.cells #[.int .u32 0, .int .u32 0] 122 (0, 0)) from ((Kept.refl [] w1).alloc _).heap hB1 (by simp)) HNF.out
        have hne2 : w.heap.size ≠ w1.heap.size := by omega
        generalize hz : w2.setCell ⟨w1.heap.size, 1, none⟩ (.int .u32 ((andG (xorG g x y).1 (ntL x) y).2 : Nat)) = w3
        have k3 : Kept [w1.heap.size] w2 w3 := by rw [← hz]; exact (Kept.refl [w1.heap.size] w2).setCell (.inl (by simp)) _
        have m0 : w3.heap[w1.heap.size]? = some (.cells #[.int .u32 (ntL (xorG g x y).2 : Nat), .int .u32 ((andG (xorG g x y).1 (ntL x) y).2 : Nat)] 122 (0, 0)) := by rw [← hz]; exact blk_set hB2 1 _
        have z0 : w3.heap[w.heap.size]? = some (.cells #[.int .u32 0, .int .u32 0] 122 (0, 0)) := k3.heap hZ (by simpa using hne2)
        have m1 := blk_cell m0 0
        have m2 := blk_cell m0 1
        simp at m1 m2
        have z1 : w3.cell? ⟨w.heap.size, 0, none⟩ = some (.int .u32 0) := blk_cell z0 0
        have z2 : ∀ v, (w3.setCell ⟨w.heap.size, 0, none⟩ v).cell? ⟨w.heap.size, 1, none⟩ = some (.int .u32 0) := fun v => blk_cell (blk_set z0 0 v) 1
        have z3 := blk_free z0 0
        have z4 : ∀ v, (w3.setCell ⟨w.heap.size, 0, none⟩ v).frozen? ⟨w.heap.size, 1, none⟩ = false := fun v => blk_free (blk_set z0 0 v) 1
        have z5 : ∀ v u, ((w3.setCell ⟨w.heap.size, 0, none⟩ v).setCell ⟨w.heap.size, 1, none⟩ u).heap[w.heap.size]? = some (.cells #[v, u] 122 (0, 0)) := fun v u => blk_set (blk_set z0 0 v) 1 u
        have z6 := fun v u => blk_cell (z5 v u) 0
        have z7 := fun v u => blk_cell (z5 v u) 1
        simp at z6 z7
        have hsz1 := HST.out.kept.size
        have K3 : Kept (mb :: F) w w3 := by rw [← hz]; exact ((HST.out.trans (((Stepped.refl w1 (mb :: F1)).alloc _).drew.trans hst2)).kept).setCell (p := ⟨w1.heap.size, 1, none⟩) (.inr hsz1) _
        clear hz
        have h2 : CmpAt w2 mb p F2 (andG (xorG g x y).1 (ntL x) y).1 (.slice (some ada) n ca) (.slice (some adb) n cb) true false := h2
        have HE2 := Lib.hid (show Stepped w w2 (mb :: F) (mb :: F2) from (HST.out.trans (((Stepped.refl w1 (mb :: F1)).alloc _).drew.trans hst2)))
        have HW := Lib.hid (show ∀ b ∈ [w.heap.size, w1.heap.size], b ∉ mb :: F2 from fun b hb hm => by
          have h5 := (hst2.fresh b hm)
          have h6 : ((w1.alloc (.cells #[.int .u32 (ntL (xorG g x y).2 : Nat), .int .u32 0] 122)).drew).heap.size = w1.heap.size + 1 := size_new w1 _
          rw [h6] at h5
          simp only [List.mem_cons, List.not_mem_nil, or_false] at hb
          rcases h5 with h5 | h5
          · rcases hb with rfl | rfl
            · exact HNF.out h5
            · exact HN1.out h5
          · omega)
        have H2 := Lib.hid h2
        clear h2
        go_wp2_with fail
        refine bodyPost_ret (v := .agg #[.int .u32 (ntL (xorG g x y).2 : Nat), .int .u32 ((andG (xorG g x y).1 (ntL x) y).2 : Nat)]) (by simp [results, Try.results120, go_sem, z6, z7]) rfl ?_
        rw [HB.out]
        refine ⟨F2, rfl, H2.out.keptF (G := [w.heap.size, w1.heap.size]) (((k3.more (by simp)).setCell (.inl (by simp)) _).setCell (.inl (by simp)) _) HW.out, ⟨(K3.setCell (p := ⟨w.heap.size, 0, none⟩) (.inr (Nat.le_refl _)) _).setCell (p := ⟨w.heap.size, 1, none⟩) (.inr (Nat.le_refl _)) _, HE2.out.fresh⟩⟩
end Go.Proofs.Ytfngfoabknbgdaa
