/-
  Law 15: the document's examples (wakes).
-/
import Derived.Test.YtjnjldbegngooaaDoorTokX
import Derived.Lib.SlBytesConst
namespace Go.Proofs.YtjnjldbegngooaaDoor
open Go.ChangeShapes Go.WideShapes Go.ChangeAt Go.RowKit
set_option linter.unusedVariables false
set_option linter.unusedSimpArgs false

variable {w w' w1 W : World}
/-- a constant's bytes, laid -/
def cBytes (l : List UInt8) : Array Value := (l.map fun c => Value.int .u8 ((c.toNat : Nat) : Int)).toArray
theorem add_at' (b o k : Nat) : (⟨b, o, none⟩ : Addr).add k = ⟨b, o + k, none⟩ := by unfold Addr.add; split <;> simp_all
theorem bt_row {g : Nat} {l : List UInt8} {t : TypeId} {fr : Nat × Nat} (h : w.heap[g]? = some (.cells (cBytes l) t fr)) : Bt w (some ⟨g, 0, none⟩) l := fun k hk => by
  refine ⟨_, rfl, ?_⟩
  rw [add_at', cell_of_row _ _ _ _ _ _ h]
  simp [cBytes, hk]
/-- a token's cells where its row lies -/
theorem tk_cell {a : Option Addr} {c : Nat} {xs : List Tk} (h : TkOwn w a c xs) (k j : Nat) (hk : k < xs.length) (hj : j < 7) : ∃ g, a = some ⟨g, 0, none⟩ ∧ w.cell? ⟨g, k * 7 + j, none⟩ = (tkCells (xs[k]))[j]? ∧ w.frozen? ⟨g, k * 7 + j, none⟩ = false := by
  rcases h.2 with ⟨_, hn⟩ | ⟨g, cap', cur, hv, hb, hg, hrest⟩
  · omega
  · refine ⟨g, by injection hv, ?_, World.ownsRow.frozenAt (by rw [← hv]; exact h) _⟩
    have hl : ∀ (l : List Tk) (k : Nat) (hk : k < l.length), (l.flatMap tkCells)[k * 7 + j]? = (tkCells l[k])[j]? := by
      intro l
      induction l with
      | nil => intro k hk; simp at hk
      | cons x l ih =>
        intro k hk
        have hx : (tkCells x).length = 7 := rfl
        rw [List.flatMap_cons]
        cases k with
        | zero => rw [List.getElem?_append_left (by omega)]; simp
        | succ k =>
          rw [List.getElem?_append_right (by omega), hx, show (k + 1) * 7 + j - 7 = k * 7 + j from by omega, ih k (by simpa using hk)]
          rfl
    have hs : ∃ v, (tkCells xs[k])[j]? = some v := ⟨_, List.getElem?_eq_getElem (show j < (tkCells xs[k]).length from hj)⟩
    obtain ⟨v, hv2⟩ := hs
    have hc := World.ownsRow.cells h (g := g) (by rw [hv]; rfl) (k * 7 + j) v (by rw [hl xs k hk]; exact hv2)
    rw [hv2]
    rw [add_at'] at hc
    simpa using hc
theorem wkr0 : allR [120, 49, 61, 53, 117, 56, 45, 62, 121] = .ok [⟨1, [120, 49], 0, 0, noTy⟩, ⟨6, [61], 2, 0, noTy⟩, ⟨5, [53, 117, 56], 3, 5, ⟨false, false, 8⟩⟩, ⟨6, [45, 62], 6, 0, noTy⟩, ⟨1, [121], 8, 0, noTy⟩, ⟨7, [], 9, 0, noTy⟩] := by kernel_rfl
theorem wkr1 : allR [97, 45, 45, 98] = .ok [⟨1, [97], 0, 0, noTy⟩, ⟨7, [], 4, 0, noTy⟩] := by kernel_rfl
theorem wkr2 : allR [51, 48, 48, 117, 56] = .error (20, 0) := by kernel_rfl
theorem wkr3 : allR [120, 32, 53, 117, 54, 53] = .error (20, 2) := by kernel_rfl
theorem wkr4 : allR [45, 32, 51, 32, 105, 56] = .ok [⟨6, [45], 0, 0, noTy⟩, ⟨4, [51], 2, 3, noTy⟩, ⟨3, [105, 56], 4, 0, ⟨false, true, 8⟩⟩, ⟨7, [], 6, 0, noTy⟩] := by kernel_rfl
set_option maxHeartbeats 3200000 in
set_option maxRecDepth 100000 in
theorem wakes_c (w : World) (hL : Laid w) : Calls Tryd.prog 11 #[] w (BoolIs true w) := by
  have HL := Lib.hid hL
  clear hL
  go_enter Tryd.func11, Tryd.ntmps11; (try simp only [List.append])
  have hcc0 : (convert 22 22 (.slice (some ⟨w.heap.size, 0, none⟩) 9 9)).run Tryd.prog (w.alloc (.cells #[.int .u8 120, .int .u8 49, .int .u8 61, .int .u8 53, .int .u8 117, .int .u8 56, .int .u8 45, .int .u8 62, .int .u8 121] 5)) = .ok (.slice (some ⟨w.heap.size, 0, none⟩) 9 9) (w.alloc (.cells #[.int .u8 120, .int .u8 49, .int .u8 61, .int .u8 53, .int .u8 117, .int .u8 56, .int .u8 45, .int .u8 62, .int .u8 121] 5 (9, 10))) := by
    have h := Lib.run_convert_bytes_const (P := Tryd.prog) w 22 5 #[.int .u8 120, .int .u8 49, .int .u8 61, .int .u8 53, .int .u8 117, .int .u8 56, .int .u8 45, .int .u8 62, .int .u8 121] 9 9 Tryd.underlying22 Tryd.underlying5
    exact h
  have HA0 := Lib.hid (all_c [120, 49, 61, 53, 117, 56, 45, 62, 121] (some ⟨w.heap.size, 0, none⟩) 9 (w.alloc (.cells #[.int .u8 120, .int .u8 49, .int .u8 61, .int .u8 53, .int .u8 117, .int .u8 56, .int .u8 45, .int .u8 62, .int .u8 121] 5 (9, 10))) (HL.out.kept0 (((Kept.refl [] w).alloc _))) (bt_row (by
    have h := heap_alloc_new w (.cells #[.int .u8 120, .int .u8 49, .int .u8 61, .int .u8 53, .int .u8 117, .int .u8 56, .int .u8 45, .int .u8 62, .int .u8 121] 5 (9, 10))
    exact h)) (by simp))
  go_wp2_with fail
  refine HA0.out.mono ?_
  intro e v1 hp
  rw [wkr0] at hp
  obtain ⟨k1, a1, c1, rfl, ho1, hal1⟩ := hp
  have HO1 := Lib.hid ho1
  clear ho1 hal1
  have HK1 := Lib.hid (show Kept [] w v1 from ((Kept.refl [] w).alloc _).trans k1)
  have K1 := Lib.hid (HK1.out)
  clear k1 hcc0 HA0
  have hcc1 : (convert 22 22 (.slice (some ⟨(v1.heap.size + 1), 0, none⟩) 4 4)).run Tryd.prog ((v1.alloc (.cells #[.int .i64 0, .int .i64 0] 26)).alloc (.cells #[.int .u8 97, .int .u8 45, .int .u8 45, .int .u8 98] 5)) = .ok (.slice (some ⟨(v1.heap.size + 1), 0, none⟩) 4 4) ((v1.alloc (.cells #[.int .i64 0, .int .i64 0] 26)).alloc (.cells #[.int .u8 97, .int .u8 45, .int .u8 45, .int .u8 98] 5 (4, 5))) := by
    have h := Lib.run_convert_bytes_const (P := Tryd.prog) (v1.alloc (.cells #[.int .i64 0, .int .i64 0] 26)) 22 5 #[.int .u8 97, .int .u8 45, .int .u8 45, .int .u8 98] 4 4 Tryd.underlying22 Tryd.underlying5
    rw [show (v1.alloc (.cells #[.int .i64 0, .int .i64 0] 26)).heap.size = (v1.heap.size + 1) from by simp] at h
    exact h
  have HA1 := Lib.hid (all_c [97, 45, 45, 98] (some ⟨(v1.heap.size + 1), 0, none⟩) 4 ((v1.alloc (.cells #[.int .i64 0, .int .i64 0] 26)).alloc (.cells #[.int .u8 97, .int .u8 45, .int .u8 45, .int .u8 98] 5 (4, 5))) (HL.out.kept0 (K1.out.trans (((Kept.refl [] v1).alloc (.cells #[.int .i64 0, .int .i64 0] 26)).alloc _))) (bt_row (by
    have h := heap_alloc_new (v1.alloc (.cells #[.int .i64 0, .int .i64 0] 26)) (.cells #[.int .u8 97, .int .u8 45, .int .u8 45, .int .u8 98] 5 (4, 5))
    rw [show (v1.alloc (.cells #[.int .i64 0, .int .i64 0] 26)).heap.size = (v1.heap.size + 1) from by simp] at h
    exact h)) (by simp))
  go_wp2_with fail
  refine HA1.out.mono ?_
  intro e v2 hp
  rw [wkr1] at hp
  obtain ⟨k2, a2, c2, rfl, ho2, hal2⟩ := hp
  have HO2 := Lib.hid ho2
  clear ho2 hal2
  have HK2 := Lib.hid (show Kept [] (v1.alloc (.cells #[.int .i64 0, .int .i64 0] 26)) v2 from ((Kept.refl [] (v1.alloc (.cells #[.int .i64 0, .int .i64 0] 26))).alloc _).trans k2)
  have K2 := Lib.hid (K1.out.trans (((Kept.refl [] v1).alloc (.cells #[.int .i64 0, .int .i64 0] 26)).trans HK2.out))
  clear k2 hcc1 HA1
  have HF1 := Lib.hid (HK2.out.heap (heap_alloc_new v1 (.cells #[.int .i64 0, .int .i64 0] 26)) (by simp))
  have Q1_2 := Lib.hid (show Kept [] v1 v2 from ((Kept.refl [] v1).alloc (.cells #[.int .i64 0, .int .i64 0] 26)).trans HK2.out)
  have hcc2 : (convert 22 22 (.slice (some ⟨(v2.heap.size + 1), 0, none⟩) 5 5)).run Tryd.prog ((v2.alloc (.cells #[.int .i64 0, .int .i64 0] 26)).alloc (.cells #[.int .u8 51, .int .u8 48, .int .u8 48, .int .u8 117, .int .u8 56] 5)) = .ok (.slice (some ⟨(v2.heap.size + 1), 0, none⟩) 5 5) ((v2.alloc (.cells #[.int .i64 0, .int .i64 0] 26)).alloc (.cells #[.int .u8 51, .int .u8 48, .int .u8 48, .int .u8 117, .int .u8 56] 5 (5, 6))) := by
    have h := Lib.run_convert_bytes_const (P := Tryd.prog) (v2.alloc (.cells #[.int .i64 0, .int .i64 0] 26)) 22 5 #[.int .u8 51, .int .u8 48, .int .u8 48, .int .u8 117, .int .u8 56] 5 5 Tryd.underlying22 Tryd.underlying5
    rw [show (v2.alloc (.cells #[.int .i64 0, .int .i64 0] 26)).heap.size = (v2.heap.size + 1) from by simp] at h
    exact h
  have HA2 := Lib.hid (all_c [51, 48, 48, 117, 56] (some ⟨(v2.heap.size + 1), 0, none⟩) 5 ((v2.alloc (.cells #[.int .i64 0, .int .i64 0] 26)).alloc (.cells #[.int .u8 51, .int .u8 48, .int .u8 48, .int .u8 117, .int .u8 56] 5 (5, 6))) (HL.out.kept0 (K2.out.trans (((Kept.refl [] v2).alloc (.cells #[.int .i64 0, .int .i64 0] 26)).alloc _))) (bt_row (by
    have h := heap_alloc_new (v2.alloc (.cells #[.int .i64 0, .int .i64 0] 26)) (.cells #[.int .u8 51, .int .u8 48, .int .u8 48, .int .u8 117, .int .u8 56] 5 (5, 6))
    rw [show (v2.alloc (.cells #[.int .i64 0, .int .i64 0] 26)).heap.size = (v2.heap.size + 1) from by simp] at h
    exact h)) (by simp))
  go_wp2_with fail
  refine HA2.out.mono ?_
  intro e v3 hp
  rw [wkr2] at hp
  obtain ⟨k3, he⟩ := hp
  have he' : e = .returned (.tuple #[.slice none 0 0, .agg #[.int .i64 20, .int .i64 0]]) := he
  clear he
  subst he'
  have HK3 := Lib.hid (show Kept [] (v2.alloc (.cells #[.int .i64 0, .int .i64 0] 26)) v3 from ((Kept.refl [] (v2.alloc (.cells #[.int .i64 0, .int .i64 0] 26))).alloc _).trans k3)
  have K3 := Lib.hid (K2.out.trans (((Kept.refl [] v2).alloc (.cells #[.int .i64 0, .int .i64 0] 26)).trans HK3.out))
  clear k3 hcc2 HA2
  have HF2 := Lib.hid (HK3.out.heap (heap_alloc_new v2 (.cells #[.int .i64 0, .int .i64 0] 26)) (by simp))
  have Q2_3 := Lib.hid (show Kept [] v2 v3 from ((Kept.refl [] v2).alloc (.cells #[.int .i64 0, .int .i64 0] 26)).trans HK3.out)
  have Q1_3 := Lib.hid (Q1_2.out.trans Q2_3.out)
  have hcc3 : (convert 22 22 (.slice (some ⟨(v3.heap.size + 1), 0, none⟩) 6 6)).run Tryd.prog ((v3.alloc (.cells #[.int .i64 20, .int .i64 0] 26)).alloc (.cells #[.int .u8 120, .int .u8 32, .int .u8 53, .int .u8 117, .int .u8 54, .int .u8 53] 5)) = .ok (.slice (some ⟨(v3.heap.size + 1), 0, none⟩) 6 6) ((v3.alloc (.cells #[.int .i64 20, .int .i64 0] 26)).alloc (.cells #[.int .u8 120, .int .u8 32, .int .u8 53, .int .u8 117, .int .u8 54, .int .u8 53] 5 (6, 7))) := by
    have h := Lib.run_convert_bytes_const (P := Tryd.prog) (v3.alloc (.cells #[.int .i64 20, .int .i64 0] 26)) 22 5 #[.int .u8 120, .int .u8 32, .int .u8 53, .int .u8 117, .int .u8 54, .int .u8 53] 6 6 Tryd.underlying22 Tryd.underlying5
    rw [show (v3.alloc (.cells #[.int .i64 20, .int .i64 0] 26)).heap.size = (v3.heap.size + 1) from by simp] at h
    exact h
  have HA3 := Lib.hid (all_c [120, 32, 53, 117, 54, 53] (some ⟨(v3.heap.size + 1), 0, none⟩) 6 ((v3.alloc (.cells #[.int .i64 20, .int .i64 0] 26)).alloc (.cells #[.int .u8 120, .int .u8 32, .int .u8 53, .int .u8 117, .int .u8 54, .int .u8 53] 5 (6, 7))) (HL.out.kept0 (K3.out.trans (((Kept.refl [] v3).alloc (.cells #[.int .i64 20, .int .i64 0] 26)).alloc _))) (bt_row (by
    have h := heap_alloc_new (v3.alloc (.cells #[.int .i64 20, .int .i64 0] 26)) (.cells #[.int .u8 120, .int .u8 32, .int .u8 53, .int .u8 117, .int .u8 54, .int .u8 53] 5 (6, 7))
    rw [show (v3.alloc (.cells #[.int .i64 20, .int .i64 0] 26)).heap.size = (v3.heap.size + 1) from by simp] at h
    exact h)) (by simp))
  go_wp2_with fail
  refine HA3.out.mono ?_
  intro e v4 hp
  rw [wkr3] at hp
  obtain ⟨k4, he⟩ := hp
  have he' : e = .returned (.tuple #[.slice none 0 0, .agg #[.int .i64 20, .int .i64 2]]) := he
  clear he
  subst he'
  have HK4 := Lib.hid (show Kept [] (v3.alloc (.cells #[.int .i64 20, .int .i64 0] 26)) v4 from ((Kept.refl [] (v3.alloc (.cells #[.int .i64 20, .int .i64 0] 26))).alloc _).trans k4)
  have K4 := Lib.hid (K3.out.trans (((Kept.refl [] v3).alloc (.cells #[.int .i64 20, .int .i64 0] 26)).trans HK4.out))
  clear k4 hcc3 HA3
  have HF3 := Lib.hid (HK4.out.heap (heap_alloc_new v3 (.cells #[.int .i64 20, .int .i64 0] 26)) (by simp))
  have Q3_4 := Lib.hid (show Kept [] v3 v4 from ((Kept.refl [] v3).alloc (.cells #[.int .i64 20, .int .i64 0] 26)).trans HK4.out)
  have Q2_4 := Lib.hid (Q2_3.out.trans Q3_4.out)
  have Q1_4 := Lib.hid (Q1_3.out.trans Q3_4.out)
  have hcc4 : (convert 22 22 (.slice (some ⟨(v4.heap.size + 1), 0, none⟩) 6 6)).run Tryd.prog ((v4.alloc (.cells #[.int .i64 20, .int .i64 2] 26)).alloc (.cells #[.int .u8 45, .int .u8 32, .int .u8 51, .int .u8 32, .int .u8 105, .int .u8 56] 5)) = .ok (.slice (some ⟨(v4.heap.size + 1), 0, none⟩) 6 6) ((v4.alloc (.cells #[.int .i64 20, .int .i64 2] 26)).alloc (.cells #[.int .u8 45, .int .u8 32, .int .u8 51, .int .u8 32, .int .u8 105, .int .u8 56] 5 (6, 7))) := by
    have h := Lib.run_convert_bytes_const (P := Tryd.prog) (v4.alloc (.cells #[.int .i64 20, .int .i64 2] 26)) 22 5 #[.int .u8 45, .int .u8 32, .int .u8 51, .int .u8 32, .int .u8 105, .int .u8 56] 6 6 Tryd.underlying22 Tryd.underlying5
    rw [show (v4.alloc (.cells #[.int .i64 20, .int .i64 2] 26)).heap.size = (v4.heap.size + 1) from by simp] at h
    exact h
  have HA4 := Lib.hid (all_c [45, 32, 51, 32, 105, 56] (some ⟨(v4.heap.size + 1), 0, none⟩) 6 ((v4.alloc (.cells #[.int .i64 20, .int .i64 2] 26)).alloc (.cells #[.int .u8 45, .int .u8 32, .int .u8 51, .int .u8 32, .int .u8 105, .int .u8 56] 5 (6, 7))) (HL.out.kept0 (K4.out.trans (((Kept.refl [] v4).alloc (.cells #[.int .i64 20, .int .i64 2] 26)).alloc _))) (bt_row (by
    have h := heap_alloc_new (v4.alloc (.cells #[.int .i64 20, .int .i64 2] 26)) (.cells #[.int .u8 45, .int .u8 32, .int .u8 51, .int .u8 32, .int .u8 105, .int .u8 56] 5 (6, 7))
    rw [show (v4.alloc (.cells #[.int .i64 20, .int .i64 2] 26)).heap.size = (v4.heap.size + 1) from by simp] at h
    exact h)) (by simp))
  go_wp2_with fail
  refine HA4.out.mono ?_
  intro e v5 hp
  rw [wkr4] at hp
  obtain ⟨k5, a5, c5, rfl, ho5, hal5⟩ := hp
  have HO5 := Lib.hid ho5
  clear ho5 hal5
  have HK5 := Lib.hid (show Kept [] (v4.alloc (.cells #[.int .i64 20, .int .i64 2] 26)) v5 from ((Kept.refl [] (v4.alloc (.cells #[.int .i64 20, .int .i64 2] 26))).alloc _).trans k5)
  have K5 := Lib.hid (K4.out.trans (((Kept.refl [] v4).alloc (.cells #[.int .i64 20, .int .i64 2] 26)).trans HK5.out))
  clear k5 hcc4 HA4
  have HF4 := Lib.hid (HK5.out.heap (heap_alloc_new v4 (.cells #[.int .i64 20, .int .i64 2] 26)) (by simp))
  have Q4_5 := Lib.hid (show Kept [] v4 v5 from ((Kept.refl [] v4).alloc (.cells #[.int .i64 20, .int .i64 2] 26)).trans HK5.out)
  have Q3_5 := Lib.hid (Q3_4.out.trans Q4_5.out)
  have Q2_5 := Lib.hid (Q2_4.out.trans Q4_5.out)
  have Q1_5 := Lib.hid (Q1_4.out.trans Q4_5.out)
  obtain ⟨g1_0_0, hg1_0_0, x1_0_0, z1_0_0⟩ := tk_cell HO1.out 0 0 (by simp) (by omega)
  obtain ⟨g1_2_0, hg1_2_0, x1_2_0, z1_2_0⟩ := tk_cell HO1.out 2 0 (by simp) (by omega)
  obtain ⟨g1_2_3, hg1_2_3, x1_2_3, z1_2_3⟩ := tk_cell HO1.out 2 3 (by simp) (by omega)
  obtain ⟨g1_2_4, hg1_2_4, x1_2_4, z1_2_4⟩ := tk_cell HO1.out 2 4 (by simp) (by omega)
  obtain ⟨g1_2_5, hg1_2_5, x1_2_5, z1_2_5⟩ := tk_cell HO1.out 2 5 (by simp) (by omega)
  obtain ⟨g1_2_6, hg1_2_6, x1_2_6, z1_2_6⟩ := tk_cell HO1.out 2 6 (by simp) (by omega)
  obtain ⟨g1_3_1, hg1_3_1, x1_3_1, z1_3_1⟩ := tk_cell HO1.out 3 1 (by simp) (by omega)
  obtain ⟨g1_5_0, hg1_5_0, x1_5_0, z1_5_0⟩ := tk_cell HO1.out 5 0 (by simp) (by omega)
  obtain ⟨g1_5_2, hg1_5_2, x1_5_2, z1_5_2⟩ := tk_cell HO1.out 5 2 (by simp) (by omega)
  obtain ⟨g1, hg1⟩ : ∃ g, a1 = some ⟨g, 0, none⟩ := ⟨_, hg1_0_0⟩
  subst hg1
  obtain rfl : g1 = g1_0_0 := by injection hg1_0_0 with h; injection h
  clear hg1_0_0 z1_0_0
  obtain rfl : g1 = g1_2_0 := by injection hg1_2_0 with h; injection h
  clear hg1_2_0 z1_2_0
  obtain rfl : g1 = g1_2_3 := by injection hg1_2_3 with h; injection h
  clear hg1_2_3 z1_2_3
  obtain rfl : g1 = g1_2_4 := by injection hg1_2_4 with h; injection h
  clear hg1_2_4 z1_2_4
  obtain rfl : g1 = g1_2_5 := by injection hg1_2_5 with h; injection h
  clear hg1_2_5 z1_2_5
  obtain rfl : g1 = g1_2_6 := by injection hg1_2_6 with h; injection h
  clear hg1_2_6 z1_2_6
  obtain rfl : g1 = g1_3_1 := by injection hg1_3_1 with h; injection h
  clear hg1_3_1 z1_3_1
  obtain rfl : g1 = g1_5_0 := by injection hg1_5_0 with h; injection h
  clear hg1_5_0 z1_5_0
  obtain rfl : g1 = g1_5_2 := by injection hg1_5_2 with h; injection h
  clear hg1_5_2 z1_5_2
  simp only [List.getElem_cons_zero, List.getElem_cons_succ, tkCells, List.getElem?_cons_zero, List.getElem?_cons_succ, Nat.reduceMul, Nat.reduceAdd] at x1_0_0
  replace x1_0_0 := Q1_5.out.cell x1_0_0 (by simp)
  simp only [List.getElem_cons_zero, List.getElem_cons_succ, tkCells, List.getElem?_cons_zero, List.getElem?_cons_succ, Nat.reduceMul, Nat.reduceAdd] at x1_2_0
  replace x1_2_0 := Q1_5.out.cell x1_2_0 (by simp)
  simp only [List.getElem_cons_zero, List.getElem_cons_succ, tkCells, List.getElem?_cons_zero, List.getElem?_cons_succ, Nat.reduceMul, Nat.reduceAdd] at x1_2_3
  replace x1_2_3 := Q1_5.out.cell x1_2_3 (by simp)
  simp only [List.getElem_cons_zero, List.getElem_cons_succ, tkCells, List.getElem?_cons_zero, List.getElem?_cons_succ, Nat.reduceMul, Nat.reduceAdd] at x1_2_4
  replace x1_2_4 := Q1_5.out.cell x1_2_4 (by simp)
  simp only [List.getElem_cons_zero, List.getElem_cons_succ, tkCells, List.getElem?_cons_zero, List.getElem?_cons_succ, Nat.reduceMul, Nat.reduceAdd] at x1_2_5
  replace x1_2_5 := Q1_5.out.cell x1_2_5 (by simp)
  simp only [List.getElem_cons_zero, List.getElem_cons_succ, tkCells, List.getElem?_cons_zero, List.getElem?_cons_succ, Nat.reduceMul, Nat.reduceAdd] at x1_2_6
  replace x1_2_6 := Q1_5.out.cell x1_2_6 (by simp)
  simp only [List.getElem_cons_zero, List.getElem_cons_succ, tkCells, List.getElem?_cons_zero, List.getElem?_cons_succ, Nat.reduceMul, Nat.reduceAdd] at x1_3_1
  replace x1_3_1 := Q1_5.out.cell x1_3_1 (by simp)
  simp only [List.getElem_cons_zero, List.getElem_cons_succ, tkCells, List.getElem?_cons_zero, List.getElem?_cons_succ, Nat.reduceMul, Nat.reduceAdd] at x1_5_0
  replace x1_5_0 := Q1_5.out.cell x1_5_0 (by simp)
  simp only [List.getElem_cons_zero, List.getElem_cons_succ, tkCells, List.getElem?_cons_zero, List.getElem?_cons_succ, Nat.reduceMul, Nat.reduceAdd] at x1_5_2
  replace x1_5_2 := Q1_5.out.cell x1_5_2 (by simp)
  obtain ⟨g5_1_0, hg5_1_0, x5_1_0, z5_1_0⟩ := tk_cell HO5.out 1 0 (by simp) (by omega)
  obtain ⟨g5_2_0, hg5_2_0, x5_2_0, z5_2_0⟩ := tk_cell HO5.out 2 0 (by simp) (by omega)
  obtain ⟨g5, hg5⟩ : ∃ g, a5 = some ⟨g, 0, none⟩ := ⟨_, hg5_1_0⟩
  subst hg5
  obtain rfl : g5 = g5_1_0 := by injection hg5_1_0 with h; injection h
  clear hg5_1_0 z5_1_0
  obtain rfl : g5 = g5_2_0 := by injection hg5_2_0 with h; injection h
  clear hg5_2_0 z5_2_0
  simp only [List.getElem_cons_zero, List.getElem_cons_succ, tkCells, List.getElem?_cons_zero, List.getElem?_cons_succ, Nat.reduceMul, Nat.reduceAdd] at x5_1_0
  simp only [List.getElem_cons_zero, List.getElem_cons_succ, tkCells, List.getElem?_cons_zero, List.getElem?_cons_succ, Nat.reduceMul, Nat.reduceAdd] at x5_2_0
  have hf1 := Q2_5.out.heap HF1.out (by simp)
  have d10 := blk_cell hf1 0
  have d11 := blk_cell hf1 1
  simp only [List.getElem?_toArray, List.getElem?_cons_zero, List.getElem?_cons_succ] at d10 d11
  have hl1 := blk_lt hf1
  clear hf1
  have hf2 := Q3_5.out.heap HF2.out (by simp)
  have d20 := blk_cell hf2 0
  have d21 := blk_cell hf2 1
  simp only [List.getElem?_toArray, List.getElem?_cons_zero, List.getElem?_cons_succ] at d20 d21
  have hl2 := blk_lt hf2
  clear hf2
  have hf3 := Q4_5.out.heap HF3.out (by simp)
  have d30 := blk_cell hf3 0
  have d31 := blk_cell hf3 1
  simp only [List.getElem?_toArray, List.getElem?_cons_zero, List.getElem?_cons_succ] at d30 d31
  have hl3 := blk_lt hf3
  clear hf3
  have hf4 := HF4.out
  have d40 := blk_cell hf4 0
  have d41 := blk_cell hf4 1
  simp only [List.getElem?_toArray, List.getElem?_cons_zero, List.getElem?_cons_succ] at d40 d41
  have hl4 := blk_lt hf4
  clear hf4
  have hlg1 := World.block_lt_of_cell? _ _ x1_0_0
  have hlg5 := World.block_lt_of_cell? _ _ x5_1_0
  go_wp2_with fail
  go_ret
  exact ⟨rfl, K5.out.alloc _⟩
end Go.Proofs.YtjnjldbegngooaaDoor
