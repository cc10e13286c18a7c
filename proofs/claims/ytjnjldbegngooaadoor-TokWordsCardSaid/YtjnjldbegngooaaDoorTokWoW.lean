/-
  TokWords: the walk.
-/
import Derived.Test.YtjnjldbegngooaaDoorTokOp
import Derived.Test.YtjnjldbegngooaaDoorTokRb
import Derived.BigQuiet
import Derived.Deep.QuietTactic
namespace Go.Proofs.YtjnjldbegngooaaDoor
open Go.ChangeShapes Go.WideShapes Go.ChangeAt Go.RowKit
set_option linter.unusedVariables false
set_option linter.unusedSimpArgs false

variable {w w' w1 W : World}
/-- a drawn region whose operations read and whose callees make new memory alone -/
theorem wp_region_kept {id : Nat} {Q : Exit → Act → World → Prop} {a : Act} {w : World} {l : List Oper} (hB : Region.lexB .any l.toArray = true)
    (h : wpQuiet Tryd.prog l.toArray (fun V => Kept [] w V) (fun a' => ∀ w', Kept [] w w' → Q .normal a' w') l a) : (Code.region id l.toArray true).wp Tryd.prog Q a w :=
  wp_region_quiet (C := fun V => Kept [] w V) (by kernel_rfl) hB (Kept.refl [] w).drew (by simpa using h)
theorem keep9 {w w' : World} {a0 a1 a2 a3 a4 a5 a6 a7 a8 : Addr} {v0 v1 v2 v3 v4 v5 v6 v7 v8 : Value} (hk : Kept [] w w') (h0 : w.cell? a0 = some v0) (h1 : w.cell? a1 = some v1) (h2 : w.cell? a2 = some v2) (h3 : w.cell? a3 = some v3) (h4 : w.cell? a4 = some v4) (h5 : w.cell? a5 = some v5) (h6 : w.cell? a6 = some v6) (h7 : w.cell? a7 = some v7) (h8 : w.cell? a8 = some v8) :
    w'.cell? a0 = some v0 ∧ w'.cell? a1 = some v1 ∧ w'.cell? a2 = some v2 ∧ w'.cell? a3 = some v3 ∧ w'.cell? a4 = some v4 ∧ w'.cell? a5 = some v5 ∧ w'.cell? a6 = some v6 ∧ w'.cell? a7 = some v7 ∧ w'.cell? a8 = some v8 :=
  ⟨hk.cell h0 (by simp), hk.cell h1 (by simp), hk.cell h2 (by simp), hk.cell h3 (by simp), hk.cell h4 (by simp), hk.cell h5 (by simp), hk.cell h6 (by simp), hk.cell h7 (by simp), hk.cell h8 (by simp)⟩
set_option maxHeartbeats 3200000 in
set_option maxRecDepth 100000 in
theorem words_c (l : List UInt8) (t : Ty) (w : World) (hl : l.length ≤ 140737488351232) (hL : Laid w) :
    Calls Tryd.prog 4 #[.string ⟨l.toArray⟩, tyV t] w (BoolIs true w) := by
  have HL := Lib.hid hL
  obtain ⟨s, hs⟩ : ∃ s, s = l.take 40 := ⟨_, rfl⟩
  have hsl : s.length ≤ 40 := by rw [hs, List.length_take]; omega
  have hmin : min ((l.length : Nat) : Int) 40 = ((min l.length 40 : Nat) : Int) := by omega
  have hext : (⟨l.toArray⟩ : ByteArray).extract 0 (min l.length 40) = ⟨s.toArray⟩ := by
    rw [ext_list, hs]
    congr 1
    simp [List.take_eq_take_iff]
    omega
  have HT := Lib.hid (fun W (hW : Kept [] w W) => typeof_c s (by omega) W (HL.out.kept0 hW))
  have HRT := Lib.hid (fun W => rtypeof_c s (by omega) W)
  have HR := Lib.hid (fun W (hW : Kept [] w W) => reserved_c s (by omega) W (HL.out.kept0 hW))
  have HRR := Lib.hid (fun W => rreserved_c s W)
  have HS := Lib.hid (fun W => says_c t W)
  have HRS := Lib.hid (fun W => rsays_c t W)
  have HWK := Lib.hid (fun W (hW : Kept [] w W) => wakes_c W (HL.out.kept0 hW))
  obtain ⟨tb, tg, tw⟩ := t
  simp only [tyV] at HS HRS ⊢
  unfold TypePost at HT HRT
  generalize getTy (typeB s) = gt at HT HRT
  generalize (typeB s).isSome = gi at HT HRT
  obtain ⟨gb, gs, gw⟩ := gt
  simp only [tyV] at HT HRT
  clear hL hs
  go_enter Tryd.func4, Tryd.ntmps4
  go_wp2_with fail
  refine (HT.out _ ((Kept.refl [] w).alloc _)).mono ?_
  rintro e w2 ⟨rfl, k2⟩
  have HB0 := Lib.hid (k2.heap (heap_alloc_new w (.cells #[.bool tb, .bool tg, .int .i64 tw] 34)) (by simp))
  have K2 := Lib.hid (((Kept.refl [] w).alloc (.cells #[.bool tb, .bool tg, .int .i64 tw] 34)).trans k2)
  clear k2
  go_wp2_with fail
  refine (HRT.out _).mono ?_
  rintro e w3 ⟨rfl, k3⟩
  have HB1 := Lib.hid (k3.heap (heap_alloc_new w2 (.cells #[.bool gb, .bool gs, .int .i64 gw] 34)) (by simp))
  have K3 := Lib.hid (((Kept.refl [] w2).alloc (.cells #[.bool gb, .bool gs, .int .i64 gw] 34)).trans k3)
  clear k3
  go_wp2_with fail
  obtain ⟨wA, hwA⟩ : ∃ V, V = w3.alloc (.cells #[.bool gb, .bool gs, .int .i64 gw] 34) := ⟨_, rfl⟩
  have K3A := Lib.hid (show Kept [] w3 wA from hwA ▸ (Kept.refl [] w3).alloc _)
  have HB2 := Lib.hid (show wA.heap[w3.heap.size]? = some (.cells #[.bool gb, .bool gs, .int .i64 gw] 34 (0, 0)) from hwA ▸ heap_alloc_new w3 _)
  have KA := Lib.hid ((K2.out.trans K3.out).trans K3A.out)
  rw [← hwA]
  clear hwA
  have hb0 := (K3.out.trans K3A.out).heap HB0.out List.not_mem_nil
  have hb1 := K3A.out.heap HB1.out List.not_mem_nil
  have hb2 := HB2.out
  have HCL := Lib.hid (fun (V : World) (hV : Kept [] wA V) => keep9 hV (blk_cell hb0 0) (blk_cell hb0 1) (blk_cell hb0 2) (blk_cell hb1 0) (blk_cell hb1 1) (blk_cell hb1 2) (blk_cell hb2 0) (blk_cell hb2 1) (blk_cell hb2 2))
  clear hb0 hb1 hb2 hmin hext
  unfold BoolIs at HRR HWK
  unfold StrIs at HS HRS
  simp only [strV] at HS HRS
  generalize sayB ⟨tb, tg, tw⟩ = X at HS HRS
  refine wp_region_kept (by kernel_rfl) ?_
  (go_big_quiet_want; apply Exists.intro; refine ⟨fun V hV => ?_, ?_⟩; rotate_left; go_big_quiet_on; (try simp only [Act.put, List.setIfInBounds_toArray, List.set_cons_zero, List.set_cons_succ]); rotate_right)
  · obtain ⟨g0, g1, g2, g3, g4, g5, g6, g7, g8⟩ := HCL.out V hV
    go_simp
    exact rfl
  (go_big_quiet_want; apply Exists.intro; refine ⟨fun V hV => ?_, ?_⟩; rotate_left; go_big_quiet_on; (try simp only [Act.put, List.setIfInBounds_toArray, List.set_cons_zero, List.set_cons_succ]); rotate_right)
  · obtain ⟨g0, g1, g2, g3, g4, g5, g6, g7, g8⟩ := HCL.out V hV
    go_simp
    exact rfl
  (go_big_quiet_want; apply Exists.intro; refine ⟨fun V hV => ?_, ?_⟩; rotate_left; go_big_quiet_on; (try simp only [Act.put, List.setIfInBounds_toArray, List.set_cons_zero, List.set_cons_succ]); rotate_right)
  · go_simp
    exact rfl
  (go_big_quiet_want; apply Exists.intro; refine ⟨fun V hV => ?_, ?_⟩; rotate_left; go_big_quiet_on; (try simp only [Act.put, List.setIfInBounds_toArray, List.set_cons_zero, List.set_cons_succ]); rotate_right)
  · go_simp
    exact rfl
  (go_big_quiet_want; apply Exists.intro; refine ⟨fun V hV => ?_, ?_⟩; rotate_left; go_big_quiet_on; (try simp only [Act.put, List.setIfInBounds_toArray, List.set_cons_zero, List.set_cons_succ]); rotate_right)
  · go_simp
    exact rfl
  (go_big_quiet_want; apply Exists.intro; refine ⟨fun V hV => ?_, ?_⟩; rotate_left; go_big_quiet_on; (try simp only [Act.put, List.setIfInBounds_toArray, List.set_cons_zero, List.set_cons_succ]); rotate_right)
  · go_simp
    exact rfl
  (go_big_quiet_want; apply Exists.intro; refine ⟨fun V hV => ?_, ?_⟩; rotate_left; go_big_quiet_on; (try simp only [Act.put, List.setIfInBounds_toArray, List.set_cons_zero, List.set_cons_succ]); rotate_right)
  · go_simp
    exact rfl
  (go_big_quiet_want; apply Exists.intro; refine ⟨fun V hV => ?_, ?_⟩; rotate_left; go_big_quiet_on; (try simp only [Act.put, List.setIfInBounds_toArray, List.set_cons_zero, List.set_cons_succ]); rotate_right)
  · go_simp
    exact rfl
  (go_big_quiet_want; apply Exists.intro; refine ⟨fun V hV => ?_, ?_⟩; rotate_left; go_big_quiet_on; (try simp only [Act.put, List.setIfInBounds_toArray, List.set_cons_zero, List.set_cons_succ]); rotate_right)
  · go_simp
    exact rfl
  (go_big_quiet_want; apply Exists.intro; refine ⟨fun V hV => ?_, ?_⟩; rotate_left; go_big_quiet_on; (try simp only [Act.put, List.setIfInBounds_toArray, List.set_cons_zero, List.set_cons_succ]); rotate_right)
  · go_simp
    exact rfl
  (go_big_quiet_want; apply Exists.intro; refine ⟨fun V hV => ?_, ?_⟩; rotate_left; go_big_quiet_on; (try simp only [Act.put, List.setIfInBounds_toArray, List.set_cons_zero, List.set_cons_succ]); rotate_right)
  · go_simp
    exact (HR.out V (KA.out.trans hV)).mono fun e V' h => ⟨h.1, h.2 ▸ hV⟩
  (go_big_quiet_want; apply Exists.intro; refine ⟨fun V hV => ?_, ?_⟩; rotate_left; go_big_quiet_on; (try simp only [Act.put, List.setIfInBounds_toArray, List.set_cons_zero, List.set_cons_succ]); rotate_right)
  · go_simp
    exact rfl
  (go_big_quiet_want; apply Exists.intro; refine ⟨fun V hV => ?_, ?_⟩; rotate_left; go_big_quiet_on; (try simp only [Act.put, List.setIfInBounds_toArray, List.set_cons_zero, List.set_cons_succ]); rotate_right)
  · go_simp
    exact (HRR.out V).mono fun e V' h => ⟨h.1, hV.trans h.2⟩
  (go_big_quiet_want; apply Exists.intro; refine ⟨fun V hV => ?_, ?_⟩; rotate_left; go_big_quiet_on; (try simp only [Act.put, List.setIfInBounds_toArray, List.set_cons_zero, List.set_cons_succ]); rotate_right)
  · go_simp
    exact rfl
  (go_big_quiet_want; apply Exists.intro; refine ⟨fun V hV => ?_, ?_⟩; rotate_left; go_big_quiet_on; (try simp only [Act.put, List.setIfInBounds_toArray, List.set_cons_zero, List.set_cons_succ]); rotate_right)
  · go_simp
    exact rfl
  (go_big_quiet_want; apply Exists.intro; refine ⟨fun V hV => ?_, ?_⟩; rotate_left; go_big_quiet_on; (try simp only [Act.put, List.setIfInBounds_toArray, List.set_cons_zero, List.set_cons_succ]); rotate_right)
  · go_simp
    exact rfl
  (go_big_quiet_want; apply Exists.intro; refine ⟨fun V hV => ?_, ?_⟩; rotate_left; go_big_quiet_on; (try simp only [Act.put, List.setIfInBounds_toArray, List.set_cons_zero, List.set_cons_succ]); rotate_right)
  · obtain ⟨g0, g1, g2, g3, g4, g5, g6, g7, g8⟩ := HCL.out V hV
    go_simp
    exact rfl
  (go_big_quiet_want; apply Exists.intro; refine ⟨fun V hV => ?_, ?_⟩; rotate_left; go_big_quiet_on; (try simp only [Act.put, List.setIfInBounds_toArray, List.set_cons_zero, List.set_cons_succ]); rotate_right)
  · go_simp
    exact (HS.out V).mono fun e V' h => ⟨h.1, hV.trans h.2⟩
  (go_big_quiet_want; apply Exists.intro; refine ⟨fun V hV => ?_, ?_⟩; rotate_left; go_big_quiet_on; (try simp only [Act.put, List.setIfInBounds_toArray, List.set_cons_zero, List.set_cons_succ]); rotate_right)
  · obtain ⟨g0, g1, g2, g3, g4, g5, g6, g7, g8⟩ := HCL.out V hV
    go_simp
    exact rfl
  (go_big_quiet_want; apply Exists.intro; refine ⟨fun V hV => ?_, ?_⟩; rotate_left; go_big_quiet_on; (try simp only [Act.put, List.setIfInBounds_toArray, List.set_cons_zero, List.set_cons_succ]); rotate_right)
  · go_simp
    exact (HRS.out V).mono fun e V' h => ⟨h.1, hV.trans h.2⟩
  (go_big_quiet_want; apply Exists.intro; refine ⟨fun V hV => ?_, ?_⟩; rotate_left; go_big_quiet_on; (try simp only [Act.put, List.setIfInBounds_toArray, List.set_cons_zero, List.set_cons_succ]); rotate_right)
  · go_simp
    exact rfl
  (go_big_quiet_want; apply Exists.intro; refine ⟨fun V hV => ?_, ?_⟩; rotate_left; go_big_quiet_on; (try simp only [Act.put, List.setIfInBounds_toArray, List.set_cons_zero, List.set_cons_succ]); rotate_right)
  · go_simp
    exact rfl
  (go_big_quiet_want; apply Exists.intro; refine ⟨fun V hV => ?_, ?_⟩; rotate_left; go_big_quiet_on; (try simp only [Act.put, List.setIfInBounds_toArray, List.set_cons_zero, List.set_cons_succ]); rotate_right)
  · go_simp
    exact rfl
  (go_big_quiet_want; apply Exists.intro; refine ⟨fun V hV => ?_, ?_⟩; rotate_left; go_big_quiet_on; (try simp only [Act.put, List.setIfInBounds_toArray, List.set_cons_zero, List.set_cons_succ]); rotate_right)
  · go_simp
    exact (HWK.out V (KA.out.trans hV)).mono fun e V' h => ⟨h.1, hV.trans h.2⟩
  (go_big_quiet_want; apply Exists.intro; refine ⟨fun V hV => ?_, ?_⟩; rotate_left; go_big_quiet_on; (try simp only [Act.put, List.setIfInBounds_toArray, List.set_cons_zero, List.set_cons_succ]); rotate_right)
  · go_simp
    exact rfl
  (go_big_quiet_want; apply Exists.intro; refine ⟨fun V hV => ?_, ?_⟩; rotate_left; go_big_quiet_on; (try simp only [Act.put, List.setIfInBounds_toArray, List.set_cons_zero, List.set_cons_succ]); rotate_right)
  · go_simp
    exact rfl
  refine wpQuiet_nil ?_
  intro w9 k9
  have K9 := Lib.hid k9
  clear k9
  go_wp2_with fail
  go_ret
  exact ⟨rfl, KA.out.trans K9.out⟩
end Go.Proofs.YtjnjldbegngooaaDoor
