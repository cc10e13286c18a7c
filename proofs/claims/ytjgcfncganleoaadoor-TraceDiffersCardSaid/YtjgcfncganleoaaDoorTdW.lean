/-
  Law 09: TraceDiffers: the walk.
-/
import Derived.Test.YtjgcfncganleoaaDoorTdT
import Derived.Deep.RegionHeld3
import Derived.BigRegion
import Derived.BigQuiet
import Derived.Laws.Bits64
import Derived.Laws.Bits64b
namespace Go.Proofs.YtjgcfncganleoaaDoor
open Go.ChangeShapes Go.WideShapes Go.ChangeAt Go.RowKit
set_option linter.unusedVariables false
set_option linter.unusedSimpArgs false

variable {w w' w1 W : World}
set_option maxHeartbeats 3200000 in
set_option maxRecDepth 100000 in
theorem td_c (ba : Option Addr) (bc : Nat) (ra : Option Addr) (rc : Nat) (t : Tb) (wl : List WR) (x y byw : Nat) (W : World) (hv : TabV W ba t.bs.length bc ra wl.length rc t wl) (hok : t.ok) (hx : x < 256) (hy : y < 256) (hby : byw < 18446744073709551616) (hg : W.cell? ⟨3, 15, none⟩ = some (.int .u8 4)) :
    Calls Tryd.prog 3 #[.agg #[.slice ba t.bs.length bc, .slice ra wl.length rc], .agg #[.int .u8 (x : Int), .int .u8 (y : Int)], .int .u64 (byw : Int)] W (BoolIs true W) := by
  have HG := Lib.hid hg
  obtain ⟨bn, hbn⟩ : ∃ n, n = t.bs.length := ⟨_, rfl⟩
  obtain ⟨rn, hrn⟩ : ∃ n, n = wl.length := ⟨_, rfl⟩
  have HBN := Lib.hid hbn
  have HRN := Lib.hid hrn
  rw [← hbn, ← hrn] at hv ⊢
  have HV := Lib.hid hv
  have hW1 := (show Kept [] W ((W.alloc (.cells #[.slice ba bn bc, .slice ra rn rc] 25)).alloc (.cells #[.int .u8 (x : Int), .int .u8 (y : Int)] 26)) from ((Kept.refl [] W).alloc _).alloc _)
  have hb0 : ((W.alloc (.cells #[.slice ba bn bc, .slice ra rn rc] 25)).alloc (.cells #[.int .u8 (x : Int), .int .u8 (y : Int)] 26)).heap[W.heap.size]? = some (.cells #[.slice ba bn bc, .slice ra rn rc] 25 (0, 0)) := ((Kept.refl [] _).alloc _).heap (heap_new _ _) (by simp)
  have hb1 : ((W.alloc (.cells #[.slice ba bn bc, .slice ra rn rc] 25)).alloc (.cells #[.int .u8 (x : Int), .int .u8 (y : Int)] 26)).heap[W.heap.size + 1]? = some (.cells #[.int .u8 (x : Int), .int .u8 (y : Int)] 26 (0, 0)) := by
    have := heap_new (W.alloc (.cells #[.slice ba bn bc, .slice ra rn rc] 25)) (.cells #[.int .u8 (x : Int), .int .u8 (y : Int)] 26)
    simpa using this
  clear hv hg hbn hrn
  go_enter Tryd.func3, Tryd.ntmps3
  go_wp2_with fail
  generalize ((W.alloc (.cells #[.slice ba bn bc, .slice ra rn rc] 25)).alloc (.cells #[.int .u8 (x : Int), .int .u8 (y : Int)] 26)) = wr at *
  generalize W.heap.size = n at *
  have K1 := Lib.hid hW1
  have B0 := Lib.hid hb0
  have B1 := Lib.hid hb1
  have c0 : wr.cell? ⟨n, 0, none⟩ = some (.slice ba bn bc) := blk_cell hb0 0
  have c1 : wr.cell? ⟨n, 1, none⟩ = some (.slice ra rn rc) := blk_cell hb0 1
  have HF := Lib.hid (fun V (hV : Kept [] wr V) => few_c ((HV.out.kept0 K1.out).kept0 hV) hok)
  clear hW1 hb0 hb1
  have bn7 : n < wr.heap.size := blk_lt B0.out
  go_cut [7, 8] (fun s7 s8 wx => TwoPost wr (fewT t) (fewT t) s7 s8 wx)
  · as_aux_lemma =>
    go_wp2_with fail
    refine wp_region_held_drew (S := fun V => V.cell? ⟨n, 0, none⟩ = some (.slice ba bn bc) ∧ V.cell? ⟨n, 1, none⟩ = some (.slice ra rn rc)) (by kernel_rfl) ?_ (fun hHeld => ?_)
    · try dsimp only
      exact ⟨c0, c1⟩
    refine wpAnyH_take (i := 0) (v := ?_) rfl (by kernel_rfl) (by kernel_rfl) (by kernel_rfl) (fun _ _ _ h => h) (Or.inl ⟨by rfl, ?_⟩) (by assumption) ?_
    rotate_left
    · intro w hSw; (try dsimp only at hSw); go_simp
      all_goals with_reducible rfl
    try simp only [Act.put, List.setIfInBounds_toArray, List.set_cons_zero, List.set_cons_succ]
    refine wpAnyH_take (i := 2) (v := ?_) rfl (by kernel_rfl) (by kernel_rfl) (by kernel_rfl) (fun _ _ _ h => h) (Or.inl ⟨by rfl, ?_⟩) (by assumption) ?_
    rotate_left
    · intro w hSw; (try dsimp only at hSw); go_simp
      all_goals with_reducible rfl
    try simp only [Act.put, List.setIfInBounds_toArray, List.set_cons_zero, List.set_cons_succ]
    obtain ⟨v0, hv0⟩ : ∃ v, v = wr.drew := ⟨_, rfl⟩
    rw [← hv0] at hHeld ⊢
    have kv : Kept [] wr v0 := hv0 ▸ (Kept.refl [] wr).drew
    clear hv0
    refine wpAnyH_ready (rs := [1, 4, 5]) (by kernel_rfl) (by simp) ?_
    refine AllReadyH.cons rfl (fun K hK => ?_) ?_
    · go_simp
      go_at_call 9
      refine (HF.out _ kv).mono ?_
      rintro e u1 ⟨x1, e1, r1, q1, l1, rfl, ht1, hk1, hn1⟩
      have hm1 : ∀ b ∈ ft x1 ++ (ft r1 ++ wrBlocks l1), wr.heap.size ≤ b := fun b hb => Nat.le_trans kv.size (hn1 b hb)
      refine hK.out _ _ ?_ (fun hHeld => ?_)
      · exact ⟨hk1.cell hHeld.1 (by simp), hk1.cell hHeld.2 (by simp)⟩
      clear hK K
      try simp only [Act.put, List.setIfInBounds_toArray, List.set_cons_zero, List.set_cons_succ]
      have kv := kv.trans hk1
      refine wpAnyH_ready (rs := [3, 4, 5]) (by kernel_rfl) (by simp) ?_
      refine AllReadyH.cons rfl (fun K hK => ?_) ?_
      · go_simp
        go_at_call 9
        refine (HF.out _ kv).mono ?_
        rintro e u2 ⟨x2, e2, r2, q2, l2, rfl, ht2, hk2, hn2⟩
        have hm2 : ∀ b ∈ ft x2 ++ (ft r2 ++ wrBlocks l2), wr.heap.size ≤ b := fun b hb => Nat.le_trans kv.size (hn2 b hb)
        refine hK.out _ _ ?_ (fun hHeld => ?_)
        · exact ⟨hk2.cell hHeld.1 (by simp), hk2.cell hHeld.2 (by simp)⟩
        clear hK K
        try simp only [Act.put, List.setIfInBounds_toArray, List.set_cons_zero, List.set_cons_succ]
        have dis := ht1.dis hn2
        have kv := kv.trans hk2
        have ht1 := ht1.kept0 hk2
        refine wpAnyH_ready (rs := [4, 5]) (by kernel_rfl) (by simp) ?_
        refine AllReadyH.cons rfl (fun K hK => ?_) ?_
        · as_aux_lemma =>
          go_simp
          refine hK.out _ _ ?_ (fun hHeld => ?_)
          · exact ⟨cell_alloc hHeld.1 _, cell_alloc hHeld.2 _⟩
          clear hK K
          try simp only [Act.put, List.setIfInBounds_toArray, List.set_cons_zero, List.set_cons_succ]
          obtain ⟨v3, hv⟩ : ∃ v, v = u2.alloc (.cells #[.slice none 0 0, .slice none 0 0] 25) := ⟨_, rfl⟩
          obtain ⟨p7, hp7⟩ : ∃ p, p = u2.heap.size := ⟨_, rfl⟩
          rw [← hv, ← hp7]
          have hk9 : Kept [] u2 v3 := hv ▸ (Kept.refl [] u2).alloc _
          have h7 : v3.heap[p7]? = some (.cells #[.slice none 0 0, .slice none 0 0] 25 (0, 0)) := by rw [hv, hp7]; exact heap_new _ _
          have b7 : wr.heap.size ≤ p7 := hp7 ▸ kv.size
          rw [← hv] at hHeld
          have kv := kv.trans hk9
          have ht1 := ht1.kept0 hk9
          have ht2 := ht2.kept0 hk9
          clear hv hp7 hk9
          refine wpAnyH_ready (rs := [5]) (by kernel_rfl) (by simp) ?_
          refine AllReadyH.cons rfl (fun K hK => ?_) ?_
          · go_simp
            refine hK.out _ _ ?_ (fun hHeld => ?_)
            · exact ⟨cell_alloc hHeld.1 _, cell_alloc hHeld.2 _⟩
            clear hK K
            try simp only [Act.put, List.setIfInBounds_toArray, List.set_cons_zero, List.set_cons_succ]
            obtain ⟨v4, hv⟩ : ∃ v, v = v3.alloc (.cells #[.slice none 0 0, .slice none 0 0] 25) := ⟨_, rfl⟩
            obtain ⟨p8, hp8⟩ : ∃ p, p = v3.heap.size := ⟨_, rfl⟩
            rw [← hv, ← hp8]
            have hk9 : Kept [] v3 v4 := hv ▸ (Kept.refl [] v3).alloc _
            have h8 : v4.heap[p8]? = some (.cells #[.slice none 0 0, .slice none 0 0] 25 (0, 0)) := by rw [hv, hp8]; exact heap_new _ _
            have b8 : wr.heap.size ≤ p8 := hp8 ▸ kv.size
            have h78 : p7 ≠ p8 := by have := blk_lt h7; omega
            rw [← hv] at hHeld
            have kv := kv.trans hk9
            have h7 := hk9.heap h7 (by simp)
            have ht1 := ht1.kept0 hk9
            have ht2 := ht2.kept0 hk9
            clear hv hp8 hk9
            have d70 := blk_cell h7 0
            have d71 := blk_cell h7 1
            have d80 := blk_cell h8 0
            have d81 := blk_cell h8 1
            have z70 := blk_free h7 0
            have z71 := blk_free h7 1
            have z80 := blk_free h8 0
            have z81 := blk_free h8 1
            have h87 : ¬ p8 = p7 := Ne.symm h78
            have h78' : ¬ p7 = p8 := h78
            obtain ⟨wy, hwy⟩ : ∃ v, v = v4 := ⟨_, rfl⟩
            subst hwy
            have hs0 := hHeld.1
            have hs1 := hHeld.2
            have hn7 : ¬ n = p7 := by omega
            have hn8 : ¬ n = p8 := by omega
            have KST0 := Kept.refl [p7, p8] wy
            have H7 := Lib.hid h7
            have H8 := Lib.hid h8
            have HT1 := Lib.hid ht1
            have HT2 := Lib.hid ht2
            have HDIS := Lib.hid dis
            have HN1 := Lib.hid hm1
            have HN2 := Lib.hid hm2
            have KV := Lib.hid kv
            clear h7 h8 ht1 ht2 dis hn1 hn2 hm1 hm2 hk1 hk2 kv
            refine wpAnyH_ready (rs := [6]) (by kernel_rfl) (by simp) ?_
            refine AllReadyH.cons rfl (fun K hK => ?_) ?_
            · go_simp
              refine hK.out _ _ ?_ (fun hHeld => ?_)
              · exact ⟨Kept.cell (F := [p7, p8]) (w := wy) (by (repeat (first | with_reducible exact KST0 | with_reducible refine Kept.setCell ?_ (.inl (by simp)) _))) hs0 (by simp [hn7, hn8]), Kept.cell (F := [p7, p8]) (w := wy) (by (repeat (first | with_reducible exact KST0 | with_reducible refine Kept.setCell ?_ (.inl (by simp)) _))) hs1 (by simp [hn7, hn8])⟩
              clear hK K
              try simp only [Act.put, List.setIfInBounds_toArray, List.set_cons_zero, List.set_cons_succ]
              refine wpAnyH_ready (rs := [7]) (by kernel_rfl) (by simp) ?_
              refine AllReadyH.cons rfl (fun K hK => ?_) ?_
              · go_simp
                refine hK.out _ _ ?_ (fun hHeld => ?_)
                · exact ⟨Kept.cell (F := [p7, p8]) (w := wy) (by (repeat (first | with_reducible exact KST0 | with_reducible refine Kept.setCell ?_ (.inl (by simp)) _))) hs0 (by simp [hn7, hn8]), Kept.cell (F := [p7, p8]) (w := wy) (by (repeat (first | with_reducible exact KST0 | with_reducible refine Kept.setCell ?_ (.inl (by simp)) _))) hs1 (by simp [hn7, hn8])⟩
                clear hK K
                try simp only [Act.put, List.setIfInBounds_toArray, List.set_cons_zero, List.set_cons_succ]
                refine wpAnyH_done (by kernel_rfl) ?_ _
                go_wp2_with fail
                go_meet
                exact ⟨p7, p8, x1, e1, r1, q1, l1, x2, e2, r2, q2, l2, rfl, rfl, two_at H7.out H8.out HT1.out HT2.out HDIS.out KV.out h78 b7 b8 HN1.out HN2.out⟩
              exact AllReadyH.nil
            exact AllReadyH.nil
          exact AllReadyH.nil
        refine AllReadyH.cons rfl (fun K hK => ?_) ?_
        · as_aux_lemma =>
          go_simp
          refine hK.out _ _ ?_ (fun hHeld => ?_)
          · exact ⟨cell_alloc hHeld.1 _, cell_alloc hHeld.2 _⟩
          clear hK K
          try simp only [Act.put, List.setIfInBounds_toArray, List.set_cons_zero, List.set_cons_succ]
          obtain ⟨v3, hv⟩ : ∃ v, v = u2.alloc (.cells #[.slice none 0 0, .slice none 0 0] 25) := ⟨_, rfl⟩
          obtain ⟨p8, hp8⟩ : ∃ p, p = u2.heap.size := ⟨_, rfl⟩
          rw [← hv, ← hp8]
          have hk9 : Kept [] u2 v3 := hv ▸ (Kept.refl [] u2).alloc _
          have h8 : v3.heap[p8]? = some (.cells #[.slice none 0 0, .slice none 0 0] 25 (0, 0)) := by rw [hv, hp8]; exact heap_new _ _
          have b8 : wr.heap.size ≤ p8 := hp8 ▸ kv.size
          rw [← hv] at hHeld
          have kv := kv.trans hk9
          have ht1 := ht1.kept0 hk9
          have ht2 := ht2.kept0 hk9
          clear hv hp8 hk9
          refine wpAnyH_ready (rs := [4]) (by kernel_rfl) (by simp) ?_
          refine AllReadyH.cons rfl (fun K hK => ?_) ?_
          · go_simp
            refine hK.out _ _ ?_ (fun hHeld => ?_)
            · exact ⟨cell_alloc hHeld.1 _, cell_alloc hHeld.2 _⟩
            clear hK K
            try simp only [Act.put, List.setIfInBounds_toArray, List.set_cons_zero, List.set_cons_succ]
            obtain ⟨v4, hv⟩ : ∃ v, v = v3.alloc (.cells #[.slice none 0 0, .slice none 0 0] 25) := ⟨_, rfl⟩
            obtain ⟨p7, hp7⟩ : ∃ p, p = v3.heap.size := ⟨_, rfl⟩
            rw [← hv, ← hp7]
            have hk9 : Kept [] v3 v4 := hv ▸ (Kept.refl [] v3).alloc _
            have h7 : v4.heap[p7]? = some (.cells #[.slice none 0 0, .slice none 0 0] 25 (0, 0)) := by rw [hv, hp7]; exact heap_new _ _
            have b7 : wr.heap.size ≤ p7 := hp7 ▸ kv.size
            have h78 : p7 ≠ p8 := by have := blk_lt h8; omega
            rw [← hv] at hHeld
            have kv := kv.trans hk9
            have h8 := hk9.heap h8 (by simp)
            have ht1 := ht1.kept0 hk9
            have ht2 := ht2.kept0 hk9
            clear hv hp7 hk9
            have d70 := blk_cell h7 0
            have d71 := blk_cell h7 1
            have d80 := blk_cell h8 0
            have d81 := blk_cell h8 1
            have z70 := blk_free h7 0
            have z71 := blk_free h7 1
            have z80 := blk_free h8 0
            have z81 := blk_free h8 1
            have h87 : ¬ p8 = p7 := Ne.symm h78
            have h78' : ¬ p7 = p8 := h78
            obtain ⟨wy, hwy⟩ : ∃ v, v = v4 := ⟨_, rfl⟩
            subst hwy
            have hs0 := hHeld.1
            have hs1 := hHeld.2
            have hn7 : ¬ n = p7 := by omega
            have hn8 : ¬ n = p8 := by omega
            have KST0 := Kept.refl [p7, p8] wy
            have H7 := Lib.hid h7
            have H8 := Lib.hid h8
            have HT1 := Lib.hid ht1
            have HT2 := Lib.hid ht2
            have HDIS := Lib.hid dis
            have HN1 := Lib.hid hm1
            have HN2 := Lib.hid hm2
            have KV := Lib.hid kv
            clear h7 h8 ht1 ht2 dis hn1 hn2 hm1 hm2 hk1 hk2 kv
            refine wpAnyH_ready (rs := [6]) (by kernel_rfl) (by simp) ?_
            refine AllReadyH.cons rfl (fun K hK => ?_) ?_
            · go_simp
              refine hK.out _ _ ?_ (fun hHeld => ?_)
              · exact ⟨Kept.cell (F := [p7, p8]) (w := wy) (by (repeat (first | with_reducible exact KST0 | with_reducible refine Kept.setCell ?_ (.inl (by simp)) _))) hs0 (by simp [hn7, hn8]), Kept.cell (F := [p7, p8]) (w := wy) (by (repeat (first | with_reducible exact KST0 | with_reducible refine Kept.setCell ?_ (.inl (by simp)) _))) hs1 (by simp [hn7, hn8])⟩
              clear hK K
              try simp only [Act.put, List.setIfInBounds_toArray, List.set_cons_zero, List.set_cons_succ]
              refine wpAnyH_ready (rs := [7]) (by kernel_rfl) (by simp) ?_
              refine AllReadyH.cons rfl (fun K hK => ?_) ?_
              · go_simp
                refine hK.out _ _ ?_ (fun hHeld => ?_)
                · exact ⟨Kept.cell (F := [p7, p8]) (w := wy) (by (repeat (first | with_reducible exact KST0 | with_reducible refine Kept.setCell ?_ (.inl (by simp)) _))) hs0 (by simp [hn7, hn8]), Kept.cell (F := [p7, p8]) (w := wy) (by (repeat (first | with_reducible exact KST0 | with_reducible refine Kept.setCell ?_ (.inl (by simp)) _))) hs1 (by simp [hn7, hn8])⟩
                clear hK K
                try simp only [Act.put, List.setIfInBounds_toArray, List.set_cons_zero, List.set_cons_succ]
                refine wpAnyH_done (by kernel_rfl) ?_ _
                go_wp2_with fail
                go_meet
                exact ⟨p7, p8, x1, e1, r1, q1, l1, x2, e2, r2, q2, l2, rfl, rfl, two_at H7.out H8.out HT1.out HT2.out HDIS.out KV.out h78 b7 b8 HN1.out HN2.out⟩
              exact AllReadyH.nil
            exact AllReadyH.nil
          exact AllReadyH.nil
        exact AllReadyH.nil
      refine AllReadyH.cons rfl (fun K hK => ?_) ?_
      · go_simp
        refine hK.out _ _ ?_ (fun hHeld => ?_)
        · exact ⟨cell_alloc hHeld.1 _, cell_alloc hHeld.2 _⟩
        clear hK K
        try simp only [Act.put, List.setIfInBounds_toArray, List.set_cons_zero, List.set_cons_succ]
        obtain ⟨v2, hv⟩ : ∃ v, v = u1.alloc (.cells #[.slice none 0 0, .slice none 0 0] 25) := ⟨_, rfl⟩
        obtain ⟨p7, hp7⟩ : ∃ p, p = u1.heap.size := ⟨_, rfl⟩
        rw [← hv, ← hp7]
        have hk9 : Kept [] u1 v2 := hv ▸ (Kept.refl [] u1).alloc _
        have h7 : v2.heap[p7]? = some (.cells #[.slice none 0 0, .slice none 0 0] 25 (0, 0)) := by rw [hv, hp7]; exact heap_new _ _
        have b7 : wr.heap.size ≤ p7 := hp7 ▸ kv.size
        rw [← hv] at hHeld
        have kv := kv.trans hk9
        have ht1 := ht1.kept0 hk9
        clear hv hp7 hk9
        refine wpAnyH_ready (rs := [3, 5]) (by kernel_rfl) (by simp) ?_
        refine AllReadyH.cons rfl (fun K hK => ?_) ?_
        · as_aux_lemma =>
          go_simp
          go_at_call 9
          refine (HF.out _ kv).mono ?_
          rintro e u2 ⟨x2, e2, r2, q2, l2, rfl, ht2, hk2, hn2⟩
          have hm2 : ∀ b ∈ ft x2 ++ (ft r2 ++ wrBlocks l2), wr.heap.size ≤ b := fun b hb => Nat.le_trans kv.size (hn2 b hb)
          refine hK.out _ _ ?_ (fun hHeld => ?_)
          · exact ⟨hk2.cell hHeld.1 (by simp), hk2.cell hHeld.2 (by simp)⟩
          clear hK K
          try simp only [Act.put, List.setIfInBounds_toArray, List.set_cons_zero, List.set_cons_succ]
          have dis := ht1.dis hn2
          have kv := kv.trans hk2
          have h7 := hk2.heap h7 (by simp)
          have ht1 := ht1.kept0 hk2
          refine wpAnyH_ready (rs := [5]) (by kernel_rfl) (by simp) ?_
          refine AllReadyH.cons rfl (fun K hK => ?_) ?_
          · go_simp
            refine hK.out _ _ ?_ (fun hHeld => ?_)
            · exact ⟨cell_alloc hHeld.1 _, cell_alloc hHeld.2 _⟩
            clear hK K
            try simp only [Act.put, List.setIfInBounds_toArray, List.set_cons_zero, List.set_cons_succ]
            obtain ⟨v4, hv⟩ : ∃ v, v = u2.alloc (.cells #[.slice none 0 0, .slice none 0 0] 25) := ⟨_, rfl⟩
            obtain ⟨p8, hp8⟩ : ∃ p, p = u2.heap.size := ⟨_, rfl⟩
            rw [← hv, ← hp8]
            have hk9 : Kept [] u2 v4 := hv ▸ (Kept.refl [] u2).alloc _
            have h8 : v4.heap[p8]? = some (.cells #[.slice none 0 0, .slice none 0 0] 25 (0, 0)) := by rw [hv, hp8]; exact heap_new _ _
            have b8 : wr.heap.size ≤ p8 := hp8 ▸ kv.size
            have h78 : p7 ≠ p8 := by have := blk_lt h7; omega
            rw [← hv] at hHeld
            have kv := kv.trans hk9
            have h7 := hk9.heap h7 (by simp)
            have ht1 := ht1.kept0 hk9
            have ht2 := ht2.kept0 hk9
            clear hv hp8 hk9
            have d70 := blk_cell h7 0
            have d71 := blk_cell h7 1
            have d80 := blk_cell h8 0
            have d81 := blk_cell h8 1
            have z70 := blk_free h7 0
            have z71 := blk_free h7 1
            have z80 := blk_free h8 0
            have z81 := blk_free h8 1
            have h87 : ¬ p8 = p7 := Ne.symm h78
            have h78' : ¬ p7 = p8 := h78
            obtain ⟨wy, hwy⟩ : ∃ v, v = v4 := ⟨_, rfl⟩
            subst hwy
            have hs0 := hHeld.1
            have hs1 := hHeld.2
            have hn7 : ¬ n = p7 := by omega
            have hn8 : ¬ n = p8 := by omega
            have KST0 := Kept.refl [p7, p8] wy
            have H7 := Lib.hid h7
            have H8 := Lib.hid h8
            have HT1 := Lib.hid ht1
            have HT2 := Lib.hid ht2
            have HDIS := Lib.hid dis
            have HN1 := Lib.hid hm1
            have HN2 := Lib.hid hm2
            have KV := Lib.hid kv
            clear h7 h8 ht1 ht2 dis hn1 hn2 hm1 hm2 hk1 hk2 kv
            refine wpAnyH_ready (rs := [6]) (by kernel_rfl) (by simp) ?_
            refine AllReadyH.cons rfl (fun K hK => ?_) ?_
            · go_simp
              refine hK.out _ _ ?_ (fun hHeld => ?_)
              · exact ⟨Kept.cell (F := [p7, p8]) (w := wy) (by (repeat (first | with_reducible exact KST0 | with_reducible refine Kept.setCell ?_ (.inl (by simp)) _))) hs0 (by simp [hn7, hn8]), Kept.cell (F := [p7, p8]) (w := wy) (by (repeat (first | with_reducible exact KST0 | with_reducible refine Kept.setCell ?_ (.inl (by simp)) _))) hs1 (by simp [hn7, hn8])⟩
              clear hK K
              try simp only [Act.put, List.setIfInBounds_toArray, List.set_cons_zero, List.set_cons_succ]
              refine wpAnyH_ready (rs := [7]) (by kernel_rfl) (by simp) ?_
              refine AllReadyH.cons rfl (fun K hK => ?_) ?_
              · go_simp
                refine hK.out _ _ ?_ (fun hHeld => ?_)
                · exact ⟨Kept.cell (F := [p7, p8]) (w := wy) (by (repeat (first | with_reducible exact KST0 | with_reducible refine Kept.setCell ?_ (.inl (by simp)) _))) hs0 (by simp [hn7, hn8]), Kept.cell (F := [p7, p8]) (w := wy) (by (repeat (first | with_reducible exact KST0 | with_reducible refine Kept.setCell ?_ (.inl (by simp)) _))) hs1 (by simp [hn7, hn8])⟩
                clear hK K
                try simp only [Act.put, List.setIfInBounds_toArray, List.set_cons_zero, List.set_cons_succ]
                refine wpAnyH_done (by kernel_rfl) ?_ _
                go_wp2_with fail
                go_meet
                exact ⟨p7, p8, x1, e1, r1, q1, l1, x2, e2, r2, q2, l2, rfl, rfl, two_at H7.out H8.out HT1.out HT2.out HDIS.out KV.out h78 b7 b8 HN1.out HN2.out⟩
              exact AllReadyH.nil
            exact AllReadyH.nil
          exact AllReadyH.nil
        refine AllReadyH.cons rfl (fun K hK => ?_) ?_
        · as_aux_lemma =>
          go_simp
          refine hK.out _ _ ?_ (fun hHeld => ?_)
          · exact ⟨cell_alloc hHeld.1 _, cell_alloc hHeld.2 _⟩
          clear hK K
          try simp only [Act.put, List.setIfInBounds_toArray, List.set_cons_zero, List.set_cons_succ]
          obtain ⟨v3, hv⟩ : ∃ v, v = v2.alloc (.cells #[.slice none 0 0, .slice none 0 0] 25) := ⟨_, rfl⟩
          obtain ⟨p8, hp8⟩ : ∃ p, p = v2.heap.size := ⟨_, rfl⟩
          rw [← hv, ← hp8]
          have hk9 : Kept [] v2 v3 := hv ▸ (Kept.refl [] v2).alloc _
          have h8 : v3.heap[p8]? = some (.cells #[.slice none 0 0, .slice none 0 0] 25 (0, 0)) := by rw [hv, hp8]; exact heap_new _ _
          have b8 : wr.heap.size ≤ p8 := hp8 ▸ kv.size
          have h78 : p7 ≠ p8 := by have := blk_lt h7; omega
          rw [← hv] at hHeld
          have kv := kv.trans hk9
          have h7 := hk9.heap h7 (by simp)
          have ht1 := ht1.kept0 hk9
          clear hv hp8 hk9
          refine wpAnyH_ready (rs := [3]) (by kernel_rfl) (by simp) ?_
          refine AllReadyH.cons rfl (fun K hK => ?_) ?_
          · go_simp
            go_at_call 9
            refine (HF.out _ kv).mono ?_
            rintro e u2 ⟨x2, e2, r2, q2, l2, rfl, ht2, hk2, hn2⟩
            have hm2 : ∀ b ∈ ft x2 ++ (ft r2 ++ wrBlocks l2), wr.heap.size ≤ b := fun b hb => Nat.le_trans kv.size (hn2 b hb)
            refine hK.out _ _ ?_ (fun hHeld => ?_)
            · exact ⟨hk2.cell hHeld.1 (by simp), hk2.cell hHeld.2 (by simp)⟩
            clear hK K
            try simp only [Act.put, List.setIfInBounds_toArray, List.set_cons_zero, List.set_cons_succ]
            have dis := ht1.dis hn2
            have kv := kv.trans hk2
            have h7 := hk2.heap h7 (by simp)
            have h8 := hk2.heap h8 (by simp)
            have ht1 := ht1.kept0 hk2
            have d70 := blk_cell h7 0
            have d71 := blk_cell h7 1
            have d80 := blk_cell h8 0
            have d81 := blk_cell h8 1
            have z70 := blk_free h7 0
            have z71 := blk_free h7 1
            have z80 := blk_free h8 0
            have z81 := blk_free h8 1
            have h87 : ¬ p8 = p7 := Ne.symm h78
            have h78' : ¬ p7 = p8 := h78
            obtain ⟨wy, hwy⟩ : ∃ v, v = u2 := ⟨_, rfl⟩
            subst hwy
            have hs0 := hHeld.1
            have hs1 := hHeld.2
            have hn7 : ¬ n = p7 := by omega
            have hn8 : ¬ n = p8 := by omega
            have KST0 := Kept.refl [p7, p8] wy
            have H7 := Lib.hid h7
            have H8 := Lib.hid h8
            have HT1 := Lib.hid ht1
            have HT2 := Lib.hid ht2
            have HDIS := Lib.hid dis
            have HN1 := Lib.hid hm1
            have HN2 := Lib.hid hm2
            have KV := Lib.hid kv
            clear h7 h8 ht1 ht2 dis hn1 hn2 hm1 hm2 hk1 hk2 kv
            refine wpAnyH_ready (rs := [6]) (by kernel_rfl) (by simp) ?_
            refine AllReadyH.cons rfl (fun K hK => ?_) ?_
            · go_simp
              refine hK.out _ _ ?_ (fun hHeld => ?_)
              · exact ⟨Kept.cell (F := [p7, p8]) (w := wy) (by (repeat (first | with_reducible exact KST0 | with_reducible refine Kept.setCell ?_ (.inl (by simp)) _))) hs0 (by simp [hn7, hn8]), Kept.cell (F := [p7, p8]) (w := wy) (by (repeat (first | with_reducible exact KST0 | with_reducible refine Kept.setCell ?_ (.inl (by simp)) _))) hs1 (by simp [hn7, hn8])⟩
              clear hK K
              try simp only [Act.put, List.setIfInBounds_toArray, List.set_cons_zero, List.set_cons_succ]
              refine wpAnyH_ready (rs := [7]) (by kernel_rfl) (by simp) ?_
              refine AllReadyH.cons rfl (fun K hK => ?_) ?_
              · go_simp
                refine hK.out _ _ ?_ (fun hHeld => ?_)
                · exact ⟨Kept.cell (F := [p7, p8]) (w := wy) (by (repeat (first | with_reducible exact KST0 | with_reducible refine Kept.setCell ?_ (.inl (by simp)) _))) hs0 (by simp [hn7, hn8]), Kept.cell (F := [p7, p8]) (w := wy) (by (repeat (first | with_reducible exact KST0 | with_reducible refine Kept.setCell ?_ (.inl (by simp)) _))) hs1 (by simp [hn7, hn8])⟩
                clear hK K
                try simp only [Act.put, List.setIfInBounds_toArray, List.set_cons_zero, List.set_cons_succ]
                refine wpAnyH_done (by kernel_rfl) ?_ _
                go_wp2_with fail
                go_meet
                exact ⟨p7, p8, x1, e1, r1, q1, l1, x2, e2, r2, q2, l2, rfl, rfl, two_at H7.out H8.out HT1.out HT2.out HDIS.out KV.out h78 b7 b8 HN1.out HN2.out⟩
              exact AllReadyH.nil
            exact AllReadyH.nil
          exact AllReadyH.nil
        exact AllReadyH.nil
      refine AllReadyH.cons rfl (fun K hK => ?_) ?_
      · go_simp
        refine hK.out _ _ ?_ (fun hHeld => ?_)
        · exact ⟨cell_alloc hHeld.1 _, cell_alloc hHeld.2 _⟩
        clear hK K
        try simp only [Act.put, List.setIfInBounds_toArray, List.set_cons_zero, List.set_cons_succ]
        obtain ⟨v2, hv⟩ : ∃ v, v = u1.alloc (.cells #[.slice none 0 0, .slice none 0 0] 25) := ⟨_, rfl⟩
        obtain ⟨p8, hp8⟩ : ∃ p, p = u1.heap.size := ⟨_, rfl⟩
        rw [← hv, ← hp8]
        have hk9 : Kept [] u1 v2 := hv ▸ (Kept.refl [] u1).alloc _
        have h8 : v2.heap[p8]? = some (.cells #[.slice none 0 0, .slice none 0 0] 25 (0, 0)) := by rw [hv, hp8]; exact heap_new _ _
        have b8 : wr.heap.size ≤ p8 := hp8 ▸ kv.size
        rw [← hv] at hHeld
        have kv := kv.trans hk9
        have ht1 := ht1.kept0 hk9
        clear hv hp8 hk9
        refine wpAnyH_ready (rs := [3, 4]) (by kernel_rfl) (by simp) ?_
        refine AllReadyH.cons rfl (fun K hK => ?_) ?_
        · as_aux_lemma =>
          go_simp
          go_at_call 9
          refine (HF.out _ kv).mono ?_
          rintro e u2 ⟨x2, e2, r2, q2, l2, rfl, ht2, hk2, hn2⟩
          have hm2 : ∀ b ∈ ft x2 ++ (ft r2 ++ wrBlocks l2), wr.heap.size ≤ b := fun b hb => Nat.le_trans kv.size (hn2 b hb)
          refine hK.out _ _ ?_ (fun hHeld => ?_)
          · exact ⟨hk2.cell hHeld.1 (by simp), hk2.cell hHeld.2 (by simp)⟩
          clear hK K
          try simp only [Act.put, List.setIfInBounds_toArray, List.set_cons_zero, List.set_cons_succ]
          have dis := ht1.dis hn2
          have kv := kv.trans hk2
          have h8 := hk2.heap h8 (by simp)
          have ht1 := ht1.kept0 hk2
          refine wpAnyH_ready (rs := [4]) (by kernel_rfl) (by simp) ?_
          refine AllReadyH.cons rfl (fun K hK => ?_) ?_
          · go_simp
            refine hK.out _ _ ?_ (fun hHeld => ?_)
            · exact ⟨cell_alloc hHeld.1 _, cell_alloc hHeld.2 _⟩
            clear hK K
            try simp only [Act.put, List.setIfInBounds_toArray, List.set_cons_zero, List.set_cons_succ]
            obtain ⟨v4, hv⟩ : ∃ v, v = u2.alloc (.cells #[.slice none 0 0, .slice none 0 0] 25) := ⟨_, rfl⟩
            obtain ⟨p7, hp7⟩ : ∃ p, p = u2.heap.size := ⟨_, rfl⟩
            rw [← hv, ← hp7]
            have hk9 : Kept [] u2 v4 := hv ▸ (Kept.refl [] u2).alloc _
            have h7 : v4.heap[p7]? = some (.cells #[.slice none 0 0, .slice none 0 0] 25 (0, 0)) := by rw [hv, hp7]; exact heap_new _ _
            have b7 : wr.heap.size ≤ p7 := hp7 ▸ kv.size
            have h78 : p7 ≠ p8 := by have := blk_lt h8; omega
            rw [← hv] at hHeld
            have kv := kv.trans hk9
            have h8 := hk9.heap h8 (by simp)
            have ht1 := ht1.kept0 hk9
            have ht2 := ht2.kept0 hk9
            clear hv hp7 hk9
            have d70 := blk_cell h7 0
            have d71 := blk_cell h7 1
            have d80 := blk_cell h8 0
            have d81 := blk_cell h8 1
            have z70 := blk_free h7 0
            have z71 := blk_free h7 1
            have z80 := blk_free h8 0
            have z81 := blk_free h8 1
            have h87 : ¬ p8 = p7 := Ne.symm h78
            have h78' : ¬ p7 = p8 := h78
            obtain ⟨wy, hwy⟩ : ∃ v, v = v4 := ⟨_, rfl⟩
            subst hwy
            have hs0 := hHeld.1
            have hs1 := hHeld.2
            have hn7 : ¬ n = p7 := by omega
            have hn8 : ¬ n = p8 := by omega
            have KST0 := Kept.refl [p7, p8] wy
            have H7 := Lib.hid h7
            have H8 := Lib.hid h8
            have HT1 := Lib.hid ht1
            have HT2 := Lib.hid ht2
            have HDIS := Lib.hid dis
            have HN1 := Lib.hid hm1
            have HN2 := Lib.hid hm2
            have KV := Lib.hid kv
            clear h7 h8 ht1 ht2 dis hn1 hn2 hm1 hm2 hk1 hk2 kv
            refine wpAnyH_ready (rs := [6]) (by kernel_rfl) (by simp) ?_
            refine AllReadyH.cons rfl (fun K hK => ?_) ?_
            · go_simp
              refine hK.out _ _ ?_ (fun hHeld => ?_)
              · exact ⟨Kept.cell (F := [p7, p8]) (w := wy) (by (repeat (first | with_reducible exact KST0 | with_reducible refine Kept.setCell ?_ (.inl (by simp)) _))) hs0 (by simp [hn7, hn8]), Kept.cell (F := [p7, p8]) (w := wy) (by (repeat (first | with_reducible exact KST0 | with_reducible refine Kept.setCell ?_ (.inl (by simp)) _))) hs1 (by simp [hn7, hn8])⟩
              clear hK K
              try simp only [Act.put, List.setIfInBounds_toArray, List.set_cons_zero, List.set_cons_succ]
              refine wpAnyH_ready (rs := [7]) (by kernel_rfl) (by simp) ?_
              refine AllReadyH.cons rfl (fun K hK => ?_) ?_
              · go_simp
                refine hK.out _ _ ?_ (fun hHeld => ?_)
                · exact ⟨Kept.cell (F := [p7, p8]) (w := wy) (by (repeat (first | with_reducible exact KST0 | with_reducible refine Kept.setCell ?_ (.inl (by simp)) _))) hs0 (by simp [hn7, hn8]), Kept.cell (F := [p7, p8]) (w := wy) (by (repeat (first | with_reducible exact KST0 | with_reducible refine Kept.setCell ?_ (.inl (by simp)) _))) hs1 (by simp [hn7, hn8])⟩
                clear hK K
                try simp only [Act.put, List.setIfInBounds_toArray, List.set_cons_zero, List.set_cons_succ]
                refine wpAnyH_done (by kernel_rfl) ?_ _
                go_wp2_with fail
                go_meet
                exact ⟨p7, p8, x1, e1, r1, q1, l1, x2, e2, r2, q2, l2, rfl, rfl, two_at H7.out H8.out HT1.out HT2.out HDIS.out KV.out h78 b7 b8 HN1.out HN2.out⟩
              exact AllReadyH.nil
            exact AllReadyH.nil
          exact AllReadyH.nil
        refine AllReadyH.cons rfl (fun K hK => ?_) ?_
        · as_aux_lemma =>
          go_simp
          refine hK.out _ _ ?_ (fun hHeld => ?_)
          · exact ⟨cell_alloc hHeld.1 _, cell_alloc hHeld.2 _⟩
          clear hK K
          try simp only [Act.put, List.setIfInBounds_toArray, List.set_cons_zero, List.set_cons_succ]
          obtain ⟨v3, hv⟩ : ∃ v, v = v2.alloc (.cells #[.slice none 0 0, .slice none 0 0] 25) := ⟨_, rfl⟩
          obtain ⟨p7, hp7⟩ : ∃ p, p = v2.heap.size := ⟨_, rfl⟩
          rw [← hv, ← hp7]
          have hk9 : Kept [] v2 v3 := hv ▸ (Kept.refl [] v2).alloc _
          have h7 : v3.heap[p7]? = some (.cells #[.slice none 0 0, .slice none 0 0] 25 (0, 0)) := by rw [hv, hp7]; exact heap_new _ _
          have b7 : wr.heap.size ≤ p7 := hp7 ▸ kv.size
          have h78 : p7 ≠ p8 := by have := blk_lt h8; omega
          rw [← hv] at hHeld
          have kv := kv.trans hk9
          have h8 := hk9.heap h8 (by simp)
          have ht1 := ht1.kept0 hk9
          clear hv hp7 hk9
          refine wpAnyH_ready (rs := [3]) (by kernel_rfl) (by simp) ?_
          refine AllReadyH.cons rfl (fun K hK => ?_) ?_
          · go_simp
            go_at_call 9
            refine (HF.out _ kv).mono ?_
            rintro e u2 ⟨x2, e2, r2, q2, l2, rfl, ht2, hk2, hn2⟩
            have hm2 : ∀ b ∈ ft x2 ++ (ft r2 ++ wrBlocks l2), wr.heap.size ≤ b := fun b hb => Nat.le_trans kv.size (hn2 b hb)
            refine hK.out _ _ ?_ (fun hHeld => ?_)
            · exact ⟨hk2.cell hHeld.1 (by simp), hk2.cell hHeld.2 (by simp)⟩
            clear hK K
            try simp only [Act.put, List.setIfInBounds_toArray, List.set_cons_zero, List.set_cons_succ]
            have dis := ht1.dis hn2
            have kv := kv.trans hk2
            have h7 := hk2.heap h7 (by simp)
            have h8 := hk2.heap h8 (by simp)
            have ht1 := ht1.kept0 hk2
            have d70 := blk_cell h7 0
            have d71 := blk_cell h7 1
            have d80 := blk_cell h8 0
            have d81 := blk_cell h8 1
            have z70 := blk_free h7 0
            have z71 := blk_free h7 1
            have z80 := blk_free h8 0
            have z81 := blk_free h8 1
            have h87 : ¬ p8 = p7 := Ne.symm h78
            have h78' : ¬ p7 = p8 := h78
            obtain ⟨wy, hwy⟩ : ∃ v, v = u2 := ⟨_, rfl⟩
            subst hwy
            have hs0 := hHeld.1
            have hs1 := hHeld.2
            have hn7 : ¬ n = p7 := by omega
            have hn8 : ¬ n = p8 := by omega
            have KST0 := Kept.refl [p7, p8] wy
            have H7 := Lib.hid h7
            have H8 := Lib.hid h8
            have HT1 := Lib.hid ht1
            have HT2 := Lib.hid ht2
            have HDIS := Lib.hid dis
            have HN1 := Lib.hid hm1
            have HN2 := Lib.hid hm2
            have KV := Lib.hid kv
            clear h7 h8 ht1 ht2 dis hn1 hn2 hm1 hm2 hk1 hk2 kv
            refine wpAnyH_ready (rs := [6]) (by kernel_rfl) (by simp) ?_
            refine AllReadyH.cons rfl (fun K hK => ?_) ?_
            · go_simp
              refine hK.out _ _ ?_ (fun hHeld => ?_)
              · exact ⟨Kept.cell (F := [p7, p8]) (w := wy) (by (repeat (first | with_reducible exact KST0 | with_reducible refine Kept.setCell ?_ (.inl (by simp)) _))) hs0 (by simp [hn7, hn8]), Kept.cell (F := [p7, p8]) (w := wy) (by (repeat (first | with_reducible exact KST0 | with_reducible refine Kept.setCell ?_ (.inl (by simp)) _))) hs1 (by simp [hn7, hn8])⟩
              clear hK K
              try simp only [Act.put, List.setIfInBounds_toArray, List.set_cons_zero, List.set_cons_succ]
              refine wpAnyH_ready (rs := [7]) (by kernel_rfl) (by simp) ?_
              refine AllReadyH.cons rfl (fun K hK => ?_) ?_
              · go_simp
                refine hK.out _ _ ?_ (fun hHeld => ?_)
                · exact ⟨Kept.cell (F := [p7, p8]) (w := wy) (by (repeat (first | with_reducible exact KST0 | with_reducible refine Kept.setCell ?_ (.inl (by simp)) _))) hs0 (by simp [hn7, hn8]), Kept.cell (F := [p7, p8]) (w := wy) (by (repeat (first | with_reducible exact KST0 | with_reducible refine Kept.setCell ?_ (.inl (by simp)) _))) hs1 (by simp [hn7, hn8])⟩
                clear hK K
                try simp only [Act.put, List.setIfInBounds_toArray, List.set_cons_zero, List.set_cons_succ]
                refine wpAnyH_done (by kernel_rfl) ?_ _
                go_wp2_with fail
                go_meet
                exact ⟨p7, p8, x1, e1, r1, q1, l1, x2, e2, r2, q2, l2, rfl, rfl, two_at H7.out H8.out HT1.out HT2.out HDIS.out KV.out h78 b7 b8 HN1.out HN2.out⟩
              exact AllReadyH.nil
            exact AllReadyH.nil
          exact AllReadyH.nil
        exact AllReadyH.nil
      exact AllReadyH.nil
    refine AllReadyH.cons rfl (fun K hK => ?_) ?_
    · go_simp
      refine hK.out _ _ ?_ (fun hHeld => ?_)
      · exact ⟨cell_alloc hHeld.1 _, cell_alloc hHeld.2 _⟩
      clear hK K
      try simp only [Act.put, List.setIfInBounds_toArray, List.set_cons_zero, List.set_cons_succ]
      obtain ⟨v1, hv⟩ : ∃ v, v = v0.alloc (.cells #[.slice none 0 0, .slice none 0 0] 25) := ⟨_, rfl⟩
      obtain ⟨p7, hp7⟩ : ∃ p, p = v0.heap.size := ⟨_, rfl⟩
      rw [← hv, ← hp7]
      have hk9 : Kept [] v0 v1 := hv ▸ (Kept.refl [] v0).alloc _
      have h7 : v1.heap[p7]? = some (.cells #[.slice none 0 0, .slice none 0 0] 25 (0, 0)) := by rw [hv, hp7]; exact heap_new _ _
      have b7 : wr.heap.size ≤ p7 := hp7 ▸ kv.size
      rw [← hv] at hHeld
      have kv := kv.trans hk9
      clear hv hp7 hk9
      refine wpAnyH_ready (rs := [1, 5]) (by kernel_rfl) (by simp) ?_
      refine AllReadyH.cons rfl (fun K hK => ?_) ?_
      · go_simp
        go_at_call 9
        refine (HF.out _ kv).mono ?_
        rintro e u1 ⟨x1, e1, r1, q1, l1, rfl, ht1, hk1, hn1⟩
        have hm1 : ∀ b ∈ ft x1 ++ (ft r1 ++ wrBlocks l1), wr.heap.size ≤ b := fun b hb => Nat.le_trans kv.size (hn1 b hb)
        refine hK.out _ _ ?_ (fun hHeld => ?_)
        · exact ⟨hk1.cell hHeld.1 (by simp), hk1.cell hHeld.2 (by simp)⟩
        clear hK K
        try simp only [Act.put, List.setIfInBounds_toArray, List.set_cons_zero, List.set_cons_succ]
        have kv := kv.trans hk1
        have h7 := hk1.heap h7 (by simp)
        refine wpAnyH_ready (rs := [3, 5]) (by kernel_rfl) (by simp) ?_
        refine AllReadyH.cons rfl (fun K hK => ?_) ?_
        · as_aux_lemma =>
          go_simp
          go_at_call 9
          refine (HF.out _ kv).mono ?_
          rintro e u2 ⟨x2, e2, r2, q2, l2, rfl, ht2, hk2, hn2⟩
          have hm2 : ∀ b ∈ ft x2 ++ (ft r2 ++ wrBlocks l2), wr.heap.size ≤ b := fun b hb => Nat.le_trans kv.size (hn2 b hb)
          refine hK.out _ _ ?_ (fun hHeld => ?_)
          · exact ⟨hk2.cell hHeld.1 (by simp), hk2.cell hHeld.2 (by simp)⟩
          clear hK K
          try simp only [Act.put, List.setIfInBounds_toArray, List.set_cons_zero, List.set_cons_succ]
          have dis := ht1.dis hn2
          have kv := kv.trans hk2
          have h7 := hk2.heap h7 (by simp)
          have ht1 := ht1.kept0 hk2
          refine wpAnyH_ready (rs := [5]) (by kernel_rfl) (by simp) ?_
          refine AllReadyH.cons rfl (fun K hK => ?_) ?_
          · go_simp
            refine hK.out _ _ ?_ (fun hHeld => ?_)
            · exact ⟨cell_alloc hHeld.1 _, cell_alloc hHeld.2 _⟩
            clear hK K
            try simp only [Act.put, List.setIfInBounds_toArray, List.set_cons_zero, List.set_cons_succ]
            obtain ⟨v4, hv⟩ : ∃ v, v = u2.alloc (.cells #[.slice none 0 0, .slice none 0 0] 25) := ⟨_, rfl⟩
            obtain ⟨p8, hp8⟩ : ∃ p, p = u2.heap.size := ⟨_, rfl⟩
            rw [← hv, ← hp8]
            have hk9 : Kept [] u2 v4 := hv ▸ (Kept.refl [] u2).alloc _
            have h8 : v4.heap[p8]? = some (.cells #[.slice none 0 0, .slice none 0 0] 25 (0, 0)) := by rw [hv, hp8]; exact heap_new _ _
            have b8 : wr.heap.size ≤ p8 := hp8 ▸ kv.size
            have h78 : p7 ≠ p8 := by have := blk_lt h7; omega
            rw [← hv] at hHeld
            have kv := kv.trans hk9
            have h7 := hk9.heap h7 (by simp)
            have ht1 := ht1.kept0 hk9
            have ht2 := ht2.kept0 hk9
            clear hv hp8 hk9
            have d70 := blk_cell h7 0
            have d71 := blk_cell h7 1
            have d80 := blk_cell h8 0
            have d81 := blk_cell h8 1
            have z70 := blk_free h7 0
            have z71 := blk_free h7 1
            have z80 := blk_free h8 0
            have z81 := blk_free h8 1
            have h87 : ¬ p8 = p7 := Ne.symm h78
            have h78' : ¬ p7 = p8 := h78
            obtain ⟨wy, hwy⟩ : ∃ v, v = v4 := ⟨_, rfl⟩
            subst hwy
            have hs0 := hHeld.1
            have hs1 := hHeld.2
            have hn7 : ¬ n = p7 := by omega
            have hn8 : ¬ n = p8 := by omega
            have KST0 := Kept.refl [p7, p8] wy
            have H7 := Lib.hid h7
            have H8 := Lib.hid h8
            have HT1 := Lib.hid ht1
            have HT2 := Lib.hid ht2
            have HDIS := Lib.hid dis
            have HN1 := Lib.hid hm1
            have HN2 := Lib.hid hm2
            have KV := Lib.hid kv
            clear h7 h8 ht1 ht2 dis hn1 hn2 hm1 hm2 hk1 hk2 kv
            refine wpAnyH_ready (rs := [6]) (by kernel_rfl) (by simp) ?_
            refine AllReadyH.cons rfl (fun K hK => ?_) ?_
            · go_simp
              refine hK.out _ _ ?_ (fun hHeld => ?_)
              · exact ⟨Kept.cell (F := [p7, p8]) (w := wy) (by (repeat (first | with_reducible exact KST0 | with_reducible refine Kept.setCell ?_ (.inl (by simp)) _))) hs0 (by simp [hn7, hn8]), Kept.cell (F := [p7, p8]) (w := wy) (by (repeat (first | with_reducible exact KST0 | with_reducible refine Kept.setCell ?_ (.inl (by simp)) _))) hs1 (by simp [hn7, hn8])⟩
              clear hK K
              try simp only [Act.put, List.setIfInBounds_toArray, List.set_cons_zero, List.set_cons_succ]
              refine wpAnyH_ready (rs := [7]) (by kernel_rfl) (by simp) ?_
              refine AllReadyH.cons rfl (fun K hK => ?_) ?_
              · go_simp
                refine hK.out _ _ ?_ (fun hHeld => ?_)
                · exact ⟨Kept.cell (F := [p7, p8]) (w := wy) (by (repeat (first | with_reducible exact KST0 | with_reducible refine Kept.setCell ?_ (.inl (by simp)) _))) hs0 (by simp [hn7, hn8]), Kept.cell (F := [p7, p8]) (w := wy) (by (repeat (first | with_reducible exact KST0 | with_reducible refine Kept.setCell ?_ (.inl (by simp)) _))) hs1 (by simp [hn7, hn8])⟩
                clear hK K
                try simp only [Act.put, List.setIfInBounds_toArray, List.set_cons_zero, List.set_cons_succ]
                refine wpAnyH_done (by kernel_rfl) ?_ _
                go_wp2_with fail
                go_meet
                exact ⟨p7, p8, x1, e1, r1, q1, l1, x2, e2, r2, q2, l2, rfl, rfl, two_at H7.out H8.out HT1.out HT2.out HDIS.out KV.out h78 b7 b8 HN1.out HN2.out⟩
              exact AllReadyH.nil
            exact AllReadyH.nil
          exact AllReadyH.nil
        refine AllReadyH.cons rfl (fun K hK => ?_) ?_
        · as_aux_lemma =>
          go_simp
          refine hK.out _ _ ?_ (fun hHeld => ?_)
          · exact ⟨cell_alloc hHeld.1 _, cell_alloc hHeld.2 _⟩
          clear hK K
          try simp only [Act.put, List.setIfInBounds_toArray, List.set_cons_zero, List.set_cons_succ]
          obtain ⟨v3, hv⟩ : ∃ v, v = u1.alloc (.cells #[.slice none 0 0, .slice none 0 0] 25) := ⟨_, rfl⟩
          obtain ⟨p8, hp8⟩ : ∃ p, p = u1.heap.size := ⟨_, rfl⟩
          rw [← hv, ← hp8]
          have hk9 : Kept [] u1 v3 := hv ▸ (Kept.refl [] u1).alloc _
          have h8 : v3.heap[p8]? = some (.cells #[.slice none 0 0, .slice none 0 0] 25 (0, 0)) := by rw [hv, hp8]; exact heap_new _ _
          have b8 : wr.heap.size ≤ p8 := hp8 ▸ kv.size
          have h78 : p7 ≠ p8 := by have := blk_lt h7; omega
          rw [← hv] at hHeld
          have kv := kv.trans hk9
          have h7 := hk9.heap h7 (by simp)
          have ht1 := ht1.kept0 hk9
          clear hv hp8 hk9
          refine wpAnyH_ready (rs := [3]) (by kernel_rfl) (by simp) ?_
          refine AllReadyH.cons rfl (fun K hK => ?_) ?_
          · go_simp
            go_at_call 9
            refine (HF.out _ kv).mono ?_
            rintro e u2 ⟨x2, e2, r2, q2, l2, rfl, ht2, hk2, hn2⟩
            have hm2 : ∀ b ∈ ft x2 ++ (ft r2 ++ wrBlocks l2), wr.heap.size ≤ b := fun b hb => Nat.le_trans kv.size (hn2 b hb)
            refine hK.out _ _ ?_ (fun hHeld => ?_)
            · exact ⟨hk2.cell hHeld.1 (by simp), hk2.cell hHeld.2 (by simp)⟩
            clear hK K
            try simp only [Act.put, List.setIfInBounds_toArray, List.set_cons_zero, List.set_cons_succ]
            have dis := ht1.dis hn2
            have kv := kv.trans hk2
            have h7 := hk2.heap h7 (by simp)
            have h8 := hk2.heap h8 (by simp)
            have ht1 := ht1.kept0 hk2
            have d70 := blk_cell h7 0
            have d71 := blk_cell h7 1
            have d80 := blk_cell h8 0
            have d81 := blk_cell h8 1
            have z70 := blk_free h7 0
            have z71 := blk_free h7 1
            have z80 := blk_free h8 0
            have z81 := blk_free h8 1
            have h87 : ¬ p8 = p7 := Ne.symm h78
            have h78' : ¬ p7 = p8 := h78
            obtain ⟨wy, hwy⟩ : ∃ v, v = u2 := ⟨_, rfl⟩
            subst hwy
            have hs0 := hHeld.1
            have hs1 := hHeld.2
            have hn7 : ¬ n = p7 := by omega
            have hn8 : ¬ n = p8 := by omega
            have KST0 := Kept.refl [p7, p8] wy
            have H7 := Lib.hid h7
            have H8 := Lib.hid h8
            have HT1 := Lib.hid ht1
            have HT2 := Lib.hid ht2
            have HDIS := Lib.hid dis
            have HN1 := Lib.hid hm1
            have HN2 := Lib.hid hm2
            have KV := Lib.hid kv
            clear h7 h8 ht1 ht2 dis hn1 hn2 hm1 hm2 hk1 hk2 kv
            refine wpAnyH_ready (rs := [6]) (by kernel_rfl) (by simp) ?_
            refine AllReadyH.cons rfl (fun K hK => ?_) ?_
            · go_simp
              refine hK.out _ _ ?_ (fun hHeld => ?_)
              · exact ⟨Kept.cell (F := [p7, p8]) (w := wy) (by (repeat (first | with_reducible exact KST0 | with_reducible refine Kept.setCell ?_ (.inl (by simp)) _))) hs0 (by simp [hn7, hn8]), Kept.cell (F := [p7, p8]) (w := wy) (by (repeat (first | with_reducible exact KST0 | with_reducible refine Kept.setCell ?_ (.inl (by simp)) _))) hs1 (by simp [hn7, hn8])⟩
              clear hK K
              try simp only [Act.put, List.setIfInBounds_toArray, List.set_cons_zero, List.set_cons_succ]
              refine wpAnyH_ready (rs := [7]) (by kernel_rfl) (by simp) ?_
              refine AllReadyH.cons rfl (fun K hK => ?_) ?_
              · go_simp
                refine hK.out _ _ ?_ (fun hHeld => ?_)
                · exact ⟨Kept.cell (F := [p7, p8]) (w := wy) (by (repeat (first | with_reducible exact KST0 | with_reducible refine Kept.setCell ?_ (.inl (by simp)) _))) hs0 (by simp [hn7, hn8]), Kept.cell (F := [p7, p8]) (w := wy) (by (repeat (first | with_reducible exact KST0 | with_reducible refine Kept.setCell ?_ (.inl (by simp)) _))) hs1 (by simp [hn7, hn8])⟩
                clear hK K
                try simp only [Act.put, List.setIfInBounds_toArray, List.set_cons_zero, List.set_cons_succ]
                refine wpAnyH_done (by kernel_rfl) ?_ _
                go_wp2_with fail
                go_meet
                exact ⟨p7, p8, x1, e1, r1, q1, l1, x2, e2, r2, q2, l2, rfl, rfl, two_at H7.out H8.out HT1.out HT2.out HDIS.out KV.out h78 b7 b8 HN1.out HN2.out⟩
              exact AllReadyH.nil
            exact AllReadyH.nil
          exact AllReadyH.nil
        exact AllReadyH.nil
      refine AllReadyH.cons rfl (fun K hK => ?_) ?_
      · go_simp
        refine hK.out _ _ ?_ (fun hHeld => ?_)
        · exact ⟨cell_alloc hHeld.1 _, cell_alloc hHeld.2 _⟩
        clear hK K
        try simp only [Act.put, List.setIfInBounds_toArray, List.set_cons_zero, List.set_cons_succ]
        obtain ⟨v2, hv⟩ : ∃ v, v = v1.alloc (.cells #[.slice none 0 0, .slice none 0 0] 25) := ⟨_, rfl⟩
        obtain ⟨p8, hp8⟩ : ∃ p, p = v1.heap.size := ⟨_, rfl⟩
        rw [← hv, ← hp8]
        have hk9 : Kept [] v1 v2 := hv ▸ (Kept.refl [] v1).alloc _
        have h8 : v2.heap[p8]? = some (.cells #[.slice none 0 0, .slice none 0 0] 25 (0, 0)) := by rw [hv, hp8]; exact heap_new _ _
        have b8 : wr.heap.size ≤ p8 := hp8 ▸ kv.size
        have h78 : p7 ≠ p8 := by have := blk_lt h7; omega
        rw [← hv] at hHeld
        have kv := kv.trans hk9
        have h7 := hk9.heap h7 (by simp)
        clear hv hp8 hk9
        refine wpAnyH_ready (rs := [1]) (by kernel_rfl) (by simp) ?_
        refine AllReadyH.cons rfl (fun K hK => ?_) ?_
        · as_aux_lemma =>
          go_simp
          go_at_call 9
          refine (HF.out _ kv).mono ?_
          rintro e u1 ⟨x1, e1, r1, q1, l1, rfl, ht1, hk1, hn1⟩
          have hm1 : ∀ b ∈ ft x1 ++ (ft r1 ++ wrBlocks l1), wr.heap.size ≤ b := fun b hb => Nat.le_trans kv.size (hn1 b hb)
          refine hK.out _ _ ?_ (fun hHeld => ?_)
          · exact ⟨hk1.cell hHeld.1 (by simp), hk1.cell hHeld.2 (by simp)⟩
          clear hK K
          try simp only [Act.put, List.setIfInBounds_toArray, List.set_cons_zero, List.set_cons_succ]
          have kv := kv.trans hk1
          have h7 := hk1.heap h7 (by simp)
          have h8 := hk1.heap h8 (by simp)
          refine wpAnyH_ready (rs := [3]) (by kernel_rfl) (by simp) ?_
          refine AllReadyH.cons rfl (fun K hK => ?_) ?_
          · go_simp
            go_at_call 9
            refine (HF.out _ kv).mono ?_
            rintro e u2 ⟨x2, e2, r2, q2, l2, rfl, ht2, hk2, hn2⟩
            have hm2 : ∀ b ∈ ft x2 ++ (ft r2 ++ wrBlocks l2), wr.heap.size ≤ b := fun b hb => Nat.le_trans kv.size (hn2 b hb)
            refine hK.out _ _ ?_ (fun hHeld => ?_)
            · exact ⟨hk2.cell hHeld.1 (by simp), hk2.cell hHeld.2 (by simp)⟩
            clear hK K
            try simp only [Act.put, List.setIfInBounds_toArray, List.set_cons_zero, List.set_cons_succ]
            have dis := ht1.dis hn2
            have kv := kv.trans hk2
            have h7 := hk2.heap h7 (by simp)
            have h8 := hk2.heap h8 (by simp)
            have ht1 := ht1.kept0 hk2
            have d70 := blk_cell h7 0
            have d71 := blk_cell h7 1
            have d80 := blk_cell h8 0
            have d81 := blk_cell h8 1
            have z70 := blk_free h7 0
            have z71 := blk_free h7 1
            have z80 := blk_free h8 0
            have z81 := blk_free h8 1
            have h87 : ¬ p8 = p7 := Ne.symm h78
            have h78' : ¬ p7 = p8 := h78
            obtain ⟨wy, hwy⟩ : ∃ v, v = u2 := ⟨_, rfl⟩
            subst hwy
            have hs0 := hHeld.1
            have hs1 := hHeld.2
            have hn7 : ¬ n = p7 := by omega
            have hn8 : ¬ n = p8 := by omega
            have KST0 := Kept.refl [p7, p8] wy
            have H7 := Lib.hid h7
            have H8 := Lib.hid h8
            have HT1 := Lib.hid ht1
            have HT2 := Lib.hid ht2
            have HDIS := Lib.hid dis
            have HN1 := Lib.hid hm1
            have HN2 := Lib.hid hm2
            have KV := Lib.hid kv
            clear h7 h8 ht1 ht2 dis hn1 hn2 hm1 hm2 hk1 hk2 kv
            refine wpAnyH_ready (rs := [6]) (by kernel_rfl) (by simp) ?_
            refine AllReadyH.cons rfl (fun K hK => ?_) ?_
            · go_simp
              refine hK.out _ _ ?_ (fun hHeld => ?_)
              · exact ⟨Kept.cell (F := [p7, p8]) (w := wy) (by (repeat (first | with_reducible exact KST0 | with_reducible refine Kept.setCell ?_ (.inl (by simp)) _))) hs0 (by simp [hn7, hn8]), Kept.cell (F := [p7, p8]) (w := wy) (by (repeat (first | with_reducible exact KST0 | with_reducible refine Kept.setCell ?_ (.inl (by simp)) _))) hs1 (by simp [hn7, hn8])⟩
              clear hK K
              try simp only [Act.put, List.setIfInBounds_toArray, List.set_cons_zero, List.set_cons_succ]
              refine wpAnyH_ready (rs := [7]) (by kernel_rfl) (by simp) ?_
              refine AllReadyH.cons rfl (fun K hK => ?_) ?_
              · go_simp
                refine hK.out _ _ ?_ (fun hHeld => ?_)
                · exact ⟨Kept.cell (F := [p7, p8]) (w := wy) (by (repeat (first | with_reducible exact KST0 | with_reducible refine Kept.setCell ?_ (.inl (by simp)) _))) hs0 (by simp [hn7, hn8]), Kept.cell (F := [p7, p8]) (w := wy) (by (repeat (first | with_reducible exact KST0 | with_reducible refine Kept.setCell ?_ (.inl (by simp)) _))) hs1 (by simp [hn7, hn8])⟩
                clear hK K
                try simp only [Act.put, List.setIfInBounds_toArray, List.set_cons_zero, List.set_cons_succ]
                refine wpAnyH_done (by kernel_rfl) ?_ _
                go_wp2_with fail
                go_meet
                exact ⟨p7, p8, x1, e1, r1, q1, l1, x2, e2, r2, q2, l2, rfl, rfl, two_at H7.out H8.out HT1.out HT2.out HDIS.out KV.out h78 b7 b8 HN1.out HN2.out⟩
              exact AllReadyH.nil
            exact AllReadyH.nil
          exact AllReadyH.nil
        exact AllReadyH.nil
      exact AllReadyH.nil
    refine AllReadyH.cons rfl (fun K hK => ?_) ?_
    · go_simp
      refine hK.out _ _ ?_ (fun hHeld => ?_)
      · exact ⟨cell_alloc hHeld.1 _, cell_alloc hHeld.2 _⟩
      clear hK K
      try simp only [Act.put, List.setIfInBounds_toArray, List.set_cons_zero, List.set_cons_succ]
      obtain ⟨v1, hv⟩ : ∃ v, v = v0.alloc (.cells #[.slice none 0 0, .slice none 0 0] 25) := ⟨_, rfl⟩
      obtain ⟨p8, hp8⟩ : ∃ p, p = v0.heap.size := ⟨_, rfl⟩
      rw [← hv, ← hp8]
      have hk9 : Kept [] v0 v1 := hv ▸ (Kept.refl [] v0).alloc _
      have h8 : v1.heap[p8]? = some (.cells #[.slice none 0 0, .slice none 0 0] 25 (0, 0)) := by rw [hv, hp8]; exact heap_new _ _
      have b8 : wr.heap.size ≤ p8 := hp8 ▸ kv.size
      rw [← hv] at hHeld
      have kv := kv.trans hk9
      clear hv hp8 hk9
      refine wpAnyH_ready (rs := [1, 4]) (by kernel_rfl) (by simp) ?_
      refine AllReadyH.cons rfl (fun K hK => ?_) ?_
      · go_simp
        go_at_call 9
        refine (HF.out _ kv).mono ?_
        rintro e u1 ⟨x1, e1, r1, q1, l1, rfl, ht1, hk1, hn1⟩
        have hm1 : ∀ b ∈ ft x1 ++ (ft r1 ++ wrBlocks l1), wr.heap.size ≤ b := fun b hb => Nat.le_trans kv.size (hn1 b hb)
        refine hK.out _ _ ?_ (fun hHeld => ?_)
        · exact ⟨hk1.cell hHeld.1 (by simp), hk1.cell hHeld.2 (by simp)⟩
        clear hK K
        try simp only [Act.put, List.setIfInBounds_toArray, List.set_cons_zero, List.set_cons_succ]
        have kv := kv.trans hk1
        have h8 := hk1.heap h8 (by simp)
        refine wpAnyH_ready (rs := [3, 4]) (by kernel_rfl) (by simp) ?_
        refine AllReadyH.cons rfl (fun K hK => ?_) ?_
        · as_aux_lemma =>
          go_simp
          go_at_call 9
          refine (HF.out _ kv).mono ?_
          rintro e u2 ⟨x2, e2, r2, q2, l2, rfl, ht2, hk2, hn2⟩
          have hm2 : ∀ b ∈ ft x2 ++ (ft r2 ++ wrBlocks l2), wr.heap.size ≤ b := fun b hb => Nat.le_trans kv.size (hn2 b hb)
          refine hK.out _ _ ?_ (fun hHeld => ?_)
          · exact ⟨hk2.cell hHeld.1 (by simp), hk2.cell hHeld.2 (by simp)⟩
          clear hK K
          try simp only [Act.put, List.setIfInBounds_toArray, List.set_cons_zero, List.set_cons_succ]
          have dis := ht1.dis hn2
          have kv := kv.trans hk2
          have h8 := hk2.heap h8 (by simp)
          have ht1 := ht1.kept0 hk2
          refine wpAnyH_ready (rs := [4]) (by kernel_rfl) (by simp) ?_
          refine AllReadyH.cons rfl (fun K hK => ?_) ?_
          · go_simp
            refine hK.out _ _ ?_ (fun hHeld => ?_)
            · exact ⟨cell_alloc hHeld.1 _, cell_alloc hHeld.2 _⟩
            clear hK K
            try simp only [Act.put, List.setIfInBounds_toArray, List.set_cons_zero, List.set_cons_succ]
            obtain ⟨v4, hv⟩ : ∃ v, v = u2.alloc (.cells #[.slice none 0 0, .slice none 0 0] 25) := ⟨_, rfl⟩
            obtain ⟨p7, hp7⟩ : ∃ p, p = u2.heap.size := ⟨_, rfl⟩
            rw [← hv, ← hp7]
            have hk9 : Kept [] u2 v4 := hv ▸ (Kept.refl [] u2).alloc _
            have h7 : v4.heap[p7]? = some (.cells #[.slice none 0 0, .slice none 0 0] 25 (0, 0)) := by rw [hv, hp7]; exact heap_new _ _
            have b7 : wr.heap.size ≤ p7 := hp7 ▸ kv.size
            have h78 : p7 ≠ p8 := by have := blk_lt h8; omega
            rw [← hv] at hHeld
            have kv := kv.trans hk9
            have h8 := hk9.heap h8 (by simp)
            have ht1 := ht1.kept0 hk9
            have ht2 := ht2.kept0 hk9
            clear hv hp7 hk9
            have d70 := blk_cell h7 0
            have d71 := blk_cell h7 1
            have d80 := blk_cell h8 0
            have d81 := blk_cell h8 1
            have z70 := blk_free h7 0
            have z71 := blk_free h7 1
            have z80 := blk_free h8 0
            have z81 := blk_free h8 1
            have h87 : ¬ p8 = p7 := Ne.symm h78
            have h78' : ¬ p7 = p8 := h78
            obtain ⟨wy, hwy⟩ : ∃ v, v = v4 := ⟨_, rfl⟩
            subst hwy
            have hs0 := hHeld.1
            have hs1 := hHeld.2
            have hn7 : ¬ n = p7 := by omega
            have hn8 : ¬ n = p8 := by omega
            have KST0 := Kept.refl [p7, p8] wy
            have H7 := Lib.hid h7
            have H8 := Lib.hid h8
            have HT1 := Lib.hid ht1
            have HT2 := Lib.hid ht2
            have HDIS := Lib.hid dis
            have HN1 := Lib.hid hm1
            have HN2 := Lib.hid hm2
            have KV := Lib.hid kv
            clear h7 h8 ht1 ht2 dis hn1 hn2 hm1 hm2 hk1 hk2 kv
            refine wpAnyH_ready (rs := [6]) (by kernel_rfl) (by simp) ?_
            refine AllReadyH.cons rfl (fun K hK => ?_) ?_
            · go_simp
              refine hK.out _ _ ?_ (fun hHeld => ?_)
              · exact ⟨Kept.cell (F := [p7, p8]) (w := wy) (by (repeat (first | with_reducible exact KST0 | with_reducible refine Kept.setCell ?_ (.inl (by simp)) _))) hs0 (by simp [hn7, hn8]), Kept.cell (F := [p7, p8]) (w := wy) (by (repeat (first | with_reducible exact KST0 | with_reducible refine Kept.setCell ?_ (.inl (by simp)) _))) hs1 (by simp [hn7, hn8])⟩
              clear hK K
              try simp only [Act.put, List.setIfInBounds_toArray, List.set_cons_zero, List.set_cons_succ]
              refine wpAnyH_ready (rs := [7]) (by kernel_rfl) (by simp) ?_
              refine AllReadyH.cons rfl (fun K hK => ?_) ?_
              · go_simp
                refine hK.out _ _ ?_ (fun hHeld => ?_)
                · exact ⟨Kept.cell (F := [p7, p8]) (w := wy) (by (repeat (first | with_reducible exact KST0 | with_reducible refine Kept.setCell ?_ (.inl (by simp)) _))) hs0 (by simp [hn7, hn8]), Kept.cell (F := [p7, p8]) (w := wy) (by (repeat (first | with_reducible exact KST0 | with_reducible refine Kept.setCell ?_ (.inl (by simp)) _))) hs1 (by simp [hn7, hn8])⟩
                clear hK K
                try simp only [Act.put, List.setIfInBounds_toArray, List.set_cons_zero, List.set_cons_succ]
                refine wpAnyH_done (by kernel_rfl) ?_ _
                go_wp2_with fail
                go_meet
                exact ⟨p7, p8, x1, e1, r1, q1, l1, x2, e2, r2, q2, l2, rfl, rfl, two_at H7.out H8.out HT1.out HT2.out HDIS.out KV.out h78 b7 b8 HN1.out HN2.out⟩
              exact AllReadyH.nil
            exact AllReadyH.nil
          exact AllReadyH.nil
        refine AllReadyH.cons rfl (fun K hK => ?_) ?_
        · as_aux_lemma =>
          go_simp
          refine hK.out _ _ ?_ (fun hHeld => ?_)
          · exact ⟨cell_alloc hHeld.1 _, cell_alloc hHeld.2 _⟩
          clear hK K
          try simp only [Act.put, List.setIfInBounds_toArray, List.set_cons_zero, List.set_cons_succ]
          obtain ⟨v3, hv⟩ : ∃ v, v = u1.alloc (.cells #[.slice none 0 0, .slice none 0 0] 25) := ⟨_, rfl⟩
          obtain ⟨p7, hp7⟩ : ∃ p, p = u1.heap.size := ⟨_, rfl⟩
          rw [← hv, ← hp7]
          have hk9 : Kept [] u1 v3 := hv ▸ (Kept.refl [] u1).alloc _
          have h7 : v3.heap[p7]? = some (.cells #[.slice none 0 0, .slice none 0 0] 25 (0, 0)) := by rw [hv, hp7]; exact heap_new _ _
          have b7 : wr.heap.size ≤ p7 := hp7 ▸ kv.size
          have h78 : p7 ≠ p8 := by have := blk_lt h8; omega
          rw [← hv] at hHeld
          have kv := kv.trans hk9
          have h8 := hk9.heap h8 (by simp)
          have ht1 := ht1.kept0 hk9
          clear hv hp7 hk9
          refine wpAnyH_ready (rs := [3]) (by kernel_rfl) (by simp) ?_
          refine AllReadyH.cons rfl (fun K hK => ?_) ?_
          · go_simp
            go_at_call 9
            refine (HF.out _ kv).mono ?_
            rintro e u2 ⟨x2, e2, r2, q2, l2, rfl, ht2, hk2, hn2⟩
            have hm2 : ∀ b ∈ ft x2 ++ (ft r2 ++ wrBlocks l2), wr.heap.size ≤ b := fun b hb => Nat.le_trans kv.size (hn2 b hb)
            refine hK.out _ _ ?_ (fun hHeld => ?_)
            · exact ⟨hk2.cell hHeld.1 (by simp), hk2.cell hHeld.2 (by simp)⟩
            clear hK K
            try simp only [Act.put, List.setIfInBounds_toArray, List.set_cons_zero, List.set_cons_succ]
            have dis := ht1.dis hn2
            have kv := kv.trans hk2
            have h7 := hk2.heap h7 (by simp)
            have h8 := hk2.heap h8 (by simp)
            have ht1 := ht1.kept0 hk2
            have d70 := blk_cell h7 0
            have d71 := blk_cell h7 1
            have d80 := blk_cell h8 0
            have d81 := blk_cell h8 1
            have z70 := blk_free h7 0
            have z71 := blk_free h7 1
            have z80 := blk_free h8 0
            have z81 := blk_free h8 1
            have h87 : ¬ p8 = p7 := Ne.symm h78
            have h78' : ¬ p7 = p8 := h78
            obtain ⟨wy, hwy⟩ : ∃ v, v = u2 := ⟨_, rfl⟩
            subst hwy
            have hs0 := hHeld.1
            have hs1 := hHeld.2
            have hn7 : ¬ n = p7 := by omega
            have hn8 : ¬ n = p8 := by omega
            have KST0 := Kept.refl [p7, p8] wy
            have H7 := Lib.hid h7
            have H8 := Lib.hid h8
            have HT1 := Lib.hid ht1
            have HT2 := Lib.hid ht2
            have HDIS := Lib.hid dis
            have HN1 := Lib.hid hm1
            have HN2 := Lib.hid hm2
            have KV := Lib.hid kv
            clear h7 h8 ht1 ht2 dis hn1 hn2 hm1 hm2 hk1 hk2 kv
            refine wpAnyH_ready (rs := [6]) (by kernel_rfl) (by simp) ?_
            refine AllReadyH.cons rfl (fun K hK => ?_) ?_
            · go_simp
              refine hK.out _ _ ?_ (fun hHeld => ?_)
              · exact ⟨Kept.cell (F := [p7, p8]) (w := wy) (by (repeat (first | with_reducible exact KST0 | with_reducible refine Kept.setCell ?_ (.inl (by simp)) _))) hs0 (by simp [hn7, hn8]), Kept.cell (F := [p7, p8]) (w := wy) (by (repeat (first | with_reducible exact KST0 | with_reducible refine Kept.setCell ?_ (.inl (by simp)) _))) hs1 (by simp [hn7, hn8])⟩
              clear hK K
              try simp only [Act.put, List.setIfInBounds_toArray, List.set_cons_zero, List.set_cons_succ]
              refine wpAnyH_ready (rs := [7]) (by kernel_rfl) (by simp) ?_
              refine AllReadyH.cons rfl (fun K hK => ?_) ?_
              · go_simp
                refine hK.out _ _ ?_ (fun hHeld => ?_)
                · exact ⟨Kept.cell (F := [p7, p8]) (w := wy) (by (repeat (first | with_reducible exact KST0 | with_reducible refine Kept.setCell ?_ (.inl (by simp)) _))) hs0 (by simp [hn7, hn8]), Kept.cell (F := [p7, p8]) (w := wy) (by (repeat (first | with_reducible exact KST0 | with_reducible refine Kept.setCell ?_ (.inl (by simp)) _))) hs1 (by simp [hn7, hn8])⟩
                clear hK K
                try simp only [Act.put, List.setIfInBounds_toArray, List.set_cons_zero, List.set_cons_succ]
                refine wpAnyH_done (by kernel_rfl) ?_ _
                go_wp2_with fail
                go_meet
                exact ⟨p7, p8, x1, e1, r1, q1, l1, x2, e2, r2, q2, l2, rfl, rfl, two_at H7.out H8.out HT1.out HT2.out HDIS.out KV.out h78 b7 b8 HN1.out HN2.out⟩
              exact AllReadyH.nil
            exact AllReadyH.nil
          exact AllReadyH.nil
        exact AllReadyH.nil
      refine AllReadyH.cons rfl (fun K hK => ?_) ?_
      · go_simp
        refine hK.out _ _ ?_ (fun hHeld => ?_)
        · exact ⟨cell_alloc hHeld.1 _, cell_alloc hHeld.2 _⟩
        clear hK K
        try simp only [Act.put, List.setIfInBounds_toArray, List.set_cons_zero, List.set_cons_succ]
        obtain ⟨v2, hv⟩ : ∃ v, v = v1.alloc (.cells #[.slice none 0 0, .slice none 0 0] 25) := ⟨_, rfl⟩
        obtain ⟨p7, hp7⟩ : ∃ p, p = v1.heap.size := ⟨_, rfl⟩
        rw [← hv, ← hp7]
        have hk9 : Kept [] v1 v2 := hv ▸ (Kept.refl [] v1).alloc _
        have h7 : v2.heap[p7]? = some (.cells #[.slice none 0 0, .slice none 0 0] 25 (0, 0)) := by rw [hv, hp7]; exact heap_new _ _
        have b7 : wr.heap.size ≤ p7 := hp7 ▸ kv.size
        have h78 : p7 ≠ p8 := by have := blk_lt h8; omega
        rw [← hv] at hHeld
        have kv := kv.trans hk9
        have h8 := hk9.heap h8 (by simp)
        clear hv hp7 hk9
        refine wpAnyH_ready (rs := [1]) (by kernel_rfl) (by simp) ?_
        refine AllReadyH.cons rfl (fun K hK => ?_) ?_
        · as_aux_lemma =>
          go_simp
          go_at_call 9
          refine (HF.out _ kv).mono ?_
          rintro e u1 ⟨x1, e1, r1, q1, l1, rfl, ht1, hk1, hn1⟩
          have hm1 : ∀ b ∈ ft x1 ++ (ft r1 ++ wrBlocks l1), wr.heap.size ≤ b := fun b hb => Nat.le_trans kv.size (hn1 b hb)
          refine hK.out _ _ ?_ (fun hHeld => ?_)
          · exact ⟨hk1.cell hHeld.1 (by simp), hk1.cell hHeld.2 (by simp)⟩
          clear hK K
          try simp only [Act.put, List.setIfInBounds_toArray, List.set_cons_zero, List.set_cons_succ]
          have kv := kv.trans hk1
          have h7 := hk1.heap h7 (by simp)
          have h8 := hk1.heap h8 (by simp)
          refine wpAnyH_ready (rs := [3]) (by kernel_rfl) (by simp) ?_
          refine AllReadyH.cons rfl (fun K hK => ?_) ?_
          · go_simp
            go_at_call 9
            refine (HF.out _ kv).mono ?_
            rintro e u2 ⟨x2, e2, r2, q2, l2, rfl, ht2, hk2, hn2⟩
            have hm2 : ∀ b ∈ ft x2 ++ (ft r2 ++ wrBlocks l2), wr.heap.size ≤ b := fun b hb => Nat.le_trans kv.size (hn2 b hb)
            refine hK.out _ _ ?_ (fun hHeld => ?_)
            · exact ⟨hk2.cell hHeld.1 (by simp), hk2.cell hHeld.2 (by simp)⟩
            clear hK K
            try simp only [Act.put, List.setIfInBounds_toArray, List.set_cons_zero, List.set_cons_succ]
            have dis := ht1.dis hn2
            have kv := kv.trans hk2
            have h7 := hk2.heap h7 (by simp)
            have h8 := hk2.heap h8 (by simp)
            have ht1 := ht1.kept0 hk2
            have d70 := blk_cell h7 0
            have d71 := blk_cell h7 1
            have d80 := blk_cell h8 0
            have d81 := blk_cell h8 1
            have z70 := blk_free h7 0
            have z71 := blk_free h7 1
            have z80 := blk_free h8 0
            have z81 := blk_free h8 1
            have h87 : ¬ p8 = p7 := Ne.symm h78
            have h78' : ¬ p7 = p8 := h78
            obtain ⟨wy, hwy⟩ : ∃ v, v = u2 := ⟨_, rfl⟩
            subst hwy
            have hs0 := hHeld.1
            have hs1 := hHeld.2
            have hn7 : ¬ n = p7 := by omega
            have hn8 : ¬ n = p8 := by omega
            have KST0 := Kept.refl [p7, p8] wy
            have H7 := Lib.hid h7
            have H8 := Lib.hid h8
            have HT1 := Lib.hid ht1
            have HT2 := Lib.hid ht2
            have HDIS := Lib.hid dis
            have HN1 := Lib.hid hm1
            have HN2 := Lib.hid hm2
            have KV := Lib.hid kv
            clear h7 h8 ht1 ht2 dis hn1 hn2 hm1 hm2 hk1 hk2 kv
            refine wpAnyH_ready (rs := [6]) (by kernel_rfl) (by simp) ?_
            refine AllReadyH.cons rfl (fun K hK => ?_) ?_
            · go_simp
              refine hK.out _ _ ?_ (fun hHeld => ?_)
              · exact ⟨Kept.cell (F := [p7, p8]) (w := wy) (by (repeat (first | with_reducible exact KST0 | with_reducible refine Kept.setCell ?_ (.inl (by simp)) _))) hs0 (by simp [hn7, hn8]), Kept.cell (F := [p7, p8]) (w := wy) (by (repeat (first | with_reducible exact KST0 | with_reducible refine Kept.setCell ?_ (.inl (by simp)) _))) hs1 (by simp [hn7, hn8])⟩
              clear hK K
              try simp only [Act.put, List.setIfInBounds_toArray, List.set_cons_zero, List.set_cons_succ]
              refine wpAnyH_ready (rs := [7]) (by kernel_rfl) (by simp) ?_
              refine AllReadyH.cons rfl (fun K hK => ?_) ?_
              · go_simp
                refine hK.out _ _ ?_ (fun hHeld => ?_)
                · exact ⟨Kept.cell (F := [p7, p8]) (w := wy) (by (repeat (first | with_reducible exact KST0 | with_reducible refine Kept.setCell ?_ (.inl (by simp)) _))) hs0 (by simp [hn7, hn8]), Kept.cell (F := [p7, p8]) (w := wy) (by (repeat (first | with_reducible exact KST0 | with_reducible refine Kept.setCell ?_ (.inl (by simp)) _))) hs1 (by simp [hn7, hn8])⟩
                clear hK K
                try simp only [Act.put, List.setIfInBounds_toArray, List.set_cons_zero, List.set_cons_succ]
                refine wpAnyH_done (by kernel_rfl) ?_ _
                go_wp2_with fail
                go_meet
                exact ⟨p7, p8, x1, e1, r1, q1, l1, x2, e2, r2, q2, l2, rfl, rfl, two_at H7.out H8.out HT1.out HT2.out HDIS.out KV.out h78 b7 b8 HN1.out HN2.out⟩
              exact AllReadyH.nil
            exact AllReadyH.nil
          exact AllReadyH.nil
        exact AllReadyH.nil
      exact AllReadyH.nil
    exact AllReadyH.nil
  · as_aux_lemma =>
    obtain ⟨p7, p8, x1, e1, r1, q1, l1, x2, e2, r2, q2, l2, rfl, rfl, hT⟩ := hcut
    have HOK := Lib.hid (few_ok hok)
    have HLN := Lib.hid (fewT_lens t)
    have HT := Lib.hid hT
    have HW := Lib.hid (fun W' (hk : Kept [] W W') => wakes_c W' (hk.cell HG.out (by simp)))
    have HKW := Lib.hid (K1.out.trans hT.kept)
    have c70 := blk_cell hT.h7 0
    have c71 := blk_cell hT.h7 1
    have c80 := blk_cell hT.h8 0
    have c81 := blk_cell hT.h8 1
    have HV1 := Lib.hid hT.t1.tabV
    have HV2 := Lib.hid hT.t2.tabV
    clear hT hok c0 c1
    have HFF := Lib.hid (fewT_few t)
    generalize fewT t = F at *
    obtain ⟨fb, hfb⟩ : ∃ n, n = F.bs.length := ⟨_, rfl⟩
    obtain ⟨fr, hfr⟩ : ∃ n, n = F.rs.length := ⟨_, rfl⟩
    rw [← hfb] at HV1 HV2 c70 c80
    rw [← hfr] at HV1 HV2 c71 c81
    have HFB := Lib.hid hfb
    have HFR := Lib.hid hfr
    have hfb20 : fb ≤ 20 := by rw [hfb]; exact HLN.out.1
    have hfr30 : fr ≤ 30 := by rw [hfr]; exact HLN.out.2.1
    clear hfb hfr
    have HM := Lib.hid (may_c HV1.out HOK.out)
    go_wp2_with fail
    refine HM.out.mono ?_
    rintro e w3 ⟨rfl, k3⟩
    have K3 := Lib.hid k3
    have c70 := k3.cell c70 (by simp)
    have c71 := k3.cell c71 (by simp)
    have c80 := k3.cell c80 (by simp)
    have c81 := k3.cell c81 (by simp)
    have HD := Lib.hid (differ_c (HV1.out.kept0 k3) HOK.out (HV2.out.kept0 k3) HOK.out)
    clear k3
    by_cases hm : mayT F = true
    · rw [hm]
      have hfb1 : 0 < fb := by rw [HFB.out]; exact List.length_pos_iff.2 ((mayT_iff F).1 hm).1
      have HMT := Lib.hid hm
      clear hm
      by_cases hz : fr = 0
      · have hzi : ¬ (0 : Int) < (fr : Int) := by omega
        have hzn : ¬ 0 < fr := by omega
        clear hz
        go_wp2_with fail
        refine HD.out.mono ?_
        rintro e w4 ⟨i4, k4, b4, rfl, hd4, kk4⟩
        have hu := hd4.unique (diff_self HMT.out)
        simp only [Prod.mk.injEq] at hu
        obtain ⟨rfl, rfl, rfl⟩ := hu
        have K4 := Lib.hid (K3.out.trans kk4)
        clear hd4 kk4
        go_wp2_with fail
        refine (HW.out _ (HKW.out.trans K4.out)).mono ?_
        rintro e w5 ⟨rfl, k5⟩
        have K5 := Lib.hid k5
        clear k5
        go_wp2_with fail
        go_ret
        exact ⟨rfl, HKW.out.trans (K4.out.trans K5.out)⟩
      have hf1 : 0 < fr := by omega
      have hfi : (0 : Int) < (fr : Int) := by omega
      have hfbi : (0 : Int) < (fb : Int) := by omega
      obtain ⟨i, hi⟩ : ∃ i, i = x % fr := ⟨_, rfl⟩
      obtain ⟨k, hk⟩ : ∃ k, k = y % fb := ⟨_, rfl⟩
      have hil : i < fr := hi ▸ Nat.mod_lt _ hf1
      have hkl : k < fb := hk ▸ Nat.mod_lt _ hfb1
      have hii : (x : Int) % (fr : Int) = (i : Int) := by rw [hi]; simp
      have hki : (y : Int) % (fb : Int) = (k : Int) := by rw [hk]; simp
      have hB1 := K3.out.heap (HT.out.kept.heap B1.out (by simp)) (by simp)
      have c90 : w3.cell? ⟨n + 1, 0, none⟩ = some (.int .u8 (x : Int)) := blk_cell hB1 0
      have c91 : w3.cell? ⟨n + 1, 1, none⟩ = some (.int .u8 (y : Int)) := blk_cell hB1 1
      clear hz hi hk hB1
      go_wp2_with fail
      go_quiet (fail)
      rw [hii, hki]
      have KQ := (show Kept [] w3 (w3.drewN nq) from (Kept.refl [] w3).drewN nq)
      have HTQ := Lib.hid (HT.out.t2.kept0 (K3.out.trans KQ))
      have c70 := KQ.cell c70 (by simp)
      have c71 := KQ.cell c71 (by simp)
      have c80 := KQ.cell c80 (by simp)
      have c81 := KQ.cell c81 (by simp)
      have K3 := Lib.hid (K3.out.trans KQ)
      clear KQ c90 c91 hii hki
      generalize w3.drewN nq = wq at *
      have hil2 : i < l2.length := by rw [HTQ.out.rows.len, ← HFR.out]; exact hil
      obtain ⟨g2, hg2, hcr⟩ := HTQ.out.rows.cell i hil2
      have hrl : l2[i].l.length = fb := by
        have h1 : l2[i].l ∈ F.rs := by rw [← HTQ.out.rm]; exact List.mem_map.2 ⟨_, List.getElem_mem hil2, rfl⟩
        rw [HFB.out]; exact mayT_row HMT.out _ h1
      have hkl2 : k < l2[i].l.length := by omega
      have how := HTQ.out.own _ (List.getElem_mem hil2)
      obtain ⟨gr, hgr⟩ := how.form (by omega)
      obtain ⟨v, hv⟩ : ∃ v, v = l2[i].l[k]'(by omega) := ⟨_, rfl⟩
      obtain ⟨adv, hadv, hvc⟩ := how.sln k (by omega)
      obtain ⟨cur, hcur⟩ := how.apart (b := gr) (by rw [hgr]; simp [ft])
      have zf := blk_free hcur k
      obtain ⟨gb, go_, hgb, b0c, b1c⟩ := own2_bus HTQ.out.bus k (by rw [← HFB.out]; exact hkl)
      have hwd := okB_width F.bs [] ((mayT_iff F).1 HMT.out).2.2.1 _ (List.getElem_mem (show k < F.bs.length by rw [← HFB.out]; exact hkl))
      have hkb : k < F.bs.length := by rw [← HFB.out]; exact hkl
      obtain ⟨wd, hw⟩ : ∃ wd : Nat, F.bs[k].2 = (wd : Int) := ⟨F.bs[k].2.toNat, by omega⟩
      have hw1 : 1 ≤ wd := by omega
      have hw2 : wd ≤ 64 := by omega
      obtain ⟨most, hmost⟩ : ∃ m, m = 2 ^ wd - 1 := ⟨_, rfl⟩
      have hm64 : most < 18446744073709551616 := by
        have : 2 ^ wd ≤ 2 ^ 64 := Nat.pow_le_pow_right (by omega) (by omega)
        omega
      have hmi : (18446744073709551615 / 2 ^ (64 - wd) : Int) = (most : Int) := by
        rw [hmost, ← ones_nat wd (by omega), Int.natCast_ediv, Int.natCast_pow]
        rfl
      have hrow : F.rs.getD i [] = l2[i].l := by rw [← HTQ.out.rm, List.getD_eq_getElem?_getD, List.getElem?_map, List.getElem?_eq_getElem hil2]; rfl
      have hvw : v < 2 ^ wd := by
        have h1 := okR_get (((mayT_iff F).1 HMT.out).2.2.2.1 l2[i].l (by rw [← HTQ.out.rm]; exact List.mem_map.2 ⟨_, List.getElem_mem hil2, rfl⟩)) k (by rw [← HFB.out]; exact hkl)
        rw [hw, Int.toNat_natCast, List.getD_eq_getElem?_getD, List.getElem?_eq_getElem hkl2, Option.getD_some, ← hv] at h1
        exact h1
      have hv64 : v < 18446744073709551616 := by
        have : 2 ^ wd ≤ 2 ^ 64 := Nat.pow_le_pow_right (by omega) (by omega)
        omega
      have HAT := Lib.hid (show atT F i k = v from by
        unfold atT; rw [hrow, List.getD_eq_getElem?_getD, List.getElem?_eq_getElem hkl2, Option.getD_some, ← hv])
      obtain ⟨m1, hm1⟩ : ∃ m1, m1 = byw &&& most := ⟨_, rfl⟩
      have hm1l : m1 < 18446744073709551616 := by rw [hm1]; exact Nat.lt_of_le_of_lt Nat.and_le_right hm64
      have hand : bits .and .u64 (byw : Int) (most : Int) = (m1 : Int) := by rw [hm1]; exact bits_and_u64_nat byw most hby hm64
      obtain ⟨v', hv'⟩ : ∃ v', v' = v ^^^ m1 := ⟨_, rfl⟩
      have hxor : bits .xor .u64 (v : Int) (m1 : Int) = (v' : Int) := by rw [hv']; exact bits_xor_u64_nat v m1 hv64 hm1l
      have HVW := Lib.hid (show v' < 2 ^ F.bs[k].2.toNat from by rw [hw, Int.toNat_natCast, hv', hm1, hmost]; exact xor_lt hvw)
      have hv'64 : v' < 18446744073709551616 := by
        have h1 := HVW.out
        rw [hw, Int.toNat_natCast] at h1
        have : 2 ^ wd ≤ 2 ^ 64 := Nat.pow_le_pow_right (by omega) (by omega)
        omega
      have HSET := Lib.hid (HTQ.out.set i hil2 hgr (by omega) hv'64)
      rw [hgr] at hcr hadv
      injection hadv with hadv
      subst hadv
      rw [add_at, ← hv] at hvc
      simp only [Nat.zero_add] at hvc
      rw [hw] at b1c
      rw [hrl] at hcr
      generalize l2[i].c = cr at *
      generalize F.bs[k].1 = nmk at *
      subst hg2 hgb
      clear hkl2 hrl how hgr hv hcur hwd hw hmost hrow hvw hm1 hv' b0c
      go_wp2_with fail
      have hp7 : wq.heap[p7]? = some (.cells #[.slice x1 F.bs.length e1, .slice r1 F.rs.length q1] 25 (0, 0)) := K3.out.heap HT.out.h7 (by simp)
      have hp8 := K3.out.heap HT.out.h8 (by simp)
      have hgrb : gr ∈ ft (some (⟨gr, 0, none⟩ : Addr)) := by simp [ft]
      have h7g : p7 ∉ [gr] := fun hx => HTQ.out.apart hp7 gr (by simp only [List.mem_append]; exact .inr (.inr HSET.out.2.2.2)) (List.mem_singleton.1 hx).symm
      have h8g : p8 ∉ [gr] := fun hx => HTQ.out.apart hp8 gr (by simp only [List.mem_append]; exact .inr (.inr HSET.out.2.2.2)) (List.mem_singleton.1 hx).symm
      have c70 := HSET.out.2.1.cell c70 h7g
      have c71 := HSET.out.2.1.cell c71 h7g
      have c80' := HSET.out.2.1.cell c80 h8g
      have c81' := HSET.out.2.1.cell c81 h8g
      clear hp7 hp8 hgrb
      go_region
      have KS := (show Kept [gr] wq (wq.setCell ⟨gr, k, none⟩ (.int .u64 (v' : Int))).drew from HSET.out.2.1.drew)
      have d70 : ((wq.setCell ⟨gr, k, none⟩ (.int .u64 (v' : Int))).drew).cell? ⟨p7, 0, none⟩ = some (.slice x1 fb e1) := c70
      have d71 : ((wq.setCell ⟨gr, k, none⟩ (.int .u64 (v' : Int))).drew).cell? ⟨p7, 1, none⟩ = some (.slice r1 fr q1) := c71
      have d80 : ((wq.setCell ⟨gr, k, none⟩ (.int .u64 (v' : Int))).drew).cell? ⟨p8, 0, none⟩ = some (.slice _ fb e2) := c80'
      have d81 : ((wq.setCell ⟨gr, k, none⟩ (.int .u64 (v' : Int))).drew).cell? ⟨p8, 1, none⟩ = some (.slice _ fr q2) := c81'
      have HT6 := Lib.hid (show TabN (wq.setCell ⟨gr, k, none⟩ (.int .u64 (v' : Int))).drew _ _ _ _ _ _ (setT F i k v') _ from HSET.out.1.kept0 ((Kept.refl [] _).drew))
      have HT1 := Lib.hid ((HT.out.t1.kept0 K3.out).kept KS (fun b hb hx => by
        rw [List.mem_singleton] at hx; subst hx
        exact HT.out.dis b hb (by simp only [List.mem_append]; exact .inr (.inr HSET.out.2.2.2))))
      have KS := Lib.hid (kept_mix (HKW.out.trans K3.out) KS (fun b hb => by
        rw [List.mem_singleton] at hb; subst hb
        exact .inr (Nat.le_trans K1.out.size (HT.out.n2 b (by simp only [List.mem_append]; exact .inr (.inr HSET.out.2.2.2)))))  : Kept [] W _)
      generalize (wq.setCell ⟨gr, k, none⟩ (.int .u64 (v' : Int))).drew = w6 at *
      clear c70 c71 c80 c81 c80' c81'
      have HIB := Lib.hid (show i < F.rs.length ∧ k < F.bs.length from ⟨by rw [← HFR.out]; exact hil, hkb⟩)
      have HGOK := Lib.hid (set_ok (i := i) (k := k) HOK.out hv'64)
      have HA6 := Lib.hid (show TabV w6 x1 fb e1 r1 fr q1 F l1 from by have h := HT1.out.tabV; rw [← HFB.out, ← HFR.out] at h; exact h)
      have HB6 := Lib.hid (show TabV w6 (some ⟨gb, go_, none⟩) fb e2 (some ⟨g2, 0, none⟩) fr q2 (setT F i k v') _ from by have h := HT6.out.tabV; rw [← HFB.out, ← HFR.out] at h; exact h)
      have HG6 := Lib.hid HT6.out.bus

      obtain ⟨b, hb⟩ : ∃ b, b = !decide (v = v') := ⟨_, rfl⟩
      obtain ⟨i', hi'⟩ : ∃ i', i' = if v = v' then 0 else i := ⟨_, rfl⟩
      obtain ⟨k', hk'⟩ : ∃ k', k' = if v = v' then 0 else k := ⟨_, rfl⟩
      have hdd : DiffIs F (setT F i k v') (i', k', b) ∧ DiffIs (setT F i k v') F (i', k', b) ∧ sameT F (setT F i k v') = !b ∧ (b = true → i = i' ∧ k = k') ∧ ((v : Int) != (v' : Int)) = b := by
        by_cases hve : v = v'
        · have hgs : setT F i k v' = F := setT_same HIB.out.1 (HAT.out.trans hve) (by rw [mayT_row HMT.out _ (by simp [List.getD, List.getElem?_eq_getElem HIB.out.1])]; exact HIB.out.2)
          have hb0 : b = false := by rw [hb, hve]; simp
          rw [if_pos hve] at hi' hk'
          rw [hi', hk', hb0]
          refine ⟨hgs.symm ▸ diff_self HMT.out, hgs.symm ▸ diff_self HMT.out, ?_, fun h => absurd h (by simp), by rw [hve]; simp⟩
          rw [same_set HMT.out HIB.out.1 HIB.out.2]; exact decide_eq_true (HAT.out.trans hve)
        · have hb1 : b = true := by rw [hb]; simp [hve]
          rw [if_neg hve] at hi' hk'
          rw [hi', hk', hb1]
          have hne : atT F i k ≠ v' := fun h => hve (HAT.out.symm.trans h)
          have hds := diff_set HMT.out HIB.out.1 HIB.out.2 HVW.out hne
          refine ⟨hds.1, hds.2, ?_, fun _ => ⟨rfl, rfl⟩, bne_iff_ne.2 (by omega)⟩
          rw [same_set HMT.out HIB.out.1 HIB.out.2]; exact decide_eq_false hne
      have HDA := Lib.hid hdd.1
      have HDB := Lib.hid hdd.2.1
      have HSS := Lib.hid hdd.2.2.1
      have HBI := Lib.hid hdd.2.2.2.1
      have HVB := Lib.hid hdd.2.2.2.2
      have hi30 : i' < 30 := by rw [hi']; split <;> omega
      have hk20 : k' < 20 := by rw [hk']; split <;> omega
      clear hdd hb hi' hk'
      go_wp2_with fail
      refine (differ_c HA6.out HOK.out HB6.out HGOK.out).mono ?_
      rintro e w7 ⟨i7, j7, b7', rfl, hd7, kk7⟩
      have hu := hd7.unique HDA.out
      simp only [Prod.mk.injEq] at hu
      obtain ⟨u1, u2, u3⟩ := hu
      obtain rfl : i' = i7 := u1.symm
      obtain rfl : k' = j7 := u2.symm
      obtain rfl : b = b7' := u3.symm
      have K7 := Lib.hid kk7
      have d70 := kk7.cell d70 (by simp)
      have d71 := kk7.cell d71 (by simp)
      have d80 := kk7.cell d80 (by simp)
      have d81 := kk7.cell d81 (by simp)
      clear hd7 kk7 u1 u2 u3
      go_wp2_with fail
      refine (differ_c (HB6.out.kept0 K7.out) HGOK.out (HA6.out.kept0 K7.out) HOK.out).mono ?_
      rintro e w8 ⟨i8, j8, b8', rfl, hd8, kk8⟩
      have hu := hd8.unique HDB.out
      simp only [Prod.mk.injEq] at hu
      obtain ⟨u1, u2, u3⟩ := hu
      obtain rfl : i' = i8 := u1.symm
      obtain rfl : k' = j8 := u2.symm
      obtain rfl : b = b8' := u3.symm
      have K8 := Lib.hid (K7.out.trans kk8)
      have d70 := kk8.cell d70 (by simp)
      have d71 := kk8.cell d71 (by simp)
      have d80 := kk8.cell d80 (by simp)
      have d81 := kk8.cell d81 (by simp)
      clear hd8 kk8 u1 u2 u3
      go_upto_region 10 with (fail)
      go_cut [130] (fun s130 wx => s130 = .bool false ∧ Kept [] w8 wx)
      case first =>
        have ii0 : ((i' : Int) != (i' : Int)) = false := by simp
        have kk0 : ((k' : Int) != (k' : Int)) = false := by simp
        cases b with
        | true =>
          as_aux_lemma =>
          obtain ⟨h1, h2⟩ := HBI.out rfl
          have ii1 : ((i' : Int) != (i : Int)) = false := by rw [h1]; simp
          have kk1 : ((k' : Int) != (k : Int)) = false := by rw [h2]; simp
          clear h1 h2
          go_wp2_with fail
          refine (tsame_c (HA6.out.kept0 K8.out) HOK.out (HB6.out.kept0 K8.out) HGOK.out).mono ?_
          rintro e w9 ⟨rfl, kk9⟩
          rw [HSS.out]
          have K9 := Lib.hid kk9
          clear kk9
          go_wp2_with fail
          go_meet
          exact ⟨rfl, K9.out⟩
        | false =>
          as_aux_lemma =>
          go_wp2_with fail
          refine (tsame_c (HA6.out.kept0 K8.out) HOK.out (HB6.out.kept0 K8.out) HGOK.out).mono ?_
          rintro e w9 ⟨rfl, kk9⟩
          rw [HSS.out]
          have K9 := Lib.hid kk9
          clear kk9
          go_wp2_with fail
          go_meet
          exact ⟨rfl, K9.out⟩
      case rest =>
      obtain ⟨rfl, kk9⟩ := hcut
      obtain ⟨w9, rfl⟩ : ∃ v : World, v = wc := ⟨_, rfl⟩
      have K9 := Lib.hid (K8.out.trans kk9)
      have d70 := kk9.cell d70 (by simp)
      have d71 := kk9.cell d71 (by simp)
      have d80 := kk9.cell d80 (by simp)
      have d81 := kk9.cell d81 (by simp)
      clear kk9
      go_wp2_with fail
      obtain ⟨gc, gco, hgc, n0c, _⟩ := own2_bus (HT1.out.bus.kept K9.out (by simp)) k (by rw [← HFB.out]; exact hkl)
      have n1c := own2_bus (HG6.out.kept K9.out (by simp)) k HIB.out.2
      obtain ⟨gd, gdo, hgd, n1c, _⟩ := n1c
      obtain ⟨nm, hnm⟩ : ∃ nm, nm = F.bs[k].1 := ⟨_, rfl⟩
      have HCOL := Lib.hid (col_set HMT.out HIB.out.1 HIB.out.2 HVW.out)
      have hcol := HCOL.out
      rw [← hnm] at n0c hcol
      have n1c : w9.cell? ⟨gd, gdo + k * 2, none⟩ = some (.string nm) := hnm ▸ n1c
      have HC1 := Lib.hid hcol.1
      have HC2 := Lib.hid hcol.2
      injection hgd with hgd
      simp only [Addr.mk.injEq] at hgd
      obtain ⟨rfl, rfl, _⟩ := hgd
      subst hgc
      clear hnm hcol
      have KB := Kept.refl [] w9
      go_region_held3 (fun W => W.cell? ⟨p7, 0, none⟩ = some (.slice (some ⟨gc, gco, none⟩) fb e1) ∧ W.cell? ⟨p7, 1, none⟩ = some (.slice r1 fr q1) ∧ W.cell? ⟨gc, gco + k * 2, none⟩ = some (.string nm))
        (first | exact ⟨Kept.cell (F := []) (w := w9) (by (repeat (first | with_reducible exact KB | with_reducible apply Kept.drew | with_reducible apply Kept.drewN | with_reducible apply Kept.alloc))) d70 (by simp), Kept.cell (F := []) (w := w9) (by (repeat (first | with_reducible exact KB | with_reducible apply Kept.drew | with_reducible apply Kept.drewN | with_reducible apply Kept.alloc))) d71 (by simp), Kept.cell (F := []) (w := w9) (by (repeat (first | with_reducible exact KB | with_reducible apply Kept.drew | with_reducible apply Kept.drewN | with_reducible apply Kept.alloc))) n0c (by simp)⟩ | go_keep)
        (first | (go_at_call 14; (with_reducible refine (column_c nm ((HA6.out.kept0 K9.out).kept0 (?kk : Kept [] w9 _)) HOK.out).mono ?_); (case kk => (repeat (first | with_reducible exact KB | with_reducible apply Kept.drew | with_reducible apply Kept.drewN | with_reducible apply Kept.alloc))); rintro e wA ⟨ax, nx, cx, rfl, hox, hkx, hfx⟩; have KB := (show Kept [] w9 _ from (by (repeat (first | with_reducible exact KB | with_reducible apply Kept.drew | with_reducible apply Kept.drewN | with_reducible apply Kept.alloc)))).trans hkx))
      rw [HC1.out] at hox
      obtain rfl : fr = nx := by have := hox.len; simp [nats_length] at this; rw [HFR.out]; exact this
      have HOX := Lib.hid hox
      have KA9 := Lib.hid KB
      have d70 := KB.cell d70 (by simp)
      have d71 := KB.cell d71 (by simp)
      have d80 := KB.cell d80 (by simp)
      have d81 := KB.cell d81 (by simp)
      have n1c := KB.cell n1c (by simp)
      have HFX := Lib.hid hfx
      clear hox hkx hfx n0c KB
      have KB := Kept.refl [] wA
      go_wp2_with fail
      go_region_held3 (fun W => W.cell? ⟨p8, 0, none⟩ = some (.slice (some ⟨gb, go_, none⟩) fb e2) ∧ W.cell? ⟨p8, 1, none⟩ = some (.slice (some ⟨g2, 0, none⟩) fr q2) ∧ W.cell? ⟨gb, go_ + k * 2, none⟩ = some (.string nm))
        (first | exact ⟨Kept.cell (F := []) (w := wA) (by (repeat (first | with_reducible exact KB | with_reducible apply Kept.drew | with_reducible apply Kept.drewN | with_reducible apply Kept.alloc))) d80 (by simp), Kept.cell (F := []) (w := wA) (by (repeat (first | with_reducible exact KB | with_reducible apply Kept.drew | with_reducible apply Kept.drewN | with_reducible apply Kept.alloc))) d81 (by simp), Kept.cell (F := []) (w := wA) (by (repeat (first | with_reducible exact KB | with_reducible apply Kept.drew | with_reducible apply Kept.drewN | with_reducible apply Kept.alloc))) n1c (by simp)⟩ | go_keep)
        (first | (go_at_call 14; (with_reducible refine (column_c nm (((HB6.out.kept0 K9.out).kept0 KA9.out).kept0 (?kk : Kept [] wA _)) HGOK.out).mono ?_); (case kk => (repeat (first | with_reducible exact KB | with_reducible apply Kept.drew | with_reducible apply Kept.drewN | with_reducible apply Kept.alloc))); rintro e wB ⟨ay, ny, cy, rfl, hoy, hky, hfy⟩; have KB := (show Kept [] wA _ from (by (repeat (first | with_reducible exact KB | with_reducible apply Kept.drew | with_reducible apply Kept.drewN | with_reducible apply Kept.alloc)))).trans hky))
      rw [HC2.out] at hoy
      obtain rfl : fr = ny := by have := hoy.len; simp [nats_length, setT_len] at this; rw [HFR.out]; exact this
      have HOX2 := Lib.hid (HOX.out.kept0 KB)
      have d70 := KB.cell d70 (by simp)
      have d71 := KB.cell d71 (by simp)
      have KB9 := Lib.hid (K9.out.trans (KA9.out.trans KB))
      obtain ⟨gx, hgx⟩ := HOX2.out.form hf1
      obtain ⟨gy, hgy⟩ := hoy.form hf1
      subst hgx hgy
      have vx : wB.cell? ⟨gx, i, none⟩ = some (.int .u64 (v : Int)) := by
        obtain ⟨ad, ha, hc⟩ := HOX2.out.sln i (by simpa using HIB.out.1)
        injection ha with ha; subst ha
        rw [add_at] at hc
        have e := col_at F i k
        rw [HAT.out, List.getD_eq_getElem?_getD, List.getElem?_eq_getElem (by simpa using HIB.out.1), Option.getD_some] at e
        rw [e] at hc
        simpa using hc
      have vy : wB.cell? ⟨gy, i, none⟩ = some (.int .u64 (v' : Int)) := by
        obtain ⟨ad, ha, hc⟩ := hoy.sln i (by simpa [setT_len] using HIB.out.1)
        injection ha with ha; subst ha
        rw [add_at] at hc
        have e := col_at (setT F i k v') i k
        rw [setT_at HMT.out HIB.out.1 HIB.out.2, if_pos ⟨rfl, rfl⟩, List.getD_eq_getElem?_getD, List.getElem?_eq_getElem (by simpa [setT_len] using HIB.out.1), Option.getD_some] at e
        rw [e] at hc
        simpa using hc
      have ff0 : ((fr : Int) != (fr : Int)) = false := by simp
      have hili : (i : Int) < (fr : Int) := by omega
      clear hoy hky hfy n1c KB
      have hvb := HVB.out
      have bb1 : (b != b) = false := by cases b <;> rfl
      go_wp2_with fail
      go_quiet (fail)
      go_wp2_with fail
      have hf16 := few_c (HA6.out.kept0 (KB9.out.drewN nq)) HOK.out
      rw [HFF.out] at hf16
      have HF16 := Lib.hid hf16
      have K16 := Lib.hid (KB9.out.drewN nq)
      have d70 : (wB.drewN nq).cell? ⟨p7, 0, none⟩ = some (.slice (some ⟨gc, gco, none⟩) fb e1) := d70
      have d71 : (wB.drewN nq).cell? ⟨p7, 1, none⟩ = some (.slice r1 fr q1) := d71
      clear hvb bb1 hf16
      refine HF16.out.mono ?_
      rintro e w17 ⟨a3, e3, r3, q3, l3, rfl, ht3, hk3, hn3⟩
      rw [← HFB.out, ← HFR.out] at ht3 ⊢
      have HT3 := Lib.hid ht3
      have K17 := Lib.hid (K16.out.trans hk3)
      have d70 := hk3.cell d70 (by simp)
      have d71 := hk3.cell d71 (by simp)
      obtain ⟨g3, hg3⟩ := ht3.rows.own.form hf1
      have hq3 : fr ≤ q3 := owns_cap ht3.rows.own
      subst hg3
      clear ht3 hk3 hn3
      obtain ⟨f1, hf1e⟩ : ∃ f1, f1 = fr - 1 := ⟨_, rfl⟩
      have HF1 := Lib.hid hf1e
      have hfm : (fr : Int) - 1 = (f1 : Int) := by omega
      have hf1q : f1 ≤ q3 := by omega
      have hf1r : f1 ≤ fr := by omega
      have HD18 := Lib.hid (fun W' (hk : Kept [] w17 W') => differ_c ((HA6.out.kept0 K17.out).kept0 hk) HOK.out ((HT3.out.tabV.less hf1r).kept0 hk) (less_ok HOK.out))
      have d70a : ∀ o, (w17.alloc o).cell? ⟨p7, 0, none⟩ = some (.slice (some ⟨gc, gco, none⟩) fb e1) := fun o => cell_alloc d70 o
      have d71a : ∀ o, (w17.alloc o).cell? ⟨p7, 1, none⟩ = some (.slice r1 fr q1) := fun o => cell_alloc d71 o
      have E24 := Lib.hid (blk_cell (heap_new w17 (.cells #[.slice a3 fb e3, .slice (some ⟨g3, 0, none⟩) f1 q3] 25)) 1)
      have HDL := Lib.hid (show DiffIs F ⟨F.bs, F.rs.take f1⟩ (f1, 0, true) from by rw [hf1e, HFR.out]; exact diff_less HMT.out (by rw [← HFR.out]; exact hf1))
      have hf1s : f1 < 30 := by omega
      clear hf1e
      go_wp2_with fail
      refine (HD18.out _ ((Kept.refl [] w17).alloc _)).mono ?_
      rintro e w19 ⟨i9, j9, b9, rfl, hd9, kk9⟩
      have hu := hd9.unique HDL.out
      simp only [Prod.mk.injEq] at hu
      obtain ⟨u1, u2, rfl⟩ := hu
      obtain rfl : f1 = i9 := u1.symm
      obtain rfl : 0 = j9 := u2.symm
      have e24 : w19.cell? ⟨w17.heap.size, 1, none⟩ = some (.slice (some ⟨g3, 0, none⟩) f1 q3) := kk9.cell E24.out (by simp)
      have K19 := Lib.hid (KS.out.trans (K17.out.trans (((Kept.refl [] w17).alloc _).trans kk9)))
      clear hd9 kk9 u1 u2
      go_wp2_with fail
      refine (HW.out _ K19.out).mono ?_
      rintro e w20 ⟨rfl, k20⟩
      have K20 := Lib.hid (K19.out.trans k20)
      clear k20
      go_wp2_with fail
      go_ret
      exact ⟨rfl, K20.out⟩
    · have hmf : mayT F = false := by simpa using hm
      rw [hmf]
      go_wp2_with fail
      refine HD.out.mono ?_
      rintro e w4 ⟨i4, k4, b4, rfl, hd4, kk4⟩
      have hu := hd4.unique (diff_no hmf F)
      simp only [Prod.mk.injEq] at hu
      obtain ⟨rfl, rfl, rfl⟩ := hu
      have K4 := Lib.hid (K3.out.trans kk4)
      clear hd4 kk4 hm hmf
      go_wp2_with fail
      refine (HW.out _ (HKW.out.trans K4.out)).mono ?_
      rintro e w5 ⟨rfl, k5⟩
      have K5 := Lib.hid k5
      clear k5
      go_wp2_with fail
      go_ret
      exact ⟨rfl, HKW.out.trans (K4.out.trans K5.out)⟩
end Go.Proofs.YtjgcfncganleoaaDoor
