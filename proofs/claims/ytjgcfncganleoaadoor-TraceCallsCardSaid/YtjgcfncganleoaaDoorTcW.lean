/-
  Law 09: TraceCalls: the walk.
-/
import Derived.Test.YtjgcfncganleoaaDoorRtL
import Derived.Test.YtjgcfncganleoaaDoorTrcN
import Derived.Deep.RegionHeld3
import Derived.BigRegion
import Derived.BigQuiet
namespace Go.Proofs.YtjgcfncganleoaaDoor
open Go.ChangeShapes Go.WideShapes Go.ChangeAt Go.RowKit
set_option linter.unusedVariables false
set_option linter.unusedSimpArgs false

variable {w w' w1 W : World}
set_option maxHeartbeats 6400000 in
set_option maxRecDepth 100000 in
theorem tc_c (ba : Option Addr) (bc : Nat) (ra : Option Addr) (rc : Nat) (t : Tb) (wl : List WR) (ba' : Option Addr) (bc' : Nat) (ra' : Option Addr) (rc' : Nat) (t' : Tb) (wl' : List WR) (nm : ByteArray) (W : World) (hv : TabV W ba t.bs.length bc ra wl.length rc t wl) (hok : t.ok) (hv' : TabV W ba' t'.bs.length bc' ra' wl'.length rc' t' wl') (hok' : t'.ok) (hnm : nm.size ≤ 140737488351232) (hg : W.cell? ⟨3, 15, none⟩ = some (.int .u8 4)) :
    Calls Tryd.prog 4 #[.agg #[.slice ba t.bs.length bc, .slice ra wl.length rc], .agg #[.slice ba' t'.bs.length bc', .slice ra' wl'.length rc'], .string nm] W (BoolIs true W) := by
  have HG := Lib.hid hg
  obtain ⟨bn, hbn⟩ : ∃ n, n = t.bs.length := ⟨_, rfl⟩
  obtain ⟨rn, hrn⟩ : ∃ n, n = wl.length := ⟨_, rfl⟩
  obtain ⟨bn', hbn'⟩ : ∃ n, n = t'.bs.length := ⟨_, rfl⟩
  obtain ⟨rn', hrn'⟩ : ∃ n, n = wl'.length := ⟨_, rfl⟩
  rw [← hbn, ← hrn] at hv ⊢
  rw [← hbn', ← hrn'] at hv' ⊢
  have HV := Lib.hid hv
  have HV' := Lib.hid hv'
  clear hv hv' hg hbn hrn hbn' hrn'
  obtain ⟨m, hm⟩ : ∃ m, m = min nm.size 40 := ⟨_, rfl⟩
  have hmin : min (nm.size : Int) 40 = (m : Int) := by omega
  have hmin2 : (if (40 : Int) < (nm.size : Int) then (40 : Int) else (nm.size : Int)) = (m : Int) := by split <;> omega
  have hms : m ≤ nm.size := by omega
  have HCS := Lib.hid (show cutS nm 40 = nm.extract 0 m from by unfold cutS; rw [hm])
  clear hm
  go_enter Tryd.func4, Tryd.ntmps4
  go_wp2_with fail
  obtain ⟨hW1, hb3, hb4⟩ := box_heap W 25 (.slice ba bn bc) (.slice ra rn rc) (.slice ba' bn' bc') (.slice ra' rn' rc')
  generalize (W.alloc (.cells #[.slice ba bn bc, .slice ra rn rc] 25)).alloc (.cells #[.slice ba' bn' bc', .slice ra' rn' rc'] 25) = wr at *
  obtain ⟨n4, hn4⟩ : ∃ n, n = W.heap.size + 1 := ⟨_, rfl⟩
  obtain ⟨n3, hn3⟩ : ∃ n, n = W.heap.size := ⟨_, rfl⟩
  try rw [← hn4] at hb4 ⊢
  try rw [← hn3] at hb3 ⊢
  have b3 : W.heap.size ≤ n3 := by omega
  have b4 : W.heap.size ≤ n4 := by omega
  have hne : ¬ n4 = n3 := by omega
  have hne' : ¬ n3 = n4 := by omega
  have BN3 := Lib.hid (And.intro b3 b4)
  have K1 := Lib.hid hW1
  have B3 := Lib.hid hb3
  have B4 := Lib.hid hb4
  have c30 := blk_cell hb3 0
  have c31 := blk_cell hb3 1
  have c40 := blk_cell hb4 0
  have c41 := blk_cell hb4 1
  have HF1 := Lib.hid (fun V (hV : Kept [] wr V) => few_c ((HV.out.kept0 K1.out).kept0 hV) hok)
  have HF2 := Lib.hid (fun V (hV : Kept [] wr V) => few_c ((HV'.out.kept0 K1.out).kept0 hV) hok')
  clear hW1 hb3 hb4 hn3 hn4 b3 b4
  go_cut [2] (fun s2 wx => s2 = .string (cutS nm 40) ∧ ∃ x1 e1 r1 q1 l1 x2 e2 r2 q2 l2, TwoAt W wx n3 n4 (fewT t) (fewT t') x1 e1 r1 q1 l1 x2 e2 r2 q2 l2)
  case first =>
    as_aux_lemma =>
    go_wp2_with fail
    refine wp_region_held_drew (S := fun _ => True) (by kernel_rfl) ?_ (fun hHeld => ?_)
    · try dsimp only
      all_goals trivial
    refine wpAnyH_take (i := 4) (v := ?_) rfl (by kernel_rfl) (by kernel_rfl) (by kernel_rfl) (fun _ _ _ h => h) (Or.inl ⟨by rfl, ?_⟩) (by assumption) ?_
    rotate_left
    · intro w hSw; (try dsimp only at hSw); go_simp
      all_goals with_reducible rfl
    try simp only [Act.put, List.setIfInBounds_toArray, List.set_cons_zero, List.set_cons_succ]
    refine wpAnyH_take (i := 5) (v := ?_) rfl (by kernel_rfl) (by kernel_rfl) (by kernel_rfl) (fun _ _ _ h => h) (Or.inl ⟨by rfl, ?_⟩) (by assumption) ?_
    rotate_left
    · intro w hSw; (try dsimp only at hSw); go_simp
      all_goals with_reducible rfl
    try simp only [Act.put, List.setIfInBounds_toArray, List.set_cons_zero, List.set_cons_succ]
    refine wpAnyH_take (i := 6) (v := ?_) rfl (by kernel_rfl) (by kernel_rfl) (by kernel_rfl) (fun _ _ _ h => h) (Or.inl ⟨by rfl, ?_⟩) (by assumption) ?_
    rotate_left
    · intro w hSw; (try dsimp only at hSw); go_simp
      all_goals with_reducible rfl
    try simp only [Act.put, List.setIfInBounds_toArray, List.set_cons_zero, List.set_cons_succ]
    refine wpAnyH_take (i := 7) (v := ?_) rfl (by kernel_rfl) (by kernel_rfl) (by kernel_rfl) (fun _ _ _ h => h) (Or.inl ⟨by rfl, ?_⟩) (by assumption) ?_
    rotate_left
    · intro w hSw; (try dsimp only at hSw); go_simp
      all_goals with_reducible rfl
    try simp only [Act.put, List.setIfInBounds_toArray, List.set_cons_zero, List.set_cons_succ]
    refine wpAnyH_take (i := 8) (v := ?_) rfl (by kernel_rfl) (by kernel_rfl) (by kernel_rfl) (fun _ _ _ h => h) (Or.inl ⟨by rfl, ?_⟩) (by assumption) ?_
    rotate_left
    · intro w hSw; (try dsimp only at hSw); go_simp
      all_goals with_reducible rfl
    try simp only [Act.put, List.setIfInBounds_toArray, List.set_cons_zero, List.set_cons_succ]
    refine wpAnyH_ready (rs := [0, 2]) (by kernel_rfl) (by simp) ?_
    refine AllReadyH.cons rfl (fun K hK => ?_) ?_
    · go_simp
      refine hK.out _ _ ?_ (fun hHeld => ?_)
      · trivial
      clear hK K
      try simp only [Act.put, List.setIfInBounds_toArray, List.set_cons_zero, List.set_cons_succ]
      refine wpAnyH_ready (rs := [1, 2]) (by kernel_rfl) (by simp) ?_
      refine AllReadyH.cons rfl (fun K hK => ?_) ?_
      · go_simp
        go_at_call 9
        refine (HF1.out _ ((Kept.refl [] wr).drew)).mono ?_
        rintro e u1 ⟨x1, e1, r1, q1, l1, rfl, ht1, hk1, hn1⟩
        have kvA : Kept [] wr u1 := ((Kept.refl [] wr).drew).trans hk1
        have c40 := kvA.cell c40 (by simp)
        have c41 := kvA.cell c41 (by simp)
        refine hK.out _ _ ?_ (fun hHeld => ?_)
        · trivial
        clear hK K
        try simp only [Act.put, List.setIfInBounds_toArray, List.set_cons_zero, List.set_cons_succ]
        refine wpAnyH_ready (rs := [2]) (by kernel_rfl) (by simp) ?_
        refine AllReadyH.cons rfl (fun K hK => ?_) ?_
        · go_simp
          refine hK.out _ _ ?_ (fun hHeld => ?_)
          · trivial
          clear hK K
          try simp only [Act.put, List.setIfInBounds_toArray, List.set_cons_zero, List.set_cons_succ]
          refine wpAnyH_ready (rs := [3]) (by kernel_rfl) (by simp) ?_
          refine AllReadyH.cons rfl (fun K hK => ?_) ?_
          · go_simp
            go_at_call 9
            refine (HF2.out _ kvA).mono ?_
            rintro e u2 ⟨x2, e2, r2, q2, l2, rfl, ht2, hk2, hn2⟩
            have kvB := kvA.trans hk2
            have hb3 := kvB.heap B3.out (by simp)
            have hb4 := kvB.heap B4.out (by simp)
            have d30 := blk_cell hb3 0
            have d31 := blk_cell hb3 1
            have d40 := blk_cell hb4 0
            have d41 := blk_cell hb4 1
            have z30 := blk_free hb3 0
            have z31 := blk_free hb3 1
            have z40 := blk_free hb4 0
            have z41 := blk_free hb4 1
            have H3 := Lib.hid hb3
            have H4 := Lib.hid hb4
            have HDIS := Lib.hid (ht1.dis hn2)
            have HT1 := Lib.hid (ht1.kept0 hk2)
            have HT2 := Lib.hid ht2
            have KVB := Lib.hid kvB
            have HN1 := Lib.hid (show ∀ b ∈ ft x1 ++ (ft r1 ++ wrBlocks l1), W.heap.size ≤ b from fun b hb => Nat.le_trans K1.out.size (hn1 b hb))
            have HN2 := Lib.hid (show ∀ b ∈ ft x2 ++ (ft r2 ++ wrBlocks l2), W.heap.size ≤ b from fun b hb => Nat.le_trans (K1.out.trans kvA).size (hn2 b hb))
            clear hb3 hb4 ht1 ht2 hk1 hk2 hn1 hn2 kvA kvB c30 c31 c40 c41
            refine hK.out _ _ ?_ (fun hHeld => ?_)
            · trivial
            clear hK K
            try simp only [Act.put, List.setIfInBounds_toArray, List.set_cons_zero, List.set_cons_succ]
            refine wpAnyH_ready (rs := [9]) (by kernel_rfl) (by simp) ?_
            refine AllReadyH.cons rfl (fun K hK => ?_) ?_
            · go_simp
              refine hK.out _ _ ?_ (fun hHeld => ?_)
              · trivial
              clear hK K
              try simp only [Act.put, List.setIfInBounds_toArray, List.set_cons_zero, List.set_cons_succ]
              refine wpAnyH_ready (rs := [10]) (by kernel_rfl) (by simp) ?_
              refine AllReadyH.cons rfl (fun K hK => ?_) ?_
              · go_simp
                refine hK.out _ _ ?_ (fun hHeld => ?_)
                · trivial
                clear hK K
                try simp only [Act.put, List.setIfInBounds_toArray, List.set_cons_zero, List.set_cons_succ]
                refine wpAnyH_ready (rs := [11]) (by kernel_rfl) (by simp) ?_
                refine AllReadyH.cons rfl (fun K hK => ?_) ?_
                · go_simp
                  refine hK.out _ _ ?_ (fun hHeld => ?_)
                  · trivial
                  clear hK K
                  try simp only [Act.put, List.setIfInBounds_toArray, List.set_cons_zero, List.set_cons_succ]
                  refine wpAnyH_done (by kernel_rfl) ?_ _
                  go_wp2_with fail
                  go_meet
                  exact ⟨by rw [HCS.out], x1, e1, r1, q1, l1, x2, e2, r2, q2, l2, two_at H3.out H4.out HT1.out HT2.out HDIS.out (K1.out.trans KVB.out) hne' BN3.out.1 BN3.out.2 HN1.out HN2.out⟩
                exact AllReadyH.nil
              exact AllReadyH.nil
            exact AllReadyH.nil
          exact AllReadyH.nil
        exact AllReadyH.nil
      refine AllReadyH.cons rfl (fun K hK => ?_) ?_
      · go_simp
        refine hK.out _ _ ?_ (fun hHeld => ?_)
        · trivial
        clear hK K
        try simp only [Act.put, List.setIfInBounds_toArray, List.set_cons_zero, List.set_cons_succ]
        refine wpAnyH_ready (rs := [1]) (by kernel_rfl) (by simp) ?_
        refine AllReadyH.cons rfl (fun K hK => ?_) ?_
        · go_simp
          go_at_call 9
          refine (HF1.out _ ((Kept.refl [] wr).drew)).mono ?_
          rintro e u1 ⟨x1, e1, r1, q1, l1, rfl, ht1, hk1, hn1⟩
          have kvA : Kept [] wr u1 := ((Kept.refl [] wr).drew).trans hk1
          refine hK.out _ _ ?_ (fun hHeld => ?_)
          · trivial
          clear hK K
          try simp only [Act.put, List.setIfInBounds_toArray, List.set_cons_zero, List.set_cons_succ]
          refine wpAnyH_ready (rs := [3]) (by kernel_rfl) (by simp) ?_
          refine AllReadyH.cons rfl (fun K hK => ?_) ?_
          · go_simp
            go_at_call 9
            refine (HF2.out _ kvA).mono ?_
            rintro e u2 ⟨x2, e2, r2, q2, l2, rfl, ht2, hk2, hn2⟩
            have kvB := kvA.trans hk2
            have hb3 := kvB.heap B3.out (by simp)
            have hb4 := kvB.heap B4.out (by simp)
            have d30 := blk_cell hb3 0
            have d31 := blk_cell hb3 1
            have d40 := blk_cell hb4 0
            have d41 := blk_cell hb4 1
            have z30 := blk_free hb3 0
            have z31 := blk_free hb3 1
            have z40 := blk_free hb4 0
            have z41 := blk_free hb4 1
            have H3 := Lib.hid hb3
            have H4 := Lib.hid hb4
            have HDIS := Lib.hid (ht1.dis hn2)
            have HT1 := Lib.hid (ht1.kept0 hk2)
            have HT2 := Lib.hid ht2
            have KVB := Lib.hid kvB
            have HN1 := Lib.hid (show ∀ b ∈ ft x1 ++ (ft r1 ++ wrBlocks l1), W.heap.size ≤ b from fun b hb => Nat.le_trans K1.out.size (hn1 b hb))
            have HN2 := Lib.hid (show ∀ b ∈ ft x2 ++ (ft r2 ++ wrBlocks l2), W.heap.size ≤ b from fun b hb => Nat.le_trans (K1.out.trans kvA).size (hn2 b hb))
            clear hb3 hb4 ht1 ht2 hk1 hk2 hn1 hn2 kvA kvB c30 c31 c40 c41
            refine hK.out _ _ ?_ (fun hHeld => ?_)
            · trivial
            clear hK K
            try simp only [Act.put, List.setIfInBounds_toArray, List.set_cons_zero, List.set_cons_succ]
            refine wpAnyH_ready (rs := [9]) (by kernel_rfl) (by simp) ?_
            refine AllReadyH.cons rfl (fun K hK => ?_) ?_
            · go_simp
              refine hK.out _ _ ?_ (fun hHeld => ?_)
              · trivial
              clear hK K
              try simp only [Act.put, List.setIfInBounds_toArray, List.set_cons_zero, List.set_cons_succ]
              refine wpAnyH_ready (rs := [10]) (by kernel_rfl) (by simp) ?_
              refine AllReadyH.cons rfl (fun K hK => ?_) ?_
              · go_simp
                refine hK.out _ _ ?_ (fun hHeld => ?_)
                · trivial
                clear hK K
                try simp only [Act.put, List.setIfInBounds_toArray, List.set_cons_zero, List.set_cons_succ]
                refine wpAnyH_ready (rs := [11]) (by kernel_rfl) (by simp) ?_
                refine AllReadyH.cons rfl (fun K hK => ?_) ?_
                · go_simp
                  refine hK.out _ _ ?_ (fun hHeld => ?_)
                  · trivial
                  clear hK K
                  try simp only [Act.put, List.setIfInBounds_toArray, List.set_cons_zero, List.set_cons_succ]
                  refine wpAnyH_done (by kernel_rfl) ?_ _
                  go_wp2_with fail
                  go_meet
                  exact ⟨by rw [HCS.out], x1, e1, r1, q1, l1, x2, e2, r2, q2, l2, two_at H3.out H4.out HT1.out HT2.out HDIS.out (K1.out.trans KVB.out) hne' BN3.out.1 BN3.out.2 HN1.out HN2.out⟩
                exact AllReadyH.nil
              exact AllReadyH.nil
            exact AllReadyH.nil
          exact AllReadyH.nil
        exact AllReadyH.nil
      exact AllReadyH.nil
    refine AllReadyH.cons rfl (fun K hK => ?_) ?_
    · go_simp
      refine hK.out _ _ ?_ (fun hHeld => ?_)
      · trivial
      clear hK K
      try simp only [Act.put, List.setIfInBounds_toArray, List.set_cons_zero, List.set_cons_succ]
      refine wpAnyH_ready (rs := [0]) (by kernel_rfl) (by simp) ?_
      refine AllReadyH.cons rfl (fun K hK => ?_) ?_
      · go_simp
        refine hK.out _ _ ?_ (fun hHeld => ?_)
        · trivial
        clear hK K
        try simp only [Act.put, List.setIfInBounds_toArray, List.set_cons_zero, List.set_cons_succ]
        refine wpAnyH_ready (rs := [1]) (by kernel_rfl) (by simp) ?_
        refine AllReadyH.cons rfl (fun K hK => ?_) ?_
        · go_simp
          go_at_call 9
          refine (HF1.out _ ((Kept.refl [] wr).drew)).mono ?_
          rintro e u1 ⟨x1, e1, r1, q1, l1, rfl, ht1, hk1, hn1⟩
          have kvA : Kept [] wr u1 := ((Kept.refl [] wr).drew).trans hk1
          refine hK.out _ _ ?_ (fun hHeld => ?_)
          · trivial
          clear hK K
          try simp only [Act.put, List.setIfInBounds_toArray, List.set_cons_zero, List.set_cons_succ]
          refine wpAnyH_ready (rs := [3]) (by kernel_rfl) (by simp) ?_
          refine AllReadyH.cons rfl (fun K hK => ?_) ?_
          · go_simp
            go_at_call 9
            refine (HF2.out _ kvA).mono ?_
            rintro e u2 ⟨x2, e2, r2, q2, l2, rfl, ht2, hk2, hn2⟩
            have kvB := kvA.trans hk2
            have hb3 := kvB.heap B3.out (by simp)
            have hb4 := kvB.heap B4.out (by simp)
            have d30 := blk_cell hb3 0
            have d31 := blk_cell hb3 1
            have d40 := blk_cell hb4 0
            have d41 := blk_cell hb4 1
            have z30 := blk_free hb3 0
            have z31 := blk_free hb3 1
            have z40 := blk_free hb4 0
            have z41 := blk_free hb4 1
            have H3 := Lib.hid hb3
            have H4 := Lib.hid hb4
            have HDIS := Lib.hid (ht1.dis hn2)
            have HT1 := Lib.hid (ht1.kept0 hk2)
            have HT2 := Lib.hid ht2
            have KVB := Lib.hid kvB
            have HN1 := Lib.hid (show ∀ b ∈ ft x1 ++ (ft r1 ++ wrBlocks l1), W.heap.size ≤ b from fun b hb => Nat.le_trans K1.out.size (hn1 b hb))
            have HN2 := Lib.hid (show ∀ b ∈ ft x2 ++ (ft r2 ++ wrBlocks l2), W.heap.size ≤ b from fun b hb => Nat.le_trans (K1.out.trans kvA).size (hn2 b hb))
            clear hb3 hb4 ht1 ht2 hk1 hk2 hn1 hn2 kvA kvB c30 c31 c40 c41
            refine hK.out _ _ ?_ (fun hHeld => ?_)
            · trivial
            clear hK K
            try simp only [Act.put, List.setIfInBounds_toArray, List.set_cons_zero, List.set_cons_succ]
            refine wpAnyH_ready (rs := [9]) (by kernel_rfl) (by simp) ?_
            refine AllReadyH.cons rfl (fun K hK => ?_) ?_
            · go_simp
              refine hK.out _ _ ?_ (fun hHeld => ?_)
              · trivial
              clear hK K
              try simp only [Act.put, List.setIfInBounds_toArray, List.set_cons_zero, List.set_cons_succ]
              refine wpAnyH_ready (rs := [10]) (by kernel_rfl) (by simp) ?_
              refine AllReadyH.cons rfl (fun K hK => ?_) ?_
              · go_simp
                refine hK.out _ _ ?_ (fun hHeld => ?_)
                · trivial
                clear hK K
                try simp only [Act.put, List.setIfInBounds_toArray, List.set_cons_zero, List.set_cons_succ]
                refine wpAnyH_ready (rs := [11]) (by kernel_rfl) (by simp) ?_
                refine AllReadyH.cons rfl (fun K hK => ?_) ?_
                · go_simp
                  refine hK.out _ _ ?_ (fun hHeld => ?_)
                  · trivial
                  clear hK K
                  try simp only [Act.put, List.setIfInBounds_toArray, List.set_cons_zero, List.set_cons_succ]
                  refine wpAnyH_done (by kernel_rfl) ?_ _
                  go_wp2_with fail
                  go_meet
                  exact ⟨by rw [HCS.out], x1, e1, r1, q1, l1, x2, e2, r2, q2, l2, two_at H3.out H4.out HT1.out HT2.out HDIS.out (K1.out.trans KVB.out) hne' BN3.out.1 BN3.out.2 HN1.out HN2.out⟩
                exact AllReadyH.nil
              exact AllReadyH.nil
            exact AllReadyH.nil
          exact AllReadyH.nil
        exact AllReadyH.nil
      exact AllReadyH.nil
    exact AllReadyH.nil
  case rest =>
    as_aux_lemma =>
    obtain ⟨rfl, x1, e1, r1, q1, l1, x2, e2, r2, q2, l2, hT⟩ := hcut
    clear hmin hmin2 hms c30 c31 c40 c41 HF1 HF2 B3 B4 K1
    obtain ⟨nk, hnk⟩ : ∃ k, k = cutS nm 40 := ⟨_, rfl⟩
    rw [← hnk]
    clear hnk
    have HOK := Lib.hid (few_ok hok)
    have HOK' := Lib.hid (few_ok hok')
    have HLN := Lib.hid (fewT_lens t)
    have HLN' := Lib.hid (fewT_lens t')
    generalize fewT t = F at *
    generalize fewT t' = F' at *
    obtain ⟨wB, rfl⟩ : ∃ v : World, v = wc := ⟨_, rfl⟩
    have HKB := Lib.hid hT.kept
    have HB3 := Lib.hid hT.h7
    have HB4 := Lib.hid hT.h8
    have HT1 := Lib.hid hT.t1.tabV
    have HT2 := Lib.hid hT.t2.tabV
    clear hT
    have bn3 := blk_lt HB3.out
    have bn4 := blk_lt HB4.out
    have c30 := blk_cell HB3.out 0
    have c31 := blk_cell HB3.out 1
    have c40 := blk_cell HB4.out 0
    have c41 := blk_cell HB4.out 1
    obtain ⟨fb, hfb⟩ : ∃ n, n = F.bs.length := ⟨_, rfl⟩
    obtain ⟨fr, hfr⟩ : ∃ n, n = F.rs.length := ⟨_, rfl⟩
    obtain ⟨fb', hfb'⟩ : ∃ n, n = F'.bs.length := ⟨_, rfl⟩
    obtain ⟨fr', hfr'⟩ : ∃ n, n = F'.rs.length := ⟨_, rfl⟩
    have HFB := Lib.hid (And.intro hfb hfb')
    rw [← hfb, ← hfr] at HT1 HB3
    rw [← hfb', ← hfr'] at HT2 HB4
    simp only [← hfb, ← hfr, ← hfb', ← hfr'] at c30 c31 c40 c41
    have hb20 : fb ≤ 20 := by rw [hfb]; exact HLN.out.1
    have hb20' : fb' ≤ 20 := by rw [hfb']; exact HLN'.out.1
    have hr30 : fr ≤ 30 := by rw [hfr]; exact HLN.out.2.1
    have hr30' : fr' ≤ 30 := by rw [hfr']; exact HLN'.out.2.1
    have HFR := Lib.hid (And.intro hfr hfr')
    have HO1 := Lib.hid (fun V (hV : Kept [] wB V) => of_c (HT1.out.kept0 hV) HOK.out (by omega))
    have HO2 := Lib.hid (fun V (hV : Kept [] wB V) => of_c (HT2.out.kept0 hV) HOK'.out (by omega))
    clear hfb hfr hfb' hfr'
    go_upto_region 2 with (fail)
    go_cut [7, 8] (fun s7 s8 wx => ∃ p7 p8 y1 z1 y2 z2, s7 = .pointer (some ⟨p7, 0, none⟩) ∧ s8 = .pointer (some ⟨p8, 0, none⟩) ∧ wx.heap[p7]? = some (.cells #[.slice y1 F.bs.length z1, .slice r1 fr q1] 42 (0, 0)) ∧ wx.heap[p8]? = some (.cells #[.slice y2 F'.bs.length z2, .slice r2 fr' q2] 42 (0, 0)) ∧ OfAt wx y1 z1 F ∧ OfAt wx y2 z2 F' ∧ Kept [] wB wx)
    case first =>
      as_aux_lemma =>
      go_wp2_with fail
      refine wp_region_held_drew (S := fun V => V.cell? ⟨n3, 0, none⟩ = some (.slice x1 fb e1) ∧ V.cell? ⟨n3, 1, none⟩ = some (.slice r1 fr q1) ∧ V.cell? ⟨n4, 0, none⟩ = some (.slice x2 fb' e2) ∧ V.cell? ⟨n4, 1, none⟩ = some (.slice r2 fr' q2)) (by kernel_rfl) ?_ (fun hHeld => ?_)
      · try dsimp only
        exact ⟨c30, c31, c40, c41⟩
      refine wpAnyH_take (i := 0) (v := ?_) rfl (by kernel_rfl) (by kernel_rfl) (by kernel_rfl) (fun _ _ _ h => h) (Or.inl ⟨by rfl, ?_⟩) (by assumption) ?_
      rotate_left
      · intro w hSw; (try dsimp only at hSw); go_simp
        all_goals with_reducible rfl
      try simp only [Act.put, List.setIfInBounds_toArray, List.set_cons_zero, List.set_cons_succ]
      refine wpAnyH_take (i := 2) (v := ?_) rfl (by kernel_rfl) (by kernel_rfl) (by kernel_rfl) (fun _ _ _ h => h) (Or.inl ⟨by rfl, ?_⟩) (by assumption) ?_
      rotate_left
      · intro w hSw; (try dsimp only at hSw); go_simp
        all_goals with_reducible rfl
      try simp only [Act.put, List.setIfInBounds_toArray, List.set_cons_zero, List.set_cons_succ]
      obtain ⟨v0, hv0⟩ : ∃ v, v = wB.drew := ⟨_, rfl⟩
      rw [← hv0] at hHeld ⊢
      have kv : Kept [] wB v0 := hv0 ▸ (Kept.refl [] wB).drew
      clear hv0 c30 c31 c40 c41
      refine wpAnyH_ready (rs := [1, 4, 5]) (by kernel_rfl) (by simp) ?_
      refine AllReadyH.cons rfl (fun K hK => ?_) ?_
      · go_simp
        go_at_call 15
        refine (HO1.out _ kv).mono ?_
        rintro e u1 ⟨y1, z1, rfl, ho1, hk1, hm1⟩
        replace ho1 : OfAt u1 y1 z1 F := ho1
        clear hm1
        refine hK.out _ _ ?_ (fun hHeld => ?_)
        · exact ⟨hk1.cell hHeld.1 (by simp), hk1.cell hHeld.2.1 (by simp), hk1.cell hHeld.2.2.1 (by simp), hk1.cell hHeld.2.2.2 (by simp)⟩
        clear hK K
        try simp only [Act.put, List.setIfInBounds_toArray, List.set_cons_zero, List.set_cons_succ]
        have kv := kv.trans hk1
        refine wpAnyH_ready (rs := [3, 4, 5]) (by kernel_rfl) (by simp) ?_
        refine AllReadyH.cons rfl (fun K hK => ?_) ?_
        · go_simp
          go_at_call 15
          refine (HO2.out _ kv).mono ?_
          rintro e u2 ⟨y2, z2, rfl, ho2, hk2, hm2⟩
          replace ho2 : OfAt u2 y2 z2 F' := ho2
          clear hm2
          refine hK.out _ _ ?_ (fun hHeld => ?_)
          · exact ⟨hk2.cell hHeld.1 (by simp), hk2.cell hHeld.2.1 (by simp), hk2.cell hHeld.2.2.1 (by simp), hk2.cell hHeld.2.2.2 (by simp)⟩
          clear hK K
          try simp only [Act.put, List.setIfInBounds_toArray, List.set_cons_zero, List.set_cons_succ]
          have kv := kv.trans hk2
          have ho1 := ho1.kept0 hk2
          refine wpAnyH_ready (rs := [4, 5]) (by kernel_rfl) (by simp) ?_
          refine AllReadyH.cons rfl (fun K hK => ?_) ?_
          · as_aux_lemma =>
            go_simp
            refine hK.out _ _ ?_ (fun hHeld => ?_)
            · exact ⟨cell_alloc hHeld.1 _, cell_alloc hHeld.2.1 _, cell_alloc hHeld.2.2.1 _, cell_alloc hHeld.2.2.2 _⟩
            clear hK K
            try simp only [Act.put, List.setIfInBounds_toArray, List.set_cons_zero, List.set_cons_succ]
            obtain ⟨v3, hv⟩ : ∃ v, v = u2.alloc (.cells #[.slice none 0 0, .slice none 0 0] 42) := ⟨_, rfl⟩
            obtain ⟨p7, hp7⟩ : ∃ p, p = u2.heap.size := ⟨_, rfl⟩
            rw [← hv, ← hp7]
            have hk9 : Kept [] u2 v3 := hv ▸ (Kept.refl [] u2).alloc _
            have h7 : v3.heap[p7]? = some (.cells #[.slice none 0 0, .slice none 0 0] 42 (0, 0)) := by rw [hv, hp7]; exact heap_new _ _
            have b7 : wB.heap.size ≤ p7 := hp7 ▸ kv.size
            rw [← hv] at hHeld
            have kv := kv.trans hk9
            have ho1 := ho1.kept0 hk9
            have ho2 := ho2.kept0 hk9
            clear hv hp7 hk9
            refine wpAnyH_ready (rs := [5]) (by kernel_rfl) (by simp) ?_
            refine AllReadyH.cons rfl (fun K hK => ?_) ?_
            · go_simp
              refine hK.out _ _ ?_ (fun hHeld => ?_)
              · exact ⟨cell_alloc hHeld.1 _, cell_alloc hHeld.2.1 _, cell_alloc hHeld.2.2.1 _, cell_alloc hHeld.2.2.2 _⟩
              clear hK K
              try simp only [Act.put, List.setIfInBounds_toArray, List.set_cons_zero, List.set_cons_succ]
              obtain ⟨v4, hv⟩ : ∃ v, v = v3.alloc (.cells #[.slice none 0 0, .slice none 0 0] 42) := ⟨_, rfl⟩
              obtain ⟨p8, hp8⟩ : ∃ p, p = v3.heap.size := ⟨_, rfl⟩
              rw [← hv, ← hp8]
              have hk9 : Kept [] v3 v4 := hv ▸ (Kept.refl [] v3).alloc _
              have h8 : v4.heap[p8]? = some (.cells #[.slice none 0 0, .slice none 0 0] 42 (0, 0)) := by rw [hv, hp8]; exact heap_new _ _
              have b8 : wB.heap.size ≤ p8 := hp8 ▸ kv.size
              have h78 : p7 ≠ p8 := by have := blk_lt h7; omega
              rw [← hv] at hHeld
              have kv := kv.trans hk9
              have h7 := hk9.heap h7 (by simp)
              have ho1 := ho1.kept0 hk9
              have ho2 := ho2.kept0 hk9
              clear hv hp8 hk9
              have d70 := blk_cell h7 0
              have d71 := blk_cell h7 1
              have d80 := blk_cell h8 0
              have d81 := blk_cell h8 1
              have z70 := blk_free h7 0
              have z71 := blk_free h7 1
              have z80 := blk_free h8 0
              have z81 := blk_free h8 1
              have h87 : ¬ p8 = p7 := Ne.symm h78
              have h78' : ¬ p7 = p8 := h78
              obtain ⟨wy, hwy⟩ : ∃ v, v = v4 := ⟨_, rfl⟩
              subst hwy
              have hs0 := hHeld.1
              have hs1 := hHeld.2.1
              have hs2 := hHeld.2.2.1
              have hs3 := hHeld.2.2.2
              have h37 : ¬ n3 = p7 := by omega
              have h38 : ¬ n3 = p8 := by omega
              have h47 : ¬ n4 = p7 := by omega
              have h48 : ¬ n4 = p8 := by omega
              have KST0 := Kept.refl [p7, p8] wy
              have H7 := Lib.hid h7
              have H8 := Lib.hid h8
              have HW1 := Lib.hid ho1
              have HW2 := Lib.hid ho2
              have KV := Lib.hid kv
              clear h7 h8 ho1 ho2 hk1 hk2 kv
              refine wpAnyH_ready (rs := [6]) (by kernel_rfl) (by simp) ?_
              refine AllReadyH.cons rfl (fun K hK => ?_) ?_
              · go_simp
                refine hK.out _ _ ?_ (fun hHeld => ?_)
                · exact ⟨Kept.cell (F := [p7, p8]) (w := wy) (by (repeat (first | with_reducible exact KST0 | with_reducible refine Kept.setCell ?_ (.inl (by simp)) _))) hs0 (by simp [h37, h38]), Kept.cell (F := [p7, p8]) (w := wy) (by (repeat (first | with_reducible exact KST0 | with_reducible refine Kept.setCell ?_ (.inl (by simp)) _))) hs1 (by simp [h37, h38]), Kept.cell (F := [p7, p8]) (w := wy) (by (repeat (first | with_reducible exact KST0 | with_reducible refine Kept.setCell ?_ (.inl (by simp)) _))) hs2 (by simp [h47, h48]), Kept.cell (F := [p7, p8]) (w := wy) (by (repeat (first | with_reducible exact KST0 | with_reducible refine Kept.setCell ?_ (.inl (by simp)) _))) hs3 (by simp [h47, h48])⟩
                clear hK K
                try simp only [Act.put, List.setIfInBounds_toArray, List.set_cons_zero, List.set_cons_succ]
                refine wpAnyH_ready (rs := [7]) (by kernel_rfl) (by simp) ?_
                refine AllReadyH.cons rfl (fun K hK => ?_) ?_
                · go_simp
                  refine hK.out _ _ ?_ (fun hHeld => ?_)
                  · exact ⟨Kept.cell (F := [p7, p8]) (w := wy) (by (repeat (first | with_reducible exact KST0 | with_reducible refine Kept.setCell ?_ (.inl (by simp)) _))) hs0 (by simp [h37, h38]), Kept.cell (F := [p7, p8]) (w := wy) (by (repeat (first | with_reducible exact KST0 | with_reducible refine Kept.setCell ?_ (.inl (by simp)) _))) hs1 (by simp [h37, h38]), Kept.cell (F := [p7, p8]) (w := wy) (by (repeat (first | with_reducible exact KST0 | with_reducible refine Kept.setCell ?_ (.inl (by simp)) _))) hs2 (by simp [h47, h48]), Kept.cell (F := [p7, p8]) (w := wy) (by (repeat (first | with_reducible exact KST0 | with_reducible refine Kept.setCell ?_ (.inl (by simp)) _))) hs3 (by simp [h47, h48])⟩
                  clear hK K
                  try simp only [Act.put, List.setIfInBounds_toArray, List.set_cons_zero, List.set_cons_succ]
                  refine wpAnyH_done (by kernel_rfl) ?_ _
                  go_wp2_with fail
                  go_meet
                  exact ⟨p7, p8, y1, z1, y2, z2, rfl, rfl, of_two_at H7.out H8.out HW1.out HW2.out KV.out h78 b7 b8⟩
                exact AllReadyH.nil
              exact AllReadyH.nil
            exact AllReadyH.nil
          refine AllReadyH.cons rfl (fun K hK => ?_) ?_
          · as_aux_lemma =>
            go_simp
            refine hK.out _ _ ?_ (fun hHeld => ?_)
            · exact ⟨cell_alloc hHeld.1 _, cell_alloc hHeld.2.1 _, cell_alloc hHeld.2.2.1 _, cell_alloc hHeld.2.2.2 _⟩
            clear hK K
            try simp only [Act.put, List.setIfInBounds_toArray, List.set_cons_zero, List.set_cons_succ]
            obtain ⟨v3, hv⟩ : ∃ v, v = u2.alloc (.cells #[.slice none 0 0, .slice none 0 0] 42) := ⟨_, rfl⟩
            obtain ⟨p8, hp8⟩ : ∃ p, p = u2.heap.size := ⟨_, rfl⟩
            rw [← hv, ← hp8]
            have hk9 : Kept [] u2 v3 := hv ▸ (Kept.refl [] u2).alloc _
            have h8 : v3.heap[p8]? = some (.cells #[.slice none 0 0, .slice none 0 0] 42 (0, 0)) := by rw [hv, hp8]; exact heap_new _ _
            have b8 : wB.heap.size ≤ p8 := hp8 ▸ kv.size
            rw [← hv] at hHeld
            have kv := kv.trans hk9
            have ho1 := ho1.kept0 hk9
            have ho2 := ho2.kept0 hk9
            clear hv hp8 hk9
            refine wpAnyH_ready (rs := [4]) (by kernel_rfl) (by simp) ?_
            refine AllReadyH.cons rfl (fun K hK => ?_) ?_
            · go_simp
              refine hK.out _ _ ?_ (fun hHeld => ?_)
              · exact ⟨cell_alloc hHeld.1 _, cell_alloc hHeld.2.1 _, cell_alloc hHeld.2.2.1 _, cell_alloc hHeld.2.2.2 _⟩
              clear hK K
              try simp only [Act.put, List.setIfInBounds_toArray, List.set_cons_zero, List.set_cons_succ]
              obtain ⟨v4, hv⟩ : ∃ v, v = v3.alloc (.cells #[.slice none 0 0, .slice none 0 0] 42) := ⟨_, rfl⟩
              obtain ⟨p7, hp7⟩ : ∃ p, p = v3.heap.size := ⟨_, rfl⟩
              rw [← hv, ← hp7]
              have hk9 : Kept [] v3 v4 := hv ▸ (Kept.refl [] v3).alloc _
              have h7 : v4.heap[p7]? = some (.cells #[.slice none 0 0, .slice none 0 0] 42 (0, 0)) := by rw [hv, hp7]; exact heap_new _ _
              have b7 : wB.heap.size ≤ p7 := hp7 ▸ kv.size
              have h78 : p7 ≠ p8 := by have := blk_lt h8; omega
              rw [← hv] at hHeld
              have kv := kv.trans hk9
              have h8 := hk9.heap h8 (by simp)
              have ho1 := ho1.kept0 hk9
              have ho2 := ho2.kept0 hk9
              clear hv hp7 hk9
              have d70 := blk_cell h7 0
              have d71 := blk_cell h7 1
              have d80 := blk_cell h8 0
              have d81 := blk_cell h8 1
              have z70 := blk_free h7 0
              have z71 := blk_free h7 1
              have z80 := blk_free h8 0
              have z81 := blk_free h8 1
              have h87 : ¬ p8 = p7 := Ne.symm h78
              have h78' : ¬ p7 = p8 := h78
              obtain ⟨wy, hwy⟩ : ∃ v, v = v4 := ⟨_, rfl⟩
              subst hwy
              have hs0 := hHeld.1
              have hs1 := hHeld.2.1
              have hs2 := hHeld.2.2.1
              have hs3 := hHeld.2.2.2
              have h37 : ¬ n3 = p7 := by omega
              have h38 : ¬ n3 = p8 := by omega
              have h47 : ¬ n4 = p7 := by omega
              have h48 : ¬ n4 = p8 := by omega
              have KST0 := Kept.refl [p7, p8] wy
              have H7 := Lib.hid h7
              have H8 := Lib.hid h8
              have HW1 := Lib.hid ho1
              have HW2 := Lib.hid ho2
              have KV := Lib.hid kv
              clear h7 h8 ho1 ho2 hk1 hk2 kv
              refine wpAnyH_ready (rs := [6]) (by kernel_rfl) (by simp) ?_
              refine AllReadyH.cons rfl (fun K hK => ?_) ?_
              · go_simp
                refine hK.out _ _ ?_ (fun hHeld => ?_)
                · exact ⟨Kept.cell (F := [p7, p8]) (w := wy) (by (repeat (first | with_reducible exact KST0 | with_reducible refine Kept.setCell ?_ (.inl (by simp)) _))) hs0 (by simp [h37, h38]), Kept.cell (F := [p7, p8]) (w := wy) (by (repeat (first | with_reducible exact KST0 | with_reducible refine Kept.setCell ?_ (.inl (by simp)) _))) hs1 (by simp [h37, h38]), Kept.cell (F := [p7, p8]) (w := wy) (by (repeat (first | with_reducible exact KST0 | with_reducible refine Kept.setCell ?_ (.inl (by simp)) _))) hs2 (by simp [h47, h48]), Kept.cell (F := [p7, p8]) (w := wy) (by (repeat (first | with_reducible exact KST0 | with_reducible refine Kept.setCell ?_ (.inl (by simp)) _))) hs3 (by simp [h47, h48])⟩
                clear hK K
                try simp only [Act.put, List.setIfInBounds_toArray, List.set_cons_zero, List.set_cons_succ]
                refine wpAnyH_ready (rs := [7]) (by kernel_rfl) (by simp) ?_
                refine AllReadyH.cons rfl (fun K hK => ?_) ?_
                · go_simp
                  refine hK.out _ _ ?_ (fun hHeld => ?_)
                  · exact ⟨Kept.cell (F := [p7, p8]) (w := wy) (by (repeat (first | with_reducible exact KST0 | with_reducible refine Kept.setCell ?_ (.inl (by simp)) _))) hs0 (by simp [h37, h38]), Kept.cell (F := [p7, p8]) (w := wy) (by (repeat (first | with_reducible exact KST0 | with_reducible refine Kept.setCell ?_ (.inl (by simp)) _))) hs1 (by simp [h37, h38]), Kept.cell (F := [p7, p8]) (w := wy) (by (repeat (first | with_reducible exact KST0 | with_reducible refine Kept.setCell ?_ (.inl (by simp)) _))) hs2 (by simp [h47, h48]), Kept.cell (F := [p7, p8]) (w := wy) (by (repeat (first | with_reducible exact KST0 | with_reducible refine Kept.setCell ?_ (.inl (by simp)) _))) hs3 (by simp [h47, h48])⟩
                  clear hK K
                  try simp only [Act.put, List.setIfInBounds_toArray, List.set_cons_zero, List.set_cons_succ]
                  refine wpAnyH_done (by kernel_rfl) ?_ _
                  go_wp2_with fail
                  go_meet
                  exact ⟨p7, p8, y1, z1, y2, z2, rfl, rfl, of_two_at H7.out H8.out HW1.out HW2.out KV.out h78 b7 b8⟩
                exact AllReadyH.nil
              exact AllReadyH.nil
            exact AllReadyH.nil
          exact AllReadyH.nil
        refine AllReadyH.cons rfl (fun K hK => ?_) ?_
        · go_simp
          refine hK.out _ _ ?_ (fun hHeld => ?_)
          · exact ⟨cell_alloc hHeld.1 _, cell_alloc hHeld.2.1 _, cell_alloc hHeld.2.2.1 _, cell_alloc hHeld.2.2.2 _⟩
          clear hK K
          try simp only [Act.put, List.setIfInBounds_toArray, List.set_cons_zero, List.set_cons_succ]
          obtain ⟨v2, hv⟩ : ∃ v, v = u1.alloc (.cells #[.slice none 0 0, .slice none 0 0] 42) := ⟨_, rfl⟩
          obtain ⟨p7, hp7⟩ : ∃ p, p = u1.heap.size := ⟨_, rfl⟩
          rw [← hv, ← hp7]
          have hk9 : Kept [] u1 v2 := hv ▸ (Kept.refl [] u1).alloc _
          have h7 : v2.heap[p7]? = some (.cells #[.slice none 0 0, .slice none 0 0] 42 (0, 0)) := by rw [hv, hp7]; exact heap_new _ _
          have b7 : wB.heap.size ≤ p7 := hp7 ▸ kv.size
          rw [← hv] at hHeld
          have kv := kv.trans hk9
          have ho1 := ho1.kept0 hk9
          clear hv hp7 hk9
          refine wpAnyH_ready (rs := [3, 5]) (by kernel_rfl) (by simp) ?_
          refine AllReadyH.cons rfl (fun K hK => ?_) ?_
          · as_aux_lemma =>
            go_simp
            go_at_call 15
            refine (HO2.out _ kv).mono ?_
            rintro e u2 ⟨y2, z2, rfl, ho2, hk2, hm2⟩
            replace ho2 : OfAt u2 y2 z2 F' := ho2
            clear hm2
            refine hK.out _ _ ?_ (fun hHeld => ?_)
            · exact ⟨hk2.cell hHeld.1 (by simp), hk2.cell hHeld.2.1 (by simp), hk2.cell hHeld.2.2.1 (by simp), hk2.cell hHeld.2.2.2 (by simp)⟩
            clear hK K
            try simp only [Act.put, List.setIfInBounds_toArray, List.set_cons_zero, List.set_cons_succ]
            have kv := kv.trans hk2
            have h7 := hk2.heap h7 (by simp)
            have ho1 := ho1.kept0 hk2
            refine wpAnyH_ready (rs := [5]) (by kernel_rfl) (by simp) ?_
            refine AllReadyH.cons rfl (fun K hK => ?_) ?_
            · go_simp
              refine hK.out _ _ ?_ (fun hHeld => ?_)
              · exact ⟨cell_alloc hHeld.1 _, cell_alloc hHeld.2.1 _, cell_alloc hHeld.2.2.1 _, cell_alloc hHeld.2.2.2 _⟩
              clear hK K
              try simp only [Act.put, List.setIfInBounds_toArray, List.set_cons_zero, List.set_cons_succ]
              obtain ⟨v4, hv⟩ : ∃ v, v = u2.alloc (.cells #[.slice none 0 0, .slice none 0 0] 42) := ⟨_, rfl⟩
              obtain ⟨p8, hp8⟩ : ∃ p, p = u2.heap.size := ⟨_, rfl⟩
              rw [← hv, ← hp8]
              have hk9 : Kept [] u2 v4 := hv ▸ (Kept.refl [] u2).alloc _
              have h8 : v4.heap[p8]? = some (.cells #[.slice none 0 0, .slice none 0 0] 42 (0, 0)) := by rw [hv, hp8]; exact heap_new _ _
              have b8 : wB.heap.size ≤ p8 := hp8 ▸ kv.size
              have h78 : p7 ≠ p8 := by have := blk_lt h7; omega
              rw [← hv] at hHeld
              have kv := kv.trans hk9
              have h7 := hk9.heap h7 (by simp)
              have ho1 := ho1.kept0 hk9
              have ho2 := ho2.kept0 hk9
              clear hv hp8 hk9
              have d70 := blk_cell h7 0
              have d71 := blk_cell h7 1
              have d80 := blk_cell h8 0
              have d81 := blk_cell h8 1
              have z70 := blk_free h7 0
              have z71 := blk_free h7 1
              have z80 := blk_free h8 0
              have z81 := blk_free h8 1
              have h87 : ¬ p8 = p7 := Ne.symm h78
              have h78' : ¬ p7 = p8 := h78
              obtain ⟨wy, hwy⟩ : ∃ v, v = v4 := ⟨_, rfl⟩
              subst hwy
              have hs0 := hHeld.1
              have hs1 := hHeld.2.1
              have hs2 := hHeld.2.2.1
              have hs3 := hHeld.2.2.2
              have h37 : ¬ n3 = p7 := by omega
              have h38 : ¬ n3 = p8 := by omega
              have h47 : ¬ n4 = p7 := by omega
              have h48 : ¬ n4 = p8 := by omega
              have KST0 := Kept.refl [p7, p8] wy
              have H7 := Lib.hid h7
              have H8 := Lib.hid h8
              have HW1 := Lib.hid ho1
              have HW2 := Lib.hid ho2
              have KV := Lib.hid kv
              clear h7 h8 ho1 ho2 hk1 hk2 kv
              refine wpAnyH_ready (rs := [6]) (by kernel_rfl) (by simp) ?_
              refine AllReadyH.cons rfl (fun K hK => ?_) ?_
              · go_simp
                refine hK.out _ _ ?_ (fun hHeld => ?_)
                · exact ⟨Kept.cell (F := [p7, p8]) (w := wy) (by (repeat (first | with_reducible exact KST0 | with_reducible refine Kept.setCell ?_ (.inl (by simp)) _))) hs0 (by simp [h37, h38]), Kept.cell (F := [p7, p8]) (w := wy) (by (repeat (first | with_reducible exact KST0 | with_reducible refine Kept.setCell ?_ (.inl (by simp)) _))) hs1 (by simp [h37, h38]), Kept.cell (F := [p7, p8]) (w := wy) (by (repeat (first | with_reducible exact KST0 | with_reducible refine Kept.setCell ?_ (.inl (by simp)) _))) hs2 (by simp [h47, h48]), Kept.cell (F := [p7, p8]) (w := wy) (by (repeat (first | with_reducible exact KST0 | with_reducible refine Kept.setCell ?_ (.inl (by simp)) _))) hs3 (by simp [h47, h48])⟩
                clear hK K
                try simp only [Act.put, List.setIfInBounds_toArray, List.set_cons_zero, List.set_cons_succ]
                refine wpAnyH_ready (rs := [7]) (by kernel_rfl) (by simp) ?_
                refine AllReadyH.cons rfl (fun K hK => ?_) ?_
                · go_simp
                  refine hK.out _ _ ?_ (fun hHeld => ?_)
                  · exact ⟨Kept.cell (F := [p7, p8]) (w := wy) (by (repeat (first | with_reducible exact KST0 | with_reducible refine Kept.setCell ?_ (.inl (by simp)) _))) hs0 (by simp [h37, h38]), Kept.cell (F := [p7, p8]) (w := wy) (by (repeat (first | with_reducible exact KST0 | with_reducible refine Kept.setCell ?_ (.inl (by simp)) _))) hs1 (by simp [h37, h38]), Kept.cell (F := [p7, p8]) (w := wy) (by (repeat (first | with_reducible exact KST0 | with_reducible refine Kept.setCell ?_ (.inl (by simp)) _))) hs2 (by simp [h47, h48]), Kept.cell (F := [p7, p8]) (w := wy) (by (repeat (first | with_reducible exact KST0 | with_reducible refine Kept.setCell ?_ (.inl (by simp)) _))) hs3 (by simp [h47, h48])⟩
                  clear hK K
                  try simp only [Act.put, List.setIfInBounds_toArray, List.set_cons_zero, List.set_cons_succ]
                  refine wpAnyH_done (by kernel_rfl) ?_ _
                  go_wp2_with fail
                  go_meet
                  exact ⟨p7, p8, y1, z1, y2, z2, rfl, rfl, of_two_at H7.out H8.out HW1.out HW2.out KV.out h78 b7 b8⟩
                exact AllReadyH.nil
              exact AllReadyH.nil
            exact AllReadyH.nil
          refine AllReadyH.cons rfl (fun K hK => ?_) ?_
          · as_aux_lemma =>
            go_simp
            refine hK.out _ _ ?_ (fun hHeld => ?_)
            · exact ⟨cell_alloc hHeld.1 _, cell_alloc hHeld.2.1 _, cell_alloc hHeld.2.2.1 _, cell_alloc hHeld.2.2.2 _⟩
            clear hK K
            try simp only [Act.put, List.setIfInBounds_toArray, List.set_cons_zero, List.set_cons_succ]
            obtain ⟨v3, hv⟩ : ∃ v, v = v2.alloc (.cells #[.slice none 0 0, .slice none 0 0] 42) := ⟨_, rfl⟩
            obtain ⟨p8, hp8⟩ : ∃ p, p = v2.heap.size := ⟨_, rfl⟩
            rw [← hv, ← hp8]
            have hk9 : Kept [] v2 v3 := hv ▸ (Kept.refl [] v2).alloc _
            have h8 : v3.heap[p8]? = some (.cells #[.slice none 0 0, .slice none 0 0] 42 (0, 0)) := by rw [hv, hp8]; exact heap_new _ _
            have b8 : wB.heap.size ≤ p8 := hp8 ▸ kv.size
            have h78 : p7 ≠ p8 := by have := blk_lt h7; omega
            rw [← hv] at hHeld
            have kv := kv.trans hk9
            have h7 := hk9.heap h7 (by simp)
            have ho1 := ho1.kept0 hk9
            clear hv hp8 hk9
            refine wpAnyH_ready (rs := [3]) (by kernel_rfl) (by simp) ?_
            refine AllReadyH.cons rfl (fun K hK => ?_) ?_
            · go_simp
              go_at_call 15
              refine (HO2.out _ kv).mono ?_
              rintro e u2 ⟨y2, z2, rfl, ho2, hk2, hm2⟩
              replace ho2 : OfAt u2 y2 z2 F' := ho2
              clear hm2
              refine hK.out _ _ ?_ (fun hHeld => ?_)
              · exact ⟨hk2.cell hHeld.1 (by simp), hk2.cell hHeld.2.1 (by simp), hk2.cell hHeld.2.2.1 (by simp), hk2.cell hHeld.2.2.2 (by simp)⟩
              clear hK K
              try simp only [Act.put, List.setIfInBounds_toArray, List.set_cons_zero, List.set_cons_succ]
              have kv := kv.trans hk2
              have h7 := hk2.heap h7 (by simp)
              have h8 := hk2.heap h8 (by simp)
              have ho1 := ho1.kept0 hk2
              have d70 := blk_cell h7 0
              have d71 := blk_cell h7 1
              have d80 := blk_cell h8 0
              have d81 := blk_cell h8 1
              have z70 := blk_free h7 0
              have z71 := blk_free h7 1
              have z80 := blk_free h8 0
              have z81 := blk_free h8 1
              have h87 : ¬ p8 = p7 := Ne.symm h78
              have h78' : ¬ p7 = p8 := h78
              obtain ⟨wy, hwy⟩ : ∃ v, v = u2 := ⟨_, rfl⟩
              subst hwy
              have hs0 := hHeld.1
              have hs1 := hHeld.2.1
              have hs2 := hHeld.2.2.1
              have hs3 := hHeld.2.2.2
              have h37 : ¬ n3 = p7 := by omega
              have h38 : ¬ n3 = p8 := by omega
              have h47 : ¬ n4 = p7 := by omega
              have h48 : ¬ n4 = p8 := by omega
              have KST0 := Kept.refl [p7, p8] wy
              have H7 := Lib.hid h7
              have H8 := Lib.hid h8
              have HW1 := Lib.hid ho1
              have HW2 := Lib.hid ho2
              have KV := Lib.hid kv
              clear h7 h8 ho1 ho2 hk1 hk2 kv
              refine wpAnyH_ready (rs := [6]) (by kernel_rfl) (by simp) ?_
              refine AllReadyH.cons rfl (fun K hK => ?_) ?_
              · go_simp
                refine hK.out _ _ ?_ (fun hHeld => ?_)
                · exact ⟨Kept.cell (F := [p7, p8]) (w := wy) (by (repeat (first | with_reducible exact KST0 | with_reducible refine Kept.setCell ?_ (.inl (by simp)) _))) hs0 (by simp [h37, h38]), Kept.cell (F := [p7, p8]) (w := wy) (by (repeat (first | with_reducible exact KST0 | with_reducible refine Kept.setCell ?_ (.inl (by simp)) _))) hs1 (by simp [h37, h38]), Kept.cell (F := [p7, p8]) (w := wy) (by (repeat (first | with_reducible exact KST0 | with_reducible refine Kept.setCell ?_ (.inl (by simp)) _))) hs2 (by simp [h47, h48]), Kept.cell (F := [p7, p8]) (w := wy) (by (repeat (first | with_reducible exact KST0 | with_reducible refine Kept.setCell ?_ (.inl (by simp)) _))) hs3 (by simp [h47, h48])⟩
                clear hK K
                try simp only [Act.put, List.setIfInBounds_toArray, List.set_cons_zero, List.set_cons_succ]
                refine wpAnyH_ready (rs := [7]) (by kernel_rfl) (by simp) ?_
                refine AllReadyH.cons rfl (fun K hK => ?_) ?_
                · go_simp
                  refine hK.out _ _ ?_ (fun hHeld => ?_)
                  · exact ⟨Kept.cell (F := [p7, p8]) (w := wy) (by (repeat (first | with_reducible exact KST0 | with_reducible refine Kept.setCell ?_ (.inl (by simp)) _))) hs0 (by simp [h37, h38]), Kept.cell (F := [p7, p8]) (w := wy) (by (repeat (first | with_reducible exact KST0 | with_reducible refine Kept.setCell ?_ (.inl (by simp)) _))) hs1 (by simp [h37, h38]), Kept.cell (F := [p7, p8]) (w := wy) (by (repeat (first | with_reducible exact KST0 | with_reducible refine Kept.setCell ?_ (.inl (by simp)) _))) hs2 (by simp [h47, h48]), Kept.cell (F := [p7, p8]) (w := wy) (by (repeat (first | with_reducible exact KST0 | with_reducible refine Kept.setCell ?_ (.inl (by simp)) _))) hs3 (by simp [h47, h48])⟩
                  clear hK K
                  try simp only [Act.put, List.setIfInBounds_toArray, List.set_cons_zero, List.set_cons_succ]
                  refine wpAnyH_done (by kernel_rfl) ?_ _
                  go_wp2_with fail
                  go_meet
                  exact ⟨p7, p8, y1, z1, y2, z2, rfl, rfl, of_two_at H7.out H8.out HW1.out HW2.out KV.out h78 b7 b8⟩
                exact AllReadyH.nil
              exact AllReadyH.nil
            exact AllReadyH.nil
          exact AllReadyH.nil
        refine AllReadyH.cons rfl (fun K hK => ?_) ?_
        · go_simp
          refine hK.out _ _ ?_ (fun hHeld => ?_)
          · exact ⟨cell_alloc hHeld.1 _, cell_alloc hHeld.2.1 _, cell_alloc hHeld.2.2.1 _, cell_alloc hHeld.2.2.2 _⟩
          clear hK K
          try simp only [Act.put, List.setIfInBounds_toArray, List.set_cons_zero, List.set_cons_succ]
          obtain ⟨v2, hv⟩ : ∃ v, v = u1.alloc (.cells #[.slice none 0 0, .slice none 0 0] 42) := ⟨_, rfl⟩
          obtain ⟨p8, hp8⟩ : ∃ p, p = u1.heap.size := ⟨_, rfl⟩
          rw [← hv, ← hp8]
          have hk9 : Kept [] u1 v2 := hv ▸ (Kept.refl [] u1).alloc _
          have h8 : v2.heap[p8]? = some (.cells #[.slice none 0 0, .slice none 0 0] 42 (0, 0)) := by rw [hv, hp8]; exact heap_new _ _
          have b8 : wB.heap.size ≤ p8 := hp8 ▸ kv.size
          rw [← hv] at hHeld
          have kv := kv.trans hk9
          have ho1 := ho1.kept0 hk9
          clear hv hp8 hk9
          refine wpAnyH_ready (rs := [3, 4]) (by kernel_rfl) (by simp) ?_
          refine AllReadyH.cons rfl (fun K hK => ?_) ?_
          · as_aux_lemma =>
            go_simp
            go_at_call 15
            refine (HO2.out _ kv).mono ?_
            rintro e u2 ⟨y2, z2, rfl, ho2, hk2, hm2⟩
            replace ho2 : OfAt u2 y2 z2 F' := ho2
            clear hm2
            refine hK.out _ _ ?_ (fun hHeld => ?_)
            · exact ⟨hk2.cell hHeld.1 (by simp), hk2.cell hHeld.2.1 (by simp), hk2.cell hHeld.2.2.1 (by simp), hk2.cell hHeld.2.2.2 (by simp)⟩
            clear hK K
            try simp only [Act.put, List.setIfInBounds_toArray, List.set_cons_zero, List.set_cons_succ]
            have kv := kv.trans hk2
            have h8 := hk2.heap h8 (by simp)
            have ho1 := ho1.kept0 hk2
            refine wpAnyH_ready (rs := [4]) (by kernel_rfl) (by simp) ?_
            refine AllReadyH.cons rfl (fun K hK => ?_) ?_
            · go_simp
              refine hK.out _ _ ?_ (fun hHeld => ?_)
              · exact ⟨cell_alloc hHeld.1 _, cell_alloc hHeld.2.1 _, cell_alloc hHeld.2.2.1 _, cell_alloc hHeld.2.2.2 _⟩
              clear hK K
              try simp only [Act.put, List.setIfInBounds_toArray, List.set_cons_zero, List.set_cons_succ]
              obtain ⟨v4, hv⟩ : ∃ v, v = u2.alloc (.cells #[.slice none 0 0, .slice none 0 0] 42) := ⟨_, rfl⟩
              obtain ⟨p7, hp7⟩ : ∃ p, p = u2.heap.size := ⟨_, rfl⟩
              rw [← hv, ← hp7]
              have hk9 : Kept [] u2 v4 := hv ▸ (Kept.refl [] u2).alloc _
              have h7 : v4.heap[p7]? = some (.cells #[.slice none 0 0, .slice none 0 0] 42 (0, 0)) := by rw [hv, hp7]; exact heap_new _ _
              have b7 : wB.heap.size ≤ p7 := hp7 ▸ kv.size
              have h78 : p7 ≠ p8 := by have := blk_lt h8; omega
              rw [← hv] at hHeld
              have kv := kv.trans hk9
              have h8 := hk9.heap h8 (by simp)
              have ho1 := ho1.kept0 hk9
              have ho2 := ho2.kept0 hk9
              clear hv hp7 hk9
              have d70 := blk_cell h7 0
              have d71 := blk_cell h7 1
              have d80 := blk_cell h8 0
              have d81 := blk_cell h8 1
              have z70 := blk_free h7 0
              have z71 := blk_free h7 1
              have z80 := blk_free h8 0
              have z81 := blk_free h8 1
              have h87 : ¬ p8 = p7 := Ne.symm h78
              have h78' : ¬ p7 = p8 := h78
              obtain ⟨wy, hwy⟩ : ∃ v, v = v4 := ⟨_, rfl⟩
              subst hwy
              have hs0 := hHeld.1
              have hs1 := hHeld.2.1
              have hs2 := hHeld.2.2.1
              have hs3 := hHeld.2.2.2
              have h37 : ¬ n3 = p7 := by omega
              have h38 : ¬ n3 = p8 := by omega
              have h47 : ¬ n4 = p7 := by omega
              have h48 : ¬ n4 = p8 := by omega
              have KST0 := Kept.refl [p7, p8] wy
              have H7 := Lib.hid h7
              have H8 := Lib.hid h8
              have HW1 := Lib.hid ho1
              have HW2 := Lib.hid ho2
              have KV := Lib.hid kv
              clear h7 h8 ho1 ho2 hk1 hk2 kv
              refine wpAnyH_ready (rs := [6]) (by kernel_rfl) (by simp) ?_
              refine AllReadyH.cons rfl (fun K hK => ?_) ?_
              · go_simp
                refine hK.out _ _ ?_ (fun hHeld => ?_)
                · exact ⟨Kept.cell (F := [p7, p8]) (w := wy) (by (repeat (first | with_reducible exact KST0 | with_reducible refine Kept.setCell ?_ (.inl (by simp)) _))) hs0 (by simp [h37, h38]), Kept.cell (F := [p7, p8]) (w := wy) (by (repeat (first | with_reducible exact KST0 | with_reducible refine Kept.setCell ?_ (.inl (by simp)) _))) hs1 (by simp [h37, h38]), Kept.cell (F := [p7, p8]) (w := wy) (by (repeat (first | with_reducible exact KST0 | with_reducible refine Kept.setCell ?_ (.inl (by simp)) _))) hs2 (by simp [h47, h48]), Kept.cell (F := [p7, p8]) (w := wy) (by (repeat (first | with_reducible exact KST0 | with_reducible refine Kept.setCell ?_ (.inl (by simp)) _))) hs3 (by simp [h47, h48])⟩
                clear hK K
                try simp only [Act.put, List.setIfInBounds_toArray, List.set_cons_zero, List.set_cons_succ]
                refine wpAnyH_ready (rs := [7]) (by kernel_rfl) (by simp) ?_
                refine AllReadyH.cons rfl (fun K hK => ?_) ?_
                · go_simp
                  refine hK.out _ _ ?_ (fun hHeld => ?_)
                  · exact ⟨Kept.cell (F := [p7, p8]) (w := wy) (by (repeat (first | with_reducible exact KST0 | with_reducible refine Kept.setCell ?_ (.inl (by simp)) _))) hs0 (by simp [h37, h38]), Kept.cell (F := [p7, p8]) (w := wy) (by (repeat (first | with_reducible exact KST0 | with_reducible refine Kept.setCell ?_ (.inl (by simp)) _))) hs1 (by simp [h37, h38]), Kept.cell (F := [p7, p8]) (w := wy) (by (repeat (first | with_reducible exact KST0 | with_reducible refine Kept.setCell ?_ (.inl (by simp)) _))) hs2 (by simp [h47, h48]), Kept.cell (F := [p7, p8]) (w := wy) (by (repeat (first | with_reducible exact KST0 | with_reducible refine Kept.setCell ?_ (.inl (by simp)) _))) hs3 (by simp [h47, h48])⟩
                  clear hK K
                  try simp only [Act.put, List.setIfInBounds_toArray, List.set_cons_zero, List.set_cons_succ]
                  refine wpAnyH_done (by kernel_rfl) ?_ _
                  go_wp2_with fail
                  go_meet
                  exact ⟨p7, p8, y1, z1, y2, z2, rfl, rfl, of_two_at H7.out H8.out HW1.out HW2.out KV.out h78 b7 b8⟩
                exact AllReadyH.nil
              exact AllReadyH.nil
            exact AllReadyH.nil
          refine AllReadyH.cons rfl (fun K hK => ?_) ?_
          · as_aux_lemma =>
            go_simp
            refine hK.out _ _ ?_ (fun hHeld => ?_)
            · exact ⟨cell_alloc hHeld.1 _, cell_alloc hHeld.2.1 _, cell_alloc hHeld.2.2.1 _, cell_alloc hHeld.2.2.2 _⟩
            clear hK K
            try simp only [Act.put, List.setIfInBounds_toArray, List.set_cons_zero, List.set_cons_succ]
            obtain ⟨v3, hv⟩ : ∃ v, v = v2.alloc (.cells #[.slice none 0 0, .slice none 0 0] 42) := ⟨_, rfl⟩
            obtain ⟨p7, hp7⟩ : ∃ p, p = v2.heap.size := ⟨_, rfl⟩
            rw [← hv, ← hp7]
            have hk9 : Kept [] v2 v3 := hv ▸ (Kept.refl [] v2).alloc _
            have h7 : v3.heap[p7]? = some (.cells #[.slice none 0 0, .slice none 0 0] 42 (0, 0)) := by rw [hv, hp7]; exact heap_new _ _
            have b7 : wB.heap.size ≤ p7 := hp7 ▸ kv.size
            have h78 : p7 ≠ p8 := by have := blk_lt h8; omega
            rw [← hv] at hHeld
            have kv := kv.trans hk9
            have h8 := hk9.heap h8 (by simp)
            have ho1 := ho1.kept0 hk9
            clear hv hp7 hk9
            refine wpAnyH_ready (rs := [3]) (by kernel_rfl) (by simp) ?_
            refine AllReadyH.cons rfl (fun K hK => ?_) ?_
            · go_simp
              go_at_call 15
              refine (HO2.out _ kv).mono ?_
              rintro e u2 ⟨y2, z2, rfl, ho2, hk2, hm2⟩
              replace ho2 : OfAt u2 y2 z2 F' := ho2
              clear hm2
              refine hK.out _ _ ?_ (fun hHeld => ?_)
              · exact ⟨hk2.cell hHeld.1 (by simp), hk2.cell hHeld.2.1 (by simp), hk2.cell hHeld.2.2.1 (by simp), hk2.cell hHeld.2.2.2 (by simp)⟩
              clear hK K
              try simp only [Act.put, List.setIfInBounds_toArray, List.set_cons_zero, List.set_cons_succ]
              have kv := kv.trans hk2
              have h7 := hk2.heap h7 (by simp)
              have h8 := hk2.heap h8 (by simp)
              have ho1 := ho1.kept0 hk2
              have d70 := blk_cell h7 0
              have d71 := blk_cell h7 1
              have d80 := blk_cell h8 0
              have d81 := blk_cell h8 1
              have z70 := blk_free h7 0
              have z71 := blk_free h7 1
              have z80 := blk_free h8 0
              have z81 := blk_free h8 1
              have h87 : ¬ p8 = p7 := Ne.symm h78
              have h78' : ¬ p7 = p8 := h78
              obtain ⟨wy, hwy⟩ : ∃ v, v = u2 := ⟨_, rfl⟩
              subst hwy
              have hs0 := hHeld.1
              have hs1 := hHeld.2.1
              have hs2 := hHeld.2.2.1
              have hs3 := hHeld.2.2.2
              have h37 : ¬ n3 = p7 := by omega
              have h38 : ¬ n3 = p8 := by omega
              have h47 : ¬ n4 = p7 := by omega
              have h48 : ¬ n4 = p8 := by omega
              have KST0 := Kept.refl [p7, p8] wy
              have H7 := Lib.hid h7
              have H8 := Lib.hid h8
              have HW1 := Lib.hid ho1
              have HW2 := Lib.hid ho2
              have KV := Lib.hid kv
              clear h7 h8 ho1 ho2 hk1 hk2 kv
              refine wpAnyH_ready (rs := [6]) (by kernel_rfl) (by simp) ?_
              refine AllReadyH.cons rfl (fun K hK => ?_) ?_
              · go_simp
                refine hK.out _ _ ?_ (fun hHeld => ?_)
                · exact ⟨Kept.cell (F := [p7, p8]) (w := wy) (by (repeat (first | with_reducible exact KST0 | with_reducible refine Kept.setCell ?_ (.inl (by simp)) _))) hs0 (by simp [h37, h38]), Kept.cell (F := [p7, p8]) (w := wy) (by (repeat (first | with_reducible exact KST0 | with_reducible refine Kept.setCell ?_ (.inl (by simp)) _))) hs1 (by simp [h37, h38]), Kept.cell (F := [p7, p8]) (w := wy) (by (repeat (first | with_reducible exact KST0 | with_reducible refine Kept.setCell ?_ (.inl (by simp)) _))) hs2 (by simp [h47, h48]), Kept.cell (F := [p7, p8]) (w := wy) (by (repeat (first | with_reducible exact KST0 | with_reducible refine Kept.setCell ?_ (.inl (by simp)) _))) hs3 (by simp [h47, h48])⟩
                clear hK K
                try simp only [Act.put, List.setIfInBounds_toArray, List.set_cons_zero, List.set_cons_succ]
                refine wpAnyH_ready (rs := [7]) (by kernel_rfl) (by simp) ?_
                refine AllReadyH.cons rfl (fun K hK => ?_) ?_
                · go_simp
                  refine hK.out _ _ ?_ (fun hHeld => ?_)
                  · exact ⟨Kept.cell (F := [p7, p8]) (w := wy) (by (repeat (first | with_reducible exact KST0 | with_reducible refine Kept.setCell ?_ (.inl (by simp)) _))) hs0 (by simp [h37, h38]), Kept.cell (F := [p7, p8]) (w := wy) (by (repeat (first | with_reducible exact KST0 | with_reducible refine Kept.setCell ?_ (.inl (by simp)) _))) hs1 (by simp [h37, h38]), Kept.cell (F := [p7, p8]) (w := wy) (by (repeat (first | with_reducible exact KST0 | with_reducible refine Kept.setCell ?_ (.inl (by simp)) _))) hs2 (by simp [h47, h48]), Kept.cell (F := [p7, p8]) (w := wy) (by (repeat (first | with_reducible exact KST0 | with_reducible refine Kept.setCell ?_ (.inl (by simp)) _))) hs3 (by simp [h47, h48])⟩
                  clear hK K
                  try simp only [Act.put, List.setIfInBounds_toArray, List.set_cons_zero, List.set_cons_succ]
                  refine wpAnyH_done (by kernel_rfl) ?_ _
                  go_wp2_with fail
                  go_meet
                  exact ⟨p7, p8, y1, z1, y2, z2, rfl, rfl, of_two_at H7.out H8.out HW1.out HW2.out KV.out h78 b7 b8⟩
                exact AllReadyH.nil
              exact AllReadyH.nil
            exact AllReadyH.nil
          exact AllReadyH.nil
        exact AllReadyH.nil
      refine AllReadyH.cons rfl (fun K hK => ?_) ?_
      · go_simp
        refine hK.out _ _ ?_ (fun hHeld => ?_)
        · exact ⟨cell_alloc hHeld.1 _, cell_alloc hHeld.2.1 _, cell_alloc hHeld.2.2.1 _, cell_alloc hHeld.2.2.2 _⟩
        clear hK K
        try simp only [Act.put, List.setIfInBounds_toArray, List.set_cons_zero, List.set_cons_succ]
        obtain ⟨v1, hv⟩ : ∃ v, v = v0.alloc (.cells #[.slice none 0 0, .slice none 0 0] 42) := ⟨_, rfl⟩
        obtain ⟨p7, hp7⟩ : ∃ p, p = v0.heap.size := ⟨_, rfl⟩
        rw [← hv, ← hp7]
        have hk9 : Kept [] v0 v1 := hv ▸ (Kept.refl [] v0).alloc _
        have h7 : v1.heap[p7]? = some (.cells #[.slice none 0 0, .slice none 0 0] 42 (0, 0)) := by rw [hv, hp7]; exact heap_new _ _
        have b7 : wB.heap.size ≤ p7 := hp7 ▸ kv.size
        rw [← hv] at hHeld
        have kv := kv.trans hk9
        clear hv hp7 hk9
        refine wpAnyH_ready (rs := [1, 5]) (by kernel_rfl) (by simp) ?_
        refine AllReadyH.cons rfl (fun K hK => ?_) ?_
        · go_simp
          go_at_call 15
          refine (HO1.out _ kv).mono ?_
          rintro e u1 ⟨y1, z1, rfl, ho1, hk1, hm1⟩
          replace ho1 : OfAt u1 y1 z1 F := ho1
          clear hm1
          refine hK.out _ _ ?_ (fun hHeld => ?_)
          · exact ⟨hk1.cell hHeld.1 (by simp), hk1.cell hHeld.2.1 (by simp), hk1.cell hHeld.2.2.1 (by simp), hk1.cell hHeld.2.2.2 (by simp)⟩
          clear hK K
          try simp only [Act.put, List.setIfInBounds_toArray, List.set_cons_zero, List.set_cons_succ]
          have kv := kv.trans hk1
          have h7 := hk1.heap h7 (by simp)
          refine wpAnyH_ready (rs := [3, 5]) (by kernel_rfl) (by simp) ?_
          refine AllReadyH.cons rfl (fun K hK => ?_) ?_
          · as_aux_lemma =>
            go_simp
            go_at_call 15
            refine (HO2.out _ kv).mono ?_
            rintro e u2 ⟨y2, z2, rfl, ho2, hk2, hm2⟩
            replace ho2 : OfAt u2 y2 z2 F' := ho2
            clear hm2
            refine hK.out _ _ ?_ (fun hHeld => ?_)
            · exact ⟨hk2.cell hHeld.1 (by simp), hk2.cell hHeld.2.1 (by simp), hk2.cell hHeld.2.2.1 (by simp), hk2.cell hHeld.2.2.2 (by simp)⟩
            clear hK K
            try simp only [Act.put, List.setIfInBounds_toArray, List.set_cons_zero, List.set_cons_succ]
            have kv := kv.trans hk2
            have h7 := hk2.heap h7 (by simp)
            have ho1 := ho1.kept0 hk2
            refine wpAnyH_ready (rs := [5]) (by kernel_rfl) (by simp) ?_
            refine AllReadyH.cons rfl (fun K hK => ?_) ?_
            · go_simp
              refine hK.out _ _ ?_ (fun hHeld => ?_)
              · exact ⟨cell_alloc hHeld.1 _, cell_alloc hHeld.2.1 _, cell_alloc hHeld.2.2.1 _, cell_alloc hHeld.2.2.2 _⟩
              clear hK K
              try simp only [Act.put, List.setIfInBounds_toArray, List.set_cons_zero, List.set_cons_succ]
              obtain ⟨v4, hv⟩ : ∃ v, v = u2.alloc (.cells #[.slice none 0 0, .slice none 0 0] 42) := ⟨_, rfl⟩
              obtain ⟨p8, hp8⟩ : ∃ p, p = u2.heap.size := ⟨_, rfl⟩
              rw [← hv, ← hp8]
              have hk9 : Kept [] u2 v4 := hv ▸ (Kept.refl [] u2).alloc _
              have h8 : v4.heap[p8]? = some (.cells #[.slice none 0 0, .slice none 0 0] 42 (0, 0)) := by rw [hv, hp8]; exact heap_new _ _
              have b8 : wB.heap.size ≤ p8 := hp8 ▸ kv.size
              have h78 : p7 ≠ p8 := by have := blk_lt h7; omega
              rw [← hv] at hHeld
              have kv := kv.trans hk9
              have h7 := hk9.heap h7 (by simp)
              have ho1 := ho1.kept0 hk9
              have ho2 := ho2.kept0 hk9
              clear hv hp8 hk9
              have d70 := blk_cell h7 0
              have d71 := blk_cell h7 1
              have d80 := blk_cell h8 0
              have d81 := blk_cell h8 1
              have z70 := blk_free h7 0
              have z71 := blk_free h7 1
              have z80 := blk_free h8 0
              have z81 := blk_free h8 1
              have h87 : ¬ p8 = p7 := Ne.symm h78
              have h78' : ¬ p7 = p8 := h78
              obtain ⟨wy, hwy⟩ : ∃ v, v = v4 := ⟨_, rfl⟩
              subst hwy
              have hs0 := hHeld.1
              have hs1 := hHeld.2.1
              have hs2 := hHeld.2.2.1
              have hs3 := hHeld.2.2.2
              have h37 : ¬ n3 = p7 := by omega
              have h38 : ¬ n3 = p8 := by omega
              have h47 : ¬ n4 = p7 := by omega
              have h48 : ¬ n4 = p8 := by omega
              have KST0 := Kept.refl [p7, p8] wy
              have H7 := Lib.hid h7
              have H8 := Lib.hid h8
              have HW1 := Lib.hid ho1
              have HW2 := Lib.hid ho2
              have KV := Lib.hid kv
              clear h7 h8 ho1 ho2 hk1 hk2 kv
              refine wpAnyH_ready (rs := [6]) (by kernel_rfl) (by simp) ?_
              refine AllReadyH.cons rfl (fun K hK => ?_) ?_
              · go_simp
                refine hK.out _ _ ?_ (fun hHeld => ?_)
                · exact ⟨Kept.cell (F := [p7, p8]) (w := wy) (by (repeat (first | with_reducible exact KST0 | with_reducible refine Kept.setCell ?_ (.inl (by simp)) _))) hs0 (by simp [h37, h38]), Kept.cell (F := [p7, p8]) (w := wy) (by (repeat (first | with_reducible exact KST0 | with_reducible refine Kept.setCell ?_ (.inl (by simp)) _))) hs1 (by simp [h37, h38]), Kept.cell (F := [p7, p8]) (w := wy) (by (repeat (first | with_reducible exact KST0 | with_reducible refine Kept.setCell ?_ (.inl (by simp)) _))) hs2 (by simp [h47, h48]), Kept.cell (F := [p7, p8]) (w := wy) (by (repeat (first | with_reducible exact KST0 | with_reducible refine Kept.setCell ?_ (.inl (by simp)) _))) hs3 (by simp [h47, h48])⟩
                clear hK K
                try simp only [Act.put, List.setIfInBounds_toArray, List.set_cons_zero, List.set_cons_succ]
                refine wpAnyH_ready (rs := [7]) (by kernel_rfl) (by simp) ?_
                refine AllReadyH.cons rfl (fun K hK => ?_) ?_
                · go_simp
                  refine hK.out _ _ ?_ (fun hHeld => ?_)
                  · exact ⟨Kept.cell (F := [p7, p8]) (w := wy) (by (repeat (first | with_reducible exact KST0 | with_reducible refine Kept.setCell ?_ (.inl (by simp)) _))) hs0 (by simp [h37, h38]), Kept.cell (F := [p7, p8]) (w := wy) (by (repeat (first | with_reducible exact KST0 | with_reducible refine Kept.setCell ?_ (.inl (by simp)) _))) hs1 (by simp [h37, h38]), Kept.cell (F := [p7, p8]) (w := wy) (by (repeat (first | with_reducible exact KST0 | with_reducible refine Kept.setCell ?_ (.inl (by simp)) _))) hs2 (by simp [h47, h48]), Kept.cell (F := [p7, p8]) (w := wy) (by (repeat (first | with_reducible exact KST0 | with_reducible refine Kept.setCell ?_ (.inl (by simp)) _))) hs3 (by simp [h47, h48])⟩
                  clear hK K
                  try simp only [Act.put, List.setIfInBounds_toArray, List.set_cons_zero, List.set_cons_succ]
                  refine wpAnyH_done (by kernel_rfl) ?_ _
                  go_wp2_with fail
                  go_meet
                  exact ⟨p7, p8, y1, z1, y2, z2, rfl, rfl, of_two_at H7.out H8.out HW1.out HW2.out KV.out h78 b7 b8⟩
                exact AllReadyH.nil
              exact AllReadyH.nil
            exact AllReadyH.nil
          refine AllReadyH.cons rfl (fun K hK => ?_) ?_
          · as_aux_lemma =>
            go_simp
            refine hK.out _ _ ?_ (fun hHeld => ?_)
            · exact ⟨cell_alloc hHeld.1 _, cell_alloc hHeld.2.1 _, cell_alloc hHeld.2.2.1 _, cell_alloc hHeld.2.2.2 _⟩
            clear hK K
            try simp only [Act.put, List.setIfInBounds_toArray, List.set_cons_zero, List.set_cons_succ]
            obtain ⟨v3, hv⟩ : ∃ v, v = u1.alloc (.cells #[.slice none 0 0, .slice none 0 0] 42) := ⟨_, rfl⟩
            obtain ⟨p8, hp8⟩ : ∃ p, p = u1.heap.size := ⟨_, rfl⟩
            rw [← hv, ← hp8]
            have hk9 : Kept [] u1 v3 := hv ▸ (Kept.refl [] u1).alloc _
            have h8 : v3.heap[p8]? = some (.cells #[.slice none 0 0, .slice none 0 0] 42 (0, 0)) := by rw [hv, hp8]; exact heap_new _ _
            have b8 : wB.heap.size ≤ p8 := hp8 ▸ kv.size
            have h78 : p7 ≠ p8 := by have := blk_lt h7; omega
            rw [← hv] at hHeld
            have kv := kv.trans hk9
            have h7 := hk9.heap h7 (by simp)
            have ho1 := ho1.kept0 hk9
            clear hv hp8 hk9
            refine wpAnyH_ready (rs := [3]) (by kernel_rfl) (by simp) ?_
            refine AllReadyH.cons rfl (fun K hK => ?_) ?_
            · go_simp
              go_at_call 15
              refine (HO2.out _ kv).mono ?_
              rintro e u2 ⟨y2, z2, rfl, ho2, hk2, hm2⟩
              replace ho2 : OfAt u2 y2 z2 F' := ho2
              clear hm2
              refine hK.out _ _ ?_ (fun hHeld => ?_)
              · exact ⟨hk2.cell hHeld.1 (by simp), hk2.cell hHeld.2.1 (by simp), hk2.cell hHeld.2.2.1 (by simp), hk2.cell hHeld.2.2.2 (by simp)⟩
              clear hK K
              try simp only [Act.put, List.setIfInBounds_toArray, List.set_cons_zero, List.set_cons_succ]
              have kv := kv.trans hk2
              have h7 := hk2.heap h7 (by simp)
              have h8 := hk2.heap h8 (by simp)
              have ho1 := ho1.kept0 hk2
              have d70 := blk_cell h7 0
              have d71 := blk_cell h7 1
              have d80 := blk_cell h8 0
              have d81 := blk_cell h8 1
              have z70 := blk_free h7 0
              have z71 := blk_free h7 1
              have z80 := blk_free h8 0
              have z81 := blk_free h8 1
              have h87 : ¬ p8 = p7 := Ne.symm h78
              have h78' : ¬ p7 = p8 := h78
              obtain ⟨wy, hwy⟩ : ∃ v, v = u2 := ⟨_, rfl⟩
              subst hwy
              have hs0 := hHeld.1
              have hs1 := hHeld.2.1
              have hs2 := hHeld.2.2.1
              have hs3 := hHeld.2.2.2
              have h37 : ¬ n3 = p7 := by omega
              have h38 : ¬ n3 = p8 := by omega
              have h47 : ¬ n4 = p7 := by omega
              have h48 : ¬ n4 = p8 := by omega
              have KST0 := Kept.refl [p7, p8] wy
              have H7 := Lib.hid h7
              have H8 := Lib.hid h8
              have HW1 := Lib.hid ho1
              have HW2 := Lib.hid ho2
              have KV := Lib.hid kv
              clear h7 h8 ho1 ho2 hk1 hk2 kv
              refine wpAnyH_ready (rs := [6]) (by kernel_rfl) (by simp) ?_
              refine AllReadyH.cons rfl (fun K hK => ?_) ?_
              · go_simp
                refine hK.out _ _ ?_ (fun hHeld => ?_)
                · exact ⟨Kept.cell (F := [p7, p8]) (w := wy) (by (repeat (first | with_reducible exact KST0 | with_reducible refine Kept.setCell ?_ (.inl (by simp)) _))) hs0 (by simp [h37, h38]), Kept.cell (F := [p7, p8]) (w := wy) (by (repeat (first | with_reducible exact KST0 | with_reducible refine Kept.setCell ?_ (.inl (by simp)) _))) hs1 (by simp [h37, h38]), Kept.cell (F := [p7, p8]) (w := wy) (by (repeat (first | with_reducible exact KST0 | with_reducible refine Kept.setCell ?_ (.inl (by simp)) _))) hs2 (by simp [h47, h48]), Kept.cell (F := [p7, p8]) (w := wy) (by (repeat (first | with_reducible exact KST0 | with_reducible refine Kept.setCell ?_ (.inl (by simp)) _))) hs3 (by simp [h47, h48])⟩
                clear hK K
                try simp only [Act.put, List.setIfInBounds_toArray, List.set_cons_zero, List.set_cons_succ]
                refine wpAnyH_ready (rs := [7]) (by kernel_rfl) (by simp) ?_
                refine AllReadyH.cons rfl (fun K hK => ?_) ?_
                · go_simp
                  refine hK.out _ _ ?_ (fun hHeld => ?_)
                  · exact ⟨Kept.cell (F := [p7, p8]) (w := wy) (by (repeat (first | with_reducible exact KST0 | with_reducible refine Kept.setCell ?_ (.inl (by simp)) _))) hs0 (by simp [h37, h38]), Kept.cell (F := [p7, p8]) (w := wy) (by (repeat (first | with_reducible exact KST0 | with_reducible refine Kept.setCell ?_ (.inl (by simp)) _))) hs1 (by simp [h37, h38]), Kept.cell (F := [p7, p8]) (w := wy) (by (repeat (first | with_reducible exact KST0 | with_reducible refine Kept.setCell ?_ (.inl (by simp)) _))) hs2 (by simp [h47, h48]), Kept.cell (F := [p7, p8]) (w := wy) (by (repeat (first | with_reducible exact KST0 | with_reducible refine Kept.setCell ?_ (.inl (by simp)) _))) hs3 (by simp [h47, h48])⟩
                  clear hK K
                  try simp only [Act.put, List.setIfInBounds_toArray, List.set_cons_zero, List.set_cons_succ]
                  refine wpAnyH_done (by kernel_rfl) ?_ _
                  go_wp2_with fail
                  go_meet
                  exact ⟨p7, p8, y1, z1, y2, z2, rfl, rfl, of_two_at H7.out H8.out HW1.out HW2.out KV.out h78 b7 b8⟩
                exact AllReadyH.nil
              exact AllReadyH.nil
            exact AllReadyH.nil
          exact AllReadyH.nil
        refine AllReadyH.cons rfl (fun K hK => ?_) ?_
        · go_simp
          refine hK.out _ _ ?_ (fun hHeld => ?_)
          · exact ⟨cell_alloc hHeld.1 _, cell_alloc hHeld.2.1 _, cell_alloc hHeld.2.2.1 _, cell_alloc hHeld.2.2.2 _⟩
          clear hK K
          try simp only [Act.put, List.setIfInBounds_toArray, List.set_cons_zero, List.set_cons_succ]
          obtain ⟨v2, hv⟩ : ∃ v, v = v1.alloc (.cells #[.slice none 0 0, .slice none 0 0] 42) := ⟨_, rfl⟩
          obtain ⟨p8, hp8⟩ : ∃ p, p = v1.heap.size := ⟨_, rfl⟩
          rw [← hv, ← hp8]
          have hk9 : Kept [] v1 v2 := hv ▸ (Kept.refl [] v1).alloc _
          have h8 : v2.heap[p8]? = some (.cells #[.slice none 0 0, .slice none 0 0] 42 (0, 0)) := by rw [hv, hp8]; exact heap_new _ _
          have b8 : wB.heap.size ≤ p8 := hp8 ▸ kv.size
          have h78 : p7 ≠ p8 := by have := blk_lt h7; omega
          rw [← hv] at hHeld
          have kv := kv.trans hk9
          have h7 := hk9.heap h7 (by simp)
          clear hv hp8 hk9
          refine wpAnyH_ready (rs := [1]) (by kernel_rfl) (by simp) ?_
          refine AllReadyH.cons rfl (fun K hK => ?_) ?_
          · as_aux_lemma =>
            go_simp
            go_at_call 15
            refine (HO1.out _ kv).mono ?_
            rintro e u1 ⟨y1, z1, rfl, ho1, hk1, hm1⟩
            replace ho1 : OfAt u1 y1 z1 F := ho1
            clear hm1
            refine hK.out _ _ ?_ (fun hHeld => ?_)
            · exact ⟨hk1.cell hHeld.1 (by simp), hk1.cell hHeld.2.1 (by simp), hk1.cell hHeld.2.2.1 (by simp), hk1.cell hHeld.2.2.2 (by simp)⟩
            clear hK K
            try simp only [Act.put, List.setIfInBounds_toArray, List.set_cons_zero, List.set_cons_succ]
            have kv := kv.trans hk1
            have h7 := hk1.heap h7 (by simp)
            have h8 := hk1.heap h8 (by simp)
            refine wpAnyH_ready (rs := [3]) (by kernel_rfl) (by simp) ?_
            refine AllReadyH.cons rfl (fun K hK => ?_) ?_
            · go_simp
              go_at_call 15
              refine (HO2.out _ kv).mono ?_
              rintro e u2 ⟨y2, z2, rfl, ho2, hk2, hm2⟩
              replace ho2 : OfAt u2 y2 z2 F' := ho2
              clear hm2
              refine hK.out _ _ ?_ (fun hHeld => ?_)
              · exact ⟨hk2.cell hHeld.1 (by simp), hk2.cell hHeld.2.1 (by simp), hk2.cell hHeld.2.2.1 (by simp), hk2.cell hHeld.2.2.2 (by simp)⟩
              clear hK K
              try simp only [Act.put, List.setIfInBounds_toArray, List.set_cons_zero, List.set_cons_succ]
              have kv := kv.trans hk2
              have h7 := hk2.heap h7 (by simp)
              have h8 := hk2.heap h8 (by simp)
              have ho1 := ho1.kept0 hk2
              have d70 := blk_cell h7 0
              have d71 := blk_cell h7 1
              have d80 := blk_cell h8 0
              have d81 := blk_cell h8 1
              have z70 := blk_free h7 0
              have z71 := blk_free h7 1
              have z80 := blk_free h8 0
              have z81 := blk_free h8 1
              have h87 : ¬ p8 = p7 := Ne.symm h78
              have h78' : ¬ p7 = p8 := h78
              obtain ⟨wy, hwy⟩ : ∃ v, v = u2 := ⟨_, rfl⟩
              subst hwy
              have hs0 := hHeld.1
              have hs1 := hHeld.2.1
              have hs2 := hHeld.2.2.1
              have hs3 := hHeld.2.2.2
              have h37 : ¬ n3 = p7 := by omega
              have h38 : ¬ n3 = p8 := by omega
              have h47 : ¬ n4 = p7 := by omega
              have h48 : ¬ n4 = p8 := by omega
              have KST0 := Kept.refl [p7, p8] wy
              have H7 := Lib.hid h7
              have H8 := Lib.hid h8
              have HW1 := Lib.hid ho1
              have HW2 := Lib.hid ho2
              have KV := Lib.hid kv
              clear h7 h8 ho1 ho2 hk1 hk2 kv
              refine wpAnyH_ready (rs := [6]) (by kernel_rfl) (by simp) ?_
              refine AllReadyH.cons rfl (fun K hK => ?_) ?_
              · go_simp
                refine hK.out _ _ ?_ (fun hHeld => ?_)
                · exact ⟨Kept.cell (F := [p7, p8]) (w := wy) (by (repeat (first | with_reducible exact KST0 | with_reducible refine Kept.setCell ?_ (.inl (by simp)) _))) hs0 (by simp [h37, h38]), Kept.cell (F := [p7, p8]) (w := wy) (by (repeat (first | with_reducible exact KST0 | with_reducible refine Kept.setCell ?_ (.inl (by simp)) _))) hs1 (by simp [h37, h38]), Kept.cell (F := [p7, p8]) (w := wy) (by (repeat (first | with_reducible exact KST0 | with_reducible refine Kept.setCell ?_ (.inl (by simp)) _))) hs2 (by simp [h47, h48]), Kept.cell (F := [p7, p8]) (w := wy) (by (repeat (first | with_reducible exact KST0 | with_reducible refine Kept.setCell ?_ (.inl (by simp)) _))) hs3 (by simp [h47, h48])⟩
                clear hK K
                try simp only [Act.put, List.setIfInBounds_toArray, List.set_cons_zero, List.set_cons_succ]
                refine wpAnyH_ready (rs := [7]) (by kernel_rfl) (by simp) ?_
                refine AllReadyH.cons rfl (fun K hK => ?_) ?_
                · go_simp
                  refine hK.out _ _ ?_ (fun hHeld => ?_)
                  · exact ⟨Kept.cell (F := [p7, p8]) (w := wy) (by (repeat (first | with_reducible exact KST0 | with_reducible refine Kept.setCell ?_ (.inl (by simp)) _))) hs0 (by simp [h37, h38]), Kept.cell (F := [p7, p8]) (w := wy) (by (repeat (first | with_reducible exact KST0 | with_reducible refine Kept.setCell ?_ (.inl (by simp)) _))) hs1 (by simp [h37, h38]), Kept.cell (F := [p7, p8]) (w := wy) (by (repeat (first | with_reducible exact KST0 | with_reducible refine Kept.setCell ?_ (.inl (by simp)) _))) hs2 (by simp [h47, h48]), Kept.cell (F := [p7, p8]) (w := wy) (by (repeat (first | with_reducible exact KST0 | with_reducible refine Kept.setCell ?_ (.inl (by simp)) _))) hs3 (by simp [h47, h48])⟩
                  clear hK K
                  try simp only [Act.put, List.setIfInBounds_toArray, List.set_cons_zero, List.set_cons_succ]
                  refine wpAnyH_done (by kernel_rfl) ?_ _
                  go_wp2_with fail
                  go_meet
                  exact ⟨p7, p8, y1, z1, y2, z2, rfl, rfl, of_two_at H7.out H8.out HW1.out HW2.out KV.out h78 b7 b8⟩
                exact AllReadyH.nil
              exact AllReadyH.nil
            exact AllReadyH.nil
          exact AllReadyH.nil
        exact AllReadyH.nil
      refine AllReadyH.cons rfl (fun K hK => ?_) ?_
      · go_simp
        refine hK.out _ _ ?_ (fun hHeld => ?_)
        · exact ⟨cell_alloc hHeld.1 _, cell_alloc hHeld.2.1 _, cell_alloc hHeld.2.2.1 _, cell_alloc hHeld.2.2.2 _⟩
        clear hK K
        try simp only [Act.put, List.setIfInBounds_toArray, List.set_cons_zero, List.set_cons_succ]
        obtain ⟨v1, hv⟩ : ∃ v, v = v0.alloc (.cells #[.slice none 0 0, .slice none 0 0] 42) := ⟨_, rfl⟩
        obtain ⟨p8, hp8⟩ : ∃ p, p = v0.heap.size := ⟨_, rfl⟩
        rw [← hv, ← hp8]
        have hk9 : Kept [] v0 v1 := hv ▸ (Kept.refl [] v0).alloc _
        have h8 : v1.heap[p8]? = some (.cells #[.slice none 0 0, .slice none 0 0] 42 (0, 0)) := by rw [hv, hp8]; exact heap_new _ _
        have b8 : wB.heap.size ≤ p8 := hp8 ▸ kv.size
        rw [← hv] at hHeld
        have kv := kv.trans hk9
        clear hv hp8 hk9
        refine wpAnyH_ready (rs := [1, 4]) (by kernel_rfl) (by simp) ?_
        refine AllReadyH.cons rfl (fun K hK => ?_) ?_
        · go_simp
          go_at_call 15
          refine (HO1.out _ kv).mono ?_
          rintro e u1 ⟨y1, z1, rfl, ho1, hk1, hm1⟩
          replace ho1 : OfAt u1 y1 z1 F := ho1
          clear hm1
          refine hK.out _ _ ?_ (fun hHeld => ?_)
          · exact ⟨hk1.cell hHeld.1 (by simp), hk1.cell hHeld.2.1 (by simp), hk1.cell hHeld.2.2.1 (by simp), hk1.cell hHeld.2.2.2 (by simp)⟩
          clear hK K
          try simp only [Act.put, List.setIfInBounds_toArray, List.set_cons_zero, List.set_cons_succ]
          have kv := kv.trans hk1
          have h8 := hk1.heap h8 (by simp)
          refine wpAnyH_ready (rs := [3, 4]) (by kernel_rfl) (by simp) ?_
          refine AllReadyH.cons rfl (fun K hK => ?_) ?_
          · as_aux_lemma =>
            go_simp
            go_at_call 15
            refine (HO2.out _ kv).mono ?_
            rintro e u2 ⟨y2, z2, rfl, ho2, hk2, hm2⟩
            replace ho2 : OfAt u2 y2 z2 F' := ho2
            clear hm2
            refine hK.out _ _ ?_ (fun hHeld => ?_)
            · exact ⟨hk2.cell hHeld.1 (by simp), hk2.cell hHeld.2.1 (by simp), hk2.cell hHeld.2.2.1 (by simp), hk2.cell hHeld.2.2.2 (by simp)⟩
            clear hK K
            try simp only [Act.put, List.setIfInBounds_toArray, List.set_cons_zero, List.set_cons_succ]
            have kv := kv.trans hk2
            have h8 := hk2.heap h8 (by simp)
            have ho1 := ho1.kept0 hk2
            refine wpAnyH_ready (rs := [4]) (by kernel_rfl) (by simp) ?_
            refine AllReadyH.cons rfl (fun K hK => ?_) ?_
            · go_simp
              refine hK.out _ _ ?_ (fun hHeld => ?_)
              · exact ⟨cell_alloc hHeld.1 _, cell_alloc hHeld.2.1 _, cell_alloc hHeld.2.2.1 _, cell_alloc hHeld.2.2.2 _⟩
              clear hK K
              try simp only [Act.put, List.setIfInBounds_toArray, List.set_cons_zero, List.set_cons_succ]
              obtain ⟨v4, hv⟩ : ∃ v, v = u2.alloc (.cells #[.slice none 0 0, .slice none 0 0] 42) := ⟨_, rfl⟩
              obtain ⟨p7, hp7⟩ : ∃ p, p = u2.heap.size := ⟨_, rfl⟩
              rw [← hv, ← hp7]
              have hk9 : Kept [] u2 v4 := hv ▸ (Kept.refl [] u2).alloc _
              have h7 : v4.heap[p7]? = some (.cells #[.slice none 0 0, .slice none 0 0] 42 (0, 0)) := by rw [hv, hp7]; exact heap_new _ _
              have b7 : wB.heap.size ≤ p7 := hp7 ▸ kv.size
              have h78 : p7 ≠ p8 := by have := blk_lt h8; omega
              rw [← hv] at hHeld
              have kv := kv.trans hk9
              have h8 := hk9.heap h8 (by simp)
              have ho1 := ho1.kept0 hk9
              have ho2 := ho2.kept0 hk9
              clear hv hp7 hk9
              have d70 := blk_cell h7 0
              have d71 := blk_cell h7 1
              have d80 := blk_cell h8 0
              have d81 := blk_cell h8 1
              have z70 := blk_free h7 0
              have z71 := blk_free h7 1
              have z80 := blk_free h8 0
              have z81 := blk_free h8 1
              have h87 : ¬ p8 = p7 := Ne.symm h78
              have h78' : ¬ p7 = p8 := h78
              obtain ⟨wy, hwy⟩ : ∃ v, v = v4 := ⟨_, rfl⟩
              subst hwy
              have hs0 := hHeld.1
              have hs1 := hHeld.2.1
              have hs2 := hHeld.2.2.1
              have hs3 := hHeld.2.2.2
              have h37 : ¬ n3 = p7 := by omega
              have h38 : ¬ n3 = p8 := by omega
              have h47 : ¬ n4 = p7 := by omega
              have h48 : ¬ n4 = p8 := by omega
              have KST0 := Kept.refl [p7, p8] wy
              have H7 := Lib.hid h7
              have H8 := Lib.hid h8
              have HW1 := Lib.hid ho1
              have HW2 := Lib.hid ho2
              have KV := Lib.hid kv
              clear h7 h8 ho1 ho2 hk1 hk2 kv
              refine wpAnyH_ready (rs := [6]) (by kernel_rfl) (by simp) ?_
              refine AllReadyH.cons rfl (fun K hK => ?_) ?_
              · go_simp
                refine hK.out _ _ ?_ (fun hHeld => ?_)
                · exact ⟨Kept.cell (F := [p7, p8]) (w := wy) (by (repeat (first | with_reducible exact KST0 | with_reducible refine Kept.setCell ?_ (.inl (by simp)) _))) hs0 (by simp [h37, h38]), Kept.cell (F := [p7, p8]) (w := wy) (by (repeat (first | with_reducible exact KST0 | with_reducible refine Kept.setCell ?_ (.inl (by simp)) _))) hs1 (by simp [h37, h38]), Kept.cell (F := [p7, p8]) (w := wy) (by (repeat (first | with_reducible exact KST0 | with_reducible refine Kept.setCell ?_ (.inl (by simp)) _))) hs2 (by simp [h47, h48]), Kept.cell (F := [p7, p8]) (w := wy) (by (repeat (first | with_reducible exact KST0 | with_reducible refine Kept.setCell ?_ (.inl (by simp)) _))) hs3 (by simp [h47, h48])⟩
                clear hK K
                try simp only [Act.put, List.setIfInBounds_toArray, List.set_cons_zero, List.set_cons_succ]
                refine wpAnyH_ready (rs := [7]) (by kernel_rfl) (by simp) ?_
                refine AllReadyH.cons rfl (fun K hK => ?_) ?_
                · go_simp
                  refine hK.out _ _ ?_ (fun hHeld => ?_)
                  · exact ⟨Kept.cell (F := [p7, p8]) (w := wy) (by (repeat (first | with_reducible exact KST0 | with_reducible refine Kept.setCell ?_ (.inl (by simp)) _))) hs0 (by simp [h37, h38]), Kept.cell (F := [p7, p8]) (w := wy) (by (repeat (first | with_reducible exact KST0 | with_reducible refine Kept.setCell ?_ (.inl (by simp)) _))) hs1 (by simp [h37, h38]), Kept.cell (F := [p7, p8]) (w := wy) (by (repeat (first | with_reducible exact KST0 | with_reducible refine Kept.setCell ?_ (.inl (by simp)) _))) hs2 (by simp [h47, h48]), Kept.cell (F := [p7, p8]) (w := wy) (by (repeat (first | with_reducible exact KST0 | with_reducible refine Kept.setCell ?_ (.inl (by simp)) _))) hs3 (by simp [h47, h48])⟩
                  clear hK K
                  try simp only [Act.put, List.setIfInBounds_toArray, List.set_cons_zero, List.set_cons_succ]
                  refine wpAnyH_done (by kernel_rfl) ?_ _
                  go_wp2_with fail
                  go_meet
                  exact ⟨p7, p8, y1, z1, y2, z2, rfl, rfl, of_two_at H7.out H8.out HW1.out HW2.out KV.out h78 b7 b8⟩
                exact AllReadyH.nil
              exact AllReadyH.nil
            exact AllReadyH.nil
          refine AllReadyH.cons rfl (fun K hK => ?_) ?_
          · as_aux_lemma =>
            go_simp
            refine hK.out _ _ ?_ (fun hHeld => ?_)
            · exact ⟨cell_alloc hHeld.1 _, cell_alloc hHeld.2.1 _, cell_alloc hHeld.2.2.1 _, cell_alloc hHeld.2.2.2 _⟩
            clear hK K
            try simp only [Act.put, List.setIfInBounds_toArray, List.set_cons_zero, List.set_cons_succ]
            obtain ⟨v3, hv⟩ : ∃ v, v = u1.alloc (.cells #[.slice none 0 0, .slice none 0 0] 42) := ⟨_, rfl⟩
            obtain ⟨p7, hp7⟩ : ∃ p, p = u1.heap.size := ⟨_, rfl⟩
            rw [← hv, ← hp7]
            have hk9 : Kept [] u1 v3 := hv ▸ (Kept.refl [] u1).alloc _
            have h7 : v3.heap[p7]? = some (.cells #[.slice none 0 0, .slice none 0 0] 42 (0, 0)) := by rw [hv, hp7]; exact heap_new _ _
            have b7 : wB.heap.size ≤ p7 := hp7 ▸ kv.size
            have h78 : p7 ≠ p8 := by have := blk_lt h8; omega
            rw [← hv] at hHeld
            have kv := kv.trans hk9
            have h8 := hk9.heap h8 (by simp)
            have ho1 := ho1.kept0 hk9
            clear hv hp7 hk9
            refine wpAnyH_ready (rs := [3]) (by kernel_rfl) (by simp) ?_
            refine AllReadyH.cons rfl (fun K hK => ?_) ?_
            · go_simp
              go_at_call 15
              refine (HO2.out _ kv).mono ?_
              rintro e u2 ⟨y2, z2, rfl, ho2, hk2, hm2⟩
              replace ho2 : OfAt u2 y2 z2 F' := ho2
              clear hm2
              refine hK.out _ _ ?_ (fun hHeld => ?_)
              · exact ⟨hk2.cell hHeld.1 (by simp), hk2.cell hHeld.2.1 (by simp), hk2.cell hHeld.2.2.1 (by simp), hk2.cell hHeld.2.2.2 (by simp)⟩
              clear hK K
              try simp only [Act.put, List.setIfInBounds_toArray, List.set_cons_zero, List.set_cons_succ]
              have kv := kv.trans hk2
              have h7 := hk2.heap h7 (by simp)
              have h8 := hk2.heap h8 (by simp)
              have ho1 := ho1.kept0 hk2
              have d70 := blk_cell h7 0
              have d71 := blk_cell h7 1
              have d80 := blk_cell h8 0
              have d81 := blk_cell h8 1
              have z70 := blk_free h7 0
              have z71 := blk_free h7 1
              have z80 := blk_free h8 0
              have z81 := blk_free h8 1
              have h87 : ¬ p8 = p7 := Ne.symm h78
              have h78' : ¬ p7 = p8 := h78
              obtain ⟨wy, hwy⟩ : ∃ v, v = u2 := ⟨_, rfl⟩
              subst hwy
              have hs0 := hHeld.1
              have hs1 := hHeld.2.1
              have hs2 := hHeld.2.2.1
              have hs3 := hHeld.2.2.2
              have h37 : ¬ n3 = p7 := by omega
              have h38 : ¬ n3 = p8 := by omega
              have h47 : ¬ n4 = p7 := by omega
              have h48 : ¬ n4 = p8 := by omega
              have KST0 := Kept.refl [p7, p8] wy
              have H7 := Lib.hid h7
              have H8 := Lib.hid h8
              have HW1 := Lib.hid ho1
              have HW2 := Lib.hid ho2
              have KV := Lib.hid kv
              clear h7 h8 ho1 ho2 hk1 hk2 kv
              refine wpAnyH_ready (rs := [6]) (by kernel_rfl) (by simp) ?_
              refine AllReadyH.cons rfl (fun K hK => ?_) ?_
              · go_simp
                refine hK.out _ _ ?_ (fun hHeld => ?_)
                · exact ⟨Kept.cell (F := [p7, p8]) (w := wy) (by (repeat (first | with_reducible exact KST0 | with_reducible refine Kept.setCell ?_ (.inl (by simp)) _))) hs0 (by simp [h37, h38]), Kept.cell (F := [p7, p8]) (w := wy) (by (repeat (first | with_reducible exact KST0 | with_reducible refine Kept.setCell ?_ (.inl (by simp)) _))) hs1 (by simp [h37, h38]), Kept.cell (F := [p7, p8]) (w := wy) (by (repeat (first | with_reducible exact KST0 | with_reducible refine Kept.setCell ?_ (.inl (by simp)) _))) hs2 (by simp [h47, h48]), Kept.cell (F := [p7, p8]) (w := wy) (by (repeat (first | with_reducible exact KST0 | with_reducible refine Kept.setCell ?_ (.inl (by simp)) _))) hs3 (by simp [h47, h48])⟩
                clear hK K
                try simp only [Act.put, List.setIfInBounds_toArray, List.set_cons_zero, List.set_cons_succ]
                refine wpAnyH_ready (rs := [7]) (by kernel_rfl) (by simp) ?_
                refine AllReadyH.cons rfl (fun K hK => ?_) ?_
                · go_simp
                  refine hK.out _ _ ?_ (fun hHeld => ?_)
                  · exact ⟨Kept.cell (F := [p7, p8]) (w := wy) (by (repeat (first | with_reducible exact KST0 | with_reducible refine Kept.setCell ?_ (.inl (by simp)) _))) hs0 (by simp [h37, h38]), Kept.cell (F := [p7, p8]) (w := wy) (by (repeat (first | with_reducible exact KST0 | with_reducible refine Kept.setCell ?_ (.inl (by simp)) _))) hs1 (by simp [h37, h38]), Kept.cell (F := [p7, p8]) (w := wy) (by (repeat (first | with_reducible exact KST0 | with_reducible refine Kept.setCell ?_ (.inl (by simp)) _))) hs2 (by simp [h47, h48]), Kept.cell (F := [p7, p8]) (w := wy) (by (repeat (first | with_reducible exact KST0 | with_reducible refine Kept.setCell ?_ (.inl (by simp)) _))) hs3 (by simp [h47, h48])⟩
                  clear hK K
                  try simp only [Act.put, List.setIfInBounds_toArray, List.set_cons_zero, List.set_cons_succ]
                  refine wpAnyH_done (by kernel_rfl) ?_ _
                  go_wp2_with fail
                  go_meet
                  exact ⟨p7, p8, y1, z1, y2, z2, rfl, rfl, of_two_at H7.out H8.out HW1.out HW2.out KV.out h78 b7 b8⟩
                exact AllReadyH.nil
              exact AllReadyH.nil
            exact AllReadyH.nil
          exact AllReadyH.nil
        refine AllReadyH.cons rfl (fun K hK => ?_) ?_
        · go_simp
          refine hK.out _ _ ?_ (fun hHeld => ?_)
          · exact ⟨cell_alloc hHeld.1 _, cell_alloc hHeld.2.1 _, cell_alloc hHeld.2.2.1 _, cell_alloc hHeld.2.2.2 _⟩
          clear hK K
          try simp only [Act.put, List.setIfInBounds_toArray, List.set_cons_zero, List.set_cons_succ]
          obtain ⟨v2, hv⟩ : ∃ v, v = v1.alloc (.cells #[.slice none 0 0, .slice none 0 0] 42) := ⟨_, rfl⟩
          obtain ⟨p7, hp7⟩ : ∃ p, p = v1.heap.size := ⟨_, rfl⟩
          rw [← hv, ← hp7]
          have hk9 : Kept [] v1 v2 := hv ▸ (Kept.refl [] v1).alloc _
          have h7 : v2.heap[p7]? = some (.cells #[.slice none 0 0, .slice none 0 0] 42 (0, 0)) := by rw [hv, hp7]; exact heap_new _ _
          have b7 : wB.heap.size ≤ p7 := hp7 ▸ kv.size
          have h78 : p7 ≠ p8 := by have := blk_lt h8; omega
          rw [← hv] at hHeld
          have kv := kv.trans hk9
          have h8 := hk9.heap h8 (by simp)
          clear hv hp7 hk9
          refine wpAnyH_ready (rs := [1]) (by kernel_rfl) (by simp) ?_
          refine AllReadyH.cons rfl (fun K hK => ?_) ?_
          · as_aux_lemma =>
            go_simp
            go_at_call 15
            refine (HO1.out _ kv).mono ?_
            rintro e u1 ⟨y1, z1, rfl, ho1, hk1, hm1⟩
            replace ho1 : OfAt u1 y1 z1 F := ho1
            clear hm1
            refine hK.out _ _ ?_ (fun hHeld => ?_)
            · exact ⟨hk1.cell hHeld.1 (by simp), hk1.cell hHeld.2.1 (by simp), hk1.cell hHeld.2.2.1 (by simp), hk1.cell hHeld.2.2.2 (by simp)⟩
            clear hK K
            try simp only [Act.put, List.setIfInBounds_toArray, List.set_cons_zero, List.set_cons_succ]
            have kv := kv.trans hk1
            have h7 := hk1.heap h7 (by simp)
            have h8 := hk1.heap h8 (by simp)
            refine wpAnyH_ready (rs := [3]) (by kernel_rfl) (by simp) ?_
            refine AllReadyH.cons rfl (fun K hK => ?_) ?_
            · go_simp
              go_at_call 15
              refine (HO2.out _ kv).mono ?_
              rintro e u2 ⟨y2, z2, rfl, ho2, hk2, hm2⟩
              replace ho2 : OfAt u2 y2 z2 F' := ho2
              clear hm2
              refine hK.out _ _ ?_ (fun hHeld => ?_)
              · exact ⟨hk2.cell hHeld.1 (by simp), hk2.cell hHeld.2.1 (by simp), hk2.cell hHeld.2.2.1 (by simp), hk2.cell hHeld.2.2.2 (by simp)⟩
              clear hK K
              try simp only [Act.put, List.setIfInBounds_toArray, List.set_cons_zero, List.set_cons_succ]
              have kv := kv.trans hk2
              have h7 := hk2.heap h7 (by simp)
              have h8 := hk2.heap h8 (by simp)
              have ho1 := ho1.kept0 hk2
              have d70 := blk_cell h7 0
              have d71 := blk_cell h7 1
              have d80 := blk_cell h8 0
              have d81 := blk_cell h8 1
              have z70 := blk_free h7 0
              have z71 := blk_free h7 1
              have z80 := blk_free h8 0
              have z81 := blk_free h8 1
              have h87 : ¬ p8 = p7 := Ne.symm h78
              have h78' : ¬ p7 = p8 := h78
              obtain ⟨wy, hwy⟩ : ∃ v, v = u2 := ⟨_, rfl⟩
              subst hwy
              have hs0 := hHeld.1
              have hs1 := hHeld.2.1
              have hs2 := hHeld.2.2.1
              have hs3 := hHeld.2.2.2
              have h37 : ¬ n3 = p7 := by omega
              have h38 : ¬ n3 = p8 := by omega
              have h47 : ¬ n4 = p7 := by omega
              have h48 : ¬ n4 = p8 := by omega
              have KST0 := Kept.refl [p7, p8] wy
              have H7 := Lib.hid h7
              have H8 := Lib.hid h8
              have HW1 := Lib.hid ho1
              have HW2 := Lib.hid ho2
              have KV := Lib.hid kv
              clear h7 h8 ho1 ho2 hk1 hk2 kv
              refine wpAnyH_ready (rs := [6]) (by kernel_rfl) (by simp) ?_
              refine AllReadyH.cons rfl (fun K hK => ?_) ?_
              · go_simp
                refine hK.out _ _ ?_ (fun hHeld => ?_)
                · exact ⟨Kept.cell (F := [p7, p8]) (w := wy) (by (repeat (first | with_reducible exact KST0 | with_reducible refine Kept.setCell ?_ (.inl (by simp)) _))) hs0 (by simp [h37, h38]), Kept.cell (F := [p7, p8]) (w := wy) (by (repeat (first | with_reducible exact KST0 | with_reducible refine Kept.setCell ?_ (.inl (by simp)) _))) hs1 (by simp [h37, h38]), Kept.cell (F := [p7, p8]) (w := wy) (by (repeat (first | with_reducible exact KST0 | with_reducible refine Kept.setCell ?_ (.inl (by simp)) _))) hs2 (by simp [h47, h48]), Kept.cell (F := [p7, p8]) (w := wy) (by (repeat (first | with_reducible exact KST0 | with_reducible refine Kept.setCell ?_ (.inl (by simp)) _))) hs3 (by simp [h47, h48])⟩
                clear hK K
                try simp only [Act.put, List.setIfInBounds_toArray, List.set_cons_zero, List.set_cons_succ]
                refine wpAnyH_ready (rs := [7]) (by kernel_rfl) (by simp) ?_
                refine AllReadyH.cons rfl (fun K hK => ?_) ?_
                · go_simp
                  refine hK.out _ _ ?_ (fun hHeld => ?_)
                  · exact ⟨Kept.cell (F := [p7, p8]) (w := wy) (by (repeat (first | with_reducible exact KST0 | with_reducible refine Kept.setCell ?_ (.inl (by simp)) _))) hs0 (by simp [h37, h38]), Kept.cell (F := [p7, p8]) (w := wy) (by (repeat (first | with_reducible exact KST0 | with_reducible refine Kept.setCell ?_ (.inl (by simp)) _))) hs1 (by simp [h37, h38]), Kept.cell (F := [p7, p8]) (w := wy) (by (repeat (first | with_reducible exact KST0 | with_reducible refine Kept.setCell ?_ (.inl (by simp)) _))) hs2 (by simp [h47, h48]), Kept.cell (F := [p7, p8]) (w := wy) (by (repeat (first | with_reducible exact KST0 | with_reducible refine Kept.setCell ?_ (.inl (by simp)) _))) hs3 (by simp [h47, h48])⟩
                  clear hK K
                  try simp only [Act.put, List.setIfInBounds_toArray, List.set_cons_zero, List.set_cons_succ]
                  refine wpAnyH_done (by kernel_rfl) ?_ _
                  go_wp2_with fail
                  go_meet
                  exact ⟨p7, p8, y1, z1, y2, z2, rfl, rfl, of_two_at H7.out H8.out HW1.out HW2.out KV.out h78 b7 b8⟩
                exact AllReadyH.nil
              exact AllReadyH.nil
            exact AllReadyH.nil
          exact AllReadyH.nil
        exact AllReadyH.nil
      exact AllReadyH.nil
    case rest =>
      as_aux_lemma =>
      obtain ⟨p7, p8, y1, z1, y2, z2, rfl, rfl, h7, h8, ho1, ho2, hkB⟩ := hcut
      rw [← HFB.out.1] at h7
      rw [← HFB.out.2] at h8
      obtain ⟨wC, rfl⟩ : ∃ v : World, v = wc := ⟨_, rfl⟩
      have HV1 := Lib.hid (HT1.out.kept0 hkB)
      have HV2 := Lib.hid (HT2.out.kept0 hkB)
      have HD1 := Lib.hid (show TabV wC y1 fb z1 r1 fr q1 F l1 from by
        have h := HV1.out
        rw [HFB.out.1] at h ⊢
        exact ho1.tab h)
      have HD2 := Lib.hid (show TabV wC y2 fb' z2 r2 fr' q2 F' l2 from by
        have h := HV2.out
        rw [HFB.out.2] at h ⊢
        exact ho2.tab h)
      have HKC := Lib.hid (HKB.out.trans hkB)
      have c30 := hkB.cell c30 (by simp)
      have c31 := hkB.cell c31 (by simp)
      have c40 := hkB.cell c40 (by simp)
      have c41 := hkB.cell c41 (by simp)
      have c70 := blk_cell h7 0
      have c71 := blk_cell h7 1
      have c80 := blk_cell h8 0
      have c81 := blk_cell h8 1
      have HC := Lib.hid (fun (V : World) (hV : Kept [] wC V) => keep8 hV c30 c31 c40 c41 c70 c71 c80 c81)
      clear HO1 HO2 ho1 ho2 h7 h8 hkB HB3 HB4 bn3 bn4 HT1 HT2
      have HP1 := Lib.hid (fun (V : World) (hV : Kept [] wC V) => put_c V (HV1.out.kept0 hV) HOK.out ((HKC.out.trans hV).cell HG.out (by simp)))
      have HP2 := Lib.hid (fun (V : World) (hV : Kept [] wC V) => rput_c V (HD1.out.kept0 hV) HOK.out)
      have HC1 := Lib.hid (fun (V : World) (hV : Kept [] wC V) => column_c nk (HV1.out.kept0 hV) HOK.out)
      have HC2 := Lib.hid (fun (V : World) (hV : Kept [] wC V) => rcolumn_c nk (HD1.out.kept0 hV) HOK.out)
      have HE1 := Lib.hid (fun (V : World) (hV : Kept [] wC V) => differ_c (HV1.out.kept0 hV) HOK.out (HV2.out.kept0 hV) HOK'.out)
      have HE2 := Lib.hid (fun (V : World) (hV : Kept [] wC V) => rdiffer_c (HD1.out.kept0 hV) HOK.out (HD2.out.kept0 hV) HOK'.out)
      go_wp2_with fail
      refine (HP1.out _ (Kept.refl [] wC)).mono ?_
      intro e v1 hp
      obtain ⟨a1, k1, rfl, ht1, hk1⟩ := put_txt hp
      have K1 := Lib.hid hk1
      have T1 := Lib.hid ht1
      obtain ⟨c30, c31, c40, c41, c70, c71, c80, c81⟩ := HC.out v1 hk1
      clear hp ht1 hk1
      go_wp2_with fail
      refine (HP2.out _ K1.out).mono ?_
      intro e v2 hp
      obtain ⟨a2, k2, rfl, ht2, hk2⟩ := put_txt hp
      have K2 := Lib.hid (K1.out.trans hk2)
      have T1 := Lib.hid (T1.out.kept hk2 (by simp))
      have T2 := Lib.hid ht2
      obtain ⟨c30, c31, c40, c41, c70, c71, c80, c81⟩ := HC.out v2 K2.out
      clear hp ht2 hk2
      go_wp2_with fail
      refine (HC1.out _ K2.out).mono ?_
      intro e v3 hp
      obtain ⟨a3, k3, rfl, ht3, hk3⟩ := col_row hp
      have K3 := Lib.hid (K2.out.trans hk3)
      have T1 := Lib.hid (T1.out.kept hk3 (by simp))
      have T2 := Lib.hid (T2.out.kept hk3 (by simp))
      have T3 := Lib.hid ht3
      obtain ⟨c30, c31, c40, c41, c70, c71, c80, c81⟩ := HC.out v3 K3.out
      clear hp ht3 hk3
      go_wp2_with fail
      refine (HC2.out _ K3.out).mono ?_
      intro e v4 hp
      obtain ⟨a4, k4, rfl, ht4, hk4⟩ := col_row hp
      have K4 := Lib.hid (K3.out.trans hk4)
      have T1 := Lib.hid (T1.out.kept hk4 (by simp))
      have T2 := Lib.hid (T2.out.kept hk4 (by simp))
      have T3 := Lib.hid (T3.out.kept0 hk4)
      have T4 := Lib.hid ht4
      obtain ⟨c30, c31, c40, c41, c70, c71, c80, c81⟩ := HC.out v4 K4.out
      clear hp ht4 hk4
      go_wp2_with fail
      refine (HE1.out _ K4.out).mono ?_
      rintro e v5 ⟨i, k, bd, rfl, hd1, hk5⟩
      have K5 := Lib.hid (K4.out.trans hk5)
      have T1 := Lib.hid (T1.out.kept hk5 (by simp))
      have T2 := Lib.hid (T2.out.kept hk5 (by simp))
      have T3 := Lib.hid (T3.out.kept0 hk5)
      have T4 := Lib.hid (T4.out.kept0 hk5)
      have E1 := Lib.hid hd1
      obtain ⟨c30, c31, c40, c41, c70, c71, c80, c81⟩ := HC.out v5 K5.out
      clear hd1 hk5
      go_wp2_with fail
      refine (HE2.out _ K5.out).mono ?_
      rintro e v6 ⟨i', k', bd', rfl, hd2, hk6⟩
      obtain ⟨rfl, rfl, rfl⟩ := differ_one E1.out hd2
      have K6 := Lib.hid (K5.out.trans hk6)
      have T1 := Lib.hid (T1.out.kept hk6 (by simp))
      have T2 := Lib.hid (T2.out.kept hk6 (by simp))
      have T3 := Lib.hid (T3.out.kept0 hk6)
      have T4 := Lib.hid (T4.out.kept0 hk6)
      obtain ⟨c30, c31, c40, c41, c70, c71, c80, c81⟩ := HC.out v6 K6.out
      clear hd2 hk6 HP1 HP2 HC1 HC2 HE1 HE2
      have HEQ := Lib.hid (fun (V : World) (hV : Kept [] v6 V) => show Calls Tryd.prog 20 #[.slice a1 (outTx F).length k1, .slice a2 (outTx F).length k2] V (BoolIs true V) from
        (equal_c V (T1.out.kept hV (by simp)) (T2.out.kept hV (by simp))).mono fun e w' h => by
          obtain ⟨rfl, rfl⟩ := h
          exact ⟨by simp, Kept.refl _ _⟩)
      have HWQ := Lib.hid (fun (V : World) (hV : Kept [] v6 V) => show Calls Tryd.prog 21 #[.slice a3 (columnT F nk).1.length k3, .slice a4 (columnT F nk).1.length k4] V (BoolIs true V) from
        (eq_words a3 a4 _ _ k3 k4 _ _ V rfl rfl (by have h1 := column_len F nk; have h2 := HLN.out.2.1; omega) (by have h1 := column_len F nk; have h2 := HLN.out.2.1; omega) (T3.out.kept0 hV) (T4.out.kept0 hV)).mono fun e w' h => by
          obtain ⟨rfl, q, rfl⟩ := h
          exact ⟨by simp, (Kept.refl [] V).drewN q⟩)
      have HMY := Lib.hid (fun (V : World) (hV : Kept [] v6 V) => may_c (HV1.out.kept0 (K6.out.trans hV)) HOK.out)
      have HMR := Lib.hid (fun (V : World) (hV : Kept [] v6 V) => rmay_c (HD1.out.kept0 (K6.out.trans hV)) HOK.out)
      have HS1 := Lib.hid (fun (V : World) (hV : Kept [] v6 V) => tsame_c (HV1.out.kept0 (K6.out.trans hV)) HOK.out (HV2.out.kept0 (K6.out.trans hV)) HOK'.out)
      have HS2 := Lib.hid (fun (V : World) (hV : Kept [] v6 V) => rsame_c (HD1.out.kept0 (K6.out.trans hV)) HOK.out (HD2.out.kept0 (K6.out.trans hV)) HOK'.out)
      have HS3 := Lib.hid (fun (V : World) (hV : Kept [] v6 V) => show Calls Tryd.prog 13 #[.agg #[.slice x1 fb e1, .slice r1 fr q1], .agg #[.slice x1 fb e1, .slice r1 fr q1]] V (BoolIs true V) from
        ((sameT_iff F F).2 rfl) ▸ tsame_c (HV1.out.kept0 (K6.out.trans hV)) HOK.out (HV1.out.kept0 (K6.out.trans hV)) HOK.out)
      have HWK := Lib.hid (fun (V : World) (hV : Kept [] v6 V) => wakes_c V (((HKC.out.trans K6.out).trans hV).cell HG.out (by simp)))
      generalize mayT F = mb at *
      generalize sameT F F' = sb at *
      generalize (outTx F).length = on at *
      generalize (columnT F nk).1.length = cn at *
      generalize (columnT F nk).2 = cb at *
      generalize outEr F = oe at *
      go_wp2_with fail
      have KB := Kept.refl [] v6
      go_region_held3 (fun V => V.cell? ⟨n3, 0, none⟩ = some (.slice x1 fb e1) ∧ V.cell? ⟨n3, 1, none⟩ = some (.slice r1 fr q1) ∧ V.cell? ⟨n4, 0, none⟩ = some (.slice x2 fb' e2) ∧ V.cell? ⟨n4, 1, none⟩ = some (.slice r2 fr' q2) ∧ V.cell? ⟨p7, 0, none⟩ = some (.slice y1 fb z1) ∧ V.cell? ⟨p7, 1, none⟩ = some (.slice r1 fr q1) ∧ V.cell? ⟨p8, 0, none⟩ = some (.slice y2 fb' z2) ∧ V.cell? ⟨p8, 1, none⟩ = some (.slice r2 fr' q2))
        (first | exact keep8 (w := v6) (by (repeat (first | with_reducible exact KB | with_reducible apply Kept.drew | with_reducible apply Kept.drewN | with_reducible apply Kept.alloc))) c30 c31 c40 c41 c70 c71 c80 c81 | go_keep)
        (first
          | (go_at_call 20; (with_reducible refine (HEQ.out _ ?kk).mono ?_); (case kk => (repeat (first | with_reducible exact KB | with_reducible apply Kept.drew | with_reducible apply Kept.drewN | with_reducible apply Kept.alloc))); rintro e u7 ⟨rfl, hk7⟩; have KB := (show Kept [] v6 _ from (by (repeat (first | with_reducible exact KB | with_reducible apply Kept.drew | with_reducible apply Kept.drewN | with_reducible apply Kept.alloc)))).trans hk7)
          | (go_at_call 21; (with_reducible refine (HWQ.out _ ?kk).mono ?_); (case kk => (repeat (first | with_reducible exact KB | with_reducible apply Kept.drew | with_reducible apply Kept.drewN | with_reducible apply Kept.alloc))); rintro e u8 ⟨rfl, hk8⟩; have KB := (show Kept [] v6 _ from (by (repeat (first | with_reducible exact KB | with_reducible apply Kept.drew | with_reducible apply Kept.drewN | with_reducible apply Kept.alloc)))).trans hk8)
          | (go_at_call 10; (with_reducible refine (HMY.out _ ?kk).mono ?_); (case kk => (repeat (first | with_reducible exact KB | with_reducible apply Kept.drew | with_reducible apply Kept.drewN | with_reducible apply Kept.alloc))); rintro e u9 ⟨rfl, hk9⟩; have KB := (show Kept [] v6 _ from (by (repeat (first | with_reducible exact KB | with_reducible apply Kept.drew | with_reducible apply Kept.drewN | with_reducible apply Kept.alloc)))).trans hk9)
          | (go_at_call 22; (with_reducible refine (HMR.out _ ?kk).mono ?_); (case kk => (repeat (first | with_reducible exact KB | with_reducible apply Kept.drew | with_reducible apply Kept.drewN | with_reducible apply Kept.alloc))); rintro e u10 ⟨rfl, hk10⟩; have KB := (show Kept [] v6 _ from (by (repeat (first | with_reducible exact KB | with_reducible apply Kept.drew | with_reducible apply Kept.drewN | with_reducible apply Kept.alloc)))).trans hk10)
          | (go_at_call 13; (with_reducible refine (HS1.out _ ?kk).mono ?_); (case kk => (repeat (first | with_reducible exact KB | with_reducible apply Kept.drew | with_reducible apply Kept.drewN | with_reducible apply Kept.alloc))); rintro e u11 ⟨rfl, hk11⟩; have KB := (show Kept [] v6 _ from (by (repeat (first | with_reducible exact KB | with_reducible apply Kept.drew | with_reducible apply Kept.drewN | with_reducible apply Kept.alloc)))).trans hk11)
          | (go_at_call 23; (with_reducible refine (HS2.out _ ?kk).mono ?_); (case kk => (repeat (first | with_reducible exact KB | with_reducible apply Kept.drew | with_reducible apply Kept.drewN | with_reducible apply Kept.alloc))); rintro e u12 ⟨rfl, hk12⟩; have KB := (show Kept [] v6 _ from (by (repeat (first | with_reducible exact KB | with_reducible apply Kept.drew | with_reducible apply Kept.drewN | with_reducible apply Kept.alloc)))).trans hk12)
          | (go_at_call 13; (with_reducible refine (HS3.out _ ?kk).mono ?_); (case kk => (repeat (first | with_reducible exact KB | with_reducible apply Kept.drew | with_reducible apply Kept.drewN | with_reducible apply Kept.alloc))); rintro e u13 ⟨rfl, hk13⟩; have KB := (show Kept [] v6 _ from (by (repeat (first | with_reducible exact KB | with_reducible apply Kept.drew | with_reducible apply Kept.drewN | with_reducible apply Kept.alloc)))).trans hk13)
          | (go_at_call 12; (with_reducible refine (HWK.out _ ?kk).mono ?_); (case kk => (repeat (first | with_reducible exact KB | with_reducible apply Kept.drew | with_reducible apply Kept.drewN | with_reducible apply Kept.alloc))); rintro e u14 ⟨rfl, hk14⟩; have KB := (show Kept [] v6 _ from (by (repeat (first | with_reducible exact KB | with_reducible apply Kept.drew | with_reducible apply Kept.drewN | with_reducible apply Kept.alloc)))).trans hk14))
      all_goals
        go_wp2_with fail
        go_ret
        exact ⟨by simp, (HKC.out.trans K6.out).trans KB⟩
end Go.Proofs.YtjgcfncganleoaaDoor
