/-
  CompareTurned: rows turned, signed and unsigned, a row with itself. For any options, width and numbers. No condition.
-/
import Derived.Test.YtfngfoabknbgdaaCmpFlip
import Derived.Test.YtfngfoabknbgdaaCmpNumWalk
import Derived.Deep.DeepCutAuto
import Derived.Deep.RegionHeld3
namespace Go.Proofs.Ytfngfoabknbgdaa
open Go.ChangeShapes Go.WideShapes Go.ChangeAt Go.RowKit
open Go.Maps (Keyed)
open Go.WideMaps
set_option linter.unusedVariables false
set_option linter.unusedSimpArgs false

variable {w w' : World}
theorem news_at {w : World} {e : TypeId} {g n c : Nat} {xs : List Value} (h : Own w e (some ⟨g, 0, none⟩) n c xs) : ∀ j u, xs[j]? = some u → w.cell? ((⟨g, 0, none⟩ : Addr).add j) = some u := fun j u hu => by
  obtain ⟨hj, rfl⟩ := List.getElem?_eq_some_iff.1 hu
  obtain ⟨ad', h1, h2⟩ := h.cell hj
  injection h1 with h1
  subst h1
  exact h2
theorem one_at {w : World} {b : Nat} {v : Value} (h : w.cell? ⟨b, 0, none⟩ = some v) : ∀ j u, [v][j]? = some u → w.cell? ((⟨b, 0, none⟩ : Addr).add j) = some u := fun j u hu => by
  cases j with
  | zero => simp at hu; subst hu; exact h
  | succ j => simp at hu
theorem own_kept0 {w w' : World} {e : TypeId} {size : Nat} {a : Option Addr} {n cap : Nat} {xs : List Value} (h : w.ownsRow 0 e size (.slice a n cap) n xs) (hk : Kept [] w w') : w'.ownsRow 0 e size (.slice a n cap) n xs := own_kept h hk (by simp)
theorem given_own {w : World} {e : TypeId} {a : Option Addr} {n c : Nat} {l1 l2 : List Nat} (h : w.ownsRow 0 e 1 (.slice a (n + n + 1) c) (n + n + 1) (nats .u64 l1 ++ nats .u64 l2 ++ [.int .u64 ((0 : Nat) : Int)])) : Own w e a (n + n + 1) c (nats .u64 (l1 ++ l2 ++ [0])) := by
  rw [← nats_append, show nats .u64 (l1 ++ l2) = nats .u64 l1 ++ nats .u64 l2 from by simp [nats]]
  exact h
theorem given_words {l1 l2 : List Nat} (h1 : Words l1) (h2 : Words l2) : Words (l1 ++ l2 ++ [0]) := by
  intro x hx
  simp only [List.mem_append, List.mem_singleton] at hx
  rcases hx with (hx | hx) | hx
  · exact h1 x hx
  · exact h2 x hx
  · omega

set_option maxHeartbeats 30000000 in
set_option maxRecDepth 100000 in
theorem cmpturn_walk (o1 o2 : Bool) (k : Nat) (ax : Option Addr) (cx : Nat) (xs : List Nat) (ay : Option Addr) (cy : Nat) (ys : List Nat) (w : World) (hk : k < 256) (hcx : xs.length ≤ cx) (zx : cx * 8 ≤ 140737488351232) (sx : SlN w .u64 ax xs) (mx : ∀ n ∈ xs, n < 18446744073709551616)
    (hcy : ys.length ≤ cy) (zy : cy * 8 ≤ 140737488351232) (sy : SlN w .u64 ay ys) (my : ∀ n ∈ ys, n < 18446744073709551616) :
    Calls Try.prog 8 #[.agg #[.bool o1, .bool o2], .int .u8 k, .slice ax xs.length cx, .slice ay ys.length cy] w fun e w' => e = .returned (.bool true) ∧ Below w.heap.size w w' := by
  obtain ⟨n, hn⟩ : ∃ n, n = 1 + k % 64 := ⟨_, rfl⟩
  have hnb : 1 ≤ n ∧ n ≤ 64 := by omega
  have hni : (1 : Int) + (k : Int) % 64 = (n : Int) := by omega
  have HNI := Lib.hid hni
  obtain ⟨n1, n64⟩ := hnb
  obtain ⟨g1, g2, g3, g4, g5, g6, x1, x2, x3, x4, x5, x6, hsix⟩ := turn6 o1 o2 n n1
  have SIX := Lib.hid hsix
  have l1 := hsix.l1
  have l2 := hsix.l2
  have l3 := hsix.l3
  have l4 := hsix.l4
  have l5 := hsix.l5
  have l6 := hsix.l6
  clear hsix
  obtain ⟨lx, hlx⟩ : ∃ lx, lx = xs.length := ⟨_, rfl⟩
  obtain ⟨ly, hly⟩ : ∃ ly, ly = ys.length := ⟨_, rfl⟩
  rw [← hlx, ← hly]
  have HLX := Lib.hid hlx.symm
  have HLY := Lib.hid hly.symm
  have blx : lx ≤ 17592186043904 := by omega
  have bly : ly ≤ 17592186043904 := by omega
  have SX0 := Lib.hid sx
  have SY0 := Lib.hid sy
  have MX := Lib.hid mx
  have MY := Lib.hid my
  clear hn hni sx sy mx my hlx hly hcx hcy zx zy
  go_enter Try.func8, Try.ntmps8; (try simp only [List.append])
  go_wp2_with fail
  rw [HNI.out]
  clear HNI hk
  refine (fresh_c o1 o2 n _ n1 n64).mono ?_
  rintro e w1 ⟨p, F, a, ca, b, cb, rfl, hg, ho1, ho2, hst⟩
  obtain ⟨W, hW⟩ : ∃ W, W = (w.alloc (.cells #[.bool o1, .bool o2] 32)).alloc (.cells #[.int .i64 (n : Int)] 3) := ⟨_, rfl⟩
  rw [← hW] at hst
  have hkW : Kept [] w W := by rw [hW]; exact ((Kept.refl [] w).alloc _).alloc _
  have hnbW : W.heap[w.heap.size + 1]? = some (.cells #[.int .i64 (n : Int)] 3 (0, 0)) := by rw [hW]; exact (Mine.new (F := []) (by simp) (by simp)).heap
  have hzW : W.heap.size = w.heap.size + 1 + 1 := by rw [hW, size_new, size_new]
  have n1c := step_cell hst (blk_cell hnbW 0) (by simp)
  have N1 := Lib.hid (show w1.cell? ⟨w.heap.size + 1, 0, none⟩ = some (.int .i64 (n : Int)) from n1c.1)
  have NF1 := Lib.hid (show w.heap.size + 1 ∉ F from n1c.2)
  have H1 := Lib.hid (fresh_rows hg ho1 ho2)
  have HST1 := Lib.hid (show Stepped w w1 [] F from ⟨hkW.trans hst.kept, fun b hb => (hst.fresh b hb).imp id fun h => Nat.le_trans hkW.size h⟩)
  have SX := Lib.hid ((SX0.out.kept0 hkW).kept0 hst.kept)
  have SY := Lib.hid ((SY0.out.kept0 hkW).kept0 hst.kept)
  clear hg ho1 ho2 hst hW hkW hnbW hzW n1c SX0 SY0
  go_upto_region 3 with (fail)
  go_cut [14] (fun s14 wx => ∃ a5 c5 inp, s14 = .slice a5 (n + n + 1) c5 ∧ Own wx 45 a5 (n + n + 1) c5 (nats .u64 inp) ∧ inp.length = n + n + 1 ∧ Words inp ∧ Kept [] w1 wx)
  case first =>
    refine wp_region_held_drew (S := fun w' => w'.cell? ⟨w.heap.size + 1, 0, none⟩ = some (.int .i64 (n : Int))) (by kernel_rfl) ?_ (fun hHeld => ?_)
    · try dsimp only
      exact N1.out
    refine wpAnyH_take (i := 0) (v := ?_) rfl (by kernel_rfl) (by kernel_rfl) (by kernel_rfl) (fun _ _ _ h => h) (Or.inl ⟨by rfl, ?_⟩) (by assumption) ?_
    rotate_left
    · intro w hSw; (try dsimp only at hSw); go_simp
      all_goals with_reducible rfl
    try simp only [Act.put, List.setIfInBounds_toArray, List.set_cons_zero, List.set_cons_succ]
    refine wpAnyH_take (i := 1) (v := ?_) rfl (by kernel_rfl) (by kernel_rfl) (by kernel_rfl) (fun _ _ _ h => h) (Or.inl ⟨by rfl, ?_⟩) (by assumption) ?_
    rotate_left
    · intro w hSw; (try dsimp only at hSw); go_simp
      all_goals with_reducible rfl
    try simp only [Act.put, List.setIfInBounds_toArray, List.set_cons_zero, List.set_cons_succ]
    refine wpAnyH_take (i := 3) (v := ?_) rfl (by kernel_rfl) (by kernel_rfl) (by kernel_rfl) (fun _ _ _ h => h) (Or.inl ⟨by rfl, ?_⟩) (by assumption) ?_
    rotate_left
    · intro w hSw; (try dsimp only at hSw); go_simp
      all_goals with_reducible rfl
    try simp only [Act.put, List.setIfInBounds_toArray, List.set_cons_zero, List.set_cons_succ]
    refine wpAnyH_take (i := 4) (v := ?_) rfl (by kernel_rfl) (by kernel_rfl) (by kernel_rfl) (fun _ _ _ h => h) (Or.inl ⟨by rfl, ?_⟩) (by assumption) ?_
    rotate_left
    · intro w hSw; (try dsimp only at hSw); go_simp
      all_goals with_reducible rfl
    try simp only [Act.put, List.setIfInBounds_toArray, List.set_cons_zero, List.set_cons_succ]
    refine wpAnyH_ready (rs := [2, 7]) (by kernel_rfl) (by simp) ?_
    refine AllReadyH.cons rfl (fun K hK => ?_) ?_
    · go_simp
      go_at_call 27
      refine Calls.mono (words14 ax cx lx xs n _ HLX.out (by omega) (SX.out.kept0 ?_) MX.out n1 n64) ?_
      · (repeat (first | with_reducible exact KZ5.out | with_reducible exact KZ4.out | with_reducible exact KZ3.out | with_reducible exact KZ2.out | with_reducible exact Kept.refl _ _ | with_reducible apply Kept.drew | with_reducible apply Kept.alloc))
      rintro e w2 ⟨gx, l1', rfl, ll1, lw1, own1, k1, gx1⟩
      have KZ2 : Hid (Kept [] w1 w2) := by
        refine Lib.hid (Kept.trans ?_ k1)
        (repeat (first | with_reducible exact KZ5.out | with_reducible exact KZ4.out | with_reducible exact KZ3.out | with_reducible exact KZ2.out | with_reducible exact Kept.refl _ _ | with_reducible apply Kept.drew | with_reducible apply Kept.alloc))
      have LL1 := Lib.hid ll1
      have LW1 := Lib.hid lw1
      have O1 := Lib.hid own1
      have zl1 := own1.lt gx (mem_ft.2 rfl)
      have zk1 := k1.size
      (try simp at gx1 zl1 zk1)
      clear ll1 lw1 own1 k1
      try dsimp only
      refine hK.out _ _ ?_ (fun hHeld => ?_)
      · try dsimp only
        refine Kept.cell (F := []) (w := w1) ?_ N1.out (by simp)
        (repeat (first | with_reducible exact KZ5.out | with_reducible exact KZ4.out | with_reducible exact KZ3.out | with_reducible exact KZ2.out | with_reducible exact Kept.refl _ _ | with_reducible apply Kept.drew | with_reducible apply Kept.alloc))
      clear hK K
      try simp only [Act.put, List.setIfInBounds_toArray, List.set_cons_zero, List.set_cons_succ]
      refine wpAnyH_ready (rs := [5, 7]) (by kernel_rfl) (by simp) ?_
      refine AllReadyH.cons rfl (fun K hK => ?_) ?_
      · go_simp
        go_at_call 27
        refine Calls.mono (words14 ay cy ly ys n _ HLY.out (by omega) (SY.out.kept0 ?_) MY.out n1 n64) ?_
        · (repeat (first | with_reducible exact KZ5.out | with_reducible exact KZ4.out | with_reducible exact KZ3.out | with_reducible exact KZ2.out | with_reducible exact Kept.refl _ _ | with_reducible apply Kept.drew | with_reducible apply Kept.alloc))
        rintro e w3 ⟨gy, l2', rfl, ll2, lw2, own2, k2, gx2⟩
        have KZ3 : Hid (Kept [] w1 w3) := by
          refine Lib.hid (Kept.trans ?_ k2)
          (repeat (first | with_reducible exact KZ5.out | with_reducible exact KZ4.out | with_reducible exact KZ3.out | with_reducible exact KZ2.out | with_reducible exact Kept.refl _ _ | with_reducible apply Kept.drew | with_reducible apply Kept.alloc))
        have LL2 := Lib.hid ll2
        have LW2 := Lib.hid lw2
        have O2 := Lib.hid own2
        have zl2 := own2.lt gy (mem_ft.2 rfl)
        have zk2 := k2.size
        (try simp at gx2 zl2 zk2)
        have O12 : Hid (Own w3 45 (some ⟨gx, 0, none⟩) n n (nats .u64 l1')) := by
          refine Lib.hid (O1.out.kept0 (Kept.trans ?_ k2))
          (repeat (first | with_reducible exact Kept.refl _ _ | with_reducible apply Kept.drew | with_reducible apply Kept.alloc))
        clear ll2 lw2 own2 k2
        try dsimp only
        refine hK.out _ _ ?_ (fun hHeld => ?_)
        · try dsimp only
          refine Kept.cell (F := []) (w := w1) ?_ N1.out (by simp)
          (repeat (first | with_reducible exact KZ5.out | with_reducible exact KZ4.out | with_reducible exact KZ3.out | with_reducible exact KZ2.out | with_reducible exact Kept.refl _ _ | with_reducible apply Kept.drew | with_reducible apply Kept.alloc))
        clear hK K
        try simp only [Act.put, List.setIfInBounds_toArray, List.set_cons_zero, List.set_cons_succ]
        refine wpAnyH_ready (rs := [6, 7]) (by kernel_rfl) (by simp) ?_
        refine AllReadyH.cons rfl (fun K hK => ?_) ?_
        · have hk36 : Kept [] w3 w3 := by
            (repeat (first | with_reducible exact Kept.refl _ _ | with_reducible apply Kept.drew | with_reducible apply Kept.alloc))
          refine step_cat (news := nats .u64 l2') rfl rfl Try.underlying48 u64_info2 rfl (by omega) rfl rfl (O12.out.kept0 hk36) (by rw [nats_length, LL2.out, Nat.mul_one]) (news_at (O2.out.kept0 hk36)) (nats_one _ _) (by unfold maxLen; omega) (by omega) ?_
          intro a4 c4 w4 hown4 hst4
          have KZ4 := Lib.hid (kept_up (S := [gx]) (KZ3.out.trans hk36) (show Kept [gx] _ w4 from hst4.kept) (fun b hb => by simp at hb; omega))
          have FR4 := Lib.hid (fun b (hb : b ∈ ft a4) => (hst4.fresh b hb).elim (fun h => show w1.heap.size ≤ b by rw [mem_ft] at h; simp at h; omega) (fun h => Nat.le_trans (KZ3.out.trans hk36).size h))
          have O4 := Lib.hid hown4
          clear hk36 hown4 hst4
          refine hK.out _ _ ?_ (fun hHeld => ?_)
          · try dsimp only
            refine Kept.cell (F := []) (w := w1) ?_ N1.out (by simp)
            (repeat (first | with_reducible exact KZ5.out | with_reducible exact KZ4.out | with_reducible exact KZ3.out | with_reducible exact KZ2.out | with_reducible exact Kept.refl _ _ | with_reducible apply Kept.drew | with_reducible apply Kept.alloc))
          clear hK K
          try simp only [Act.put, List.setIfInBounds_toArray, List.set_cons_zero, List.set_cons_succ]
          refine wpAnyH_ready (rs := [7]) (by kernel_rfl) (by simp) ?_
          refine AllReadyH.cons rfl (fun K hK => ?_) ?_
          · go_simp
            have CB7 : Hid (World.cell? (w4.alloc (.cells #[.int .u64 0] 45)) ⟨w4.heap.size, 0, none⟩ = some (.int .u64 ((0 : Nat) : Int))) := Lib.hid (by simp [World.cell?_alloc_new])
            refine hK.out _ _ ?_ (fun hHeld => ?_)
            · try dsimp only
              refine Kept.cell (F := []) (w := w1) ?_ N1.out (by simp)
              (repeat (first | with_reducible exact KZ5.out | with_reducible exact KZ4.out | with_reducible exact KZ3.out | with_reducible exact KZ2.out | with_reducible exact Kept.refl _ _ | with_reducible apply Kept.drew | with_reducible apply Kept.alloc))
            clear hK K
            try simp only [Act.put, List.setIfInBounds_toArray, List.set_cons_zero, List.set_cons_succ]
            refine wpAnyH_ready (rs := [8]) (by kernel_rfl) (by simp) ?_
            refine AllReadyH.cons rfl (fun K hK => ?_) ?_
            · have hk48 : Kept [] w4 (w4.alloc (.cells #[.int .u64 0] 45)) := by
                (repeat (first | with_reducible exact Kept.refl _ _ | with_reducible apply Kept.drew | with_reducible apply Kept.alloc))
              have h8 : ∀ j u, [Value.int .u64 ((0 : Nat) : Int)][j]? = some u → World.cell? (w4.alloc (.cells #[.int .u64 0] 45)) ((⟨w4.heap.size, 0, none⟩ : Addr).add j) = some u := one_at CB7.out
              refine step_push (news := [.int .u64 ((0 : Nat) : Int)]) rfl rfl Try.underlying48 u64_info2 rfl (by omega) rfl rfl (own_kept0 O4.out hk48) rfl h8 (by simp [Value.oneCell']) (by unfold maxLen; omega) (by omega) ?_
              intro a5 c5 w5 hown5 hst5
              have O5 := Lib.hid hown5
              have KZ5 := Lib.hid (kept_up (S := ft a4) (KZ4.out.trans hk48) hst5.kept FR4.out)
              clear h8 hk48 hown5 hst5
              refine hK.out _ _ ?_ (fun hHeld => ?_)
              · try dsimp only
                refine Kept.cell (F := []) (w := w1) ?_ N1.out (by simp)
                (repeat (first | with_reducible exact KZ5.out | with_reducible exact KZ4.out | with_reducible exact KZ3.out | with_reducible exact KZ2.out | with_reducible exact Kept.refl _ _ | with_reducible apply Kept.drew | with_reducible apply Kept.alloc))
              clear hK K
              try simp only [Act.put, List.setIfInBounds_toArray, List.set_cons_zero, List.set_cons_succ]
              refine wpAnyH_ready (rs := [9]) (by kernel_rfl) (by simp) ?_
              refine AllReadyH.cons rfl (fun K hK => ?_) ?_
              · go_simp
                refine hK.out _ _ ?_ (fun hHeld => ?_)
                · try dsimp only
                  refine Kept.cell (F := []) (w := w1) ?_ N1.out (by simp)
                  (repeat (first | with_reducible exact KZ5.out | with_reducible exact KZ4.out | with_reducible exact KZ3.out | with_reducible exact KZ2.out | with_reducible exact Kept.refl _ _ | with_reducible apply Kept.drew | with_reducible apply Kept.alloc))
                clear hK K
                try simp only [Act.put, List.setIfInBounds_toArray, List.set_cons_zero, List.set_cons_succ]
                refine wpAnyH_done (by kernel_rfl) ?_ _
                go_wp2_with fail
                go_meet
                exact ⟨a5, c5, l1' ++ l2' ++ [0], rfl, given_own O5.out, by simp only [List.length_append, LL1.out, LL2.out, List.length_singleton], given_words LW1.out LW2.out, KZ5.out⟩
              exact AllReadyH.nil
            exact AllReadyH.nil
          exact AllReadyH.nil
        refine AllReadyH.cons rfl (fun K hK => ?_) ?_
        · go_simp
          have CB7 : Hid (World.cell? (w3.alloc (.cells #[.int .u64 0] 45)) ⟨w3.heap.size, 0, none⟩ = some (.int .u64 ((0 : Nat) : Int))) := Lib.hid (by simp [World.cell?_alloc_new])
          refine hK.out _ _ ?_ (fun hHeld => ?_)
          · try dsimp only
            refine Kept.cell (F := []) (w := w1) ?_ N1.out (by simp)
            (repeat (first | with_reducible exact KZ5.out | with_reducible exact KZ4.out | with_reducible exact KZ3.out | with_reducible exact KZ2.out | with_reducible exact Kept.refl _ _ | with_reducible apply Kept.drew | with_reducible apply Kept.alloc))
          clear hK K
          try simp only [Act.put, List.setIfInBounds_toArray, List.set_cons_zero, List.set_cons_succ]
          refine wpAnyH_ready (rs := [6]) (by kernel_rfl) (by simp) ?_
          refine AllReadyH.cons rfl (fun K hK => ?_) ?_
          · have hk36 : Kept [] w3 (w3.alloc (.cells #[.int .u64 0] 45)) := by
              (repeat (first | with_reducible exact Kept.refl _ _ | with_reducible apply Kept.drew | with_reducible apply Kept.alloc))
            refine step_cat (news := nats .u64 l2') rfl rfl Try.underlying48 u64_info2 rfl (by omega) rfl rfl (O12.out.kept0 hk36) (by rw [nats_length, LL2.out, Nat.mul_one]) (news_at (O2.out.kept0 hk36)) (nats_one _ _) (by unfold maxLen; omega) (by omega) ?_
            intro a4 c4 w4 hown4 hst4
            have KZ4 := Lib.hid (kept_up (S := [gx]) (KZ3.out.trans hk36) (show Kept [gx] _ w4 from hst4.kept) (fun b hb => by simp at hb; omega))
            have FR4 := Lib.hid (fun b (hb : b ∈ ft a4) => (hst4.fresh b hb).elim (fun h => show w1.heap.size ≤ b by rw [mem_ft] at h; simp at h; omega) (fun h => Nat.le_trans (KZ3.out.trans hk36).size h))
            have O4 := Lib.hid hown4
            have CB7 := Lib.hid (hst4.kept.cell CB7.out (by rw [mem_ft]; show ¬ w3.heap.size = gx; omega))
            clear hk36 hown4 hst4
            refine hK.out _ _ ?_ (fun hHeld => ?_)
            · try dsimp only
              refine Kept.cell (F := []) (w := w1) ?_ N1.out (by simp)
              (repeat (first | with_reducible exact KZ5.out | with_reducible exact KZ4.out | with_reducible exact KZ3.out | with_reducible exact KZ2.out | with_reducible exact Kept.refl _ _ | with_reducible apply Kept.drew | with_reducible apply Kept.alloc))
            clear hK K
            try simp only [Act.put, List.setIfInBounds_toArray, List.set_cons_zero, List.set_cons_succ]
            refine wpAnyH_ready (rs := [8]) (by kernel_rfl) (by simp) ?_
            refine AllReadyH.cons rfl (fun K hK => ?_) ?_
            · have hk48 : Kept [] w4 w4 := by
                (repeat (first | with_reducible exact Kept.refl _ _ | with_reducible apply Kept.drew | with_reducible apply Kept.alloc))
              have h8 : ∀ j u, [Value.int .u64 ((0 : Nat) : Int)][j]? = some u → World.cell? w4 ((⟨w3.heap.size, 0, none⟩ : Addr).add j) = some u := one_at CB7.out
              refine step_push (news := [.int .u64 ((0 : Nat) : Int)]) rfl rfl Try.underlying48 u64_info2 rfl (by omega) rfl rfl (own_kept0 O4.out hk48) rfl h8 (by simp [Value.oneCell']) (by unfold maxLen; omega) (by omega) ?_
              intro a5 c5 w5 hown5 hst5
              have O5 := Lib.hid hown5
              have KZ5 := Lib.hid (kept_up (S := ft a4) (KZ4.out.trans hk48) hst5.kept FR4.out)
              clear h8 hk48 hown5 hst5
              refine hK.out _ _ ?_ (fun hHeld => ?_)
              · try dsimp only
                refine Kept.cell (F := []) (w := w1) ?_ N1.out (by simp)
                (repeat (first | with_reducible exact KZ5.out | with_reducible exact KZ4.out | with_reducible exact KZ3.out | with_reducible exact KZ2.out | with_reducible exact Kept.refl _ _ | with_reducible apply Kept.drew | with_reducible apply Kept.alloc))
              clear hK K
              try simp only [Act.put, List.setIfInBounds_toArray, List.set_cons_zero, List.set_cons_succ]
              refine wpAnyH_ready (rs := [9]) (by kernel_rfl) (by simp) ?_
              refine AllReadyH.cons rfl (fun K hK => ?_) ?_
              · go_simp
                refine hK.out _ _ ?_ (fun hHeld => ?_)
                · try dsimp only
                  refine Kept.cell (F := []) (w := w1) ?_ N1.out (by simp)
                  (repeat (first | with_reducible exact KZ5.out | with_reducible exact KZ4.out | with_reducible exact KZ3.out | with_reducible exact KZ2.out | with_reducible exact Kept.refl _ _ | with_reducible apply Kept.drew | with_reducible apply Kept.alloc))
                clear hK K
                try simp only [Act.put, List.setIfInBounds_toArray, List.set_cons_zero, List.set_cons_succ]
                refine wpAnyH_done (by kernel_rfl) ?_ _
                go_wp2_with fail
                go_meet
                exact ⟨a5, c5, l1' ++ l2' ++ [0], rfl, given_own O5.out, by simp only [List.length_append, LL1.out, LL2.out, List.length_singleton], given_words LW1.out LW2.out, KZ5.out⟩
              exact AllReadyH.nil
            exact AllReadyH.nil
          exact AllReadyH.nil
        exact AllReadyH.nil
      refine AllReadyH.cons rfl (fun K hK => ?_) ?_
      · go_simp
        have CB7 : Hid (World.cell? (w2.alloc (.cells #[.int .u64 0] 45)) ⟨w2.heap.size, 0, none⟩ = some (.int .u64 ((0 : Nat) : Int))) := Lib.hid (by simp [World.cell?_alloc_new])
        refine hK.out _ _ ?_ (fun hHeld => ?_)
        · try dsimp only
          refine Kept.cell (F := []) (w := w1) ?_ N1.out (by simp)
          (repeat (first | with_reducible exact KZ5.out | with_reducible exact KZ4.out | with_reducible exact KZ3.out | with_reducible exact KZ2.out | with_reducible exact Kept.refl _ _ | with_reducible apply Kept.drew | with_reducible apply Kept.alloc))
        clear hK K
        try simp only [Act.put, List.setIfInBounds_toArray, List.set_cons_zero, List.set_cons_succ]
        refine wpAnyH_ready (rs := [5]) (by kernel_rfl) (by simp) ?_
        refine AllReadyH.cons rfl (fun K hK => ?_) ?_
        · go_simp
          go_at_call 27
          refine Calls.mono (words14 ay cy ly ys n _ HLY.out (by omega) (SY.out.kept0 ?_) MY.out n1 n64) ?_
          · (repeat (first | with_reducible exact KZ5.out | with_reducible exact KZ4.out | with_reducible exact KZ3.out | with_reducible exact KZ2.out | with_reducible exact Kept.refl _ _ | with_reducible apply Kept.drew | with_reducible apply Kept.alloc))
          rintro e w3 ⟨gy, l2', rfl, ll2, lw2, own2, k2, gx2⟩
          have KZ3 : Hid (Kept [] w1 w3) := by
            refine Lib.hid (Kept.trans ?_ k2)
            (repeat (first | with_reducible exact KZ5.out | with_reducible exact KZ4.out | with_reducible exact KZ3.out | with_reducible exact KZ2.out | with_reducible exact Kept.refl _ _ | with_reducible apply Kept.drew | with_reducible apply Kept.alloc))
          have LL2 := Lib.hid ll2
          have LW2 := Lib.hid lw2
          have O2 := Lib.hid own2
          have zl2 := own2.lt gy (mem_ft.2 rfl)
          have zk2 := k2.size
          (try simp at gx2 zl2 zk2)
          have CB7 := Lib.hid (k2.cell CB7.out (by simp))
          have O12 : Hid (Own w3 45 (some ⟨gx, 0, none⟩) n n (nats .u64 l1')) := by
            refine Lib.hid (O1.out.kept0 (Kept.trans ?_ k2))
            (repeat (first | with_reducible exact Kept.refl _ _ | with_reducible apply Kept.drew | with_reducible apply Kept.alloc))
          clear ll2 lw2 own2 k2
          try dsimp only
          refine hK.out _ _ ?_ (fun hHeld => ?_)
          · try dsimp only
            refine Kept.cell (F := []) (w := w1) ?_ N1.out (by simp)
            (repeat (first | with_reducible exact KZ5.out | with_reducible exact KZ4.out | with_reducible exact KZ3.out | with_reducible exact KZ2.out | with_reducible exact Kept.refl _ _ | with_reducible apply Kept.drew | with_reducible apply Kept.alloc))
          clear hK K
          try simp only [Act.put, List.setIfInBounds_toArray, List.set_cons_zero, List.set_cons_succ]
          refine wpAnyH_ready (rs := [6]) (by kernel_rfl) (by simp) ?_
          refine AllReadyH.cons rfl (fun K hK => ?_) ?_
          · have hk36 : Kept [] w3 w3 := by
              (repeat (first | with_reducible exact Kept.refl _ _ | with_reducible apply Kept.drew | with_reducible apply Kept.alloc))
            refine step_cat (news := nats .u64 l2') rfl rfl Try.underlying48 u64_info2 rfl (by omega) rfl rfl (O12.out.kept0 hk36) (by rw [nats_length, LL2.out, Nat.mul_one]) (news_at (O2.out.kept0 hk36)) (nats_one _ _) (by unfold maxLen; omega) (by omega) ?_
            intro a4 c4 w4 hown4 hst4
            have KZ4 := Lib.hid (kept_up (S := [gx]) (KZ3.out.trans hk36) (show Kept [gx] _ w4 from hst4.kept) (fun b hb => by simp at hb; omega))
            have FR4 := Lib.hid (fun b (hb : b ∈ ft a4) => (hst4.fresh b hb).elim (fun h => show w1.heap.size ≤ b by rw [mem_ft] at h; simp at h; omega) (fun h => Nat.le_trans (KZ3.out.trans hk36).size h))
            have O4 := Lib.hid hown4
            have CB7 := Lib.hid (hst4.kept.cell CB7.out (by rw [mem_ft]; show ¬ w2.heap.size = gx; omega))
            clear hk36 hown4 hst4
            refine hK.out _ _ ?_ (fun hHeld => ?_)
            · try dsimp only
              refine Kept.cell (F := []) (w := w1) ?_ N1.out (by simp)
              (repeat (first | with_reducible exact KZ5.out | with_reducible exact KZ4.out | with_reducible exact KZ3.out | with_reducible exact KZ2.out | with_reducible exact Kept.refl _ _ | with_reducible apply Kept.drew | with_reducible apply Kept.alloc))
            clear hK K
            try simp only [Act.put, List.setIfInBounds_toArray, List.set_cons_zero, List.set_cons_succ]
            refine wpAnyH_ready (rs := [8]) (by kernel_rfl) (by simp) ?_
            refine AllReadyH.cons rfl (fun K hK => ?_) ?_
            · have hk48 : Kept [] w4 w4 := by
                (repeat (first | with_reducible exact Kept.refl _ _ | with_reducible apply Kept.drew | with_reducible apply Kept.alloc))
              have h8 : ∀ j u, [Value.int .u64 ((0 : Nat) : Int)][j]? = some u → World.cell? w4 ((⟨w2.heap.size, 0, none⟩ : Addr).add j) = some u := one_at CB7.out
              refine step_push (news := [.int .u64 ((0 : Nat) : Int)]) rfl rfl Try.underlying48 u64_info2 rfl (by omega) rfl rfl (own_kept0 O4.out hk48) rfl h8 (by simp [Value.oneCell']) (by unfold maxLen; omega) (by omega) ?_
              intro a5 c5 w5 hown5 hst5
              have O5 := Lib.hid hown5
              have KZ5 := Lib.hid (kept_up (S := ft a4) (KZ4.out.trans hk48) hst5.kept FR4.out)
              clear h8 hk48 hown5 hst5
              refine hK.out _ _ ?_ (fun hHeld => ?_)
              · try dsimp only
                refine Kept.cell (F := []) (w := w1) ?_ N1.out (by simp)
                (repeat (first | with_reducible exact KZ5.out | with_reducible exact KZ4.out | with_reducible exact KZ3.out | with_reducible exact KZ2.out | with_reducible exact Kept.refl _ _ | with_reducible apply Kept.drew | with_reducible apply Kept.alloc))
              clear hK K
              try simp only [Act.put, List.setIfInBounds_toArray, List.set_cons_zero, List.set_cons_succ]
              refine wpAnyH_ready (rs := [9]) (by kernel_rfl) (by simp) ?_
              refine AllReadyH.cons rfl (fun K hK => ?_) ?_
              · go_simp
                refine hK.out _ _ ?_ (fun hHeld => ?_)
                · try dsimp only
                  refine Kept.cell (F := []) (w := w1) ?_ N1.out (by simp)
                  (repeat (first | with_reducible exact KZ5.out | with_reducible exact KZ4.out | with_reducible exact KZ3.out | with_reducible exact KZ2.out | with_reducible exact Kept.refl _ _ | with_reducible apply Kept.drew | with_reducible apply Kept.alloc))
                clear hK K
                try simp only [Act.put, List.setIfInBounds_toArray, List.set_cons_zero, List.set_cons_succ]
                refine wpAnyH_done (by kernel_rfl) ?_ _
                go_wp2_with fail
                go_meet
                exact ⟨a5, c5, l1' ++ l2' ++ [0], rfl, given_own O5.out, by simp only [List.length_append, LL1.out, LL2.out, List.length_singleton], given_words LW1.out LW2.out, KZ5.out⟩
              exact AllReadyH.nil
            exact AllReadyH.nil
          exact AllReadyH.nil
        exact AllReadyH.nil
      exact AllReadyH.nil
    refine AllReadyH.cons rfl (fun K hK => ?_) ?_
    · go_simp
      have CB7 : Hid (World.cell? (w1.drew.alloc (.cells #[.int .u64 0] 45)) ⟨w1.heap.size, 0, none⟩ = some (.int .u64 ((0 : Nat) : Int))) := Lib.hid (World.cell?_alloc_new (w := w1.drew) _ _ 0)
      refine hK.out _ _ ?_ (fun hHeld => ?_)
      · try dsimp only
        refine Kept.cell (F := []) (w := w1) ?_ N1.out (by simp)
        (repeat (first | with_reducible exact KZ5.out | with_reducible exact KZ4.out | with_reducible exact KZ3.out | with_reducible exact KZ2.out | with_reducible exact Kept.refl _ _ | with_reducible apply Kept.drew | with_reducible apply Kept.alloc))
      clear hK K
      try simp only [Act.put, List.setIfInBounds_toArray, List.set_cons_zero, List.set_cons_succ]
      refine wpAnyH_ready (rs := [2]) (by kernel_rfl) (by simp) ?_
      refine AllReadyH.cons rfl (fun K hK => ?_) ?_
      · go_simp
        go_at_call 27
        refine Calls.mono (words14 ax cx lx xs n _ HLX.out (by omega) (SX.out.kept0 ?_) MX.out n1 n64) ?_
        · (repeat (first | with_reducible exact KZ5.out | with_reducible exact KZ4.out | with_reducible exact KZ3.out | with_reducible exact KZ2.out | with_reducible exact Kept.refl _ _ | with_reducible apply Kept.drew | with_reducible apply Kept.alloc))
        rintro e w2 ⟨gx, l1', rfl, ll1, lw1, own1, k1, gx1⟩
        have KZ2 : Hid (Kept [] w1 w2) := by
          refine Lib.hid (Kept.trans ?_ k1)
          (repeat (first | with_reducible exact KZ5.out | with_reducible exact KZ4.out | with_reducible exact KZ3.out | with_reducible exact KZ2.out | with_reducible exact Kept.refl _ _ | with_reducible apply Kept.drew | with_reducible apply Kept.alloc))
        have LL1 := Lib.hid ll1
        have LW1 := Lib.hid lw1
        have O1 := Lib.hid own1
        have zl1 := own1.lt gx (mem_ft.2 rfl)
        have zk1 := k1.size
        (try simp at gx1 zl1 zk1)
        have CB7 := Lib.hid (k1.cell CB7.out (by simp))
        clear ll1 lw1 own1 k1
        try dsimp only
        refine hK.out _ _ ?_ (fun hHeld => ?_)
        · try dsimp only
          refine Kept.cell (F := []) (w := w1) ?_ N1.out (by simp)
          (repeat (first | with_reducible exact KZ5.out | with_reducible exact KZ4.out | with_reducible exact KZ3.out | with_reducible exact KZ2.out | with_reducible exact Kept.refl _ _ | with_reducible apply Kept.drew | with_reducible apply Kept.alloc))
        clear hK K
        try simp only [Act.put, List.setIfInBounds_toArray, List.set_cons_zero, List.set_cons_succ]
        refine wpAnyH_ready (rs := [5]) (by kernel_rfl) (by simp) ?_
        refine AllReadyH.cons rfl (fun K hK => ?_) ?_
        · go_simp
          go_at_call 27
          refine Calls.mono (words14 ay cy ly ys n _ HLY.out (by omega) (SY.out.kept0 ?_) MY.out n1 n64) ?_
          · (repeat (first | with_reducible exact KZ5.out | with_reducible exact KZ4.out | with_reducible exact KZ3.out | with_reducible exact KZ2.out | with_reducible exact Kept.refl _ _ | with_reducible apply Kept.drew | with_reducible apply Kept.alloc))
          rintro e w3 ⟨gy, l2', rfl, ll2, lw2, own2, k2, gx2⟩
          have KZ3 : Hid (Kept [] w1 w3) := by
            refine Lib.hid (Kept.trans ?_ k2)
            (repeat (first | with_reducible exact KZ5.out | with_reducible exact KZ4.out | with_reducible exact KZ3.out | with_reducible exact KZ2.out | with_reducible exact Kept.refl _ _ | with_reducible apply Kept.drew | with_reducible apply Kept.alloc))
          have LL2 := Lib.hid ll2
          have LW2 := Lib.hid lw2
          have O2 := Lib.hid own2
          have zl2 := own2.lt gy (mem_ft.2 rfl)
          have zk2 := k2.size
          (try simp at gx2 zl2 zk2)
          have CB7 := Lib.hid (k2.cell CB7.out (by simp))
          have O12 : Hid (Own w3 45 (some ⟨gx, 0, none⟩) n n (nats .u64 l1')) := by
            refine Lib.hid (O1.out.kept0 (Kept.trans ?_ k2))
            (repeat (first | with_reducible exact Kept.refl _ _ | with_reducible apply Kept.drew | with_reducible apply Kept.alloc))
          clear ll2 lw2 own2 k2
          try dsimp only
          refine hK.out _ _ ?_ (fun hHeld => ?_)
          · try dsimp only
            refine Kept.cell (F := []) (w := w1) ?_ N1.out (by simp)
            (repeat (first | with_reducible exact KZ5.out | with_reducible exact KZ4.out | with_reducible exact KZ3.out | with_reducible exact KZ2.out | with_reducible exact Kept.refl _ _ | with_reducible apply Kept.drew | with_reducible apply Kept.alloc))
          clear hK K
          try simp only [Act.put, List.setIfInBounds_toArray, List.set_cons_zero, List.set_cons_succ]
          refine wpAnyH_ready (rs := [6]) (by kernel_rfl) (by simp) ?_
          refine AllReadyH.cons rfl (fun K hK => ?_) ?_
          · have hk36 : Kept [] w3 w3 := by
              (repeat (first | with_reducible exact Kept.refl _ _ | with_reducible apply Kept.drew | with_reducible apply Kept.alloc))
            refine step_cat (news := nats .u64 l2') rfl rfl Try.underlying48 u64_info2 rfl (by omega) rfl rfl (O12.out.kept0 hk36) (by rw [nats_length, LL2.out, Nat.mul_one]) (news_at (O2.out.kept0 hk36)) (nats_one _ _) (by unfold maxLen; omega) (by omega) ?_
            intro a4 c4 w4 hown4 hst4
            have KZ4 := Lib.hid (kept_up (S := [gx]) (KZ3.out.trans hk36) (show Kept [gx] _ w4 from hst4.kept) (fun b hb => by simp at hb; omega))
            have FR4 := Lib.hid (fun b (hb : b ∈ ft a4) => (hst4.fresh b hb).elim (fun h => show w1.heap.size ≤ b by rw [mem_ft] at h; simp at h; omega) (fun h => Nat.le_trans (KZ3.out.trans hk36).size h))
            have O4 := Lib.hid hown4
            have CB7 := Lib.hid (hst4.kept.cell CB7.out (by rw [mem_ft]; show ¬ w1.heap.size = gx; omega))
            clear hk36 hown4 hst4
            refine hK.out _ _ ?_ (fun hHeld => ?_)
            · try dsimp only
              refine Kept.cell (F := []) (w := w1) ?_ N1.out (by simp)
              (repeat (first | with_reducible exact KZ5.out | with_reducible exact KZ4.out | with_reducible exact KZ3.out | with_reducible exact KZ2.out | with_reducible exact Kept.refl _ _ | with_reducible apply Kept.drew | with_reducible apply Kept.alloc))
            clear hK K
            try simp only [Act.put, List.setIfInBounds_toArray, List.set_cons_zero, List.set_cons_succ]
            refine wpAnyH_ready (rs := [8]) (by kernel_rfl) (by simp) ?_
            refine AllReadyH.cons rfl (fun K hK => ?_) ?_
            · have hk48 : Kept [] w4 w4 := by
                (repeat (first | with_reducible exact Kept.refl _ _ | with_reducible apply Kept.drew | with_reducible apply Kept.alloc))
              have h8 : ∀ j u, [Value.int .u64 ((0 : Nat) : Int)][j]? = some u → World.cell? w4 ((⟨w1.heap.size, 0, none⟩ : Addr).add j) = some u := one_at CB7.out
              refine step_push (news := [.int .u64 ((0 : Nat) : Int)]) rfl rfl Try.underlying48 u64_info2 rfl (by omega) rfl rfl (own_kept0 O4.out hk48) rfl h8 (by simp [Value.oneCell']) (by unfold maxLen; omega) (by omega) ?_
              intro a5 c5 w5 hown5 hst5
              have O5 := Lib.hid hown5
              have KZ5 := Lib.hid (kept_up (S := ft a4) (KZ4.out.trans hk48) hst5.kept FR4.out)
              clear h8 hk48 hown5 hst5
              refine hK.out _ _ ?_ (fun hHeld => ?_)
              · try dsimp only
                refine Kept.cell (F := []) (w := w1) ?_ N1.out (by simp)
                (repeat (first | with_reducible exact KZ5.out | with_reducible exact KZ4.out | with_reducible exact KZ3.out | with_reducible exact KZ2.out | with_reducible exact Kept.refl _ _ | with_reducible apply Kept.drew | with_reducible apply Kept.alloc))
              clear hK K
              try simp only [Act.put, List.setIfInBounds_toArray, List.set_cons_zero, List.set_cons_succ]
              refine wpAnyH_ready (rs := [9]) (by kernel_rfl) (by simp) ?_
              refine AllReadyH.cons rfl (fun K hK => ?_) ?_
              · go_simp
                refine hK.out _ _ ?_ (fun hHeld => ?_)
                · try dsimp only
                  refine Kept.cell (F := []) (w := w1) ?_ N1.out (by simp)
                  (repeat (first | with_reducible exact KZ5.out | with_reducible exact KZ4.out | with_reducible exact KZ3.out | with_reducible exact KZ2.out | with_reducible exact Kept.refl _ _ | with_reducible apply Kept.drew | with_reducible apply Kept.alloc))
                clear hK K
                try simp only [Act.put, List.setIfInBounds_toArray, List.set_cons_zero, List.set_cons_succ]
                refine wpAnyH_done (by kernel_rfl) ?_ _
                go_wp2_with fail
                go_meet
                exact ⟨a5, c5, l1' ++ l2' ++ [0], rfl, given_own O5.out, by simp only [List.length_append, LL1.out, LL2.out, List.length_singleton], given_words LW1.out LW2.out, KZ5.out⟩
              exact AllReadyH.nil
            exact AllReadyH.nil
          exact AllReadyH.nil
        exact AllReadyH.nil
      exact AllReadyH.nil
    exact AllReadyH.nil
  case rest =>
    obtain ⟨a5, c5, inp, rfl, hown, hil, hiw, hk5⟩ := hcut
    obtain ⟨ga, rfl⟩ := hown.form (by omega)
    have hcap := hown.cap
    have GV0 := Lib.hid hown
    have HIL := Lib.hid hil
    have HIW := Lib.hid hiw
    have R0 := Lib.hid (H1.out.kept0 hk5)
    have HS0 := Lib.hid (HST1.out.keep hk5)
    have N0 := Lib.hid (And.intro (hk5.cell N1.out (by simp)) NF1.out)
    clear hown hil hiw hk5 H1 HST1 N1 NF1 SX SY MX MY HLX HLY blx bly
    -- less
    go_wp2_with fail
    have C1 := Lib.hid (rows_less R0.out false n1 n64 (by rw [freshG_length]; omega))
    rw [SIX.out.e1] at C1
    refine C1.out.mono ?_
    rintro e v1 ⟨F1, rfl, h, hs⟩
    have R1 := Lib.hid h
    have HS1 := Lib.hid (HS0.out.trans hs)
    have GV1 := Lib.hid (GV0.out.kept hs.kept (GV0.out.apart_g R0.out.graph (by decide) (by decide) (by decide)))
    have N1 := Lib.hid (step_cell hs N0.out.1 N0.out.2)
    clear h hs C1 R0 HS0 GV0 N0
    -- turned
    go_wp2_with fail
    refine (lit_turn b cb n (rowL (1 + n) n) _ R1.out.lenB (by omega) R1.out.ob.sln (fun x hx => Gr.ok_lt (R1.out.kb x hx) (by omega))).mono ?_
    rintro e v2 ⟨bt, cbt, rfl, hot, hs⟩
    have OBT := Lib.hid hot
    have K2 := Lib.hid hs.kept
    clear hot hs
    go_wp2_with fail
    refine (lit_turn a ca n (rowL 1 n) _ R1.out.lenA (by omega) (R1.out.kept0 K2.out).oa.sln (fun x hx => Gr.ok_lt (R1.out.ka x hx) (by omega))).mono ?_
    rintro e v3 ⟨at', cat', rfl, hot, hs⟩
    have RT := Lib.hid (show RowsAt v3 p F1 g1 n bt cbt ((rowL (1 + n) n).map ntL) at' cat' ((rowL 1 n).map ntL) from ⟨(R1.out.graph.kept0 K2.out).kept0 hs.kept, OBT.out.kept0 hs.kept, hot, turn_ok R1.out.kb, turn_ok R1.out.ka⟩)
    have K3 := Lib.hid (K2.out.trans hs.kept)
    clear hot hs OBT K2
    go_wp2_with fail
    have C2 := Lib.hid (rows_less RT.out false n1 n64 (show g1.nodes.length ≤ 179000 by omega))
    rw [SIX.out.e2] at C2
    refine C2.out.mono ?_
    rintro e v4 ⟨F2, rfl, h, hs⟩
    obtain ⟨cc, hx⟩ := SIX.out.z2
    have R2 := Lib.hid ((R1.out.kept0 K3.out).step hs h.graph hx)
    have HS2 := Lib.hid ((HS1.out.keep K3.out).trans hs)
    have GV2 := Lib.hid ((GV1.out.kept0 K3.out).kept hs.kept ((GV1.out.kept0 K3.out).apart_g RT.out.graph (by decide) (by decide) (by decide)))
    have N2 := Lib.hid (step_cell hs (K3.out.cell N1.out.1 (by simp)) N1.out.2)
    clear h hs hx C2 R1 HS1 GV1 N1 RT K3
    -- signed
    go_wp2_with fail
    have C3 := Lib.hid (rows_less R2.out true n1 n64 (show g2.nodes.length ≤ 179000 by omega))
    rw [SIX.out.e3] at C3
    refine C3.out.mono ?_
    rintro e v5 ⟨F3, rfl, h, hs⟩
    have R3 := Lib.hid h
    have HS3 := Lib.hid (HS2.out.trans hs)
    have GV3 := Lib.hid (GV2.out.kept hs.kept (GV2.out.apart_g R2.out.graph (by decide) (by decide) (by decide)))
    have N3 := Lib.hid (step_cell hs N2.out.1 N2.out.2)
    clear h hs C3 R2 HS2 GV2 N2
    -- flipped
    go_wp2_with fail
    refine (flip_c a ca n (w.heap.size + 1) (rowL 1 n) _ R3.out.oa n1 n64 (fun x hx => Gr.ok_lt (R3.out.ka x hx) (by omega)) N3.out.1).mono ?_
    rintro e v6 ⟨af, caf, rfl, hot, hs⟩
    have OAF := Lib.hid hot
    have K6 := Lib.hid hs.kept
    clear hot hs
    go_wp2_with fail
    refine (flip_c b cb n (w.heap.size + 1) (rowL (1 + n) n) _ (R3.out.kept0 K6.out).ob n1 n64 (fun x hx => Gr.ok_lt (R3.out.kb x hx) (by omega)) (K6.out.cell N3.out.1 (by simp))).mono ?_
    rintro e v7 ⟨bf, cbf, rfl, hot, hs⟩
    have RF := Lib.hid (show RowsAt v7 p F3 g3 n af caf (flipL n (rowL 1 n)) bf cbf (flipL n (rowL (1 + n) n)) from ⟨(R3.out.graph.kept0 K6.out).kept0 hs.kept, OAF.out.kept0 hs.kept, hot, flipL_ok (rowL_length _ _) n1 R3.out.ka, flipL_ok (rowL_length _ _) n1 R3.out.kb⟩)
    have K7 := Lib.hid (K6.out.trans hs.kept)
    clear hot hs OAF K6
    go_wp2_with fail
    have C4 := Lib.hid (rows_less RF.out false n1 n64 (show g3.nodes.length ≤ 179000 by omega))
    rw [SIX.out.e4] at C4
    refine C4.out.mono ?_
    rintro e v8 ⟨F4, rfl, h, hs⟩
    obtain ⟨cc, hx⟩ := SIX.out.z4
    have R4 := Lib.hid ((R3.out.kept0 K7.out).step hs h.graph hx)
    have HS4 := Lib.hid ((HS3.out.keep K7.out).trans hs)
    have GV4 := Lib.hid ((GV3.out.kept0 K7.out).kept hs.kept ((GV3.out.kept0 K7.out).apart_g RF.out.graph (by decide) (by decide) (by decide)))
    clear h hs hx C4 R3 HS3 GV3 N3 RF K7
    -- a row with itself
    go_wp2_with fail
    have C5 := Lib.hid (rows_less R4.out.one true n1 n64 (show g4.nodes.length ≤ 179000 by omega))
    rw [SIX.out.e5] at C5
    refine C5.out.mono ?_
    rintro e v9 ⟨F5, rfl, h, hs⟩
    obtain ⟨cc, hx⟩ := SIX.out.z5
    have R5 := Lib.hid (R4.out.step hs h.graph hx)
    have HS5 := Lib.hid (HS4.out.trans hs)
    have GV5 := Lib.hid (GV4.out.kept hs.kept (GV4.out.apart_g R4.out.graph (by decide) (by decide) (by decide)))
    clear h hs hx C5 R4 HS4 GV4
    go_wp2_with fail
    have C6 := Lib.hid (rows_equal R5.out.turn.one n1 n64 (show g5.nodes.length ≤ 179000 by omega))
    rw [SIX.out.e6] at C6
    refine C6.out.mono ?_
    rintro e va ⟨F6, rfl, h, hs⟩
    have R6 := Lib.hid h.graph
    have HS6 := Lib.hid (HS5.out.trans hs)
    have GV6 := Lib.hid (GV5.out.kept hs.kept (GV5.out.apart_g R5.out.graph (by decide) (by decide) (by decide)))
    clear h hs C6 R5 HS5 GV5
    go_wp2_with fail
    have C7 := Lib.hid (cone_words (w := va.alloc (.cells (nats .u32 [x1, x2, x3, x4, x5, x6]).toArray 24)) (R6.out.kept0 ((Kept.refl [] va).alloc _)) (show g6.nodes.length ≤ 200000 by omega) (some ⟨ga, 0, none⟩) c5 (n + n + 1) inp HIL.out (by rw [SIX.out.ins]; omega) (GV6.out.sln.kept0 ((Kept.refl [] va).alloc _)) HIW.out
      (some ⟨va.heap.size, 0, none⟩) 6 6 [x1, x2, x3, x4, x5, x6] rfl (by omega) (sln_new va .u32 _ _) (by
        intro x hx
        simp only [List.mem_cons, List.not_mem_nil, or_false] at hx
        rcases hx with rfl | rfl | rfl | rfl | rfl | rfl
        · exact SIX.out.x61
        · exact SIX.out.x62
        · exact SIX.out.x63
        · exact SIX.out.x64
        · exact SIX.out.x65
        · exact SIX.out.x66))
    obtain ⟨q1, q2, q3, q4⟩ := SIX.out.val inp HIW.out (by rw [HIL.out]; omega)
    have LAW := Lib.hid (show [x1, x2, x3, x4, x5, x6].map (lw inp g6) = [lw inp g6 x1, lw inp g6 x1, lw inp g6 x3, lw inp g6 x3, 0, 18446744073709551615] from by
      simp only [List.map_cons, List.map_nil]; rw [← q1, ← q2, q3, q4])
    rw [LAW.out] at C7
    clear q1 q2 q3 q4 LAW
    generalize lw inp g6 x1 = r0 at *
    generalize lw inp g6 x3 = r2 at *
    refine C7.out.mono ?_
    rintro e vb ⟨ar, cr, rfl, hr, hs⟩
    obtain ⟨gr, rfl⟩ := hr.form (by omega)
    have HS7 := Lib.hid ((HS6.out.alloc _).keep hs.kept)
    have t0 : vb.cell? ⟨gr, 0, none⟩ = some (.int .u64 (r0 : Int)) := row_cell hr.sln 0 (by simp)
    have t1 : vb.cell? ⟨gr, 1, none⟩ = some (.int .u64 (r0 : Int)) := row_cell hr.sln 1 (by simp)
    have t2 : vb.cell? ⟨gr, 2, none⟩ = some (.int .u64 (r2 : Int)) := row_cell hr.sln 2 (by simp)
    have t3 : vb.cell? ⟨gr, 3, none⟩ = some (.int .u64 (r2 : Int)) := row_cell hr.sln 3 (by simp)
    have t4 : vb.cell? ⟨gr, 4, none⟩ = some (.int .u64 0) := row_cell hr.sln 4 (by simp)
    have t5 : vb.cell? ⟨gr, 5, none⟩ = some (.int .u64 18446744073709551615) := row_cell hr.sln 5 (by simp)
    clear hr hs C7 R6 HS6 GV6 SIX l1 l2 l3 l4 l5 l6
    go_wp2_with fail
    go_region_held3 (fun w' => w'.cell? ⟨gr, 0, none⟩ = some (.int .u64 (r0 : Int)) ∧ w'.cell? ⟨gr, 1, none⟩ = some (.int .u64 (r0 : Int)) ∧ w'.cell? ⟨gr, 2, none⟩ = some (.int .u64 (r2 : Int)) ∧ w'.cell? ⟨gr, 3, none⟩ = some (.int .u64 (r2 : Int)) ∧ w'.cell? ⟨gr, 4, none⟩ = some (.int .u64 0) ∧ w'.cell? ⟨gr, 5, none⟩ = some (.int .u64 18446744073709551615))
      (first | exact ⟨s0, s1, s2, s3, s4, s5⟩ | go_keep)
      (first | (go_at_call 19; refine (cmp_tells _).mono ?_; rintro e wt ⟨rfl, hkt⟩; have s0 := hkt.cell (p := ⟨gr, 0, none⟩) t0 (by simp); have s1 := hkt.cell (p := ⟨gr, 1, none⟩) t1 (by simp); have s2 := hkt.cell (p := ⟨gr, 2, none⟩) t2 (by simp); have s3 := hkt.cell (p := ⟨gr, 3, none⟩) t3 (by simp); have s4 := hkt.cell (p := ⟨gr, 4, none⟩) t4 (by simp); have s5 := hkt.cell (p := ⟨gr, 5, none⟩) t5 (by simp); have HKT := Lib.hid hkt; clear hkt))
    all_goals
      go_wp2_with fail
      go_ret
      exact ⟨rfl, (HS7.out.keep ((Kept.refl [] _).drew.trans HKT.out)).kept.below⟩

set_option maxRecDepth 100000 in
theorem cmpturn_lifted (os : Os) (started : os.Started) (H : Type) (enc : TypeId × Value → H) :
    ReturnsInHanded {} Try.checked os 8 .any (Rows.compareTurnedSpec.pre6 enc Try.prog Try.f8 Rows.compareTurnedRow.domain false) (Rows.compareTurnedSpec.post enc Try.prog Try.f8 false true false false) := by
  refine returnsInHanded_of_change_sized (C := Try.checked) own started (by kernel_rfl) Try.func8
    (ChangeSpec.witness6 (enc := enc) (C := Try.checked) false ⟨#[], #[.agg #[.bool false, .bool false], .int .u8 0, .slice none 0 0, .slice none 0 0], []⟩ 8 (by kernel_rfl) (by kernel_rfl) (by kernel_rfl) (by kernel_rfl)) ?_
  intro W base args ds gs before hval0 hW _ hsz0 _
  have hval : ∀ (j : Nat) t v, Try.f8.params[j]? = some t → args[j]? = some v → Value.okWide Try.prog W .any base t v := hval0
  have hend := fun W' (hb : Below W.heap.size W W') => law_post (s := Rows.compareTurnedSpec) (fn := Try.f8) laidOut (by kernel_rfl) rfl ⟨4, rfl, Try.underlying4⟩ (fun l hl => by match l, hl with | [_, _, _, _], _ => rfl) hW hb
  obtain ⟨p, q, hA0, hV, rfl, hfz, hnd⟩ := hW
  have hA : DataW.TrodAll enc Try.prog W 0 (fun _ => true) true Try.f8.params.toList args.toList ds p := hA0
  have hsz : (DataW.weightsEach Try.prog (Try.f8.params.toList ++ Rows.compareTurnedSpec.plain.varTypes Try.prog) (ds ++ gs)).all (· ≤ reachBytes) = true := hsz0
  rw [Try.params8] at hA hval hsz
  obtain ⟨v0, vs0, d0, ds0, p0, q0, hargs, rfl, rfl, h0, r0⟩ := trodAll_cons hA
  obtain ⟨v1, vs1, d1, ds1, p1, q1, rfl, rfl, rfl, h1, r1⟩ := trodAll_cons r0
  obtain ⟨v2, vs2, d2, ds2, p2, q2, rfl, rfl, rfl, h2, r2⟩ := trodAll_cons r1
  obtain ⟨v3, vs3, d3, ds3, p3, q3, rfl, rfl, rfl, h3, r3⟩ := trodAll_cons r2
  obtain ⟨rfl, rfl, rfl⟩ := trodAll_nil r3
  obtain rfl : args = #[v0, v1, v2, v3] := by cases args; simp_all
  obtain ⟨rfl, rfl⟩ := trodVars_none hV
  obtain ⟨oa0, ob0, rfl⟩ := open_opts (hval 0 32 v0 rfl rfl) h0 (Sized.arg (j := 0) hsz rfl rfl)
  obtain ⟨a1, rfl, rfl, rfl, f1⟩ := open_int Try.underlying5 (hval 1 5 v1 rfl rfl) h1
  obtain ⟨a1, rfl, w1⟩ := wf_nat (m := 256) rfl rfl f1
  obtain ⟨a2, cap2, l2, rfl, hc2, hs2, hm2, hd2⟩ := open_nats (m := 18446744073709551616) Try.underlying48 Try.underlying45 (by kernel_rfl) rfl rfl (hval 2 48 v2 rfl rfl) h2
  have z2 := cap_reach (bytes := 8) (j := 2) hsz rfl rfl Try.underlying48 (by kernel_rfl) hd2
  obtain ⟨a3, cap3, l3, rfl, hc3, hs3, hm3, hd3⟩ := open_nats (m := 18446744073709551616) Try.underlying48 Try.underlying45 (by kernel_rfl) rfl rfl (hval 3 48 v3 rfl rfl) h3
  have z3 := cap_reach (bytes := 8) (j := 3) hsz rfl rfl Try.underlying48 (by kernel_rfl) hd3
  refine (cmpturn_walk oa0 ob0 a1 a2 cap2 l2 a3 cap3 l3 W w1 hc2 z2 hs2 hm2 hc3 z3 hs3 hm3).mono fun e W' ⟨he, hb⟩ => ?_
  subst he
  exact hend W' hb

theorem cmpturn_over : Rows.compareTurnedRow.holds Try.pinned (OpenSpec.ofChange Rows.compareTurnedSpec) :=
  OpenClaim.holds_of_wide 8 Try.f8 rfl rfl rfl rfl rfl rfl rfl ⟨rfl, rfl, rfl, rfl, rfl⟩ rfl rfl rfl rfl rfl (by kernel_rfl) Try.func8 (by kernel_rfl)
    (of_decide_eq_true (by kernel_rfl)) (by unfold Func.isWrapper; first | (rw [if_pos (by decide +kernel)]; kernel_rfl) | (rw [if_neg (by decide +kernel)]; exact ⟨rfl, rfl⟩))
    (fun os started H enc _ => cmpturn_lifted os started H enc)

theorem compareTurned_holds : Rows.CompareTurnedSaid := cmpturn_over
end Go.Proofs.Ytfngfoabknbgdaa
