/-
  Law 09: TraceForm: the walk.
-/
import Derived.Test.YtjgcfncganleoaaDoorTfA
import Derived.Test.YtjgcfncganleoaaDoorTdT
import Derived.Deep.RegionHeld3
import Derived.BigRegion
import Derived.BigQuiet
namespace Go.Proofs.YtjgcfncganleoaaDoor
open Go.ChangeShapes Go.WideShapes Go.ChangeAt Go.RowKit
set_option linter.unusedVariables false
set_option linter.unusedSimpArgs false

variable {w w' w1 W : World}
theorem TxtAt.take {a : Option Addr} {c : Nat} {s : List UInt8} (h : TxtAt w a c s) (m : Nat) : TxtAt w a c (s.take m) :=
  ⟨fun k hk => by
    have hk' : k < s.length := by rw [List.length_take] at hk; omega
    obtain ⟨ad, h1, h2⟩ := h.txt k hk'
    exact ⟨ad, h1, by rw [List.getElem_take]; exact h2⟩, by rw [List.length_take]; have := h.cp; omega⟩
theorem own_at {B n g cap : Nat} {l : List UInt8} (h : w.ownsRow B 5 1 (.slice (some ⟨g, 0, none⟩) n cap) n (Lib.byteCells l)) (hl : l.length = n) : TxtAt w (some ⟨g, 0, none⟩) cap l :=
  ⟨fun k hk => ⟨_, rfl, World.ownsRow.cells h (g := g) rfl k _ (by simp [Lib.byteCells, List.getElem?_eq_getElem hk])⟩, by
    rcases h.2 with ⟨hv, _⟩ | ⟨g', c', cur, hv, _, _, hc, _⟩
    · injection hv with hv; exact absurd hv (by simp)
    · injection hv with _ _ hv; omega⟩
theorem put_few_len {F : Tb} (hm : mayT F = true) (hok : F.ok) (h : F.rs.length ≤ 30) : (putTx F).length ≤ 1240000 := by
  have := putTo_len hm hok F.rs.length (Nat.le_refl _)
  unfold putTx
  omega
theorem may_ok {u : Tb} (h : mayT u = true) : u.ok := by
  obtain ⟨h1, h2, h3, h4, h5⟩ := (mayT_iff u).1 h
  refine ⟨by omega, by omega, fun b hb => ?_, fun r hr => ⟨fun n hn => ?_, by rw [okR_len (h4 r hr)]; omega⟩⟩
  · obtain ⟨k, hk, rfl⟩ := List.getElem_of_mem hb
    have := may_bus h k hk
    omega
  · obtain ⟨k, hk, rfl⟩ := List.getElem_of_mem hn
    have hl := okR_len (h4 r hr)
    have h6 := okR_get (h4 r hr) k (by omega)
    rw [List.getD_eq_getElem?_getD, List.getElem?_eq_getElem hk, Option.getD_some] at h6
    have hw := okB_width u.bs [] h3 _ (List.getElem_mem (show k < u.bs.length by omega))
    have : 2 ^ (u.bs[k]'(by omega)).2.toNat ≤ 2 ^ 64 := Nat.pow_le_pow_right (by omega) (by omega)
    omega
theorem own_zero {B n size : Nat} {e : TypeId} {v : Value} {xs : List Value} (h : w.ownsRow B e size v n xs) : w.ownsRow 0 e size v n xs := by
  refine ⟨h.1, ?_⟩
  rcases h.2 with h1 | ⟨g, c, cur, h1, _, h2⟩
  · exact .inl h1
  · exact .inr ⟨g, c, cur, h1, Nat.zero_le _, h2⟩
theorem byte_info : (Tryd.prog.info? 5).map (fun i => (i.zero, i.size, i.bytes)) = some (some (.int .u8 0), 1, 1) := by kernel_rfl
theorem last_at {s : List UInt8} {k : Nat} (h : (s.take k).getLast? = some 10) (hk : k ≤ s.length) : ∃ k1, ∃ hk1 : k = k1 + 1, s[k1]'(by omega) = 10 := by
  have h0 : 0 < k := by
    rcases Nat.eq_zero_or_pos k with h0 | h0
    · subst h0; simp at h
    · exact h0
  rw [getLast_take s h0 hk, List.getElem?_eq_getElem (by omega)] at h
  injection h with h
  exact ⟨k - 1, by omega, h⟩
theorem put_pos {u : Tb} (h : mayT u = true) : 0 < (putTx u).length := by
  rw [putTx_parts h]
  obtain ⟨c, t, hct⟩ := partsTx_ne (l := u.bs.map busTx) (by simpa using ((mayT_iff u).1 h).1)
  rw [hct]
  simp
theorem put_vals {F : Tb} {e : Ending} (h : PutPost F W e w) : ∃ (v : Value) (er : Int), e = .returned (.tuple #[v, .int .i64 er]) ∧ ((mayT F = false ∧ v = .slice none 0 0 ∧ er = 1) ∨ (mayT F = true ∧ er = 0 ∧ w.ownsRow W.heap.size 5 1 v (putTx F).length (Lib.byteCells (putTx F)))) ∧ Kept [] W w := by
  rcases h with ⟨h1, rfl, hk⟩ | ⟨h1, v, rfl, ho, hb⟩
  · exact ⟨_, _, rfl, .inl ⟨h1, rfl, rfl⟩, hk⟩
  · exact ⟨_, _, rfl, .inr ⟨h1, rfl, ho⟩, .of_below hb⟩
theorem tf_store {n : Nat} {F : Tb} {x1 r1 : Option Addr} {e1 q1 : Nat} {l1 : List WR} {y z : Value} (hb : w.heap[n]? = some (.cells #[y, z] 25 (0, 0))) (ht : TabN w x1 F.bs.length e1 r1 F.rs.length q1 F l1) (hk : Kept [] W w) (hn : W.heap.size ≤ n) :
    ((w.setCell ⟨n, 0, none⟩ (.slice x1 F.bs.length e1)).setCell ⟨n, 1, none⟩ (.slice r1 F.rs.length q1)).heap[n]? = some (.cells #[.slice x1 F.bs.length e1, .slice r1 F.rs.length q1] 25 (0, 0)) ∧ TabN ((w.setCell ⟨n, 0, none⟩ (.slice x1 F.bs.length e1)).setCell ⟨n, 1, none⟩ (.slice r1 F.rs.length q1)) x1 F.bs.length e1 r1 F.rs.length q1 F l1 ∧ Kept [] W ((w.setCell ⟨n, 0, none⟩ (.slice x1 F.bs.length e1)).setCell ⟨n, 1, none⟩ (.slice r1 F.rs.length q1)) := by
  have a1 := blk_set hb 0 (.slice x1 F.bs.length e1)
  have a2 := blk_set (by simpa using a1) 1 (.slice r1 F.rs.length q1)
  have k1 : Kept [n] w ((w.setCell ⟨n, 0, none⟩ (.slice x1 F.bs.length e1)).setCell ⟨n, 1, none⟩ (.slice r1 F.rs.length q1)) := ((Kept.refl [n] _).setCell (p := ⟨n, 0, none⟩) (.inl (by simp)) _).setCell (p := ⟨n, 1, none⟩) (.inl (by simp)) _
  exact ⟨by simpa using a2, ht.kept k1 (fun b hb' => by simp [ht.apart hb b hb']), kept_mix hk k1 (by simpa using hn)⟩
set_option maxHeartbeats 3200000 in
set_option maxRecDepth 100000 in
theorem tf_c (ba : Option Addr) (bc : Nat) (ra : Option Addr) (rc : Nat) (t : Tb) (wl : List WR) (aa : Option Addr) (ac : Nat) (any : List UInt8) (cut : Nat) (W : World) (hv : TabV W ba t.bs.length bc ra wl.length rc t wl) (hok : t.ok) (ha : TxtAt W aa ac any) (hal : any.length ≤ 140737488351232) (hcut : cut < 65536) (hg : W.cell? ⟨3, 15, none⟩ = some (.int .u8 4)) :
    Calls Tryd.prog 7 #[.agg #[.slice ba t.bs.length bc, .slice ra wl.length rc], .slice aa any.length ac, .int .u16 (cut : Int)] W (BoolIs true W) := by
  have HG := Lib.hid hg
  obtain ⟨bn, hbn⟩ : ∃ n, n = t.bs.length := ⟨_, rfl⟩
  obtain ⟨rn, hrn⟩ : ∃ n, n = wl.length := ⟨_, rfl⟩
  rw [← hbn, ← hrn] at hv ⊢
  have HV := Lib.hid hv
  obtain ⟨an, han⟩ : ∃ n, n = any.length := ⟨_, rfl⟩
  have HAN := Lib.hid han
  obtain ⟨m, hm⟩ : ∃ m, m = min an 2000 := ⟨_, rfl⟩
  have HLT := Lib.hid (show TxtAt W aa ac (any.take m) from ha.take m)
  have HLM := Lib.hid (show (any.take m).length = m from by rw [List.length_take]; omega)
  have hac : an ≤ ac := han ▸ ha.cp
  rw [← han] at hal ⊢
  have hW1 := (show Kept [] W (W.alloc (.cells #[.slice ba bn bc, .slice ra rn rc] 25)) from (Kept.refl [] W).alloc _)
  have hb0 : (W.alloc (.cells #[.slice ba bn bc, .slice ra rn rc] 25)).heap[W.heap.size]? = some (.cells #[.slice ba bn bc, .slice ra rn rc] 25 (0, 0)) := heap_new _ _
  have hn0 := Nat.le_refl W.heap.size
  clear hv hg hbn hrn ha han
  go_enter Tryd.func7, Tryd.ntmps7
  go_wp2_with fail
  generalize (W.alloc (.cells #[.slice ba bn bc, .slice ra rn rc] 25)) = wr at *
  obtain ⟨n, hn⟩ : ∃ n, n = W.heap.size := ⟨_, rfl⟩
  rw [← hn] at hb0 ⊢
  have HN := Lib.hid hn
  have K1 := Lib.hid hW1
  have B0 := Lib.hid hb0
  have c0 : wr.cell? ⟨n, 0, none⟩ = some (.slice ba bn bc) := blk_cell hb0 0
  have c1 : wr.cell? ⟨n, 1, none⟩ = some (.slice ra rn rc) := blk_cell hb0 1
  have HF := Lib.hid (fun V (hV : Kept [] wr V) => few_c ((HV.out.kept0 K1.out).kept0 hV) hok)
  clear hW1 hb0 hn hn0
  go_cut [1] (fun s1 wx => ∃ x1 e1 r1 q1 l1, s1 = .slice aa m ac ∧ wx.heap[n]? = some (.cells #[.slice x1 (fewT t).bs.length e1, .slice r1 (fewT t).rs.length q1] 25 (0, 0)) ∧ TabN wx x1 (fewT t).bs.length e1 r1 (fewT t).rs.length q1 (fewT t) l1 ∧ Kept [] W wx)
  case first =>
    have hmin : min (an : Int) 2000 = (m : Int) := by omega
    have hmac : m ≤ ac := by omega
    clear hm
    go_wp2_with fail
    refine wp_region_held_drew (S := fun _ => True) (by kernel_rfl) ?_ (fun hHeld => ?_)
    · try dsimp only
      all_goals trivial
    refine wpAnyH_take (i := 2) (v := ?_) rfl (by kernel_rfl) (by kernel_rfl) (by kernel_rfl) (fun _ _ _ h => h) (Or.inl ⟨by rfl, ?_⟩) (by assumption) ?_
    rotate_left
    · intro w hSw; (try dsimp only at hSw); go_simp
      all_goals with_reducible rfl
    try simp only [Act.put, List.setIfInBounds_toArray, List.set_cons_zero, List.set_cons_succ]
    refine wpAnyH_take (i := 3) (v := ?_) rfl (by kernel_rfl) (by kernel_rfl) (by kernel_rfl) (fun _ _ _ h => h) (Or.inl ⟨by rfl, ?_⟩) (by assumption) ?_
    rotate_left
    · intro w hSw; (try dsimp only at hSw); go_simp
      all_goals with_reducible rfl
    try simp only [Act.put, List.setIfInBounds_toArray, List.set_cons_zero, List.set_cons_succ]
    refine wpAnyH_take (i := 4) (v := ?_) rfl (by kernel_rfl) (by kernel_rfl) (by kernel_rfl) (fun _ _ _ h => h) (Or.inl ⟨by rfl, ?_⟩) (by assumption) ?_
    rotate_left
    · intro w hSw; (try dsimp only at hSw); go_simp
      all_goals with_reducible rfl
    try simp only [Act.put, List.setIfInBounds_toArray, List.set_cons_zero, List.set_cons_succ]
    refine wpAnyH_take (i := 5) (v := ?_) rfl (by kernel_rfl) (by kernel_rfl) (by kernel_rfl) (fun _ _ _ h => h) (Or.inl ⟨by rfl, ?_⟩) (by assumption) ?_
    rotate_left
    · intro w hSw; (try dsimp only at hSw); go_simp
      all_goals with_reducible rfl
    try simp only [Act.put, List.setIfInBounds_toArray, List.set_cons_zero, List.set_cons_succ]
    refine wpAnyH_take (i := 6) (v := ?_) rfl (by kernel_rfl) (by kernel_rfl) (by kernel_rfl) (fun _ _ _ h => h) (Or.inl ⟨by rfl, ?_⟩) (by assumption) ?_
    rotate_left
    · intro w hSw; (try dsimp only at hSw); go_simp
      all_goals with_reducible rfl
    try simp only [Act.put, List.setIfInBounds_toArray, List.set_cons_zero, List.set_cons_succ]
    refine wpAnyH_ready (rs := [0]) (by kernel_rfl) (by simp) ?_
    refine AllReadyH.cons rfl (fun K hK => ?_) ?_
    · go_simp
      refine hK.out _ _ ?_ (fun hHeld => ?_)
      · trivial
      clear hK K
      try simp only [Act.put, List.setIfInBounds_toArray, List.set_cons_zero, List.set_cons_succ]
      refine wpAnyH_ready (rs := [1]) (by kernel_rfl) (by simp) ?_
      refine AllReadyH.cons rfl (fun K hK => ?_) ?_
      · go_simp
        go_at_call 9
        refine (HF.out _ ((Kept.refl [] wr).drew)).mono ?_
        rintro e u1 ⟨x1, e1, r1, q1, l1, rfl, ht1, hk1, hn1⟩
        have kv : Kept [] wr u1 := ((Kept.refl [] wr).drew).trans hk1
        have hb1 := kv.heap B0.out (by simp)
        have d0 := blk_cell hb1 0
        have d1 := blk_cell hb1 1
        have z0 := blk_free hb1 0
        have z1 := blk_free hb1 1
        have HB1 := Lib.hid hb1
        have HT1 := Lib.hid ht1
        have KV := Lib.hid kv
        clear hb1 ht1 kv hn1
        refine hK.out _ _ ?_ (fun hHeld => ?_)
        · trivial
        clear hK K
        try simp only [Act.put, List.setIfInBounds_toArray, List.set_cons_zero, List.set_cons_succ]
        refine wpAnyH_ready (rs := [7]) (by kernel_rfl) (by simp) ?_
        refine AllReadyH.cons rfl (fun K hK => ?_) ?_
        · go_simp
          refine hK.out _ _ ?_ (fun hHeld => ?_)
          · trivial
          clear hK K
          try simp only [Act.put, List.setIfInBounds_toArray, List.set_cons_zero, List.set_cons_succ]
          refine wpAnyH_ready (rs := [8]) (by kernel_rfl) (by simp) ?_
          refine AllReadyH.cons rfl (fun K hK => ?_) ?_
          · go_simp
            refine hK.out _ _ ?_ (fun hHeld => ?_)
            · trivial
            clear hK K
            try simp only [Act.put, List.setIfInBounds_toArray, List.set_cons_zero, List.set_cons_succ]
            refine wpAnyH_done (by kernel_rfl) ?_ _
            go_wp2_with fail
            go_meet
            exact ⟨x1, e1, r1, q1, l1, rfl, tf_store HB1.out HT1.out (K1.out.trans KV.out) (Nat.le_of_eq HN.out.symm)⟩
          exact AllReadyH.nil
        exact AllReadyH.nil
      exact AllReadyH.nil
    exact AllReadyH.nil
  case rest =>
    obtain ⟨x1, e1, r1, q1, l1, rfl, hb, ht, hk⟩ := hcut
    have hok2 := few_ok hok
    have hln := fewT_lens t
    have HOK := Lib.hid hok2
    have HLN := Lib.hid hln
    have hpc := put_c wc ht.tabV hok2 (hk.cell HG.out (by simp))
    generalize fewT t = F at *
    obtain ⟨fb, hfb⟩ : ∃ n, n = F.bs.length := ⟨_, rfl⟩
    obtain ⟨fr, hfr⟩ : ∃ n, n = F.rs.length := ⟨_, rfl⟩
    have HPC := Lib.hid hpc
    have HVF := Lib.hid ht.tabV
    have c0 := blk_cell hb 0
    have c1 := blk_cell hb 1
    have hfb20 : fb ≤ 20 := by rw [hfb]; exact hln.1
    have hfr30 : fr ≤ 30 := by rw [hfr]; exact hln.2.1
    rw [← hfb] at HPC HVF c0
    rw [← hfr] at HPC HVF c1
    have HFB := Lib.hid hfb
    have HFR := Lib.hid hfr
    have HK := Lib.hid hk
    have hmm : m ≤ 2000 := by omega
    clear hb ht hk hok hok2 hln hpc hfb hfr hm
    go_wp2_with fail
    refine HPC.out.mono ?_
    intro e w3 hp
    obtain ⟨v, er, rfl, hpv, hk3⟩ := put_vals hp
    have HPV := Lib.hid hpv
    have K3 := Lib.hid hk3
    have c0 := hk3.cell c0 (by simp)
    have c1 := hk3.cell c1 (by simp)
    have HM := Lib.hid (may_c (HVF.out.kept0 hk3) HOK.out)
    clear hp hpv hk3
    go_upto_region 3 with (fail)
    go_cut [50] (fun s wx => s = .bool false ∧ Kept [] w3 wx)
    case first =>
      rcases HPV.out with ⟨hmf, rfl, rfl⟩ | ⟨hmt, rfl, _⟩
      · have HMF := Lib.hid hmf
        clear hmf
        go_wp2_with fail
        refine HM.out.mono ?_
        rintro e w4 ⟨rfl, k4⟩
        rw [HMF.out]
        have K4 := Lib.hid k4
        clear k4
        go_wp2_with fail
        go_meet
        exact ⟨rfl, K4.out⟩
      · have HMT := Lib.hid hmt
        clear hmt
        go_wp2_with fail
        refine HM.out.mono ?_
        rintro e w4 ⟨rfl, k4⟩
        rw [HMT.out]
        have K4 := Lib.hid k4
        clear k4
        go_wp2_with fail
        go_meet
        exact ⟨rfl, K4.out⟩
    case rest =>
      obtain ⟨rfl, hk4⟩ := hcut
      obtain ⟨w4, rfl⟩ : ∃ v : World, v = wc := ⟨_, rfl⟩
      have K4 := Lib.hid (K3.out.trans hk4)
      have KP4 := Lib.hid hk4
      have c0 := hk4.cell c0 (by simp)
      have c1 := hk4.cell c1 (by simp)
      clear hk4
      go_upto_if 52 with (fail)
      go_cut [1] (fun s wx => s = .slice aa m ac ∧ Kept [] w4 wx)
      case first =>
        rcases HPV.out with ⟨hmf, rfl, rfl⟩ | ⟨hmt, rfl, hown⟩
        · clear hmf
          go_wp2_with fail
          go_meet
          exact ⟨rfl, .refl _ _⟩
        · as_aux_lemma =>
          obtain ⟨L, hL⟩ : ∃ L, L = (putTx F).length := ⟨_, rfl⟩
          have hLp : 0 < L := hL ▸ put_pos hmt
          have hLm : L ≤ 1240000 := by rw [hL]; exact put_few_len hmt HOK.out HLN.out.2.1
          rw [← hL] at hown
          obtain ⟨gv, cv, rfl, _⟩ := own_txt hown hL.symm hLp
          have HB4 := Lib.hid ((own_at hown hL.symm).kept KP4.out (by simp))
          have hLc : L ≤ cv := by have := HB4.out.cp; rw [← hL] at this; exact this
          have HMT := Lib.hid hmt
          have HLL := Lib.hid hL
          have hget := get_c w4 HB4.out
          rw [show getT (putTx F) = .ok F from by unfold getT; rw [if_neg (by rw [← hL]; omega)]; exact tableT_put hmt, ← hL] at hget
          have HGET := Lib.hid hget
          have HBIG := Lib.hid (show ∀ l : List UInt8, l.length ≤ L + 1 → getT l = tableT l from fun l hl => by unfold getT; rw [if_neg (by omega)])
          clear hmt hown hL hget
          go_wp2_with fail
          refine HGET.out.mono ?_
          intro e w5 hp
          obtain ⟨x2, e2, r2, n2, q2, l2, rfl, ht2, k5, _, _, _⟩ := hp
          rw [← HFB.out] at ht2 ⊢
          have HT2 := Lib.hid ht2
          have KA := Lib.hid (show Kept [] w4 (w5.alloc (.cells #[.slice x2 fb e2, .slice r2 n2 q2] 25)) from k5.alloc _)
          have HB5 := Lib.hid (heap_new w5 (.cells #[.slice x2 fb e2, .slice r2 n2 q2] 25))
          obtain ⟨k, hk⟩ : ∃ k, k = cut % L := ⟨_, rfl⟩
          have hki : (cut : Int) % (L : Int) = (k : Int) := by rw [hk]; simp
          have hkL : k < L := hk ▸ Nat.mod_lt _ hLp
          have hmax : max (L : Int) 1 = (L : Int) := by omega
          have hLi : (0 : Int) < (L : Int) := by omega
          clear ht2 k5 hk
          have hB6 := HB4.out.kept KA.out (by simp)
          have htk := hB6.take k
          have hkl : ((putTx F).take k).length = k := by rw [List.length_take, ← HLL.out]; omega
          have hg8 := get_c _ htk
          rw [hkl, HBIG.out _ (by rw [hkl]; omega)] at hg8
          have HG8 := Lib.hid hg8
          have HCUT := Lib.hid (cut_law HMT.out (k := k) (by rw [← HLL.out]; omega))
          have HTK := Lib.hid htk
          have HKL := Lib.hid hkl
          clear hB6 htk hkl hg8
          go_wp2_with fail
          rw [hki]
          clear hki hmax hLi
          refine HG8.out.mono ?_
          intro e w7 hp
          rcases HCUT.out with ⟨hlast, j, hj, hcnt, htab⟩ | ⟨hlast, htab⟩
          · rw [htab] at hp
            obtain ⟨x3, e3, r3, n3, q3, l3, rfl, ht3, k7, _, _, _⟩ := hp
            have ht3b : TabN w7 x3 fb e3 r3 n3 q3 ⟨F.bs, F.rs.take j⟩ l3 := HFB.out.symm ▸ ht3
            rw [show (⟨F.bs, F.rs.take j⟩ : Tb).bs.length = fb from HFB.out.symm]
            have HT3 := Lib.hid ht3b
            have K7 := Lib.hid (KA.out.trans (k7.alloc (.cells #[.slice x3 fb e3, .slice r3 n3 q3] 25)))
            have HB7 := Lib.hid (heap_new w7 (.cells #[.slice x3 fb e3, .slice r3 n3 q3] 25))
            have HB57 := Lib.hid ((k7.alloc (.cells #[.slice x3 fb e3, .slice r3 n3 q3] 25)).heap HB5.out (by simp))
            have KB5 := Lib.hid (((Kept.refl [] w5).alloc (.cells #[.slice x2 fb e2, .slice r2 n2 q2] 25)).trans (k7.alloc (.cells #[.slice x3 fb e3, .slice r3 n3 q3] 25)))
            have HLAST := Lib.hid hlast
            have HJ := Lib.hid (And.intro hj hcnt)
            have hj30 : j ≤ fr := by rw [HFR.out]; exact hj
            clear ht3 ht3b k7 hlast hj hcnt htab
            have hcl := clone_c (w7.alloc (.cells #[.slice x3 fb e3, .slice r3 n3 q3] 25)) (HB4.out.kept K7.out (by simp)) (by rw [← HLL.out]; omega)
            rw [← HLL.out] at hcl
            have HCL := Lib.hid hcl
            have hz8 := K7.out.size
            have HZ8 := Lib.hid hz8
            clear hcl hz8
            go_wp2_with fail
            refine HCL.out.mono ?_
            rintro e w9 ⟨v9, rfl, hown9, hb9⟩
            obtain ⟨g9, c9, rfl, hg9⟩ := own_txt hown9 HLL.out.symm hLp
            have HOW9 := Lib.hid (own_zero hown9)
            have KB9 := Lib.hid (Kept.of_below hb9)
            have HG9 := Lib.hid (Nat.le_trans HZ8.out hg9)
            have HGX := Lib.hid hg9
            clear hown9 hb9 hg9
            go_wp2_with (at_builtin; refine wpList_push2 (w := w9) (news := [.int .u8 45]) rfl rfl Tryd.underlying44 byte_info rfl (by omega) rfl rfl rfl HOW9.out rfl (by simp [Value.oneCell']) (by unfold maxLen; omega) (by omega) rfl ?_; intro a10 c10 w10 hown10 hst10)
            have K10 := Lib.hid (show Kept [] w4 w10 from kept_mix (K7.out.trans KB9.out) hst10.kept (fun b hb => .inr (by simp [ft] at hb; rw [hb]; exact HG9.out)))
            have KA10 := Lib.hid (show Kept [] (w7.alloc (.cells #[.slice x3 fb e3, .slice r3 n3 q3] 25)) w10 from kept_mix KB9.out hst10.kept (fun b hb => .inr (by simp [ft] at hb; rw [hb]; exact HGX.out)))
            obtain ⟨g10, rfl⟩ := Own.form hown10 (by omega)
            have hl10 : (putTx F ++ [45]).length = L + 1 := by rw [List.length_append, ← HLL.out]; rfl
            have hbc : Lib.byteCells (putTx F ++ [45]) = Lib.byteCells (putTx F) ++ [.int .u8 45] := by simp [Lib.byteCells]
            rw [← hbc] at hown10
            have hg11 := get_c w10 (own_at hown10 hl10)
            rw [hl10, HBIG.out _ (Nat.le_of_eq hl10), tableT_dash HMT.out] at hg11
            have HG11 := Lib.hid hg11
            clear hown10 hst10 hl10 hbc hg11
            go_wp2_with fail
            refine HG11.out.mono ?_
            rintro e w11 ⟨rfl, k11⟩
            have K12 := Lib.hid (K10.out.trans (k11.alloc (.cells #[.slice none 0 0, .slice none 0 0] 25)))
            have KA12 := Lib.hid (KA10.out.trans (k11.alloc (.cells #[.slice none 0 0, .slice none 0 0] 25)))
            have c0 := K12.out.cell c0 (by simp)
            have c1 := K12.out.cell c1 (by simp)
            have hb12 := KA12.out.heap HB57.out (by simp)
            have s0 := blk_cell hb12 0
            have s1 := blk_cell hb12 1
            have HSM := Lib.hid (tsame_c (HVF.out.kept0 (K4.out.trans K12.out)) HOK.out ((HT2.out.kept0 (KB5.out.trans KA12.out)).tabV) HOK.out)
            have HSM := Lib.hid (show _ from (by have h := HSM.out; rw [show sameT F F = true from (sameT_iff F F).2 rfl] at h; exact h) : Calls _ _ _ _ (BoolIs true _))
            clear k11 hb12
            go_wp2_with fail
            refine HSM.out.mono ?_
            rintro e w13 ⟨rfl, k13⟩
            have K13 := Lib.hid (K12.out.trans k13)
            have KA13 := Lib.hid (KA12.out.trans k13)
            have c0 := k13.cell c0 (by simp)
            have c1 := k13.cell c1 (by simp)
            have HB14 := Lib.hid (((HB4.out.kept K13.out (by simp)).take k).kept ((Kept.refl [] w13).alloc (.cells #[.int .u8 10] 5)) (by simp))
            have hco := count_c (d := 1) _ HB14.out (blk_cell (heap_new w13 (.cells #[.int .u8 10] 5)) 0)
            rw [HKL.out] at hco
            obtain ⟨cn, hcn⟩ : ∃ cn, cn = ((putTx F).take k).count 10 := ⟨_, rfl⟩
            rw [← hcn] at hco
            have HCO := Lib.hid hco
            have hcnk : cn ≤ k := by rw [hcn]; have h := List.count_le_length (a := (10 : UInt8)) (l := (putTx F).take k); rw [HKL.out] at h; exact h
            have hcj : (cn : Int) - 1 = (j : Int) := by have := HJ.out.2; omega
            obtain ⟨k1, hk1, hb1⟩ := last_at HLAST.out (by rw [← HLL.out]; omega)
            have hk1i : (k : Int) - 1 = (k1 : Int) := by omega
            have hk0 : 0 < k := by omega
            have hk1L : k1 < L := by omega
            obtain ⟨adv, hadv, hvc⟩ := (HB4.out.kept (K13.out.trans ((Kept.refl [] w13).alloc (.cells #[.int .u8 10] 5))) (by simp)).txt k1 (by rw [← HLL.out]; exact hk1L)
            injection hadv with hadv
            subst hadv
            rw [add_at, hb1] at hvc
            simp only [Nat.zero_add] at hvc
            have hvc : (w13.alloc (.cells #[.int .u8 10] 5)).cell? ⟨gv, k1, none⟩ = some (.int .u8 10) := hvc
            clear hk1 hb1 hco hcn k13
            go_wp2_with fail
            refine HCO.out.mono ?_
            rintro e w15 ⟨rfl, rfl⟩
            have KZ := (show Kept [] w13 (w13.alloc (.cells #[.int .u8 10] 5)) from (Kept.refl [] w13).alloc _)
            have c0 := KZ.cell c0 (by simp)
            have c1 := KZ.cell c1 (by simp)
            have hb7z := (KA13.out.trans KZ).heap HB7.out (by simp)
            have y0 := blk_cell hb7z 0
            have y1 := blk_cell hb7z 1
            have HVZ := Lib.hid ((HVF.out.kept0 (K4.out.trans (K13.out.trans KZ))).less hj30)
            have HTZ := Lib.hid ((HT3.out.kept0 ((((Kept.refl [] w7).alloc (.cells #[.slice x3 fb e3, .slice r3 n3 q3] 25))).trans (KA13.out.trans KZ))).tabV)
            have K14 := Lib.hid (K13.out.trans KZ)
            have hfrq : fr ≤ q1 := HVF.out.rk
            have hjq : j ≤ q1 := by omega
            have hfj : decide (fr < j) = false := decide_eq_false (by omega)
            have hfj2 : ¬ (fr : Int) < (j : Int) := by omega
            have hj0 : decide ((j : Int) < 0) = false := decide_eq_false (by omega)
            have hj02 : ¬ (j : Int) < 0 := by omega
            have hss := (sameT_iff (⟨F.bs, F.rs.take j⟩ : Tb) ⟨F.bs, F.rs.take j⟩).2 rfl
            have HSS := Lib.hid hss
            generalize (w13.alloc (.cells #[.int .u8 10] 5)) = wz at *
            clear KZ hb7z hss hvc
            go_wp2_with fail
            have KB := Kept.refl [] wz
            go_region_held3 (fun W => W.cell? ⟨n, 0, none⟩ = some (.slice x1 fb e1) ∧ W.cell? ⟨n, 1, none⟩ = some (.slice r1 fr q1) ∧ W.cell? ⟨w7.heap.size, 0, none⟩ = some (.slice x3 fb e3) ∧ W.cell? ⟨w7.heap.size, 1, none⟩ = some (.slice r3 n3 q3))
              (first | exact ⟨Kept.cell (F := []) (w := wz) (by (repeat (first | with_reducible exact KB | with_reducible apply Kept.drew | with_reducible apply Kept.drewN | with_reducible apply Kept.alloc))) c0 (by simp), Kept.cell (F := []) (w := wz) (by (repeat (first | with_reducible exact KB | with_reducible apply Kept.drew | with_reducible apply Kept.drewN | with_reducible apply Kept.alloc))) c1 (by simp), Kept.cell (F := []) (w := wz) (by (repeat (first | with_reducible exact KB | with_reducible apply Kept.drew | with_reducible apply Kept.drewN | with_reducible apply Kept.alloc))) y0 (by simp), Kept.cell (F := []) (w := wz) (by (repeat (first | with_reducible exact KB | with_reducible apply Kept.drew | with_reducible apply Kept.drewN | with_reducible apply Kept.alloc))) y1 (by simp)⟩ | go_keep)
              (first | (go_at_call 13; (with_reducible refine (tsame_c (HTZ.out.kept0 (?kk : Kept [] wz _)) (less_ok HOK.out) (HVZ.out.kept0 (?kk)) (less_ok HOK.out)).mono ?_); (case kk => (repeat (first | with_reducible exact KB | with_reducible apply Kept.drew | with_reducible apply Kept.drewN | with_reducible apply Kept.alloc))); rintro e w17 ⟨rfl, hk17⟩; have KB := (show Kept [] wz _ from (by (repeat (first | with_reducible exact KB | with_reducible apply Kept.drew | with_reducible apply Kept.drewN | with_reducible apply Kept.alloc)))).trans hk17))
            rw [HSS.out]
            go_wp2_with fail
            go_meet
            exact ⟨rfl, K14.out.trans KB⟩
          · rw [htab] at hp
            obtain ⟨rfl, k7⟩ := hp
            have K7 := Lib.hid (KA.out.trans (k7.alloc (.cells #[.slice none 0 0, .slice none 0 0] 25)))
            have HB57 := Lib.hid ((k7.alloc (.cells #[.slice none 0 0, .slice none 0 0] 25)).heap HB5.out (by simp))
            have KB5 := Lib.hid (((Kept.refl [] w5).alloc (.cells #[.slice x2 fb e2, .slice r2 n2 q2] 25)).trans (k7.alloc (.cells #[.slice none 0 0, .slice none 0 0] 25)))
            have HLAST := Lib.hid hlast
            clear k7 hlast htab
            have hcl := clone_c (w7.alloc (.cells #[.slice none 0 0, .slice none 0 0] 25)) (HB4.out.kept K7.out (by simp)) (by rw [← HLL.out]; omega)
            rw [← HLL.out] at hcl
            have HCL := Lib.hid hcl
            have hz8 := K7.out.size
            have HZ8 := Lib.hid hz8
            clear hcl hz8
            go_wp2_with fail
            refine HCL.out.mono ?_
            rintro e w9 ⟨v9, rfl, hown9, hb9⟩
            obtain ⟨g9, c9, rfl, hg9⟩ := own_txt hown9 HLL.out.symm hLp
            have HOW9 := Lib.hid (own_zero hown9)
            have KB9 := Lib.hid (Kept.of_below hb9)
            have HG9 := Lib.hid (Nat.le_trans HZ8.out hg9)
            have HGX := Lib.hid hg9
            clear hown9 hb9 hg9
            go_wp2_with (at_builtin; refine wpList_push2 (w := w9) (news := [.int .u8 45]) rfl rfl Tryd.underlying44 byte_info rfl (by omega) rfl rfl rfl HOW9.out rfl (by simp [Value.oneCell']) (by unfold maxLen; omega) (by omega) rfl ?_; intro a10 c10 w10 hown10 hst10)
            have K10 := Lib.hid (show Kept [] w4 w10 from kept_mix (K7.out.trans KB9.out) hst10.kept (fun b hb => .inr (by simp [ft] at hb; rw [hb]; exact HG9.out)))
            have KA10 := Lib.hid (show Kept [] (w7.alloc (.cells #[.slice none 0 0, .slice none 0 0] 25)) w10 from kept_mix KB9.out hst10.kept (fun b hb => .inr (by simp [ft] at hb; rw [hb]; exact HGX.out)))
            obtain ⟨g10, rfl⟩ := Own.form hown10 (by omega)
            have hl10 : (putTx F ++ [45]).length = L + 1 := by rw [List.length_append, ← HLL.out]; rfl
            have hbc : Lib.byteCells (putTx F ++ [45]) = Lib.byteCells (putTx F) ++ [.int .u8 45] := by simp [Lib.byteCells]
            rw [← hbc] at hown10
            have hg11 := get_c w10 (own_at hown10 hl10)
            rw [hl10, HBIG.out _ (Nat.le_of_eq hl10), tableT_dash HMT.out] at hg11
            have HG11 := Lib.hid hg11
            clear hown10 hst10 hl10 hbc hg11
            go_wp2_with fail
            refine HG11.out.mono ?_
            rintro e w11 ⟨rfl, k11⟩
            have K12 := Lib.hid (K10.out.trans (k11.alloc (.cells #[.slice none 0 0, .slice none 0 0] 25)))
            have KA12 := Lib.hid (KA10.out.trans (k11.alloc (.cells #[.slice none 0 0, .slice none 0 0] 25)))
            have c0 := K12.out.cell c0 (by simp)
            have c1 := K12.out.cell c1 (by simp)
            have hb12 := KA12.out.heap HB57.out (by simp)
            have s0 := blk_cell hb12 0
            have s1 := blk_cell hb12 1
            have HSM := Lib.hid (tsame_c (HVF.out.kept0 (K4.out.trans K12.out)) HOK.out ((HT2.out.kept0 (KB5.out.trans KA12.out)).tabV) HOK.out)
            have HSM := Lib.hid (show _ from (by have h := HSM.out; rw [show sameT F F = true from (sameT_iff F F).2 rfl] at h; exact h) : Calls _ _ _ _ (BoolIs true _))
            clear k11 hb12
            go_wp2_with fail
            refine HSM.out.mono ?_
            rintro e w13 ⟨rfl, k13⟩
            have K13 := Lib.hid (K12.out.trans k13)
            have KA13 := Lib.hid (KA12.out.trans k13)
            have c0 := k13.cell c0 (by simp)
            have c1 := k13.cell c1 (by simp)
            have HB14 := Lib.hid (((HB4.out.kept K13.out (by simp)).take k).kept ((Kept.refl [] w13).alloc (.cells #[.int .u8 10] 5)) (by simp))
            have hco := count_c (d := 1) _ HB14.out (blk_cell (heap_new w13 (.cells #[.int .u8 10] 5)) 0)
            rw [HKL.out] at hco
            obtain ⟨cn, hcn⟩ : ∃ cn, cn = ((putTx F).take k).count 10 := ⟨_, rfl⟩
            rw [← hcn] at hco
            have HCO := Lib.hid hco
            have hcnk : cn ≤ k := by rw [hcn]; have h := List.count_le_length (a := (10 : UInt8)) (l := (putTx F).take k); rw [HKL.out] at h; exact h
            have KZ := Lib.hid (K13.out.trans ((Kept.refl [] w13).alloc (.cells #[.int .u8 10] 5)))
            clear hco hcn k13
            by_cases hk0 : k = 0
            · have hk0i : ¬ (0 : Int) < (k : Int) := by omega
              have hk0n : ¬ 0 < k := by omega
              clear hk0
              go_wp2_with fail
              refine HCO.out.mono ?_
              rintro e w15 ⟨rfl, rfl⟩
              go_wp2_with fail
              go_meet
              exact ⟨rfl, KZ.out⟩
            · obtain ⟨k1, hk1⟩ : ∃ k1, k = k1 + 1 := ⟨k - 1, by omega⟩
              have hk1L : k1 < L := by omega
              have hk1i : (k : Int) - 1 = (k1 : Int) := by omega
              have hk0n : 0 < k := by omega
              have hkk : k1 < (putTx F).length := by rw [← HLL.out]; exact hk1L
              obtain ⟨y, hy⟩ : ∃ y, y = (putTx F)[k1] := ⟨_, rfl⟩
              have hyn : y ≠ 10 := fun h => HLAST.out (by
                rw [getLast_take _ hk0n (by rw [← HLL.out]; omega), show k - 1 = k1 from by omega, List.getElem?_eq_getElem hkk, ← hy, h])
              have hyt : ¬ y.toNat = 10 := fun h => by
                have h2 : y.toNat = (10 : UInt8).toNat := h
                exact hyn (UInt8.toNat_inj.1 h2)
              have hyi : ((y.toNat : Int) == 10) = false := beq_eq_false_iff_ne.2 (by omega)
              obtain ⟨adv, hadv, hvc⟩ := (HB4.out.kept KZ.out (by simp)).txt k1 hkk
              injection hadv with hadv
              subst hadv
              rw [add_at, ← hy] at hvc
              simp only [Nat.zero_add] at hvc
              have hvc : (w13.alloc (.cells #[.int .u8 10] 5)).cell? ⟨gv, k1, none⟩ = some (.int .u8 (y.toNat : Int)) := hvc
              clear hk0 hk1 hy hyn hkk
              go_wp2_with fail
              refine HCO.out.mono ?_
              rintro e w15 ⟨rfl, rfl⟩
              go_wp2_with fail
              go_meet
              exact ⟨rfl, KZ.out⟩
      case rest =>
        as_aux_lemma =>
        obtain ⟨rfl, hk5⟩ := hcut
        obtain ⟨w5, rfl⟩ : ∃ v : World, v = wc := ⟨_, rfl⟩
        have hk05 := HK.out.trans (K4.out.trans hk5)
        have hlt := HLT.out.kept hk05 (by simp)
        have hgc := get_c w5 hlt
        rw [HLM.out] at hgc
        have HGC := Lib.hid hgc
        have HLT5 := Lib.hid hlt
        have K5 := Lib.hid hk05
        clear hk5 hk05 hlt hgc
        have HW := Lib.hid (fun W' (hk : Kept [] W W') => wakes_c W' (hk.cell HG.out (by simp)))
        go_wp2_with fail
        refine HGC.out.mono ?_
        intro e w6 hp
        rcases hgt : getT (any.take m) with k | u
        · have hk45 : k = 4 ∨ k = 5 := by
            unfold getT at hgt
            rw [if_neg (by rw [HLM.out]; omega)] at hgt
            exact tableT_err hgt
          rw [hgt] at hp
          obtain ⟨rfl, k6⟩ := hp
          have K6 := Lib.hid (K5.out.trans k6)
          have ht0 : ∀ V, TabV V none 0 0 none 0 0 ⟨[], []⟩ [] := fun V => ⟨rfl, rfl, rfl, fun k hk => absurd hk (by simp), fun k hk => absurd hk (by simp), by simp, by simp, by simp⟩
          have HS0 := Lib.hid (fun V => tsame_c (ht0 V) ⟨by simp, by simp, by simp, by simp⟩ (ht0 V) ⟨by simp, by simp, by simp, by simp⟩)
          clear hgt k6 ht0
          rcases hk45 with rfl | rfl
          all_goals
            go_wp2_with fail
            refine (HS0.out _).mono ?_
            rintro e w7 ⟨rfl, k7⟩
            rw [show sameT ⟨[], []⟩ ⟨[], []⟩ = true from rfl]
            have K7 := Lib.hid ((K6.out.alloc (.cells #[.slice none 0 0, .slice none 0 0] 25)).trans k7)
            clear k7
            go_wp2_with fail
            refine (HW.out _ K7.out).mono ?_
            rintro e w8 ⟨rfl, k8⟩
            have K8 := Lib.hid (K7.out.trans k8)
            clear k8
            go_wp2_with fail
            go_ret
            exact ⟨rfl, K8.out⟩
        · have hinv : mayT u = true ∧ putTx u = any.take m := by
            unfold getT at hgt
            rw [if_neg (by rw [HLM.out]; omega)] at hgt
            exact tableT_inv hgt
          rw [hgt] at hp
          obtain ⟨x2, e2, r2, n2, q2, l2, rfl, ht2, k6, _, _, _⟩ := hp
          have huok := may_ok hinv.1
          have K6X := Lib.hid k6
          have HIN := Lib.hid hinv
          have K6 := Lib.hid (K5.out.trans k6)
          obtain ⟨un, hun⟩ : ∃ n, n = u.bs.length := ⟨_, rfl⟩
          rw [← hun] at ht2 ⊢
          have HT2 := Lib.hid ht2
          have HKA := Lib.hid (show Kept [] w6 (w6.alloc (.cells #[.slice x2 un e2, .slice r2 n2 q2] 25)) from (Kept.refl [] w6).alloc _)
          have hbn := heap_new w6 (.cells #[.slice x2 un e2, .slice r2 n2 q2] 25)
          have HBN := Lib.hid hbn
          have HPU := Lib.hid (put_c _ (ht2.tabV.kept0 HKA.out) huok ((K6.out.trans HKA.out).cell HG.out (by simp)))
          have HMU := Lib.hid (fun V (hV : Kept [] w6 V) => may_c (HT2.out.tabV.kept0 hV) huok)
          clear hgt hinv ht2 k6 hun hbn huok
          go_wp2_with fail
          refine HPU.out.mono ?_
          intro e w7 hp7
          rcases hp7 with ⟨h0, _⟩ | ⟨_, v7, rfl, hown7, hb7⟩
          · exact absurd (h0.symm.trans HIN.out.1) (by decide)
          have K7 := Lib.hid (HKA.out.trans (Kept.of_below hb7))
          have hb7' := (Kept.of_below hb7).heap HBN.out (by simp)
          have s0 := blk_cell hb7' 0
          have s1 := blk_cell hb7' 1
          have HO7 := Lib.hid hown7
          clear hb7 hb7' hown7
          go_wp2_with fail
          refine (HMU.out _ K7.out).mono ?_
          rintro e w8 ⟨rfl, k8⟩
          rw [HIN.out.1]
          have K8 := Lib.hid (K7.out.trans k8)
          have ho8 := own_keptB HO7.out k8 (by simp)
          have hm0 : 0 < m := by have := put_pos HIN.out.1; rw [HIN.out.2, HLM.out] at this; exact this
          rw [HIN.out.2, HLM.out] at ho8
          obtain ⟨g7, c7, rfl, _⟩ := own_txt ho8 HLM.out hm0
          have heq := equal_c w8 (own_at ho8 HLM.out) (HLT5.out.kept (K6X.out.trans K8.out) (by simp))
          rw [HLM.out, decide_eq_true (rfl : any.take m = any.take m)] at heq
          have HEQ := Lib.hid heq
          clear k8 ho8 heq hm0
          go_wp2_with fail
          refine HEQ.out.mono ?_
          rintro e w9 ⟨rfl, rfl⟩
          go_wp2_with fail
          refine (HW.out _ (K6.out.trans K8.out)).mono ?_
          rintro e w9 ⟨rfl, k9⟩
          have K9 := Lib.hid ((K6.out.trans K8.out).trans k9)
          clear k9
          go_wp2_with fail
          go_ret
          exact ⟨rfl, K9.out⟩
end Go.Proofs.YtjgcfncganleoaaDoor
