/-
  Law 09: TracePacked: the walk.
-/
import Derived.Test.YtjgcfncganleoaaDoorTpdM
import Derived.Test.YtjgcfncganleoaaDoorTrcWk
import Derived.Test.YtjgcfncganleoaaDoorTrcCard
import Derived.Deep.RegionHeld3
import Derived.BigRegion
import Derived.BigQuiet
namespace Go.Proofs.YtjgcfncganleoaaDoor
open Go.ChangeShapes Go.WideShapes Go.ChangeAt Go.RowKit
set_option linter.unusedVariables false
set_option linter.unusedSimpArgs false

variable {w w' w1 W : World}
theorem may_okT {u : Tb} (h : mayT u = true) : u.ok := by
  obtain ⟨h1, h2, h3, h4, h5⟩ := (mayT_iff u).1 h
  refine ⟨by omega, by omega, fun b hb => ?_, fun r hr => ⟨fun n hn => ?_, by rw [okR_len (h4 r hr)]; omega⟩⟩
  · obtain ⟨k, hk, rfl⟩ := List.getElem_of_mem hb
    have := may_bus h k hk
    omega
  · obtain ⟨i, hi, rfl⟩ := List.getElem_of_mem hr
    obtain ⟨k, hk, rfl⟩ := List.getElem_of_mem hn
    have hl := okR_len (h4 _ (List.getElem_mem hi))
    have h6 := fits_word (may_fit h i k hi (by omega))
    unfold atT at h6
    rw [List.getD_eq_getElem?_getD (l := u.rs), List.getElem?_eq_getElem hi, Option.getD_some, List.getD_eq_getElem?_getD, List.getElem?_eq_getElem hk, Option.getD_some] at h6
    exact h6
theorem store_tab {n : Nat} {F : Tb} {x1 r1 : Option Addr} {e1 q1 : Nat} {l1 : List WR} {y z : Value} (hb : w.heap[n]? = some (.cells #[y, z] 25 (0, 0))) (ht : TabN w x1 F.bs.length e1 r1 F.rs.length q1 F l1) (hk : Kept [] W w) (hn : W.heap.size ≤ n) :
    ((w.setCell ⟨n, 0, none⟩ (.slice x1 F.bs.length e1)).setCell ⟨n, 1, none⟩ (.slice r1 F.rs.length q1)).heap[n]? = some (.cells #[.slice x1 F.bs.length e1, .slice r1 F.rs.length q1] 25 (0, 0)) ∧ TabN ((w.setCell ⟨n, 0, none⟩ (.slice x1 F.bs.length e1)).setCell ⟨n, 1, none⟩ (.slice r1 F.rs.length q1)) x1 F.bs.length e1 r1 F.rs.length q1 F l1 ∧ Kept [] W ((w.setCell ⟨n, 0, none⟩ (.slice x1 F.bs.length e1)).setCell ⟨n, 1, none⟩ (.slice r1 F.rs.length q1)) := by
  have a1 := blk_set hb 0 (.slice x1 F.bs.length e1)
  have a2 := blk_set (by simpa using a1) 1 (.slice r1 F.rs.length q1)
  have k1 : Kept [n] w ((w.setCell ⟨n, 0, none⟩ (.slice x1 F.bs.length e1)).setCell ⟨n, 1, none⟩ (.slice r1 F.rs.length q1)) := ((Kept.refl [n] _).setCell (p := ⟨n, 0, none⟩) (.inl (by simp)) _).setCell (p := ⟨n, 1, none⟩) (.inl (by simp)) _
  exact ⟨by simpa using a2, ht.kept k1 (fun b hb' => by simp [ht.apart hb b hb']), kept_mix hk k1 (by simpa using hn)⟩
/-- one table, just laid -/
theorem one_tab {g : Nat} {F : Tb} {x1 r1 : Option Addr} {e1 q1 : Nat} {l1 : List WR} (hb : w.heap[g]? = some (.cells #[.slice x1 F.bs.length e1, .slice r1 F.rs.length q1] 25 (0, 0))) (h : TabV w x1 F.bs.length e1 r1 F.rs.length q1 F l1) (hok : F.ok) : SlTab w (some ⟨g, 0, none⟩) [⟨F, x1, e1, r1, q1, l1⟩] := by
  intro k hk
  obtain rfl : k = 0 := by simpa using hk
  exact ⟨g, 0, rfl, blk_cell hb 0, blk_cell hb 1, h, hok⟩
theorem news_at {g : Nat} {news : List Value} {ty : TypeId} (h : w.heap[g]? = some (.cells news.toArray ty (0, 0))) (j : Nat) (u : Value) (hu : news[j]? = some u) : w.cell? ((⟨g, 0, none⟩ : Addr).add j) = some u := by
  rw [add_at, blk_cell h]
  simpa using hu
theorem tab_info : (Tryd.prog.info? 25).map (fun i => (i.zero, i.size, i.bytes)) = some (some (.agg #[.slice none 0 0, .slice none 0 0]), 2, 48) := by kernel_rfl
theorem keep2F {w w' : World} {G : List Nat} {p i j : Nat} {v0 v1 : Value} (hk : Kept G w w') (hp : p ∉ G) (h0 : w.cell? ⟨p, i, none⟩ = some v0) (h1 : w.cell? ⟨p, j, none⟩ = some v1) : w'.cell? ⟨p, i, none⟩ = some v0 ∧ w'.cell? ⟨p, j, none⟩ = some v1 := ⟨hk.cell h0 hp, hk.cell h1 hp⟩
theorem keep2T {w w' : World} {a0 a1 : Addr} {v0 v1 : Value} (hk : Kept [] w w') (h0 : w.cell? a0 = some v0) (h1 : w.cell? a1 = some v1) : w'.cell? a0 = some v0 ∧ w'.cell? a1 = some v1 := ⟨hk.cell h0 (by simp), hk.cell h1 (by simp)⟩
set_option maxHeartbeats 6400000 in
set_option maxRecDepth 100000 in
theorem tpd_c (ba : Option Addr) (bc : Nat) (ra : Option Addr) (rc : Nat) (t : Tb) (wl : List WR) (many row : Nat) (W : World) (hv : TabV W ba t.bs.length bc ra wl.length rc t wl) (hok : t.ok) (hmany : many < 256) (hrow : row < 256) (hg : W.cell? ⟨3, 15, none⟩ = some (.int .u8 4)) :
    Calls Tryd.prog 5 #[.agg #[.slice ba t.bs.length bc, .slice ra wl.length rc], .int .u8 (many : Int), .int .u8 (row : Int)] W (BoolIs true W) := by
  have HG := Lib.hid hg
  obtain ⟨bn, hbn⟩ : ∃ n, n = t.bs.length := ⟨_, rfl⟩
  obtain ⟨rn, hrn⟩ : ∃ n, n = wl.length := ⟨_, rfl⟩
  rw [← hbn, ← hrn] at hv ⊢
  have HV := Lib.hid hv
  clear hv hg hbn hrn
  go_enter Tryd.func5, Tryd.ntmps5
  go_wp2_with fail
  have hW1 := (show Kept [] W (W.alloc (.cells #[.slice ba bn bc, .slice ra rn rc] 25)) from (Kept.refl [] W).alloc _)
  have hb0 := heap_new W (.cells #[.slice ba bn bc, .slice ra rn rc] 25)
  generalize (W.alloc (.cells #[.slice ba bn bc, .slice ra rn rc] 25)) = wr at *
  obtain ⟨n, hn⟩ : ∃ n, n = W.heap.size := ⟨_, rfl⟩
  rw [← hn] at hb0
  try rw [← hn]
  have hnW : W.heap.size ≤ n := by omega
  clear hn
  refine (few_c (HV.out.kept0 hW1) hok).mono ?_
  rintro e u1 ⟨x1, e1, r1, q1, l1, rfl, ht1, hk1, hn1⟩
  have hbu := hk1.heap hb0 (by simp)
  have d0 := blk_cell hbu 0
  have d1 := blk_cell hbu 1
  have z0 := blk_free hbu 0
  have z1 := blk_free hbu 1
  have HST := Lib.hid (store_tab hbu ht1 (hW1.trans hk1) hnW)
  clear hbu ht1 hk1 hn1 hb0 hW1 hnW
  go_upto_region 2 with (fail)
  have HOK := Lib.hid (few_ok hok)
  have HLN := Lib.hid (fewT_lens t)
  generalize fewT t = F at *
  generalize ((u1.setCell ⟨n, 0, none⟩ (.slice x1 F.bs.length e1)).setCell ⟨n, 1, none⟩ (.slice r1 F.rs.length q1)) = w2 at *
  clear d0 d1 z0 z1
  obtain ⟨hB2, hT2, hK2⟩ := HST.out
  obtain ⟨fb, hfb⟩ : ∃ n, n = F.bs.length := ⟨_, rfl⟩
  obtain ⟨fr, hfr⟩ : ∃ n, n = F.rs.length := ⟨_, rfl⟩
  have HFB := Lib.hid hfb
  have HFR := Lib.hid hfr
  rw [← hfb, ← hfr] at hB2
  rw [← hfb, ← hfr] at hT2
  have hb20 : fb ≤ 20 := by rw [hfb]; exact HLN.out.1
  have hr30 : fr ≤ 30 := by rw [hfr]; exact HLN.out.2.1
  clear HST hfb hfr
  have B2 := Lib.hid hB2
  have T2 := Lib.hid hT2
  have K2 := Lib.hid hK2
  have HW := Lib.hid (fun W' (hk : Kept [] W W') => wakes_c W' (hk.cell HG.out (by simp)))
  have c0 := blk_cell hB2 0
  have c1 := blk_cell hB2 1
  have HM := Lib.hid (fun (V : World) (hV : Kept [] w2 V) => may_c (hT2.tabV.kept0 hV) HOK.out)
  clear hB2 hT2 hK2
  go_cut [30] (fun bv wx => bv = .bool (!mayT F || decide (fr = 0)) ∧ Kept [] w2 wx)
  case first =>
    as_aux_lemma =>
    cases hm : mayT F with
    | false =>
      rw [hm] at HM
      have Hm := Lib.hid hm
      clear hm
      go_wp2_with fail
      refine (HM.out _ (Kept.refl [] w2)).mono ?_
      rintro e w3 ⟨rfl, k3⟩
      have K3 := Lib.hid k3
      clear k3
      go_wp2_with fail
      go_meet
      exact ⟨by rw [Hm.out]; rfl, K3.out⟩
    | true =>
      rw [hm] at HM
      have Hm := Lib.hid hm
      clear hm
      go_wp2_with fail
      refine (HM.out _ (Kept.refl [] w2)).mono ?_
      rintro e w3 ⟨rfl, k3⟩
      have K3 := Lib.hid k3
      have d0 := k3.cell c0 (by simp)
      have d1 := k3.cell c1 (by simp)
      clear k3
      by_cases h0 : fr = 0
      · subst h0
        go_wp2_with fail
        go_meet
        exact ⟨by rw [Hm.out]; simp, K3.out⟩
      · have hb0 : ((fr : Int) == 0) = false := by rw [beq_eq_false_iff_ne]; omega
        have hd : decide (fr = 0) = false := decide_eq_false h0
        go_wp2_with fail
        go_meet
        exact ⟨by rw [Hm.out, hd]; rfl, K3.out⟩
  case rest =>
    as_aux_lemma =>
    obtain ⟨rfl, hk3⟩ := hcut
    obtain ⟨w3, rfl⟩ : ∃ v : World, v = wc := ⟨_, rfl⟩
    have K3 := Lib.hid hk3
    have KW3 := Lib.hid (K2.out.trans hk3)
    have d0 := hk3.cell c0 (by simp)
    have d1 := hk3.cell c1 (by simp)
    clear hk3 c0 c1 HM
    cases hbd : (!mayT F || decide (fr = 0)) with
    | true =>
      have HB := Lib.hid (show packBad [F] = true ∨ packNone 0 [F] = true from by
        simp only [Bool.or_eq_true, Bool.not_eq_true', decide_eq_true_eq] at hbd
        rcases hbd with h | h
        · exact .inl (by unfold packBad; simp [h])
        · have h0 : F.rs.length = 0 := by have := HFR.out; omega
          exact .inr (by unfold packNone; simp [h0]))
      clear hbd
      have HPK := Lib.hid (fun (V : World) (hV : Kept [] w3 V) (g c : Nat) (hgb : V.heap[g]? = some (.cells #[.slice x1 fb e1, .slice r1 fr q1] 25 (0, 0))) => packs_c 0 (some ⟨g, 0, none⟩) c 1 [⟨F, x1, e1, r1, q1, l1⟩] V rfl (by omega) (one_tab (by rw [← HFB.out, ← HFR.out]; exact hgb) (by rw [← HFB.out, ← HFR.out]; exact (T2.out.tabV.kept0 K3.out).kept0 hV) HOK.out) ⟨by omega, by omega⟩)
      go_wp2_with fail
      refine (HPK.out _ ((Kept.refl [] w3).alloc _) w3.heap.size 1 (heap_alloc_new w3 _)).mono ?_
      intro e w4 hp
      have hee : ∃ er : Int, er ≠ 0 ∧ e = .returned (.tuple #[.slice none 0 0, .int .i64 er]) ∧ Kept [] w3 w4 := by
        rcases hp with ⟨_, h2, h3⟩ | ⟨_, _, h2, h3⟩ | ⟨h1, h2, _⟩
        · exact ⟨1, by omega, h2, ((Kept.refl [] w3).alloc _).trans h3⟩
        · exact ⟨6, by omega, h2, ((Kept.refl [] w3).alloc _).trans h3⟩
        · rcases HB.out with h | h
          · rw [show [(⟨F, x1, e1, r1, q1, l1⟩ : TV)].map (·.t) = [F] from rfl, h] at h1; exact absurd h1 (by decide)
          · rw [show [(⟨F, x1, e1, r1, q1, l1⟩ : TV)].map (·.t) = [F] from rfl, h] at h2; exact absurd h2 (by decide)
      obtain ⟨er, her, rfl, k4⟩ := hee
      have K4 := Lib.hid k4
      have hne : (er != 0) = true := by rw [bne_iff_ne]; exact her
      clear hp k4 her
      go_wp2_with fail
      refine (HW.out _ (KW3.out.trans K4.out)).mono ?_
      rintro e w5 ⟨rfl, k5⟩
      have K5 := Lib.hid k5
      clear k5
      go_wp2_with fail
      go_ret
      exact ⟨rfl, (KW3.out.trans K4.out).trans K5.out⟩
    | false =>
      have HMM := Lib.hid (show mayT F = true ∧ 1 ≤ fr from by
        simp only [Bool.or_eq_false_iff, Bool.not_eq_false', decide_eq_false_iff_not] at hbd
        exact ⟨hbd.1, by omega⟩)
      clear hbd
      obtain ⟨m, hm⟩ : ∃ m, m = 1 + many % 8 := ⟨_, rfl⟩
      have hm8 : (1 : Int) + (many : Int) % 8 = (m : Int) := by omega
      have hmb : m ≤ 8 := by omega
      have hm1 : 1 ≤ m := by omega
      have hfr1 : 1 ≤ fr := HMM.out.2
      obtain ⟨gr, rfl⟩ : ∃ g, r1 = some ⟨g, 0, none⟩ := T2.out.rows.own.form (by omega)
      have D := Lib.hid (And.intro d0 d1)
      clear hm
      go_upto_region 7 with (fail)
      clear d0 d1
      go_wp2_with fail
      go_loopw [9, 46] (fun lv iv wr => ∃ (j : Nat) (la : Option Addr) (lc : Nat) (vs : List TV), j ≤ m ∧ iv = .int .i64 j ∧ lv = .slice la j lc ∧ MadeAt w3 wr F x1 e1 l1 la j lc vs) (fun _ iv _ => m - (intOf iv).toNat)
      case atStart => exact ⟨0, none, 0, [], Nat.zero_le _, rfl, rfl, ⟨World.ownsRow_nil _ _ _ _, by simp, rfl, .refl _ _, by simp [ft]⟩⟩
      case round =>
        obtain ⟨j, la, lc, vs, hj, rfl, rfl, hmade⟩ := hrel
        have HMD := Lib.hid hmade
        have d0 := hmade.kept.cell D.out.1 (by simp)
        have d1 := hmade.kept.cell D.out.2 (by simp)
        clear hmade
        by_cases hlt : j < m
        · obtain ⟨k, hk⟩ : ∃ k, k = j % fr := ⟨_, rfl⟩
          have hrem : (j : Int) % (fr : Int) = (k : Int) := by rw [hk]; omega
          have hkf : k < fr := hk ▸ Nat.mod_lt _ (by omega)
          have HK := Lib.hid hk
          clear hk
          obtain ⟨k2, hk2⟩ : ∃ k2, k2 = k / 2 := ⟨_, rfl⟩
          have hdiv : (k : Int) / 2 = (k2 : Int) := by rw [hk2]; omega
          have hk2f : k2 < fr := by omega
          have HK2 := Lib.hid hk2
          have hfq : fr ≤ q1 := T2.out.tabV.rk
          have hkq : k < q1 := by omega
          have hk2q : k2 ≤ q1 := by omega
          have hki : (k : Int) ≤ (fr : Int) := by omega
          have hk2i : (k2 : Int) ≤ (q1 : Int) := by omega
          have hqk : ¬ q1 = k := by omega
          have hwr2 : IntKind.i64.wrap ((k : Int) / 2) = (k2 : Int) := by rw [hdiv]; exact IntWalk.i64_in _ (by omega)
          have hwt2 : Int.tdiv (k : Int) 2 = (k2 : Int) := by rw [Int.tdiv_eq_ediv_of_nonneg (by omega)]; exact hdiv
          have hwt1 : IntKind.i64.wrap (Int.tdiv (k : Int) 2) = (k2 : Int) := by rw [hwt2]; exact IntWalk.i64_in _ (by omega)
          have hwt3 : IntKind.i64.wrap (k2 : Int) = (k2 : Int) := IntWalk.i64_in _ (by omega)
          have hd0 : 0 ≤ (k : Int) / 2 := by omega
          have hd1 : (k : Int) / 2 ≤ (q1 : Int) := by omega
          have hd2 : ((k : Int) / 2).toNat = k2 := by omega
          have hfk : ¬ fr = k := by omega
          clear hk2
          have HOL := Lib.hid HMD.out.own
          have HON := Lib.hid (T2.out.rows.own.kept0 (K3.out.trans HMD.out.kept))
          have HRL := Lib.hid (show (wrCells l1).length = fr from by have := T2.out.rows.own.len; simpa using this)
          have HN1 := Lib.hid (show ∀ q u, ((wrCells l1).drop k)[q]? = some u → wr.cell? ((⟨gr, k, none⟩ : Addr).add q) = some u from fun q u hu => by
            rw [List.getElem?_drop] at hu
            have h1 := World.ownsRow.cells HON.out (g := gr) rfl (k + q) u hu
            rw [add_at] at h1 ⊢
            rw [← h1, Nat.zero_add])
          have HN2 := Lib.hid (show ∀ q u, ((wrCells l1).take k2)[q]? = some u → wr.cell? ((⟨gr, 0, none⟩ : Addr).add q) = some u from fun q u hu => by
            rw [List.getElem?_take] at hu
            split at hu
            · exact World.ownsRow.cells HON.out (g := gr) rfl q u hu
            · cases hu)
          have HO1 := Lib.hid (show ∀ u ∈ (wrCells l1).drop k, u.oneCell' = true from fun u hu => wrCells_one l1 u (List.mem_of_mem_drop hu))
          have HO2 := Lib.hid (show ∀ u ∈ (wrCells l1).take k2, u.oneCell' = true from fun u hu => wrCells_one l1 u (List.mem_of_mem_take hu))
          have HL1 := Lib.hid (show ((wrCells l1).drop k).length = fr - k from by rw [List.length_drop, HRL.out])
          have HL2 := Lib.hid (show ((wrCells l1).take k2).length = k2 from by rw [List.length_take, HRL.out]; omega)
          have HRS := Lib.hid (show (madeT F j).rs.length = fr - k + k2 ∧ (madeT F j).bs.length = fb from by
            rw [HFB.out]
            refine ⟨?_, rfl⟩
            simp only [madeT, List.length_append, List.length_drop, List.length_take, ← HFR.out, ← HK.out, ← HK2.out]
            omega)
          have HNEW := Lib.hid (fun (V : World) (a : Option Addr) (c : Nat) (h : Own V 33 a (fr - k + k2) c ((wrCells l1).drop k ++ (wrCells l1).take k2)) => show Own V 33 a (madeT F j).rs.length c (wrCells (l1.drop k ++ l1.take k2)) from by
            rw [HRS.out.1]
            have e1 : wrCells (l1.drop k ++ l1.take k2) = (wrCells l1).drop k ++ (wrCells l1).take k2 := by
              unfold wrCells
              rw [List.map_append, List.map_drop, List.map_take]
            rw [e1]; exact h)
          have HCONV := Lib.hid (fun (V : World) (a : Option Addr) (c : Nat) (a5 : Option Addr) (c5 : Nat) (h : V.ownsRow 0 25 2 (.slice a (j + 1) c) (j + 1) (tvCells vs ++ [.slice x1 fb e1, .slice a5 (fr - k + k2) c5])) => show V.ownsRow 0 25 2 (.slice a (j + 1) c) (j + 1) (tvCells vs ++ [.slice x1 (madeT F j).bs.length e1, .slice a5 (madeT F j).rs.length c5]) from by
            rw [HRS.out.1, HRS.out.2]; exact h)
          have HMAP := Lib.hid (show (l1.drop k ++ l1.take k2).map (·.l) = (madeT F j).rs from by
            rw [List.map_append, List.map_drop, List.map_take, T2.out.rm]
            simp only [madeT, ← HFR.out, ← HK.out, ← HK2.out])
          have HSUB := Lib.hid (show ∀ r ∈ l1.drop k ++ l1.take k2, r ∈ l1 from fun r hr => by
            rcases List.mem_append.1 hr with h | h
            · exact List.mem_of_mem_drop h
            · exact List.mem_of_mem_take h)
          have HNLA := Lib.hid (show n ∉ ft la from fun hx => by
            have h1 := HMD.out.fresh n hx
            have h2 := cell_lt D.out.1
            simp only at h2
            omega)
          go_wp2_with fail
          have KB := Kept.refl [] wr
          go_region_held3 (fun V => V.cell? ⟨n, 0, none⟩ = some (.slice x1 fb e1) ∧ V.cell? ⟨n, 1, none⟩ = some (.slice (some ⟨gr, 0, none⟩) fr q1))
            (first | exact keep2F KL HNLA.out d0 d1 | exact keep2T (w := wr) (by (repeat (first | with_reducible exact KB | with_reducible apply Kept.drew | with_reducible apply Kept.drewN | with_reducible apply Kept.alloc))) d0 d1 | go_keep)
            (first
              | (refine step_cat (news := (wrCells l1).drop k) (by rfl) (by rfl) Tryd.underlying23 row_info rfl (by omega) (by rfl) (by rfl) (Own.nil _ 33) (by rw [HL1.out, Nat.mul_one]) (fun q u hu => Kept.cell (F := []) (w := wr) (by (repeat (first | with_reducible exact KB | with_reducible apply Kept.drew | with_reducible apply Kept.drewN | with_reducible apply Kept.alloc))) (HN1.out q u hu) (by simp)) HO1.out (by unfold maxLen; omega) (by omega) ?_; intro a4 c4 w4 hown4 hst4; simp only [Nat.zero_add, List.nil_append] at hown4 ⊢; have KB := (show Kept [] wr _ from (by (repeat (first | with_reducible exact KB | with_reducible apply Kept.drew | with_reducible apply Kept.drewN | with_reducible apply Kept.alloc)))).trans (hst4.kept.more (by simp [ft])); have hf4 := fun b hb => (hst4.fresh b hb).elim (fun h => absurd h (by simp [ft])) id)
              | (refine step_cat (news := (wrCells l1).take k2) (by rfl) (by rfl) Tryd.underlying23 row_info rfl (by omega) (by rfl) (by rfl) (own_kept (F := []) (w := w4) hown4 (by (repeat (first | with_reducible exact Kept.refl _ _ | with_reducible apply Kept.drew | with_reducible apply Kept.drewN | with_reducible apply Kept.alloc))) (by simp)) (by rw [HL2.out, Nat.mul_one]) (fun q u hu => Kept.cell (F := []) (w := wr) (by (repeat (first | with_reducible exact KB | with_reducible apply Kept.drew | with_reducible apply Kept.drewN | with_reducible apply Kept.alloc))) (HN2.out q u hu) (by simp)) HO2.out (by unfold maxLen; omega) (by omega) ?_; intro a5 c5 w5 hown5 hst5; have KB := kept_up (w := wr) (show Kept [] wr _ from (by (repeat (first | with_reducible exact KB | with_reducible apply Kept.drew | with_reducible apply Kept.drewN | with_reducible apply Kept.alloc)))) hst5.kept hf4)
              | (refine step_push (news := [.slice x1 fb e1, .slice a5 (fr - k + k2) c5]) (by rfl) (by rfl) Tryd.underlying59 tab_info rfl (by omega) (by rfl) (by rfl) (own_kept (F := []) (w := wr) HOL.out (by (repeat (first | with_reducible exact KB | with_reducible apply Kept.drew | with_reducible apply Kept.drewN | with_reducible apply Kept.alloc))) (by simp)) rfl (news_at (heap_alloc_new _ _)) (by simp [Value.oneCell']) (by unfold maxLen; omega) (by omega) ?_; intro a6 c6 w6 hown6 hst6; have hmp := HMD.out.push (by (repeat (first | with_reducible exact KB | with_reducible apply Kept.drew | with_reducible apply Kept.drewN | with_reducible apply Kept.alloc))) ⟨madeT F j, x1, e1, a5, c5, l1.drop k ++ l1.take k2⟩ rfl rfl rfl (HNEW.out _ _ _ (own_kept (F := []) (w := w5) hown5 (by (repeat (first | with_reducible exact Kept.refl _ _ | with_reducible apply Kept.drew | with_reducible apply Kept.drewN | with_reducible apply Kept.alloc))) (by simp))) HMAP.out HSUB.out (HCONV.out _ _ _ _ _ hown6) hst6; have HMP := Lib.hid hmp; have KL := Kept.trans (a := wr) (Kept.more (F := []) (F' := ft la) (by (repeat (first | with_reducible exact KB | with_reducible apply Kept.drew | with_reducible apply Kept.drewN | with_reducible apply Kept.alloc))) (by simp)) hst6.kept; clear hmp hown6 hst6))
          all_goals
            go_wp2_with fail
            go_roundw
            case rel => exact ⟨j + 1, a6, c6, _, by omega, by go_num, rfl, HMP.out⟩
            case measure => simp [intOf]; omega
        · obtain rfl : j = m := by omega
          obtain ⟨w4, rfl⟩ : ∃ v : World, v = wr := ⟨_, rfl⟩
          obtain ⟨at_, hat⟩ : ∃ a, a = row % fr := ⟨_, rfl⟩
          have hrem : (row : Int) % (fr : Int) = (at_ : Int) := by rw [hat]; omega
          have hatf : at_ < fr := hat ▸ Nat.mod_lt _ (by omega)
          have hat63 : at_ ≤ 30 := by omega
          clear hat
          have HV4 := Lib.hid (show TabV w3 x1 F.bs.length e1 (some ⟨gr, 0, none⟩) F.rs.length q1 F l1 from by rw [← HFB.out, ← HFR.out]; exact T2.out.tabV.kept0 K3.out)
          have HTB := Lib.hid (HMD.out.tabs HV4.out HMM.out.1 (fun u hu => may_okT hu))
          have HVL := Lib.hid HMD.out.len
          have HBAD := Lib.hid (made_good HMM.out.1 hm1 (show j ≤ 64 by omega))
          have HNON := Lib.hid (made_some (m := j) hm1 (show at_ < F.rs.length by rw [← HFR.out]; exact hatf))
          have HBS := Lib.hid (made_bs0 F hm1)
          have HTS := Lib.hid HMD.out.ts
          have HPK := Lib.hid (packs_c (at_ : Int) la lc j vs w4 HVL.out (by omega) HTB.out ⟨by omega, by omega⟩)
          rw [HTS.out] at HPK
          have D4 := Lib.hid (And.intro d0 d1)
          go_wp2_with fail
          refine HPK.out.mono ?_
          intro e w5 hp
          rcases hp with ⟨h1, _⟩ | ⟨_, h1, _⟩ | ⟨_, _, oa, oc, rs, rfl, hrows, hrm, hk5⟩
          · exact absurd h1 (by rw [HBAD.out]; decide)
          · exact absurd h1 (by rw [HNON.out]; decide)
          rw [HBS.out, ← HFB.out] at hrows hrm
          rw [HBS.out, ← HFB.out]
          have HRW := Lib.hid hrows
          have HRM := Lib.hid hrm
          have K5 := Lib.hid hk5
          have KW5 := Lib.hid ((KW3.out.trans HMD.out.kept).trans hk5)
          have d0 := hk5.cell D4.out.1 (by simp)
          clear hrows hrm hk5 d1 HPK
          go_wp2_with fail
          clear d0 hm8 hrem
          go_loopw [15, 96] (fun kv iv wr => ∃ (k : Nat), k ≤ fb ∧ iv = .int .i64 k ∧ Kept [] w5 wr) (fun _ iv _ => fb - (intOf iv).toNat)
          case atStart => exact ⟨0, Nat.zero_le _, rfl, .refl _ _⟩
          case round =>
            obtain ⟨k, hk, rfl, hkr⟩ := hrel
            have KR := Lib.hid hkr
            clear hkr
            by_cases hkb : k < fb
            · have hkB : k < (bs0 (madeTs F j)).length := by rw [HBS.out, ← HFB.out]; exact hkb
              have HCF := Lib.hid (col_fits HBAD.out at_ k hkB)
              have HCP := Lib.hid (col_pack HBAD.out at_ k hkB)
              have hkl : k < rs.length := by rw [HRW.out.len]; exact hkb
              have HRL := Lib.hid (show rs[k].l = packT (widthAt (bs0 (madeTs F j)) k).toNat (colW at_ (madeTs F j) k) from by
                have h1 : (rs.map (·.l))[k]'(by simpa using hkl) = (colsTo at_ (madeTs F j) fb)[k]'(by simpa [colsTo] using hkb) := by simp only [HRM.out, Int.toNat_natCast]
                simpa [colsTo] using h1)
              obtain ⟨ob, rfl, y0⟩ := HRW.out.cell k hkl
              have HY0 := Lib.hid y0
              have HSN := Lib.hid (HRW.out.rows _ (List.getElem_mem hkl)).1
              obtain ⟨wd, hwd⟩ : ∃ wd, wd = (widthAt (bs0 (madeTs F j)) k).toNat := ⟨_, rfl⟩
              have hw1 : 1 ≤ wd := by have := HCF.out.1; omega
              have hw64 : wd ≤ 64 := by have := HCF.out.1; omega
              rw [← hwd] at HRL
              have HCL := Lib.hid (show (colW at_ (madeTs F j) k).length = j from by rw [colW, List.length_map, madeTs_len])
              have HLT := Lib.hid (fun i => show (colW at_ (madeTs F j) k).getD i 0 < 2 ^ wd from by
                rw [List.getD_eq_getElem?_getD]
                cases hx : (colW at_ (madeTs F j) k)[i]? with
                | none => exact Nat.pow_pos (by omega)
                | some v =>
                  have h1 := HCF.out.2 v (List.mem_of_getElem? hx)
                  unfold fitsB at h1
                  simp only [Bool.and_eq_true, decide_eq_true_eq] at h1
                  rw [← hwd] at h1
                  exact h1.2)
              have HLP := Lib.hid (packT_len hw64 (show (colW at_ (madeTs F j) k).length ≤ 64 by rw [HCL.out]; omega) HCP.out.2)
              have HPW := Lib.hid (packT_words hw64 (show (colW at_ (madeTs F j) k).length ≤ 64 by rw [HCL.out]; omega) HCP.out.2)
              have HLN2 := Lib.hid (fun i (hi : i < 64) => lane_pack hw64 (show (colW at_ (madeTs F j) k).length ≤ 64 by rw [HCL.out]; omega) HCP.out.2 i hi (HLT.out i))
              generalize rs[k] = rk at *
              obtain ⟨rl, rka, rkc⟩ := rk
              simp only at HRL HY0 HSN y0
              subst HRL
              have HCG := Lib.hid (fun i (hi : i < j) => show (colW at_ (madeTs F j) k).getD i 0 = numAt at_ k (madeT F i) from by
                rw [List.getD_eq_getElem?_getD, colW, List.getElem?_map]
                unfold madeTs
                rw [List.getElem?_map, List.getElem?_range hi]
                rfl)
              have HCN := Lib.hid (fun i (hi : ¬ i < j) => show (colW at_ (madeTs F j) k).getD i 0 = 0 from by
                rw [List.getD_eq_getElem?_getD, List.getElem?_eq_none (by rw [HCL.out]; omega)]
                rfl)
              have hHY := HY0.out
              rw [HLP.out] at hHY
              have HY := Lib.hid hHY
              clear hHY HY0 y0 HCF HLT hwd
              generalize colW at_ (madeTs F j) k = col at *
              generalize packT wd col = P at *
              go_wp2_with fail
              go_loopw [99] (fun iv wr => ∃ (i : Nat), i ≤ 64 ∧ iv = .int .i64 i ∧ Kept [] w5 wr) (fun iv _ => 64 - (intOf iv).toNat)
              case atStart => exact ⟨0, by omega, rfl, KR.out⟩
              case round =>
                obtain ⟨i, hi, rfl, hkq⟩ := hrel
                have KQ := Lib.hid hkq
                have y1 := hkq.cell HY.out (by simp)
                clear hkq
                by_cases hi64 : i < 64
                · have HLC := Lib.hid (fun (V : World) (hV : Kept [] w5 V) => lane_c rka rkc wd i P V HLP.out hw1 hw64 hi64 (HSN.out.kept0 hV) HPW.out)
                  by_cases hij : i < j
                  · have hvl : i < vs.length := by rw [HVL.out]; exact hij
                    have HVT := Lib.hid (show vs[i].t = madeT F i from by
                      have h2 : (vs.map (·.t))[i]'(by simpa using hvl) = (madeTs F j)[i]'(by rw [madeTs_len]; omega) := by simp only [HTS.out]
                      simpa [madeTs] using h2)
                    obtain ⟨lb, lo, rfl, z0, z1, xt, xok⟩ := ((HTB.out.kept0 K5.out).kept0 KQ.out) i hvl
                    have XT := Lib.hid xt
                    clear xt xok z0
                    have HMI := Lib.hid (made_may HMM.out.1 i)
                    have HCI0 := Lib.hid (HCG.out i hij)
                    rw [← HVT.out] at HMI HCI0
                    have HBI := Lib.hid (show vs[i].t.bs.length = F.bs.length from by rw [HVT.out]; rfl)
                    clear HVT
                    generalize vs[i] = x at *
                    obtain ⟨xtb, xba, xbc, xra, xrc, xwl⟩ := x
                    simp only at z1 XT HMI HCI0 HBI
                    obtain ⟨tn, htn⟩ : ∃ n, n = xtb.rs.length := ⟨_, rfl⟩
                    rw [← htn] at z1
                    have HTN := Lib.hid htn
                    have htn5 : tn ≤ 4096 := by rw [htn]; exact (mayT_parts HMI.out).2.2.2.2
                    clear htn hvl
                    by_cases hat2 : at_ < tn
                    · have hil : at_ < xwl.length := by rw [XT.out.rl, ← HTN.out]; exact hat2
                      obtain ⟨rb, ro, rfl, q0, q1'⟩ := XT.out.rs at_ hil
                      have HRW2 := Lib.hid (XT.out.row at_ hil)
                      have HRL := Lib.hid (show xwl[at_].l.length = fb from by rw [mayT_row HMI.out _ (List.mem_of_getElem? HRW2.out), HBI.out, ← HFB.out])
                      have hkl2 : k < xwl[at_].l.length := by rw [HRL.out]; exact hkb
                      obtain ⟨ad, had, q2⟩ := q1' k hkl2
                      obtain ⟨v, hv⟩ : ∃ v, v = xwl[at_].l[k] := ⟨_, rfl⟩
                      have HCI := Lib.hid (show col.getD i 0 = v from by
                        rw [HCI0.out, hv]
                        unfold numAt atT
                        rw [if_pos (by rw [← HTN.out]; exact hat2), List.getD_eq_getElem?_getD (l := xtb.rs), HRW2.out, Option.getD_some, List.getD_eq_getElem?_getD, List.getElem?_eq_getElem hkl2, Option.getD_some])
                      rw [HRL.out] at q0
                      rw [had] at q0
                      rw [← hv] at q2
                      clear had hv q1' HRW2 HRL hkl2
                      generalize xwl[at_].c = rcc at *
                      clear hil
                      have HLE := Lib.hid (show laneW P i = v from by rw [HLN2.out i hi64, HCI.out])
                      rw [HLE.out] at HLC
                      go_wp2_with fail
                      refine (HLC.out _ KQ.out).mono ?_
                      rintro e w6 ⟨rfl, k6⟩
                      have K6 := Lib.hid (KQ.out.trans k6)
                      clear k6
                      go_wp2_with fail
                      go_roundw
                      case rel => exact ⟨i + 1, by omega, by go_num, K6.out⟩
                      case measure => simp [intOf]; omega
                    · have HCI := Lib.hid (show col.getD i 0 = 0 from by
                        rw [HCI0.out]
                        unfold numAt
                        rw [if_neg (by rw [← HTN.out]; exact hat2)])
                      have HLE := Lib.hid (show laneW P i = 0 from by rw [HLN2.out i hi64, HCI.out])
                      rw [HLE.out] at HLC
                      go_wp2_with fail
                      refine (HLC.out _ KQ.out).mono ?_
                      rintro e w6 ⟨rfl, k6⟩
                      have K6 := Lib.hid (KQ.out.trans k6)
                      clear k6
                      go_wp2_with fail
                      go_roundw
                      case rel => exact ⟨i + 1, by omega, by go_num, K6.out⟩
                      case measure => simp [intOf]; omega
                  · have HCI := Lib.hid (HCN.out i hij)
                    have HLE := Lib.hid (show laneW P i = 0 from by rw [HLN2.out i hi64, HCI.out])
                    rw [HLE.out] at HLC
                    go_wp2_with fail
                    refine (HLC.out _ KQ.out).mono ?_
                    rintro e w6 ⟨rfl, k6⟩
                    have K6 := Lib.hid (KQ.out.trans k6)
                    clear k6
                    go_wp2_with fail
                    go_roundw
                    case rel => exact ⟨i + 1, by omega, by go_num, K6.out⟩
                    case measure => simp [intOf]; omega
                · obtain rfl : i = 64 := by omega
                  clear y1
                  go_wp2_with fail
                  go_roundw
                  case rel => exact ⟨k + 1, by omega, by go_num, KQ.out⟩
                  case measure => simp [intOf]; omega
            · obtain rfl : k = fb := by omega
              go_wp2_with fail
              refine (HW.out _ (KW5.out.trans KR.out)).mono ?_
              rintro e w6 ⟨rfl, k6⟩
              have K6 := Lib.hid k6
              clear k6
              go_wp2_with fail
              go_ret
              exact ⟨rfl, (KW5.out.trans KR.out).trans K6.out⟩
end Go.Proofs.YtjgcfncganleoaaDoor
