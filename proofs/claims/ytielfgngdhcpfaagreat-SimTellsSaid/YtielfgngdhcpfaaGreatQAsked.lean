/-
  Law SimTells, part: literals' words are the document's (under way).
-/
import Derived.Test.YtielfgngdhcpfaaGreatP44
import Derived.Test.YtielfgngdhcpfaaGreatP36
import Derived.Deep.DeepCutAuto
namespace Go.Proofs.YtielfgngdhcpfaaGreat
open Go.ChangeShapes Go.WideShapes Go.ChangeAt Go.RowKit
open Go.Maps (Keyed)
open Go.WideMaps
set_option linter.unusedVariables false
set_option linter.unusedSimpArgs false

variable {w w' : World} {p n k q v s : Nat} {F R R2 S NF NR : List Nat} {g : Gr} {N : Nt} {σ : Sm}
set_option maxHeartbeats 6400000 in
set_option maxRecDepth 100000 in
theorem asked_c {kk : Nat} (a : Option Addr) (c len : Nat) (l : List Nat) (hs : SimAt w s F R σ) (hv : RSimAt w v R2 σ) (hok : SmOk kk σ) (hl : l.length = len) (hlc : len ≤ c) (hlm : len ≤ 140737488351232) (hsl : SlN w .u32 a l) (hlit : Lits l) :
    Calls Tryz.prog 31 #[.pointer (some ⟨s, 0, none⟩), .pointer (some ⟨v, 0, none⟩), .slice a len c] w fun e w' => e = .returned (.bool true) ∧ Kept [] w w' := by
  obtain ⟨m, hm⟩ : ∃ m, m = min len 20 := ⟨_, rfl⟩
  have l1 := hok.fine.ok.len
  have l7 := hok.k7
  have HL := Lib.hid (show (l.take m).length = m from by rw [List.length_take]; omega)
  have HS := Lib.hid hs
  have HV := Lib.hid hv
  have HOK := Lib.hid hok
  have HSL := Lib.hid (hsl.take m)
  have HLT := Lib.hid (show Lits (l.take m) from fun x hx => hlit x (List.mem_of_mem_take hx))
  generalize l.take m = lt at *
  have hm20 : m ≤ 20 := by omega
  have hmc : m ≤ c := by omega
  have hmin : min (len : Int) 20 = (m : Int) := by omega
  clear hs hv hok hl hsl hlit
  go_enter Tryz.func31, Tryz.ntmps31
  go_upto_region 1 with (fail)
  go_cut [2] (fun x wx => x = .slice a m c ∧ wx = w)
  case first =>
    by_cases h20 : len ≤ 20
    · have e : m = len := by omega
      have HE := Lib.hid e
      clear e hm hmin
      go_wp2_with fail
      all_goals
        go_meet
        rw [HE.out]
        exact ⟨rfl, rfl⟩
    · have e : m = 20 := by omega
      have HE := Lib.hid e
      clear e hm hmin
      go_wp2_with fail
      all_goals
        go_meet
        rw [HE.out]
        exact ⟨rfl, rfl⟩
  case rest =>
    obtain ⟨rfl, rfl⟩ := hcut
    clear hmin hm
    go_wp2_with fail
    have hmin70 : min m 70 = m := by omega
    have ht70 : lt.take 70 = lt := List.take_of_length_le (by rw [HL.out]; omega)
    have HO := Lib.hid (of_c a c m lt wc HL.out (by omega) HSL.out)
    rw [hmin70, ht70] at HO
    clear hmin70 ht70
    refine HO.out.mono ?_
    rintro e w1 ⟨a1, c1, rfl, ho1, hst1⟩
    have K1 := Lib.hid hst1.kept
    have HW := Lib.hid (sim_words (HS.out.kept0 K1.out) (by omega) HOK.out.ww a1 c1 m lt HL.out (by omega) ho1.sln HLT.out)
    clear ho1 hst1 HO
    go_wp2_with fail
    refine HW.out.mono ?_
    rintro e w2 ⟨a2, n2, c2, rfl, hk2, hall⟩
    have K2 := Lib.hid (K1.out.trans hk2)
    have HALL := Lib.hid hall
    clear hk2 hall HW
    have HV2 := Lib.hid (HV.out.kept0 K2.out)
    obtain ⟨n, NF, NR, ra, rc, wa, wcap, hR, hc⟩ := HV2.out
    have HCC := Lib.hid hc
    obtain ⟨pp, ia, ic, rra, rrc, oa, oc, ri, ro, hp⟩ := rnet_parts hc.net
    obtain ⟨G, hg⟩ := hp.gr
    have HG := Lib.hid hg
    have c0 : w2.cell? ⟨v, 0, none⟩ = some (.pointer (some ⟨n, 0, none⟩)) := blk_cell hc.blk 0
    have cy : w2.cell? ⟨v, 3, none⟩ = some (.int .i64 (σ.cy : Int)) := blk_cell hc.blk 3
    have n0 := hp.c0
    clear hc hp hg hR
    go_wp2_with fail
    refine (there03 HG.out (by omega) a c m lt HL.out (by omega) (HSL.out.kept0 K2.out) HLT.out).mono ?_
    rintro e w3 ⟨rfl, nd, rfl⟩
    have HA := Lib.hid (show askS σ lt = if gone σ.N.g lt then 1 else if σ.cy = 0 then 6 else 0 from rfl)
    have K3 := Lib.hid (K2.out.drewN nd)
    cases hgb : gone σ.N.g lt with
    | true =>
      have e : askS σ lt = 1 := by rw [HA.out, hgb]; rfl
      rw [e]
      clear e hgb HA HALL
      go_wp2_with fail
      go_ret
      exact ⟨rfl, K3.out⟩
    | false =>
      by_cases hcy0 : σ.cy = 0
      · have e : askS σ lt = 6 := by rw [HA.out, hgb, if_neg (by simp), if_pos hcy0]
        rw [e]
        rw [hcy0] at cy
        clear e hgb HA HALL hcy0
        go_wp2_with fail
        go_ret
        exact ⟨rfl, K3.out⟩
      · have e : askS σ lt = 0 := by rw [HA.out, hgb, if_neg (by simp), if_neg hcy0]
        obtain ⟨rfl, ho2, hf2⟩ := HALL.out e
        have HO2 := Lib.hid ho2
        rw [e]
        have hcz : ((σ.cy : Int) == 0) = false := by simp; omega
        clear e hgb HA HALL hcy0 ho2 hf2
        go_wp2_with fail
        obtain ⟨wN, hwN⟩ : ∃ W, W = w2.drewN nd := ⟨_, rfl⟩
        have KN := Lib.hid (show Kept [] w2 wN from by rw [hwN]; exact (Kept.refl [] w2).drewN nd)
        rw [← hwN]
        have CW := Lib.hid (show wN.cell? ⟨v, 2, none⟩ = some (.slice wa σ.ws.length wcap) from KN.out.cell (blk_cell HCC.out.blk 2) (by simp))
        clear hwN K3 n0 c0 cy hcz
        go_loopw [9, 10] (fun x u wr => ∃ (k : Nat) (a9 : Option Addr) (c9 : Nat), k ≤ n2 ∧ u = .int .i64 k ∧ x = .slice a9 k c9 ∧ Own wr 34 a9 k c9 (nats .u64 ((lt.take k).map (wd σ.ws))) ∧ Kept [] wN wr ∧ ∀ b ∈ ft a9, wN.heap.size ≤ b) (fun _ u _ => n2 - (intOf u).toNat)
        case atStart => exact ⟨0, none, 0, Nat.zero_le _, rfl, rfl, by simpa [nats] using Own.nil _ _, .refl _ _, by simp [ft]⟩
        case round =>
          obtain ⟨k, a9, c9, hk, rfl, rfl, ho9, hk9, hf9⟩ := hrel
          have HO9 := Lib.hid ho9
          have K9 := Lib.hid hk9
          have HF9 := Lib.hid hf9
          clear ho9 hk9 hf9
          obtain ⟨wY, rfl⟩ : ∃ v : World, v = wr := ⟨_, rfl⟩
          have K29 := Lib.hid (KN.out.trans K9.out)
          by_cases hlt : k < n2
          · have hk1 : k < lt.length := by rw [HL.out]; exact hlt
            obtain ⟨ad, had, lx0⟩ := HSL.out k hk1
            subst had
            have c2v := K9.out.cell CW.out (by simp)
            have HNIL := Lib.hid (show ∀ b : Nat, b ∉ ([] : List Nat) from fun b => by simp)
            have lx := (K2.out.trans K29.out).cell lx0 (HNIL.out _)
            have zz := Nat.le_trans K2.out.size KN.out.size
            have zl := World.block_lt_of_cell? _ _ lx0
            have zv := HV.out.lt.1
            have HFL := Lib.hid (show (ad.add k).block ∉ ft a9 from fun hx => by have h1 := HF9.out _ hx; omega)
            have HFV := Lib.hid (show v ∉ ft a9 from fun hx => by have h1 := HF9.out _ hx; omega)
            clear zz zl zv lx0
            have HTS := Lib.hid (show (lt.take (k + 1)).map (wd σ.ws) = (lt.take k).map (wd σ.ws) ++ [wd σ.ws lt[k]] from by rw [List.take_succ_eq_append_getElem hk1, List.map_append]; rfl)
            have hx4 := HLT.out _ (List.getElem_mem hk1)
            generalize lt[k] = x at *
            obtain ⟨vx, hvx⟩ : ∃ vx, vx = wd σ.ws x := ⟨_, rfl⟩
            have HWX := Lib.hid (fun (W : World) (hW : Kept [] wY W) => word02 x wa wcap σ.ws.length σ.ws W rfl hx4 (HCC.out.wd.kept0 (K29.out.trans hW)).sln HOK.out.ww)
            rw [← hvx] at HWX HTS
            clear hvx hx4
            have KEEP := Lib.hid (fun (W : World) (hW : Kept [] wY W) => show W.cell? (ad.add k) = some (.int .u32 (x : Int)) ∧ W.cell? ⟨v, 2, none⟩ = some (.slice wa σ.ws.length wcap) from ⟨hW.cell lx (HNIL.out _), hW.cell c2v (HNIL.out _)⟩)
            have KEEP2 := Lib.hid (fun (W W' : World) (a' : Option Addr) (hW : Kept [] wY W) (hst : Stepped W W' (ft a9) (ft a')) => show W'.cell? (ad.add k) = some (.int .u32 (x : Int)) ∧ W'.cell? ⟨v, 2, none⟩ = some (.slice wa σ.ws.length wcap) from ⟨hst.kept.cell (hW.cell lx (HNIL.out _)) HFL.out, hst.kept.cell (hW.cell c2v (HNIL.out _)) HFV.out⟩)
            have KA := Kept.refl [] wY
            have hown := HO9.out
            go_wp2_with fail
            go_region_held3 (fun W => W.cell? (ad.add k) = some (.int .u32 (x : Int)) ∧ W.cell? ⟨v, 2, none⟩ = some (.slice wa σ.ws.length wcap))
              (first | (with_reducible refine KEEP2.out _ _ _ ?_ hst9; (repeat (first | with_reducible exact KA | with_reducible apply Kept.drew | with_reducible apply Kept.drewN | with_reducible apply Kept.alloc)); done) | (with_reducible refine KEEP.out _ ?_; (repeat (first | with_reducible exact KA | with_reducible apply Kept.drew | with_reducible apply Kept.drewN | with_reducible apply Kept.alloc)); done) | go_keep)
              (first | (go_at_call 62; (with_reducible refine (HWX.out _ ?kk).mono ?_); (case kk => (repeat (first | with_reducible exact KA | with_reducible apply Kept.drew | with_reducible apply Kept.drewN | with_reducible apply Kept.alloc))); rintro e w5 ⟨rfl, rfl⟩) | (refine step_push (a := a9) (n := k) (cap := c9) (by rfl) (by rfl) Tryz.underlying35 u64_info rfl (by omega) (by rfl) (by rfl) (news := [.int .u64 (vx : Int)]) (hown.kept0 (by (repeat (first | with_reducible exact KA | with_reducible apply Kept.drew | with_reducible apply Kept.drewN | with_reducible apply Kept.alloc)))) rfl (news_blk (t := 34) (by exact heap_alloc_new _ _)) (by simp [Value.oneCell']) (by unfold maxLen; omega) (by omega) ?_; intro a1 c1 w9 hown9 hst9))
            all_goals
              have KX := Lib.hid (show Kept (ft a9) wY w9 from (show Kept (ft a9) wY _ from by repeat (first | with_reducible exact Kept.refl _ _ | with_reducible apply Kept.drew | with_reducible apply Kept.drewN | with_reducible apply Kept.alloc)).trans hst9.kept)
              have FX := Lib.hid (show ∀ b ∈ ft a1, wN.heap.size ≤ b from fun b hb => (hst9.fresh b hb).elim (HF9.out b) (fun h => by have h1 := K9.out.size; simp at h; omega))
              clear hst9
              go_wp2_with fail
              go_roundw
              case rel => exact ⟨k + 1, a1, c1, by omega, by go_num, rfl, by rw [HTS.out, ← nats_append]; exact hown9, kept_up K9.out KX.out HF9.out, FX.out⟩
              case measure => simp [intOf]; omega
          · obtain rfl : k = n2 := by omega
            have HEQ := Lib.hid (same_eq a2 a9 k k c2 c9 (lt.map (wd σ.ws)) (lt.map (wd σ.ws)) wY (by rw [List.length_map]; exact HL.out) (by rw [List.length_map]; exact HL.out) (by omega) (by omega) (HO2.out.kept0 K29.out).sln (by
              have h := HO9.out
              rw [List.take_of_length_le (by rw [HL.out]; exact Nat.le_refl _)] at h
              exact h.sln))
            have e : decide (lt.map (wd σ.ws) = lt.map (wd σ.ws)) = true := by simp
            rw [e] at HEQ
            clear e
            go_wp2_with fail
            refine HEQ.out.mono ?_
            rintro e w5 ⟨rfl, nq, hw5⟩
            have K5 := Lib.hid (show Kept [] wY w5 from by rw [hw5]; exact (Kept.refl [] wY).drewN nq)
            clear hw5
            go_wp2_with fail
            go_ret
            exact ⟨rfl, (K2.out.trans K29.out).trans K5.out⟩
end Go.Proofs.YtielfgngdhcpfaaGreat
