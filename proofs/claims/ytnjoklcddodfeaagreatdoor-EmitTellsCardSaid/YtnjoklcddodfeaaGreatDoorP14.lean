/-
  Package orreryref03: And, Or, Xor, Raw of two that are there: the nodes that the program's graph has.
-/
import Derived.Test.YtnjoklcddodfeaaGreatDoorP13
import Derived.Deep.DeepCutAuto
import Derived.Outline
namespace Go.Proofs.YtnjoklcddodfeaaGreatDoor
open Go.ChangeShapes Go.WideShapes Go.ChangeAt Go.RowKit
open Go.Maps (Keyed)
open Go.WideMaps
set_option linter.unusedVariables false

variable {w w' : World} {q : Nat} {R S : List Nat} {g : Gr}
theorem gateG_sorted (a b : Nat) : gateG g (max a b) (min a b) = gateG g a b := by
  unfold gateG
  rw [show max (max a b) (min a b) = max a b by omega, show min (max a b) (min a b) = min a b by omega]
set_option maxHeartbeats 1600000 in
set_option maxRecDepth 100000 in
theorem ref_and {a b : Nat} (hg : RefAt w q R g) (hm : g.nodes.length ≤ 90000) (ha : g.ok a) (hb : g.ok b) : Calls Tryz.prog 130 #[.pointer (some ⟨q, 0, none⟩), .int .u32 a, .int .u32 b] w (RefPost (andG g a b) w q R) := by
  have a32 : a < 4294967296 := by unfold Gr.ok at ha; omega
  have b32 : b < 4294967296 := by unfold Gr.ok at hb; omega
  have HF := Lib.hid (ref_fold a32 b32 w)
  have HG := Lib.hid hg
  have hp := hg.wf.pos
  have c0 : w.cell? ⟨q, 0, none⟩ = some (.bool g.fold) := by obtain ⟨an, cn, rfl, hc⟩ := hg; exact hc.c0
  by_cases hf : foldB a b = true ∧ g.fold = true
  · have HA := Lib.hid (show andG g a b = (g, foldV a b) by unfold andG; rw [hf.1, hf.2]; rfl)
    have HV := Lib.hid (show fv a b = foldV a b by unfold fv; rw [if_pos hf.1])
    rw [hf.2] at c0
    rw [hf.1] at HF
    clear hg hf ha hb a32 b32
    go_enter Tryz.func130, Tryz.ntmps130
    go_wp2_with fail
    refine HF.out.mono ?_
    rintro e w' ⟨rfl, rfl⟩
    rw [HV.out]
    go_wp2_with fail
    go_ret2
    rw [HA.out]
    exact ⟨R, rfl, HG.out, .refl _ _⟩
  · obtain ⟨fb, hfb⟩ : ∃ fb, fb = foldB a b := ⟨_, rfl⟩
    obtain ⟨fo, hfo⟩ : ∃ fo, fo = g.fold := ⟨_, rfl⟩
    have hff : (fb && fo) = false := by rw [hfb, hfo]; cases h1 : foldB a b <;> cases h2 : g.fold <;> simp_all
    have HA := Lib.hid (show andG g a b = if (look g.nodes (max a b) (min a b)).isSome && g.hash then (g, (look g.nodes (max a b) (min a b)).getD 0) else gateG g a b by unfold andG; rw [← hfb, ← hfo, hff]; rfl)
    rw [← hfo] at c0
    rw [← hfb] at HF
    have HFF := Lib.hid hff
    clear hff hfb hfo hf
    have HOK := Lib.hid (show g.ok (max a b) ∧ g.ok (min a b) by unfold Gr.ok at *; constructor <;> omega)
    have HX := Lib.hid (show ∃ x y, x = max a b ∧ y = min a b ∧ x < 4294967296 ∧ y < 4294967296 from ⟨_, _, rfl, rfl, by omega, by omega⟩)
    clear hg ha hb
    go_enter Tryz.func130, Tryz.ntmps130
    go_upto_region 2 with (go_at_call 145; refine HF.out.mono ?_; rintro e w' ⟨rfl, rfl⟩)
    go_cut [23] (fun s wx => s = .bool false ∧ wx = w)
    case first =>
      have hff := HFF.out
      cases fb <;> cases fo <;> first | (exfalso; revert hff; decide) | skip
      all_goals
        clear hff HFF
        go_wp2_with fail
        go_meet
        exact ⟨rfl, rfl⟩
    case rest =>
      obtain ⟨rfl, rfl⟩ := hcut
      clear c0 HF HFF
      obtain ⟨w0, rfl⟩ : ∃ w0 : World, w0 = wc := ⟨_, rfl⟩
      go_upto_if 27 with (fail)
      go_cut [1, 2] (fun s1 s2 wx => s1 = .int .u32 ((max a b : Nat) : Int) ∧ s2 = .int .u32 ((min a b : Nat) : Int) ∧ wx = w0)
      case first =>
        by_cases hlt : a < b
        · have e1 := Lib.hid (show max a b = b ∧ min a b = a by omega)
          go_wp2_with fail
          go_meet
          rw [e1.out.1, e1.out.2]
          exact ⟨rfl, rfl, rfl⟩
        · have e1 := Lib.hid (show max a b = a ∧ min a b = b by omega)
          go_wp2_with fail
          go_meet
          rw [e1.out.1, e1.out.2]
          exact ⟨rfl, rfl, rfl⟩
      case rest =>
        obtain ⟨rfl, rfl, rfl⟩ := hcut
        obtain ⟨w1, rfl⟩ : ∃ w1 : World, w1 = wc := ⟨_, rfl⟩
        have HGT := Lib.hid (ref_gate HG.out (by omega) HOK.out.1 HOK.out.2)
        rw [gateG_sorted] at HGT
        obtain ⟨x, y, hx, hy, x32, y32⟩ := HX.out
        rw [← hx, ← hy] at HA HGT ⊢
        clear hx hy HOK HX a32 b32
        have hg := HG.out
        obtain ⟨an, cn, hR, hc⟩ := hg
        have c1 := hc.c1
        have c2 := hc.c2
        obtain ⟨gb, rfl, hcell⟩ := own3_form hc.nodes (by omega)
        have HC := Lib.hid hcell
        have HZ := Lib.hid (show look (g.nodes.take 1) x y = none by
          obtain ⟨p, r, hr⟩ : ∃ p r, g.nodes = p :: r := by cases h : g.nodes with | nil => rw [h] at hp; simp at hp | cons p r => exact ⟨p, r, rfl⟩
          have hz := hc.wf.zero
          rw [hr] at hz ⊢
          simp at hz
          subst hz
          simp only [List.take_succ_cons, List.take_zero, look, lookFrom]
          rw [if_neg (fun h => by have h1 := h.1; injection h1 with h1 h2; exact h.2 (by omega))])
        clear hc hcell hR
        obtain ⟨hh, hhh⟩ : ∃ hh, hh = g.hash := ⟨_, rfl⟩
        rw [← hhh] at c1 HA
        clear hhh
        cases hh
        · have HA2 := Lib.hid (show andG g a b = gateG g a b by rw [HA.out]; simp)
          clear HA HC HZ
          go_wp2_with fail
          go_loop [10] (fun i => ∃ k : Nat, i = .int .i64 k ∧ 1 ≤ k) (fun i => 0)
          case atStart => exact ⟨1, rfl, by omega⟩
          case round =>
            obtain ⟨k, rfl, hk⟩ := hrel
            go_wp2_with fail
            refine HGT.out.mono ?_
            rintro e w' ⟨R', rfl, h1, h2⟩
            go_wp2_with fail
            go_ret2
            rw [HA2.out]
            exact ⟨R', rfl, h1, h2⟩
        · go_wp2_with fail
          go_loop [10] (fun i => ∃ k : Nat, i = .int .i64 k ∧ 1 ≤ k ∧ k ≤ g.nodes.length ∧ Hid (look (g.nodes.take k) x y = none)) (fun i => g.nodes.length - (intOf i).toNat)
          case atStart => exact ⟨1, rfl, by omega, by omega, HZ⟩
          case round =>
            obtain ⟨k, rfl, hk1, hk, HL⟩ := hrel
            by_cases hlt : k < g.nodes.length
            · obtain ⟨p, hpk⟩ : ∃ p, g.nodes[k]? = some p := ⟨_, List.getElem?_eq_getElem hlt⟩
              obtain ⟨hcb, hcx⟩ := rnode_cells HC.out hpk
              obtain ⟨px, py⟩ := p
              dsimp only at hcb hcx
              by_cases hin : px / 2 = k
              · have HM := Lib.hid (look_miss HL.out hpk (by
                  by_cases h : (px, py) = (x, y)
                  · injection h with h1 h2; subst h1; exact .inr hin
                  · exact .inl h))
                have hb : (decide (px / 2 = k) && decide (k ≠ 0)) = true := by simp [hin]; omega
                rw [hb] at hcb
                clear hb hin hcx hpk
                go_wp2_with fail
                go_round
                case rel => exact ⟨k + 1, by go_num, by omega, by omega, Lib.hid HM.out⟩
                case measure => simp [intOf]; omega
              · obtain ⟨hca, hcb2⟩ := hcx hin
                have hb : (decide (px / 2 = k) && decide (k ≠ 0)) = false := by simp [hin]
                rw [hb] at hcb
                clear hb hcx
                by_cases hx : px = x
                · by_cases hy : py = y
                  · subst hx hy
                    have HHIT := Lib.hid (look_hit HL.out hpk hin)
                    have HA2 := Lib.hid (show andG g a b = (g, 2 * k) by rw [HA.out, HHIT.out]; rfl)
                    have u1 : IntKind.u32.wrap (2 * (k : Int)) = 2 * (k : Int) := by simp only [IntKind.wrap_u32]; omega
                    clear hin hpk HA HGT
                    go_wp2_with fail
                    go_ret2
                    rw [HA2.out]
                    exact ⟨R, by simp, HG.out, .refl _ _⟩
                  · have HM := Lib.hid (look_miss HL.out hpk (.inl (fun h => hy (by injection h))))
                    subst hx
                    have t2 : ((py : Int) == (y : Int)) = false := by simp; omega
                    clear hy hin hpk
                    go_wp2_with fail
                    go_round
                    case rel => exact ⟨k + 1, by go_num, by omega, by omega, Lib.hid HM.out⟩
                    case measure => simp [intOf]; omega
                · have HM := Lib.hid (look_miss HL.out hpk (.inl (fun h => hx (by injection h))))
                  have t1 : ((px : Int) == (x : Int)) = false := by simp; omega
                  clear hx hin hpk
                  go_wp2_with fail
                  go_round
                  case rel => exact ⟨k + 1, by go_num, by omega, by omega, Lib.hid HM.out⟩
                  case measure => simp [intOf]; omega
            · have HE := Lib.hid (show g.nodes.take k = g.nodes from List.take_of_length_le (by omega))
              have HA2 := Lib.hid (show andG g a b = gateG g a b by have h := HL.out; rw [HE.out] at h; rw [HA.out, h]; rfl)
              clear HL
              go_wp2_with fail
              refine HGT.out.mono ?_
              rintro e w' ⟨R', rfl, h1, h2⟩
              go_wp2_with fail
              go_ret2
              rw [HA2.out]
              exact ⟨R', rfl, h1, h2⟩
theorem ref_two1 {a b : Nat} (hg : RefAt w q R g) (hm : g.nodes.length ≤ 90000) (ha : g.ok a) (hb : g.ok b) : Calls Tryz.prog 111 #[.pointer (some ⟨q, 0, none⟩), .int .i64 1, .int .u32 a, .int .u32 b] w (RefPost (andG g a b) w q R) := by
  have H := Lib.hid (ref_and hg hm ha hb)
  clear hg ha hb
  generalize andG g a b = r at *
  go_enter Tryz.func111, Tryz.ntmps111
  go_wp2_with fail
  refine H.out.mono ?_
  rintro e w' ⟨R', rfl, h1, h2⟩
  go_wp2_with fail
  go_ret2
  exact ⟨R', rfl, h1, h2⟩
theorem ok32 {g : Gr} {a : Nat} (h : g.ok a) (hm : g.nodes.length ≤ 1000000) : a < 4294967296 := by unfold Gr.ok at h; omega
set_option maxHeartbeats 800000 in
theorem ref_two2 {a b : Nat} (hg : RefAt w q R g) (hm : g.nodes.length ≤ 80000) (ha : g.ok a) (hb : g.ok b) : Calls Tryz.prog 111 #[.pointer (some ⟨q, 0, none⟩), .int .i64 2, .int .u32 a, .int .u32 b] w (RefPost (orG g a b) w q R) := by
  have H := Lib.hid (ref_and hg (by omega) (ok_nt ha) (ok_nt hb))
  have N1 := Lib.hid (ref_not a w (ok32 ha (by omega)))
  have N2 := Lib.hid (ref_not b w (ok32 hb (by omega)))
  have hs := andG_spec hg.wf (ok_nt ha) (ok_nt hb)
  have hz := hs.2.1.le
  have h32 := ok32 hs.2.2 (by omega)
  have HO := Lib.hid (show orG g a b = ((andG g (ntL a) (ntL b)).1, ntL (andG g (ntL a) (ntL b)).2) from rfl)
  clear hg ha hb hs hz
  generalize andG g (ntL a) (ntL b) = r at *
  have N3 := Lib.hid (fun w => ref_not r.2 w h32)
  clear h32
  go_enter Tryz.func111, Tryz.ntmps111
  go_wp2_with fail
  refine N1.out.mono ?_
  rintro e w' ⟨rfl, rfl⟩
  go_wp2_with fail
  refine N2.out.mono ?_
  rintro e w' ⟨rfl, rfl⟩
  go_wp2_with fail
  refine H.out.mono ?_
  rintro e w1 ⟨R', rfl, h1, h2⟩
  go_wp2_with fail
  refine (N3.out _).mono ?_
  rintro e w' ⟨rfl, rfl⟩
  go_wp2_with fail
  go_ret2
  rw [HO.out]
  exact ⟨R', rfl, h1, h2⟩
set_option maxHeartbeats 800000 in
theorem ref_both {a b c d : Nat} (hg : RefAt w q R g) (hm : g.nodes.length ≤ 70000) (ha : g.ok a) (hb : g.ok b) (hc : g.ok c) (hd : g.ok d) : Calls Tryz.prog 132 #[.pointer (some ⟨q, 0, none⟩), .int .u32 a, .int .u32 b, .int .u32 c, .int .u32 d] w (RefPost (bothG g a b c d) w q R) := by
  have H1 := Lib.hid (ref_and hg (by omega) ha hb)
  have s1 := andG_spec hg.wf ha hb
  have z1 := s1.2.1.le
  have HB := Lib.hid (show bothG g a b c d = orG (andG (andG g a b).1 c d).1 (andG g a b).2 (andG (andG g a b).1 c d).2 from rfl)
  have c1 := s1.2.1.ok hc
  have d1 := s1.2.1.ok hd
  clear hg ha hb hc hd
  obtain ⟨⟨g1, x1⟩, e1⟩ : ∃ r, r = andG g a b := ⟨_, rfl⟩
  rw [← e1] at s1 z1 H1 HB c1 d1
  clear e1
  have s2 := andG_spec s1.1 c1 d1
  have z2 := s2.2.1.le
  have H2 := Lib.hid (fun (W : World) (R' : List Nat) (h : RefAt W q R' g1) => ref_and h (by dsimp only at z1; omega) c1 d1)
  have x2 := s2.2.1.ok s1.2.2
  obtain ⟨⟨g2, y2⟩, e2⟩ : ∃ r, r = andG g1 c d := ⟨_, rfl⟩
  dsimp only at *
  rw [← e2] at s2 z2 HB x2
  have H2' := Lib.hid (fun (W : World) (R' : List Nat) (h : RefAt W q R' g1) => (by rw [e2]; exact H2.out W R' h : Calls Tryz.prog 130 #[.pointer (some ⟨q, 0, none⟩), .int .u32 c, .int .u32 d] W (RefPost (g2, y2) W q R')))
  clear e2 H2
  dsimp only at *
  have H3 := Lib.hid (fun (W : World) (R' : List Nat) (h : RefAt W q R' g2) => ref_two2 h (by omega) x2 s2.2.2)
  clear s1 s2 z1 z2 c1 d1 x2
  rw [HB.out]
  clear HB
  generalize orG g2 x1 y2 = r at *
  go_enter Tryz.func132, Tryz.ntmps132
  go_wp2_with fail
  refine H1.out.mono ?_
  rintro e w1 ⟨R1, rfl, h1, k1⟩
  have G1 := Lib.hid h1
  have K1 := Lib.hid k1
  clear h1 k1
  go_wp2_with fail
  refine (H2'.out _ _ G1.out).mono ?_
  rintro e w2 ⟨R2, rfl, h2, k2⟩
  have G2 := Lib.hid h2
  have K2 := Lib.hid (K1.out.trans k2)
  clear h2 k2 G1 K1
  go_wp2_with fail
  refine (H3.out _ _ G2.out).mono ?_
  rintro e w3 ⟨R3, rfl, h3, k3⟩
  have K3 := Lib.hid (K2.out.trans k3)
  have G3 := Lib.hid h3
  clear h3 k3 G2 K2
  go_wp2_with fail
  go_ret2
  exact ⟨R3, rfl, G3.out, K3.out⟩
set_option maxHeartbeats 800000 in
theorem ref_two3 {a b : Nat} (hg : RefAt w q R g) (hm : g.nodes.length ≤ 70000) (ha : g.ok a) (hb : g.ok b) : Calls Tryz.prog 111 #[.pointer (some ⟨q, 0, none⟩), .int .i64 3, .int .u32 a, .int .u32 b] w (RefPost (xorG g a b) w q R) := by
  have H := Lib.hid (ref_both hg hm ha (ok_nt hb) (ok_nt ha) hb)
  have N1 := Lib.hid (ref_not a w (ok32 ha (by omega)))
  have N2 := Lib.hid (ref_not b w (ok32 hb (by omega)))
  have HO := Lib.hid (show xorG g a b = bothG g a (ntL b) (ntL a) b from rfl)
  rw [HO.out]
  clear hg ha hb HO
  generalize bothG g a (ntL b) (ntL a) b = r at *
  go_enter Tryz.func111, Tryz.ntmps111
  go_wp2_with fail
  refine N2.out.mono ?_
  rintro e w' ⟨rfl, rfl⟩
  go_wp2_with fail
  refine N1.out.mono ?_
  rintro e w' ⟨rfl, rfl⟩
  go_wp2_with fail
  refine H.out.mono ?_
  rintro e w1 ⟨R', rfl, h1, h2⟩
  go_wp2_with fail
  go_ret2
  exact ⟨R', rfl, h1, h2⟩
end Go.Proofs.YtnjoklcddodfeaaGreatDoor
