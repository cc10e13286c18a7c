/-
  The document's netlists in memory.
  Package orreryref03: literals that are there; Raw. Two graphs side by side.
  Package orreryref03: And, Or, Xor, Raw of two that are there: the nodes that the program's graph has.
-/
import Derived.Test.YtielfgngdhcpfaaGreatP34
import Derived.Deep.DeepCutAuto
import Derived.Outline
import Derived.Test.YtielfgngdhcpfaaGreatP14
import Derived.Test.YtielfgngdhcpfaaGreatP13
namespace Go.Proofs.YtielfgngdhcpfaaGreat
open Go.ChangeShapes Go.WideShapes Go.ChangeAt Go.RowKit
open Go.Maps (Keyed)
open Go.WideMaps
set_option linter.unusedVariables false

variable {w w' : World} {q : Nat} {R S : List Nat} {g : Gr}
theorem gateG_sorted (a b : Nat) : gateG g (max a b) (min a b) = gateG g a b := by
  unfold gateG
  rw [show max (max a b) (min a b) = max a b by omega, show min (max a b) (min a b) = min a b by omega]
set_option maxHeartbeats 1600000 in
set_option maxRecDepth 100000 in
theorem ref_and {a b : Nat} (hg : RefAt w q R g) (hm : g.nodes.length ≤ 90000) (ha : g.ok a) (hb : g.ok b) : Calls Tryz.prog 111 #[.pointer (some ⟨q, 0, none⟩), .int .u32 a, .int .u32 b] w (RefPost (andG g a b) w q R) := by
  have a32 : a < 4294967296 := by unfold Gr.ok at ha; omega
  have b32 : b < 4294967296 := by unfold Gr.ok at hb; omega
  have HF := Lib.hid (ref_fold a32 b32 w)
  have HG := Lib.hid hg
  have hp := hg.wf.pos
  have c0 : w.cell? ⟨q, 0, none⟩ = some (.bool g.fold) := by obtain ⟨an, cn, rfl, hc⟩ := hg; exact hc.c0
  by_cases hf : foldB a b = true ∧ g.fold = true
  · have HA := Lib.hid (show andG g a b = (g, foldV a b) by unfold andG; rw [hf.1, hf.2]; rfl)
    have HV := Lib.hid (show fv a b = foldV a b by unfold fv; rw [if_pos hf.1])
    rw [hf.2] at c0
    rw [hf.1] at HF
    clear hg hf ha hb a32 b32
    go_enter Tryz.func111, Tryz.ntmps111
    go_wp2_with fail
    refine HF.out.mono ?_
    rintro e w' ⟨rfl, rfl⟩
    rw [HV.out]
    go_wp2_with fail
    go_ret2
    rw [HA.out]
    exact ⟨R, rfl, HG.out, .refl _ _⟩
  · obtain ⟨fb, hfb⟩ : ∃ fb, fb = foldB a b := ⟨_, rfl⟩
    obtain ⟨fo, hfo⟩ : ∃ fo, fo = g.fold := ⟨_, rfl⟩
    have hff : (fb && fo) = false := by rw [hfb, hfo]; cases h1 : foldB a b <;> cases h2 : g.fold <;> simp_all
    have HA := Lib.hid (show andG g a b = if (look g.nodes (max a b) (min a b)).isSome && g.hash then (g, (look g.nodes (max a b) (min a b)).getD 0) else gateG g a b by unfold andG; rw [← hfb, ← hfo, hff]; rfl)
    rw [← hfo] at c0
    rw [← hfb] at HF
    have HFF := Lib.hid hff
    clear hff hfb hfo hf
    have HOK := Lib.hid (show g.ok (max a b) ∧ g.ok (min a b) by unfold Gr.ok at *; constructor <;> omega)
    have HX := Lib.hid (show ∃ x y, x = max a b ∧ y = min a b ∧ x < 4294967296 ∧ y < 4294967296 from ⟨_, _, rfl, rfl, by omega, by omega⟩)
    clear hg ha hb
    go_enter Tryz.func111, Tryz.ntmps111
    go_upto_region 2 with (go_at_call 121; refine HF.out.mono ?_; rintro e w' ⟨rfl, rfl⟩)
    go_cut [23] (fun s wx => s = .bool false ∧ wx = w)
    case first =>
      have hff := HFF.out
      cases fb <;> cases fo <;> first | (exfalso; revert hff; decide) | skip
      all_goals
        clear hff HFF
        go_wp2_with fail
        go_meet
        exact ⟨rfl, rfl⟩
    case rest =>
      obtain ⟨rfl, rfl⟩ := hcut
      clear c0 HF HFF
      obtain ⟨w0, rfl⟩ : ∃ w0 : World, w0 = wc := ⟨_, rfl⟩
      go_upto_if 27 with (fail)
      go_cut [1, 2] (fun s1 s2 wx => s1 = .int .u32 ((max a b : Nat) : Int) ∧ s2 = .int .u32 ((min a b : Nat) : Int) ∧ wx = w0)
      case first =>
        by_cases hlt : a < b
        · have e1 := Lib.hid (show max a b = b ∧ min a b = a by omega)
          go_wp2_with fail
          go_meet
          rw [e1.out.1, e1.out.2]
          exact ⟨rfl, rfl, rfl⟩
        · have e1 := Lib.hid (show max a b = a ∧ min a b = b by omega)
          go_wp2_with fail
          go_meet
          rw [e1.out.1, e1.out.2]
          exact ⟨rfl, rfl, rfl⟩
      case rest =>
        obtain ⟨rfl, rfl, rfl⟩ := hcut
        obtain ⟨w1, rfl⟩ : ∃ w1 : World, w1 = wc := ⟨_, rfl⟩
        have HGT := Lib.hid (ref_gate HG.out (by omega) HOK.out.1 HOK.out.2)
        rw [gateG_sorted] at HGT
        obtain ⟨x, y, hx, hy, x32, y32⟩ := HX.out
        rw [← hx, ← hy] at HA HGT ⊢
        clear hx hy HOK HX a32 b32
        have hg := HG.out
        obtain ⟨an, cn, hR, hc⟩ := hg
        have c1 := hc.c1
        have c2 := hc.c2
        obtain ⟨gb, rfl, hcell⟩ := own3_form hc.nodes (by omega)
        have HC := Lib.hid hcell
        have HZ := Lib.hid (show look (g.nodes.take 1) x y = none by
          obtain ⟨p, r, hr⟩ : ∃ p r, g.nodes = p :: r := by cases h : g.nodes with | nil => rw [h] at hp; simp at hp | cons p r => exact ⟨p, r, rfl⟩
          have hz := hc.wf.zero
          rw [hr] at hz ⊢
          simp at hz
          subst hz
          simp only [List.take_succ_cons, List.take_zero, look, lookFrom]
          rw [if_neg (fun h => by have h1 := h.1; injection h1 with h1 h2; exact h.2 (by omega))])
        clear hc hcell hR
        obtain ⟨hh, hhh⟩ : ∃ hh, hh = g.hash := ⟨_, rfl⟩
        rw [← hhh] at c1 HA
        clear hhh
        cases hh
        · have HA2 := Lib.hid (show andG g a b = gateG g a b by rw [HA.out]; simp)
          clear HA HC HZ
          go_wp2_with fail
          go_loop [10] (fun i => ∃ k : Nat, i = .int .i64 k ∧ 1 ≤ k) (fun i => 0)
          case atStart => exact ⟨1, rfl, by omega⟩
          case round =>
            obtain ⟨k, rfl, hk⟩ := hrel
            go_wp2_with fail
            refine HGT.out.mono ?_
            rintro e w' ⟨R', rfl, h1, h2⟩
            go_wp2_with fail
            go_ret2
            rw [HA2.out]
            exact ⟨R', rfl, h1, h2⟩
        · go_wp2_with fail
          go_loop [10] (fun i => ∃ k : Nat, i = .int .i64 k ∧ 1 ≤ k ∧ k ≤ g.nodes.length ∧ Hid (look (g.nodes.take k) x y = none)) (fun i => g.nodes.length - (intOf i).toNat)
          case atStart => exact ⟨1, rfl, by omega, by omega, HZ⟩
          case round =>
            obtain ⟨k, rfl, hk1, hk, HL⟩ := hrel
            by_cases hlt : k < g.nodes.length
            · obtain ⟨p, hpk⟩ : ∃ p, g.nodes[k]? = some p := ⟨_, List.getElem?_eq_getElem hlt⟩
              obtain ⟨hcb, hcx⟩ := rnode_cells HC.out hpk
              obtain ⟨px, py⟩ := p
              dsimp only at hcb hcx
              by_cases hin : px / 2 = k
              · have HM := Lib.hid (look_miss HL.out hpk (by
                  by_cases h : (px, py) = (x, y)
                  · injection h with h1 h2; subst h1; exact .inr hin
                  · exact .inl h))
                have hb : (decide (px / 2 = k) && decide (k ≠ 0)) = true := by simp [hin]; omega
                rw [hb] at hcb
                clear hb hin hcx hpk
                go_wp2_with fail
                go_round
                case rel => exact ⟨k + 1, by go_num, by omega, by omega, Lib.hid HM.out⟩
                case measure => simp [intOf]; omega
              · obtain ⟨hca, hcb2⟩ := hcx hin
                have hb : (decide (px / 2 = k) && decide (k ≠ 0)) = false := by simp [hin]
                rw [hb] at hcb
                clear hb hcx
                by_cases hx : px = x
                · by_cases hy : py = y
                  · subst hx hy
                    have HHIT := Lib.hid (look_hit HL.out hpk hin)
                    have HA2 := Lib.hid (show andG g a b = (g, 2 * k) by rw [HA.out, HHIT.out]; rfl)
                    have u1 : IntKind.u32.wrap (2 * (k : Int)) = 2 * (k : Int) := by simp only [IntKind.wrap_u32]; omega
                    clear hin hpk HA HGT
                    go_wp2_with fail
                    go_ret2
                    rw [HA2.out]
                    exact ⟨R, by simp, HG.out, .refl _ _⟩
                  · have HM := Lib.hid (look_miss HL.out hpk (.inl (fun h => hy (by injection h))))
                    subst hx
                    have t2 : ((py : Int) == (y : Int)) = false := by simp; omega
                    clear hy hin hpk
                    go_wp2_with fail
                    go_round
                    case rel => exact ⟨k + 1, by go_num, by omega, by omega, Lib.hid HM.out⟩
                    case measure => simp [intOf]; omega
                · have HM := Lib.hid (look_miss HL.out hpk (.inl (fun h => hx (by injection h))))
                  have t1 : ((px : Int) == (x : Int)) = false := by simp; omega
                  clear hx hin hpk
                  go_wp2_with fail
                  go_round
                  case rel => exact ⟨k + 1, by go_num, by omega, by omega, Lib.hid HM.out⟩
                  case measure => simp [intOf]; omega
            · have HE := Lib.hid (show g.nodes.take k = g.nodes from List.take_of_length_le (by omega))
              have HA2 := Lib.hid (show andG g a b = gateG g a b by have h := HL.out; rw [HE.out] at h; rw [HA.out, h]; rfl)
              clear HL
              go_wp2_with fail
              refine HGT.out.mono ?_
              rintro e w' ⟨R', rfl, h1, h2⟩
              go_wp2_with fail
              go_ret2
              rw [HA2.out]
              exact ⟨R', rfl, h1, h2⟩
theorem ref_two1 {a b : Nat} (hg : RefAt w q R g) (hm : g.nodes.length ≤ 90000) (ha : g.ok a) (hb : g.ok b) : Calls Tryz.prog 102 #[.pointer (some ⟨q, 0, none⟩), .int .i64 1, .int .u32 a, .int .u32 b] w (RefPost (andG g a b) w q R) := by
  have H := Lib.hid (ref_and hg hm ha hb)
  clear hg ha hb
  generalize andG g a b = r at *
  go_enter Tryz.func102, Tryz.ntmps102
  go_wp2_with fail
  refine H.out.mono ?_
  rintro e w' ⟨R', rfl, h1, h2⟩
  go_wp2_with fail
  go_ret2
  exact ⟨R', rfl, h1, h2⟩
theorem ok32 {g : Gr} {a : Nat} (h : g.ok a) (hm : g.nodes.length ≤ 1000000) : a < 4294967296 := by unfold Gr.ok at h; omega
set_option maxHeartbeats 800000 in
theorem ref_two2 {a b : Nat} (hg : RefAt w q R g) (hm : g.nodes.length ≤ 80000) (ha : g.ok a) (hb : g.ok b) : Calls Tryz.prog 102 #[.pointer (some ⟨q, 0, none⟩), .int .i64 2, .int .u32 a, .int .u32 b] w (RefPost (orG g a b) w q R) := by
  have H := Lib.hid (ref_and hg (by omega) (ok_nt ha) (ok_nt hb))
  have N1 := Lib.hid (ref_not a w (ok32 ha (by omega)))
  have N2 := Lib.hid (ref_not b w (ok32 hb (by omega)))
  have hs := andG_spec hg.wf (ok_nt ha) (ok_nt hb)
  have hz := hs.2.1.le
  have h32 := ok32 hs.2.2 (by omega)
  have HO := Lib.hid (show orG g a b = ((andG g (ntL a) (ntL b)).1, ntL (andG g (ntL a) (ntL b)).2) from rfl)
  clear hg ha hb hs hz
  generalize andG g (ntL a) (ntL b) = r at *
  have N3 := Lib.hid (fun w => ref_not r.2 w h32)
  clear h32
  go_enter Tryz.func102, Tryz.ntmps102
  go_wp2_with fail
  refine N1.out.mono ?_
  rintro e w' ⟨rfl, rfl⟩
  go_wp2_with fail
  refine N2.out.mono ?_
  rintro e w' ⟨rfl, rfl⟩
  go_wp2_with fail
  refine H.out.mono ?_
  rintro e w1 ⟨R', rfl, h1, h2⟩
  go_wp2_with fail
  refine (N3.out _).mono ?_
  rintro e w' ⟨rfl, rfl⟩
  go_wp2_with fail
  go_ret2
  rw [HO.out]
  exact ⟨R', rfl, h1, h2⟩
set_option maxHeartbeats 800000 in
theorem ref_both {a b c d : Nat} (hg : RefAt w q R g) (hm : g.nodes.length ≤ 70000) (ha : g.ok a) (hb : g.ok b) (hc : g.ok c) (hd : g.ok d) : Calls Tryz.prog 113 #[.pointer (some ⟨q, 0, none⟩), .int .u32 a, .int .u32 b, .int .u32 c, .int .u32 d] w (RefPost (bothG g a b c d) w q R) := by
  have H1 := Lib.hid (ref_and hg (by omega) ha hb)
  have s1 := andG_spec hg.wf ha hb
  have z1 := s1.2.1.le
  have HB := Lib.hid (show bothG g a b c d = orG (andG (andG g a b).1 c d).1 (andG g a b).2 (andG (andG g a b).1 c d).2 from rfl)
  have c1 := s1.2.1.ok hc
  have d1 := s1.2.1.ok hd
  clear hg ha hb hc hd
  obtain ⟨⟨g1, x1⟩, e1⟩ : ∃ r, r = andG g a b := ⟨_, rfl⟩
  rw [← e1] at s1 z1 H1 HB c1 d1
  clear e1
  have s2 := andG_spec s1.1 c1 d1
  have z2 := s2.2.1.le
  have H2 := Lib.hid (fun (W : World) (R' : List Nat) (h : RefAt W q R' g1) => ref_and h (by dsimp only at z1; omega) c1 d1)
  have x2 := s2.2.1.ok s1.2.2
  obtain ⟨⟨g2, y2⟩, e2⟩ : ∃ r, r = andG g1 c d := ⟨_, rfl⟩
  dsimp only at *
  rw [← e2] at s2 z2 HB x2
  have H2' := Lib.hid (fun (W : World) (R' : List Nat) (h : RefAt W q R' g1) => (by rw [e2]; exact H2.out W R' h : Calls Tryz.prog 111 #[.pointer (some ⟨q, 0, none⟩), .int .u32 c, .int .u32 d] W (RefPost (g2, y2) W q R')))
  clear e2 H2
  dsimp only at *
  have H3 := Lib.hid (fun (W : World) (R' : List Nat) (h : RefAt W q R' g2) => ref_two2 h (by omega) x2 s2.2.2)
  clear s1 s2 z1 z2 c1 d1 x2
  rw [HB.out]
  clear HB
  generalize orG g2 x1 y2 = r at *
  go_enter Tryz.func113, Tryz.ntmps113
  go_wp2_with fail
  refine H1.out.mono ?_
  rintro e w1 ⟨R1, rfl, h1, k1⟩
  have G1 := Lib.hid h1
  have K1 := Lib.hid k1
  clear h1 k1
  go_wp2_with fail
  refine (H2'.out _ _ G1.out).mono ?_
  rintro e w2 ⟨R2, rfl, h2, k2⟩
  have G2 := Lib.hid h2
  have K2 := Lib.hid (K1.out.trans k2)
  clear h2 k2 G1 K1
  go_wp2_with fail
  refine (H3.out _ _ G2.out).mono ?_
  rintro e w3 ⟨R3, rfl, h3, k3⟩
  have K3 := Lib.hid (K2.out.trans k3)
  have G3 := Lib.hid h3
  clear h3 k3 G2 K2
  go_wp2_with fail
  go_ret2
  exact ⟨R3, rfl, G3.out, K3.out⟩
set_option maxHeartbeats 800000 in
theorem ref_two3 {a b : Nat} (hg : RefAt w q R g) (hm : g.nodes.length ≤ 70000) (ha : g.ok a) (hb : g.ok b) : Calls Tryz.prog 102 #[.pointer (some ⟨q, 0, none⟩), .int .i64 3, .int .u32 a, .int .u32 b] w (RefPost (xorG g a b) w q R) := by
  have H := Lib.hid (ref_both hg hm ha (ok_nt hb) (ok_nt ha) hb)
  have N1 := Lib.hid (ref_not a w (ok32 ha (by omega)))
  have N2 := Lib.hid (ref_not b w (ok32 hb (by omega)))
  have HO := Lib.hid (show xorG g a b = bothG g a (ntL b) (ntL a) b from rfl)
  rw [HO.out]
  clear hg ha hb HO
  generalize bothG g a (ntL b) (ntL a) b = r at *
  go_enter Tryz.func102, Tryz.ntmps102
  go_wp2_with fail
  refine N2.out.mono ?_
  rintro e w' ⟨rfl, rfl⟩
  go_wp2_with fail
  refine N1.out.mono ?_
  rintro e w' ⟨rfl, rfl⟩
  go_wp2_with fail
  refine H.out.mono ?_
  rintro e w1 ⟨R', rfl, h1, h2⟩
  go_wp2_with fail
  go_ret2
  exact ⟨R', rfl, h1, h2⟩
end Go.Proofs.YtielfgngdhcpfaaGreat

namespace Go.Proofs.YtielfgngdhcpfaaGreat
open Go.ChangeShapes Go.WideShapes Go.ChangeAt Go.RowKit
open Go.Maps (Keyed)
open Go.WideMaps
set_option linter.unusedVariables false

variable {w w' : World} {q p : Nat} {R F S : List Nat} {g : Gr}
set_option maxHeartbeats 800000 in
theorem ref_there (hg : RefAt w q R g) (hm : g.nodes.length ≤ 90000) (a : Option Addr) (c n : Nat) (l : List Nat) (hl : l.length = n) (hn : n ≤ 1000000) (hs : SlN w .u32 a l) (hok : ∀ x ∈ l, g.ok x) :
    Calls Tryz.prog 64 #[.pointer (some ⟨q, 0, none⟩), .slice a n c] w fun e w' => e = .returned (.bool true) ∧ ∃ k, w' = w.drewN k := by
  obtain ⟨an, cn, rfl, hc⟩ := hg
  have c2 := hc.c2
  have HL := Lib.hid hl
  have HS := Lib.hid hs
  have HOK := Lib.hid hok
  clear hc hl hs hok
  go_enter Tryz.func64, Tryz.ntmps64
  go_wp2_with fail
  go_loopw [5] (fun i wr => ∃ k m : Nat, k ≤ n ∧ i = .int .i64 k ∧ wr = w.drewN m) (fun i _ => n - (intOf i).toNat)
  case atStart => exact ⟨0, 0, Nat.zero_le _, rfl, rfl⟩
  case round =>
    obtain ⟨k, m, hk, rfl, rfl⟩ := hrel
    by_cases hlt : k < n
    · have hkl : k < l.length := by rw [HL.out]; exact hlt
      obtain ⟨ad, rfl, hcx⟩ := HS.out k hkl
      have hx := HOK.out _ (List.getElem_mem hkl)
      unfold Gr.ok at hx
      generalize l[k] = x at *
      have b1 : (x : Int) / 2 < (g.nodes.length : Int) := by omega
      have t1 : decide ((g.nodes.length : Int) ≤ (x : Int) / 2) = false := by simp; omega
      have t2 : decide (g.nodes.length ≤ x / 2) = false := by simp; omega
      go_wp2_with fail
      go_quiet (fail)
      go_wp2_with fail
      go_roundw
      case rel => exact ⟨k + 1, _, by omega, by go_num, rfl⟩
      case measure => simp [intOf]; omega
    · go_wp2_with fail
      go_ret
      exact ⟨rfl, m, rfl⟩

/-! ### The program's graph and the document's, side by side -/
theorem ref_apart {w1 w2 : World} {G G' : List Nat} (hg : RefAt w1 q R g) (hd : ∀ x ∈ R, x ∉ G) (hst : Stepped w1 w2 G G') : RefAt w2 q R g ∧ ∀ x ∈ R, x ∉ G' :=
  ⟨hg.kept hst.kept hd, fun x hx hf => by
    rcases hst.fresh x hf with h | h
    · exact hd x hx h
    · have := hg.lt x hx; omega⟩
theorem graph_apart {w1 w2 : World} {G G' : List Nat} (hg : GraphAt w1 p F g) (hd : ∀ x ∈ F, x ∉ G) (hst : Stepped w1 w2 G G') : GraphAt w2 p F g ∧ ∀ x ∈ F, x ∉ G' :=
  ⟨hg.kept hst.kept hd, fun x hx hf => by
    rcases hst.fresh x hf with h | h
    · exact hd x hx h
    · have := hg.lt x hx; omega⟩
structure Both (w0 w : World) (p : Nat) (F : List Nat) (q : Nat) (R : List Nat) (g : Gr) : Prop where
  graph : GraphAt w p F g
  ref : RefAt w q R g
  apart : ∀ x ∈ F, x ∉ R
  kept : Kept [] w0 w
  newF : ∀ x ∈ F, w0.heap.size ≤ x
  newR : ∀ x ∈ R, w0.heap.size ≤ x
theorem Both.kept0 {w0 w w' : World} {F R : List Nat} (h : Both w0 w p F q R g) (hk : Kept [] w w') : Both w0 w' p F q R g := ⟨h.graph.kept0 hk, h.ref.kept0 hk, h.apart, h.kept.trans hk, h.newF, h.newR⟩
/-- one step of each -/
theorem Both.step {w0 w w1 w2 : World} {F F' R R' : List Nat} {g' : Gr} (h : Both w0 w p F q R g) (h1 : GraphAt w1 p F' g') (s1 : Stepped w w1 F F') (h2 : RefAt w2 q R' g') (s2 : Stepped w1 w2 R R') : Both w0 w2 p F' q R' g' := by
  have a1 := ref_apart h.ref (fun x hx hf => h.apart x hf hx) s1
  have a2 := graph_apart h1 (fun x hx hf => a1.2 x hf hx) s2
  refine ⟨a2.1, h2, a2.2, ?_, ?_, ?_⟩
  · exact kept_up (kept_up h.kept s1.kept h.newF) s2.kept h.newR
  · intro x hx
    rcases s1.fresh x hx with h3 | h3
    · exact h.newF x h3
    · exact Nat.le_trans h.kept.size h3
  · intro x hx
    rcases s2.fresh x hx with h3 | h3
    · exact h.newR x h3
    · exact Nat.le_trans (Nat.le_trans h.kept.size s1.kept.size) h3
end Go.Proofs.YtielfgngdhcpfaaGreat

namespace Go.Proofs.YtielfgngdhcpfaaGreat
open Go.ChangeShapes Go.WideShapes Go.ChangeAt Go.RowKit
open Go.Maps (Keyed)
open Go.WideMaps
set_option linter.unusedVariables false
set_option linter.unusedSimpArgs false

/-- buses in memory: where the row lies, its capacity, what each refers to -/
structure RBusesAt (w : World) (a : Option Addr) (c : Nat) (l : List Bus) (rs : List BR) : Prop where
  own : w.ownsRow 0 136 2 (.slice a l.length c) l.length (brCells rs)
  is : rs.map (·.b) = l
  rows : ∀ r ∈ rs, SlN w .u32 r.a r.b.lits ∧ (∀ b ∈ ft r.a, b < w.heap.size)
variable {w w' : World} {p n : Nat} {F R S : List Nat} {g : Gr} {N : Nt}
theorem RBusesAt.kept {a : Option Addr} {c : Nat} {l : List Bus} {rs : List BR} (h : RBusesAt w a c l rs) (hk : Kept S w w') (h1 : ∀ b ∈ ft a, b ∉ S) (h2 : ∀ b ∈ rowsOf rs, b ∉ S) : RBusesAt w' a c l rs :=
  ⟨own_kept h.own hk h1, h.is, fun r hr => ⟨(h.rows r hr).1.kept hk (fun b hb => h2 b (mem_rowsOf.2 ⟨r, hr, hb⟩)), fun b hb => Nat.lt_of_lt_of_le ((h.rows r hr).2 b hb) hk.size⟩⟩
theorem RBusesAt.lt {a : Option Addr} {c : Nat} {l : List Bus} {rs : List BR} (h : RBusesAt w a c l rs) : (∀ b ∈ ft a, b < w.heap.size) ∧ ∀ b ∈ rowsOf rs, b < w.heap.size :=
  ⟨owns_lt h.own, fun b hb => by obtain ⟨r, hr, hb⟩ := mem_rowsOf.1 hb; exact (h.rows r hr).2 b hb⟩
structure RNetC (w : World) (n : Nat) (N : Nt) (p : Nat) (G : List Nat) (ia : Option Addr) (ic : Nat) (ra : Option Addr) (rc : Nat) (oa : Option Addr) (oc : Nat) (ri ro : List BR) : Prop where
  blk : w.heap[n]? = some (.cells (nCells p N ia ic ra rc oa oc) 132 (0, 0))
  gr : RefAt w p G N.g
  ib : RBusesAt w ia ic N.inb ri
  rb : w.ownsRow 0 134 4 (.slice ra N.regs.length rc) N.regs.length (rgCells N.regs)
  ob : RBusesAt w oa oc N.outb ro
  io : ∀ b ∈ ft ia, b ∉ ft oa
  fr : ∀ b ∈ rowsOf ri ++ rowsOf ro, b ∉ n :: (G ++ (ft ia ++ (ft ra ++ ft oa)))
/-- what may be written, what is referred to -/
def RNetAt (w : World) (n : Nat) (F R : List Nat) (N : Nt) : Prop :=
  ∃ p G ia ic ra rc oa oc ri ro, F = n :: (G ++ (ft ia ++ (ft ra ++ ft oa))) ∧ R = rowsOf ri ++ rowsOf ro ∧ RNetC w n N p G ia ic ra rc oa oc ri ro
theorem RefAt.apart (h : RefAt w p F g) {e : TypeId} {size n cap : Nat} {a : Option Addr} {xs : List Value} (ho : w.ownsRow 0 e size (.slice a n cap) n xs) (h1 : e ≠ 139) (h2 : e ≠ 141) : ∀ b ∈ ft a, b ∉ F := by
  obtain ⟨an, cn, rfl, hc⟩ := h
  intro b hb hf
  rcases List.mem_cons.1 hf with rfl | hf
  · exact blk_apart hc.blk ho h1 hb
  · exact owns_apart ho hc.nodes h2 b hb hf
theorem RefAt.apart_blk (h : RefAt w p F g) {b : Nat} {cs : Array Value} {t : TypeId} (hb : w.heap[b]? = some (.cells cs t (0, 0))) (h1 : t ≠ 139) (h2 : t ≠ 141) : b ∉ F := by
  obtain ⟨an, cn, rfl, hc⟩ := h
  intro hf
  rcases List.mem_cons.1 hf with rfl | hf
  · rw [hc.blk] at hb; injection hb with hb; injection hb with _ ht; exact h1 ht.symm
  · exact blk_apart hb hc.nodes h2.symm hf
theorem RNetC.kept {G : List Nat} {ia ra oa : Option Addr} {ic rc oc : Nat} {ri ro : List BR} (h : RNetC w n N p G ia ic ra rc oa oc ri ro) (hk : Kept S w w') (h1 : ∀ b ∈ n :: (G ++ (ft ia ++ (ft ra ++ ft oa))), b ∉ S) (h2 : ∀ b ∈ rowsOf ri ++ rowsOf ro, b ∉ S) : RNetC w' n N p G ia ic ra rc oa oc ri ro :=
  ⟨hk.heap h.blk (h1 _ (by simp)), h.gr.kept hk (fun b hb => h1 b (by simp [hb])), h.ib.kept hk (fun b hb => h1 b (by simp [hb])) (fun b hb => h2 b (by simp [hb])), own_kept h.rb hk (fun b hb => h1 b (by simp [hb])),
    h.ob.kept hk (fun b hb => h1 b (by simp [hb])) (fun b hb => h2 b (by simp [hb])), h.io, h.fr⟩
theorem RNetAt.kept (h : RNetAt w n F R N) (hk : Kept S w w') (h1 : ∀ b ∈ F, b ∉ S) (h2 : ∀ b ∈ R, b ∉ S) : RNetAt w' n F R N := by
  obtain ⟨p, G, ia, ic, ra, rc, oa, oc, ri, ro, rfl, rfl, hc⟩ := h
  exact ⟨p, G, ia, ic, ra, rc, oa, oc, ri, ro, rfl, rfl, hc.kept hk h1 h2⟩
theorem RNetAt.kept0 (h : RNetAt w n F R N) (hk : Kept [] w w') : RNetAt w' n F R N := h.kept hk (by simp) (by simp)
theorem RNetC.lt {G : List Nat} {ia ra oa : Option Addr} {ic rc oc : Nat} {ri ro : List BR} (h : RNetC w n N p G ia ic ra rc oa oc ri ro) : (∀ b ∈ n :: (G ++ (ft ia ++ (ft ra ++ ft oa))), b < w.heap.size) ∧ ∀ b ∈ rowsOf ri ++ rowsOf ro, b < w.heap.size := by
  refine ⟨fun b hb => ?_, fun b hb => ?_⟩
  · simp only [List.mem_cons, List.mem_append] at hb
    rcases hb with rfl | hb | hb | hb | hb
    · exact blk_lt h.blk
    · exact h.gr.lt b hb
    · exact h.ib.lt.1 b hb
    · exact owns_lt h.rb b hb
    · exact h.ob.lt.1 b hb
  · rcases List.mem_append.1 hb with hb | hb
    · exact h.ib.lt.2 b hb
    · exact h.ob.lt.2 b hb
theorem RNetAt.lt (h : RNetAt w n F R N) : (∀ b ∈ F, b < w.heap.size) ∧ ∀ b ∈ R, b < w.heap.size := by
  obtain ⟨p, G, ia, ic, ra, rc, oa, oc, ri, ro, rfl, rfl, hc⟩ := h
  exact hc.lt
theorem RNetC.apart {G : List Nat} {ia ra oa : Option Addr} {ic rc oc : Nat} {ri ro : List BR} (h : RNetC w n N p G ia ic ra rc oa oc ri ro) :
    n ∉ G ∧ n ∉ ft ia ∧ n ∉ ft ra ∧ n ∉ ft oa ∧ (∀ b ∈ ft ia, b ∉ G) ∧ (∀ b ∈ ft ra, b ∉ G) ∧ (∀ b ∈ ft oa, b ∉ G) ∧ (∀ b ∈ ft ra, b ∉ ft ia) ∧ (∀ b ∈ ft ra, b ∉ ft oa) :=
  ⟨h.gr.apart_blk h.blk (by decide) (by decide), blk_apart h.blk h.ib.own (by decide), blk_apart h.blk h.rb (by decide), blk_apart h.blk h.ob.own (by decide),
    h.gr.apart h.ib.own (by decide) (by decide), h.gr.apart h.rb (by decide) (by decide), h.gr.apart h.ob.own (by decide) (by decide), owns_apart h.rb h.ib.own (by decide), owns_apart h.rb h.ob.own (by decide)⟩
section
variable {G : List Nat} {ia ra oa : Option Addr} {ic rc oc : Nat} {ri ro : List BR}
theorem RNetC.c0 (h : RNetC w n N p G ia ic ra rc oa oc ri ro) : w.cell? ⟨n, 0, none⟩ = some (.pointer (some ⟨p, 0, none⟩)) := blk_cell h.blk 0
theorem RNetC.c1 (h : RNetC w n N p G ia ic ra rc oa oc ri ro) : w.cell? ⟨n, 1, none⟩ = some (.string N.name) := blk_cell h.blk 1
theorem RNetC.c2 (h : RNetC w n N p G ia ic ra rc oa oc ri ro) : w.cell? ⟨n, 2, none⟩ = some (.slice ia N.inb.length ic) := blk_cell h.blk 2
theorem RNetC.c3 (h : RNetC w n N p G ia ic ra rc oa oc ri ro) : w.cell? ⟨n, 3, none⟩ = some (.slice ra N.regs.length rc) := blk_cell h.blk 3
theorem RNetC.c4 (h : RNetC w n N p G ia ic ra rc oa oc ri ro) : w.cell? ⟨n, 4, none⟩ = some (.slice oa N.outb.length oc) := blk_cell h.blk 4
/-- a step of the graph -/
theorem RNetC.graph {G' : List Nat} {g' : Gr} (h : RNetC w n N p G ia ic ra rc oa oc ri ro) (hg : RefAt w' p G' g') (hst : Stepped w w' G G') : RNetC w' n { N with g := g' } p G' ia ic ra rc oa oc ri ro := by
  obtain ⟨a1, a2, a3, a4, a5, a6, a7, a8, a9⟩ := h.apart
  have fr := h.fr
  have lt := h.lt
  simp only [List.mem_cons, List.mem_append, not_or] at fr
  refine ⟨hst.kept.heap h.blk a1, hg, h.ib.kept hst.kept a5 (fun b hb => (fr b (.inl hb)).2.1), own_kept h.rb hst.kept a6, h.ob.kept hst.kept a7 (fun b hb => (fr b (.inr hb)).2.1), h.io, fun b hb => ?_⟩
  have f := fr b (List.mem_append.1 hb)
  have l := lt.2 b hb
  simp only [List.mem_cons, List.mem_append, not_or]
  exact ⟨f.1, fun hx => by rcases hst.fresh b hx with hx | hx; exact f.2.1 hx; omega, f.2.2⟩
theorem RNetC.graph_step {G' : List Nat} (hst : Stepped w w' G G') : NStep w w' (n :: (G ++ (ft ia ++ (ft ra ++ ft oa)))) (rowsOf ri ++ rowsOf ro) (n :: (G' ++ (ft ia ++ (ft ra ++ ft oa)))) (rowsOf ri ++ rowsOf ro) := by
  refine ⟨⟨hst.kept.more (fun b hb => by simp [hb]), fun b hb => ?_⟩, fun b hb => .inl hb⟩
  simp only [List.mem_cons, List.mem_append] at hb ⊢
  rcases hb with hb | hb | hb
  · exact .inl (.inl hb)
  · rcases hst.fresh b hb with h | h
    · exact .inl (.inr (.inl h))
    · exact .inr h
  · exact .inl (.inr (.inr hb))
end
end Go.Proofs.YtielfgngdhcpfaaGreat
