/-
  Contracts of package aig: And, Or, Xor, Mux of literals that are there.
-/
import Derived.Test.YtenhbhckhncamaaP07
namespace Go.Proofs.Ytenhbhckhncamaa
open Go.ChangeShapes Go.WideShapes Go.ChangeAt Go.RowKit
open Go.Maps (Keyed)
open Go.WideMaps
set_option linter.unusedVariables false

variable {w w' : World} {p : Nat} {F S : List Nat} {g : Gr}

theorem Gr.ok_lt {g : Gr} {a : Nat} (h : g.ok a) (hm : g.nodes.length ≤ 200000) : a < 4294967296 := by unfold Gr.ok at h; omega

/-- What a call of two literals does: it answers the literal; the graph goes on as 'two' says. -/
def Twos (r : Gr × Nat) (w : World) (p : Nat) (F : List Nat) (e : Ending) (w' : World) : Prop :=
  ∃ F', e = .returned (.tuple #[.int .u32 (r.2 : Nat), .int .i64 0]) ∧ GraphAt w' p F' r.1 ∧ Stepped w w' F F'

set_option maxHeartbeats 800000 in
theorem aig_and {a b : Nat} (hg : GraphAt w p F g) (hm : g.nodes.length ≤ 200000) (ha : g.ok a) (hb : g.ok b) :
    Calls Try.prog 52 #[.pointer (some ⟨p, 0, none⟩), .int .u32 a, .int .u32 b] w (Twos (andG g a b) w p F) := by
  have HA := Lib.hid (Gr.ok_lt ha hm)
  have HB := Lib.hid (Gr.ok_lt hb hm)
  have HGT := Lib.hid (aig_gate hg hm ha hb)
  have HGA := Lib.hid hg
  have hlits : max a b < 4294967296 ∧ min a b < 4294967296 := by have := HA.out; have := HB.out; omega
  have HK := Lib.hid (pair_key hlits.1 hlits.2)
  clear hlits ha hb
  have hAnd := Lib.hid (show andG g a b = (if foldB a b && g.fold then (g, foldV a b) else if (look g.nodes (max a b) (min a b)).isSome && g.hash then (g, (look g.nodes (max a b) (min a b)).getD 0) else gateG g a b) from rfl)
  have HP := Lib.hid (fun w => lit_pair a b w)
  have HF := Lib.hid (fun w => lit_fold a b w HA.out HB.out)
  obtain ⟨an, cn, ai, ci, m, f, rfl, hc⟩ := hg
  have c0 := hc.c0
  have c1 := hc.c1
  have c4 := hc.c4
  have HC := Lib.hid hc; clear hc
  have HM := Lib.hid (HC.out.is (max a b) (min a b))
  generalize max a b = x at *
  generalize min a b = y at *
  generalize foldB a b = fb at *
  generalize foldV a b = fv at *
  generalize gateG g a b = r at *
  generalize hgf : g.fold = gf at *
  have Hgf := Lib.hid hgf; clear hgf
  generalize hgh : g.hash = gh at *
  have Hgh := Lib.hid hgh; clear hgh
  by_cases h1 : (fb && gf) = true
  · obtain ⟨rfl, rfl⟩ := by simpa using h1
    have HR := Lib.hid (show andG g a b = (g, fv) by rw [hAnd.out]; rfl)
    clear h1
    go_enter Try.func52, Try.ntmps52
    go_wp2_with (go_at_call 65; refine (HF.out _).mono ?_; rintro e w' ⟨rfl, rfl⟩)
    go_ret2
    exact ⟨_, by rw [HR.out]; rfl, by rw [HR.out]; exact HGA.out, .refl _ _⟩
  · cases hl : look g.nodes x y with
    | some c =>
      have HL := Lib.hid hl; clear hl
      cases gh with
      | true =>
        have HR := Lib.hid (show andG g a b = (g, c) by rw [hAnd.out, if_neg h1, HL.out]; rfl)
        cases fb <;> cases gf <;> simp at h1
        all_goals
          go_enter Try.func52, Try.ntmps52
          go_wp2_with (first
            | (go_at_call 65; refine (HF.out _).mono ?_; rintro e w' ⟨rfl, rfl⟩)
            | (go_at_call 66; refine (HP.out _).mono ?_; rintro e w' ⟨rfl, rfl⟩)
            | (at_lookup; refine wpList_look rfl rfl pair_law Try.underlying46 (lit_zero _) rfl rfl HC.out.made HK.out ?_; (show wpList _ _ _ _ (Act.put _ _ (.tuple #[(f (pairV x y)).getD _, .bool (f (pairV x y)).isSome])) _); rw [HM.out, HL.out]))
          go_ret2
          exact ⟨_, by rw [HR.out]; rfl, by rw [HR.out]; exact HGA.out, .refl _ _⟩
      | false =>
        have HR := Lib.hid (show andG g a b = r by rw [hAnd.out, if_neg h1, HL.out]; rfl)
        cases fb <;> cases gf <;> simp at h1
        all_goals
          go_enter Try.func52, Try.ntmps52
          go_wp2_with (first
            | (go_at_call 65; refine (HF.out _).mono ?_; rintro e w' ⟨rfl, rfl⟩)
            | (go_at_call 66; refine (HP.out _).mono ?_; rintro e w' ⟨rfl, rfl⟩)
            | (go_at_call 67; refine HGT.out.mono ?_; rintro e w1 ⟨F1, rfl, hg1, hst1⟩)
            | (at_lookup; refine wpList_look rfl rfl pair_law Try.underlying46 (lit_zero _) rfl rfl HC.out.made HK.out ?_; (show wpList _ _ _ _ (Act.put _ _ (.tuple #[(f (pairV x y)).getD _, .bool (f (pairV x y)).isSome])) _); rw [HM.out, HL.out]))
          go_ret2
          exact ⟨F1, by rw [HR.out]; rfl, by rw [HR.out]; exact hg1, hst1⟩
    | none =>
      have HL := Lib.hid hl; clear hl
      have HR := Lib.hid (show andG g a b = r by rw [hAnd.out, if_neg h1, HL.out]; rfl)
      cases fb <;> cases gf <;> simp at h1
      all_goals
        go_enter Try.func52, Try.ntmps52
        go_wp2_with (first
          | (go_at_call 65; refine (HF.out _).mono ?_; rintro e w' ⟨rfl, rfl⟩)
          | (go_at_call 66; refine (HP.out _).mono ?_; rintro e w' ⟨rfl, rfl⟩)
          | (go_at_call 67; refine HGT.out.mono ?_; rintro e w1 ⟨F1, rfl, hg1, hst1⟩)
          | (at_lookup; refine wpList_look rfl rfl pair_law Try.underlying46 (lit_zero _) rfl rfl HC.out.made HK.out ?_; (show wpList _ _ _ _ (Act.put _ _ (.tuple #[(f (pairV x y)).getD _, .bool (f (pairV x y)).isSome])) _); rw [HM.out, HL.out]))
        go_ret2
        exact ⟨F1, by rw [HR.out]; rfl, by rw [HR.out]; exact hg1, hst1⟩

theorem aig_not (l : Nat) (w : World) (h : l < 4294967296) : Calls Try.prog 68 #[.int .u32 l, .int .i64 0] w fun e w' => e = .returned (.tuple #[.int .u32 (ntL l : Nat), .int .i64 0]) ∧ w = w' := by
  go_enter Try.func68, Try.ntmps68
  go_wp2_with (go_at_call 47; refine (lit_not _ _ h).mono ?_; rintro e w' ⟨rfl, rfl⟩)
  go_ret2
  exact ⟨rfl, rfl⟩
theorem aig_or {a b : Nat} (hg : GraphAt w p F g) (hm : g.nodes.length ≤ 200000) (ha : g.ok a) (hb : g.ok b) :
    Calls Try.prog 53 #[.pointer (some ⟨p, 0, none⟩), .int .u32 a, .int .u32 b] w (Twos (orG g a b) w p F) := by
  have HA := Lib.hid (Gr.ok_lt ha hm)
  have HB := Lib.hid (Gr.ok_lt hb hm)
  have hs := andG_spec hg.wf (ok_nt ha) (ok_nt hb)
  have HL := Lib.hid (show (andG g (ntL a) (ntL b)).2 < 4294967296 by have := hs.2.1.le; have := hs.2.2; unfold Gr.ok at this; omega)
  have HAN := Lib.hid (aig_and hg hm (ok_nt ha) (ok_nt hb))
  clear hs ha hb
  go_enter Try.func53, Try.ntmps53
  go_wp2_with (first
    | (go_at_call_of 47 (Value.int IntKind.u32 (a : Int)); refine (lit_not a _ HA.out).mono ?_; rintro e w' ⟨rfl, rfl⟩)
    | (go_at_call 47; refine (lit_not b _ HB.out).mono ?_; rintro e w' ⟨rfl, rfl⟩)
    | (go_at_call 52; refine HAN.out.mono ?_; rintro e w1 ⟨F1, rfl, hg1, hst1⟩)
    | (go_at_call 68; refine (aig_not _ _ HL.out).mono ?_; rintro e w' ⟨rfl, rfl⟩))
  go_ret2
  exact ⟨F1, rfl, hg1, hst1⟩
set_option maxHeartbeats 400000 in
theorem aig_both {a b c d : Nat} (hg : GraphAt w p F g) (hm : g.nodes.length ≤ 199000) (ha : g.ok a) (hb : g.ok b) (hc : g.ok c) (hd : g.ok d) :
    Calls Try.prog 57 #[.pointer (some ⟨p, 0, none⟩), .int .u32 a, .int .u32 b, .int .u32 c, .int .u32 d] w (Twos (bothG g a b c d) w p F) := by
  obtain ⟨h1, h2, h3⟩ := andG_spec hg.wf ha hb
  obtain ⟨h4, h5, h6⟩ := andG_spec h1 (h2.ok hc) (h2.ok hd)
  have l1 := h2.le
  have l2 := h5.le
  have HA1 := Lib.hid (aig_and hg (by omega) ha hb)
  have HA2 := Lib.hid (fun (w : World) (F : List Nat) (h : GraphAt w p F (andG g a b).1) => aig_and h (by omega) (h2.ok hc) (h2.ok hd))
  have HO := Lib.hid (fun (w : World) (F : List Nat) (h : GraphAt w p F (andG (andG g a b).1 c d).1) => aig_or h (by omega) (h5.ok h3) h6)
  have HB := Lib.hid (show bothG g a b c d = orG (andG (andG g a b).1 c d).1 (andG g a b).2 (andG (andG g a b).1 c d).2 from rfl)
  clear h1 h2 h3 h4 h5 h6 l1 l2 ha hb hc hd
  have tok1 : True := trivial
  go_enter Try.func57, Try.ntmps57
  go_wp2_with (first
    | (go_at_call 52; have tk := tok1; refine HA1.out.mono ?_; rintro e w1 ⟨F1, rfl, hg1, hst1⟩; clear tok1 tk)
    | (go_at_call 52; refine (HA2.out _ _ hg1).mono ?_; rintro e w2 ⟨F2, rfl, hg2, hst2⟩)
    | (go_at_call 53; refine (HO.out _ _ hg2).mono ?_; rintro e w3 ⟨F3, rfl, hg3, hst3⟩))
  go_ret2
  exact ⟨F3, by rw [HB.out]; rfl, by rw [HB.out]; exact hg3, (hst1.trans hst2).trans hst3⟩
theorem aig_xor {a b : Nat} (hg : GraphAt w p F g) (hm : g.nodes.length ≤ 199000) (ha : g.ok a) (hb : g.ok b) :
    Calls Try.prog 54 #[.pointer (some ⟨p, 0, none⟩), .int .u32 a, .int .u32 b] w (Twos (xorG g a b) w p F) := by
  have HA := Lib.hid (Gr.ok_lt ha (by omega))
  have HB := Lib.hid (Gr.ok_lt hb (by omega))
  have HO := Lib.hid (aig_both hg hm ha (ok_nt hb) (ok_nt ha) hb)
  clear ha hb
  go_enter Try.func54, Try.ntmps54
  go_wp2_with (first
    | (go_at_call_of 47 (Value.int IntKind.u32 (a : Int)); refine (lit_not a _ HA.out).mono ?_; rintro e w' ⟨rfl, rfl⟩)
    | (go_at_call 47; refine (lit_not b _ HB.out).mono ?_; rintro e w' ⟨rfl, rfl⟩)
    | (go_at_call 57; refine HO.out.mono ?_; rintro e w1 ⟨F1, rfl, hg1, hst1⟩))
  go_ret2
  exact ⟨F1, rfl, hg1, hst1⟩
end Go.Proofs.Ytenhbhckhncamaa
