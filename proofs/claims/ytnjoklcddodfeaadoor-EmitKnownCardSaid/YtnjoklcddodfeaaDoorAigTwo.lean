/-
  Contracts of package aig: And, Or, Xor, Mux of literals that are there.
-/
import Derived.Test.YtnjoklcddodfeaaDoorAig
namespace Go.Proofs.YtnjoklcddodfeaaDoor
open Go.ChangeShapes Go.WideShapes Go.ChangeAt Go.RowKit
open Go.Maps (Keyed)
open Go.WideMaps
set_option linter.unusedVariables false

variable {w w' : World} {p : Nat} {F S : List Nat} {g : Gr}

theorem Gr.ok_lt {g : Gr} {a : Nat} (h : g.ok a) (hm : g.nodes.length ≤ 200000) : a < 4294967296 := by unfold Gr.ok at h; omega

/-- What a call of two literals does: it answers the literal; the graph goes on as 'two' says. -/
def Twos (r : Gr × Nat) (w : World) (p : Nat) (F : List Nat) (e : Ending) (w' : World) : Prop :=
  ∃ F', e = .returned (.tuple #[.int .u32 (r.2 : Nat), .int .i64 0]) ∧ GraphAt w' p F' r.1 ∧ Stepped w w' F F'

set_option maxHeartbeats 800000 in
theorem aig_and {a b : Nat} (hg : GraphAt w p F g) (hm : g.nodes.length ≤ 200000) (ha : g.ok a) (hb : g.ok b) :
    Calls Tryd.prog 44 #[.pointer (some ⟨p, 0, none⟩), .int .u32 a, .int .u32 b] w (Twos (andG g a b) w p F) := by
  have HA := Lib.hid (Gr.ok_lt ha hm)
  have HB := Lib.hid (Gr.ok_lt hb hm)
  have HGT := Lib.hid (aig_gate hg hm ha hb)
  have HGA := Lib.hid hg
  have hlits : max a b < 4294967296 ∧ min a b < 4294967296 := by have := HA.out; have := HB.out; omega
  have HK := Lib.hid (pair_key hlits.1 hlits.2)
  clear hlits ha hb
  have hAnd := Lib.hid (show andG g a b = (if foldB a b && g.fold then (g, foldV a b) else if (look g.nodes (max a b) (min a b)).isSome && g.hash then (g, (look g.nodes (max a b) (min a b)).getD 0) else gateG g a b) from rfl)
  have HP := Lib.hid (fun w => lit_pair a b w)
  have HF := Lib.hid (fun w => lit_fold a b w HA.out HB.out)
  obtain ⟨an, cn, ai, ci, m, f, rfl, hc⟩ := hg
  have c0 := hc.c0
  have c1 := hc.c1
  have c4 := hc.c4
  have HC := Lib.hid hc; clear hc
  have HM := Lib.hid (HC.out.is (max a b) (min a b))
  generalize max a b = x at *
  generalize min a b = y at *
  generalize foldB a b = fb at *
  generalize foldV a b = fv at *
  generalize gateG g a b = r at *
  generalize hgf : g.fold = gf at *
  have Hgf := Lib.hid hgf; clear hgf
  generalize hgh : g.hash = gh at *
  have Hgh := Lib.hid hgh; clear hgh
  by_cases h1 : (fb && gf) = true
  · obtain ⟨rfl, rfl⟩ := by simpa using h1
    have HR := Lib.hid (show andG g a b = (g, fv) by rw [hAnd.out]; rfl)
    clear h1
    go_enter Tryd.func44, Tryd.ntmps44
    go_wp2_with (go_at_call 59; refine (HF.out _).mono ?_; rintro e w' ⟨rfl, rfl⟩)
    go_ret2
    exact ⟨_, by rw [HR.out]; rfl, by rw [HR.out]; exact HGA.out, .refl _ _⟩
  · cases hl : look g.nodes x y with
    | some c =>
      have HL := Lib.hid hl; clear hl
      cases gh with
      | true =>
        have HR := Lib.hid (show andG g a b = (g, c) by rw [hAnd.out, if_neg h1, HL.out]; rfl)
        cases fb <;> cases gf <;> simp at h1
        all_goals
          go_enter Tryd.func44, Tryd.ntmps44
          go_wp2_with (first
            | (go_at_call 59; refine (HF.out _).mono ?_; rintro e w' ⟨rfl, rfl⟩)
            | (go_at_call 60; refine (HP.out _).mono ?_; rintro e w' ⟨rfl, rfl⟩)
            | (at_lookup; refine wpList_look rfl rfl pair_law Tryd.underlying57 (lit_zero _) rfl rfl HC.out.made HK.out ?_; (show wpList _ _ _ _ (Act.put _ _ (.tuple #[(f (pairV x y)).getD _, .bool (f (pairV x y)).isSome])) _); rw [HM.out, HL.out]))
          go_ret2
          exact ⟨_, by rw [HR.out]; rfl, by rw [HR.out]; exact HGA.out, .refl _ _⟩
      | false =>
        have HR := Lib.hid (show andG g a b = r by rw [hAnd.out, if_neg h1, HL.out]; rfl)
        cases fb <;> cases gf <;> simp at h1
        all_goals
          go_enter Tryd.func44, Tryd.ntmps44
          go_wp2_with (first
            | (go_at_call 59; refine (HF.out _).mono ?_; rintro e w' ⟨rfl, rfl⟩)
            | (go_at_call 60; refine (HP.out _).mono ?_; rintro e w' ⟨rfl, rfl⟩)
            | (go_at_call 61; refine HGT.out.mono ?_; rintro e w1 ⟨F1, rfl, hg1, hst1⟩)
            | (at_lookup; refine wpList_look rfl rfl pair_law Tryd.underlying57 (lit_zero _) rfl rfl HC.out.made HK.out ?_; (show wpList _ _ _ _ (Act.put _ _ (.tuple #[(f (pairV x y)).getD _, .bool (f (pairV x y)).isSome])) _); rw [HM.out, HL.out]))
          go_ret2
          exact ⟨F1, by rw [HR.out]; rfl, by rw [HR.out]; exact hg1, hst1⟩
    | none =>
      have HL := Lib.hid hl; clear hl
      have HR := Lib.hid (show andG g a b = r by rw [hAnd.out, if_neg h1, HL.out]; rfl)
      cases fb <;> cases gf <;> simp at h1
      all_goals
        go_enter Tryd.func44, Tryd.ntmps44
        go_wp2_with (first
          | (go_at_call 59; refine (HF.out _).mono ?_; rintro e w' ⟨rfl, rfl⟩)
          | (go_at_call 60; refine (HP.out _).mono ?_; rintro e w' ⟨rfl, rfl⟩)
          | (go_at_call 61; refine HGT.out.mono ?_; rintro e w1 ⟨F1, rfl, hg1, hst1⟩)
          | (at_lookup; refine wpList_look rfl rfl pair_law Tryd.underlying57 (lit_zero _) rfl rfl HC.out.made HK.out ?_; (show wpList _ _ _ _ (Act.put _ _ (.tuple #[(f (pairV x y)).getD _, .bool (f (pairV x y)).isSome])) _); rw [HM.out, HL.out]))
        go_ret2
        exact ⟨F1, by rw [HR.out]; rfl, by rw [HR.out]; exact hg1, hst1⟩

end Go.Proofs.YtnjoklcddodfeaaDoor
