/-
  CompareTurned: the closure that turns the highest literal.
-/
import Derived.Test.YtfngfoabknbgdaaCmpTurn
import Derived.Test.YtfngfoabknbgdaaCat
import Derived.Deep.RegionWith
namespace Go.Proofs.Ytfngfoabknbgdaa
open Go.ChangeShapes Go.WideShapes Go.ChangeAt Go.RowKit
open Go.Maps (Keyed)
open Go.WideMaps
set_option linter.unusedVariables false

def NewLits (l : List Nat) (n : Nat) (w : World) (e : Ending) (w' : World) : Prop := ∃ a c, e = .returned (.slice a n c) ∧ Own w' 24 a n c (nats .u32 l) ∧ Stepped w w' [] (ft a)
set_option maxHeartbeats 1600000 in
set_option maxRecDepth 100000 in
theorem flip_c (a : Option Addr) (c n nb : Nat) (l : List Nat) (w : World) (ho : Own w 24 a n c (nats .u32 l)) (h1 : 1 ≤ n) (hn : n ≤ 64) (hr : Lits l) (hc : w.cell? ⟨nb, 0, none⟩ = some (.int .i64 n)) :
    Calls Try.prog 31 #[.slice a n c, .pointer (some ⟨nb, 0, none⟩)] w (NewLits (flipL n l) n w) := by
  have hl := ho.len
  rw [nats_length] at hl
  obtain ⟨g, rfl⟩ := ho.form (by omega)
  have HNEWS := Lib.hid (show ∀ j u, (nats .u32 l)[j]? = some u → w.cell? ((⟨g, 0, none⟩ : Addr).add j) = some u from fun j u hu => by
    obtain ⟨hj, rfl⟩ := List.getElem?_eq_some_iff.1 hu
    obtain ⟨ad', h1, h2⟩ := ho.cell hj
    injection h1 with h1
    subst h1
    exact h2)
  have HL := Lib.hid hl
  have HR := Lib.hid hr
  have HF := Lib.hid (show flipL n l = l.set (n - 1) (ntL (l.getD (n - 1) 0)) from rfl)
  clear ho hl hr
  have ew : IntKind.i64.wrap ((n : Int) - 1) = (n : Int) - 1 := IntWalk.i64_in _ (by omega)
  have et : ((n : Int) - 1).toNat = n - 1 := by omega
  have e0 : (0 : Int) ≤ (n : Int) - 1 := by omega
  have e1 : (n : Int) - 1 < (n : Int) := by omega
  have e2 : n - 1 < n := by omega
  go_enter Try.func31, Try.ntmps31
  go_wp2_with (at_builtin; refine wpList_cat (a := none) (n := 0) (cap := 0) (xs := []) (news := nats .u32 l) rfl rfl Try.underlying34 lit_info rfl (by omega) rfl rfl (Own.nil w 24) (by rw [nats_length, HL.out, Nat.mul_one]) HNEWS.out (nats_one _ _) (by unfold maxLen; omega) (by omega) ?_; intro a1 c1 w1 hown1 hst1; simp only [Nat.zero_add, List.nil_append] at hown1; simp only [Nat.zero_add])
  have hown : Own w1 24 a1 n c1 (nats .u32 l) := hown1
  obtain ⟨gb, rfl⟩ := hown.form (by omega)
  have q1 := own_cells_i hown (n - 1) (by rw [HL.out]; omega)
  obtain ⟨⟨v0, q3⟩, q4, q5⟩ := hown.store (j := n - 1) (by omega)
  have HQ5 := Lib.hid q5
  have hst : Stepped w w1 [] [gb] := by have := hst1; simpa [ft] using this
  have cn : w1.cell? ⟨nb, 0, none⟩ = some (.int .i64 n) := hst.kept.cell hc (by simp)
  have hx : l.getD (n - 1) 0 < 4294967296 := HR.out _ (getD_in (by rw [HL.out]; omega))
  have HST := Lib.hid hst
  have hnb : gb ≠ nb := by
    rintro rfl
    have h2 := World.block_lt_of_cell? w _ hc
    have h3 := hst.fresh gb (by simp)
    rcases h3 with h3 | h3
    · simp at h3
    · exact absurd h2 (by show ¬ gb < _; omega)
  clear q5 q3 hown hown1 hst1 hst hc HNEWS HR
  generalize l.getD (n - 1) 0 = x at *
  go_wp2_with fail
  go_region_with (go_at_call 32; refine (lit_not x _ hx).mono ?_; rintro e w' ⟨rfl, rfl⟩)
  all_goals
    go_wp2_with fail
    go_ret
    refine ⟨some ⟨gb, 0, none⟩, c1, rfl, ?_, ?_⟩
    · rw [HF.out, ← nats_set]
      exact (HQ5.out (.int .u32 (ntL x : Nat))).drew
    · have h2 := HST.out.setCell (p := ⟨gb, n - 1, none⟩) (by simp) (.int .u32 (ntL x : Nat))
      simpa [ft] using h2.drew
end Go.Proofs.Ytfngfoabknbgdaa
