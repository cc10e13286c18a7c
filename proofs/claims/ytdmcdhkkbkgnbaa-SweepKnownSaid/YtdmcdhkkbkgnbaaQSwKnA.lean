/-
  SweepKnown: no netlist; the chain, plain.
-/
import Derived.Test.YtdmcdhkkbkgnbaaP44
import Derived.Test.YtdmcdhkkbkgnbaaP22
namespace Go.Proofs.Ytdmcdhkkbkgnbaa
open Go.ChangeShapes Go.WideShapes Go.ChangeAt Go.RowKit
open Go.Maps (Keyed)
open Go.WideMaps
set_option linter.unusedVariables false
set_option linter.unusedSimpArgs false

variable {w w' W w0 : World} {p n k m : Nat} {F R F' R' : List Nat} {N M : Nt}
set_option maxRecDepth 100000 in
theorem kn_none (w : World) : Calls Try.prog 31 #[.pointer none] w fun e w' => e = .returned (.bool true) ∧ w = w' := by
  go_enter Try.func31, Try.ntmps31
  go_wp2_with fail
  go_ret
  exact ⟨rfl, rfl⟩
set_option maxRecDepth 100000 in
theorem kn_check (w : World) : Calls Try.prog 24 #[.pointer none] w (IntIs 2 w) := by
  go_enter Try.func24, Try.ntmps24; (try simp only [List.append])
  go_wp2_with fail
  refine (kn_none _).mono ?_
  rintro e w' ⟨rfl, rfl⟩
  go_wp2_with fail
  go_ret
  exact ⟨rfl, .refl _ _⟩
set_option maxRecDepth 100000 in
theorem kn_stuck (w : World) : Calls Try.prog 7 #[.pointer none] w (BoolsNone 2 w) := by
  have HCK := Lib.hid (kn_check w)
  go_enter Try.func7, Try.ntmps7
  go_wp2_with fail
  refine HCK.out.mono ?_
  rintro e w1 ⟨rfl, k1⟩
  have K1 := Lib.hid k1
  clear k1
  go_wp2_with fail
  go_ret2
  exact ⟨rfl, K1.out⟩
set_option maxRecDepth 100000 in
theorem kn_needed (w : World) : Calls Try.prog 6 #[.pointer none] w (BoolsNone 2 w) := by
  have HCK := Lib.hid (fun (W : World) => kn_check W)
  go_enter Try.func6, Try.ntmps6
  go_wp2_with fail
  obtain ⟨w1, hw1⟩ : ∃ v, v = w.alloc (.cells #[.pointer none] 22) := ⟨_, rfl⟩
  have K1 := Lib.hid (show Kept [] w w1 from by rw [hw1]; exact (Kept.refl [] w).alloc _)
  have hcn1 : w1.heap[w.heap.size]? = some (.cells #[.pointer none] 22 (0, 0)) := by rw [hw1]; exact heap_alloc_new w _
  have cbn1 : w1.cell? ⟨w.heap.size, 0, none⟩ = some (.pointer none) := blk_cell hcn1 0
  rw [← hw1]
  clear hw1
  refine (HCK.out _).mono ?_
  rintro e w2 ⟨rfl, k2⟩
  have K2 := Lib.hid (K1.out.trans k2)
  clear k2
  go_wp2_with fail
  go_ret2
  exact ⟨rfl, K2.out⟩
set_option maxRecDepth 100000 in
theorem kn_once (w : World) : Calls Try.prog 5 #[.pointer none] w (NetNone 2 w) := by
  have HNE := Lib.hid (kn_needed w)
  go_enter Try.func5, Try.ntmps5
  go_wp2_with fail
  refine HNE.out.mono ?_
  rintro e w1 ⟨rfl, k1⟩
  have K1 := Lib.hid k1
  clear k1
  go_wp2_with fail
  go_ret2
  exact ⟨rfl, K1.out⟩
set_option maxRecDepth 100000 in
theorem kn_all (w : World) : Calls Try.prog 4 #[.pointer none] w (NetNone 2 w) := by
  have HON := Lib.hid (kn_once w)
  go_enter Try.func4, Try.ntmps4
  go_wp2_with fail
  go_loopw [0] (fun v wr => v = .pointer none ∧ w = wr) (fun _ _ => 0)
  case atStart => exact ⟨rfl, rfl⟩
  case round =>
    obtain ⟨rfl, rfl⟩ := hrel
    go_wp2_with fail
    refine HON.out.mono ?_
    rintro e w1 ⟨rfl, k1⟩
    have K1 := Lib.hid k1
    clear k1
    go_wp2_with fail
    go_ret2
    exact ⟨rfl, K1.out⟩
/-! the chain -/
def kR : Nat → Nt
  | 0 => (addIn (newN ⟨#[99, 104, 97, 105, 110]⟩ true true) ⟨#[105, 110]⟩ 1).1
  | k + 1 => (addReg (kR k) false).1
def kS : Nat → Nt
  | 0 => kR 4
  | 1 => (setReg (kR 4) 4 2 0).1
  | k + 2 => (setReg (kS (k + 1)) (4 + 2 * (k + 1)) (2 + 2 * (k + 1)) 1).1
def kX : Nt := (gateN (kS 4) xorG 10 2).1
def kxl : Nat := (xorG (kS 4).g 10 2).2
def kZ : Nt := (addOut kX ⟨#[120]⟩ [kxl]).1
theorem kR_fine : ∀ k, NtFine (k + 1) (kR k)
  | 0 => addIn_fine (newN_fine _ true true (by decide)) _ _
  | k + 1 => addReg_fine (kR_fine k) _
theorem kS_fine : ∀ k, NtFine (k + 5) (kS k)
  | 0 => kR_fine 4
  | 1 => setReg_fine (kR_fine 4) _ _ _
  | k + 2 => setReg_fine (kS_fine (k + 1)) _ _ _
theorem kZ_fine : NtFine 11 kZ := addOut_fine (gateN_fine (kS_fine 4) _ two_xor _ _) _ _
set_option maxRecDepth 100000 in
theorem kZ_facts : checkN kZ = 0 ∧ kZ.regs.length = 4 ∧ (onceN kZ).regs.length = 3 ∧ (sweptN kZ).regs.length = 0 ∧ gatesX (sweptN kZ) = 0 ∧ (sweptN kZ).outb.map (·.lits) = [[2]] := by
  refine ⟨?_, ?_, ?_, ?_, ?_, ?_⟩ <;> kernel_rfl
set_option maxRecDepth 100000 in
theorem k_facts : (addIn (newN ⟨#[99, 104, 97, 105, 110]⟩ true true) ⟨#[105, 110]⟩ 1).2 = ([2], 0) ∧ ((addReg (kR 0) false).2 = 4 ∧ (addReg (kR 1) false).2 = 6 ∧ (addReg (kR 2) false).2 = 8 ∧ (addReg (kR 3) false).2 = 10) ∧ (gone (kS 4).g [10, 2] = false ∧ gone kX.g [kxl] = false) ∧ ((kR 0).g.nodes.length ≤ 100 ∧ (kR 1).g.nodes.length ≤ 100 ∧ (kR 2).g.nodes.length ≤ 100 ∧ (kR 3).g.nodes.length ≤ 100) ∧ ((kS 0).g.nodes.length ≤ 100 ∧ (kS 1).g.nodes.length ≤ 100 ∧ (kS 2).g.nodes.length ≤ 100 ∧ (kS 3).g.nodes.length ≤ 100 ∧ (kS 4).g.nodes.length ≤ 100 ∧ kX.g.nodes.length ≤ 100) ∧ (addOut kX ⟨#[120]⟩ [kxl]).2 = 0 ∧ kxl < 4294967296 := by
  refine ⟨?_, ⟨?_, ?_, ?_, ?_⟩, ⟨?_, ?_⟩, ⟨?_, ?_, ?_, ?_⟩, ⟨?_, ?_, ?_, ?_, ?_, ?_⟩, ?_, ?_⟩ <;> first | kernel_rfl | decide
end Go.Proofs.Ytdmcdhkkbkgnbaa
