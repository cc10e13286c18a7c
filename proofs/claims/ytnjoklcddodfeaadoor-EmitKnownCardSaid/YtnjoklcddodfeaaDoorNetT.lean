/-
  Law 06: rows; the chapter's rows (tells).
-/
import Derived.Test.YtnjoklcddodfeaaDoorNetM
namespace Go.Proofs.YtnjoklcddodfeaaDoor
open Go.ChangeShapes Go.WideShapes Go.ChangeAt Go.RowKit
open Go.Maps (Keyed)
open Go.WideMaps
set_option linter.unusedVariables false
set_option linter.unusedSimpArgs false

variable {w w' : World} {p n k : Nat} {F R S : List Nat} {g : Gr} {N : Nt}
def tN0 : Nt := newN ⟨#[116, 111, 112]⟩ false false
def tN1 : Nt := (addIn tN0 ⟨#[97]⟩ 2).1
def tN2 : Nt := (addReg tN1 true).1
def tN3 : Nt := (gateN tN2 andG 2 6).1
def tN4 : Nt := (setReg tN3 6 8 1).1
def tN5 : Nt := (addOut tN4 ⟨#[120]⟩ [9]).1
def tN6 : Nt := { tN5 with g := (inputG tN5.g).1 }
set_option maxRecDepth 100000 in
theorem t_facts : mayB ⟨#[116, 111, 112]⟩ = true ∧ (addIn tN0 ⟨#[97]⟩ 2).2 = ([2, 4], 0) ∧ (addReg tN1 true).2 = 6 ∧ (gateN tN2 andG 2 6).2 = ([8], 0) ∧ (setReg tN3 6 8 1).2 = 0 ∧ (addOut tN4 ⟨#[120]⟩ [9]).2 = 0 ∧ checkN tN5 = 0 ∧ 2 * tN5.g.nodes.length = 10 ∧ checkN tN6 = 37 := by
  refine ⟨by kernel_rfl, by kernel_rfl, by kernel_rfl, by kernel_rfl, by kernel_rfl, by kernel_rfl, by kernel_rfl, by kernel_rfl, by kernel_rfl⟩
theorem t_fine : NtFine 5 tN5 := addOut_fine (setReg_fine (gateN_fine (addReg_fine (addIn_fine (newN_fine _ false false t_facts.1) _ _) _) _ two_and _ _) _ _ _) _ _
theorem t_fine6 : NtFine 6 tN6 := fine_graph t_fine (t_fine.ok.graph (inputG_spec t_fine.ok.wf).1 (by simp [inputG]) (by simp [inputG])) (fun i hi => by rw [(inputG_spec t_fine.ok.wf).2.2]; exact List.mem_append_left _ hi)
end Go.Proofs.YtnjoklcddodfeaaDoor
