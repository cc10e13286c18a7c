/-
  Package compare: what may not be.
-/
import Derived.Test.YtfngfoabknbgdaaCmpRows
namespace Go.Proofs.Ytfngfoabknbgdaa
open Go.ChangeShapes Go.WideShapes Go.ChangeAt Go.RowKit
open Go.Maps (Keyed)
open Go.WideMaps
set_option linter.unusedVariables false

variable {w w' w1 : World} {p : Nat} {F F1 F' S : List Nat} {g g' : Gr}

theorem none_nil (w : World) : Calls Try.prog 66 #[.pointer none] w fun e w' => e = .returned (.bool true) ∧ w = w' := by
  go_enter Try.func66, Try.ntmps66
  go_wp2_with fail
  go_ret
  exact ⟨rfl, rfl⟩
theorem nodes_nil (w : World) : Calls Try.prog 39 #[.pointer none] w fun e w' => e = .returned (.int .i64 0) ∧ w = w' := by
  go_enter Try.func39, Try.ntmps39
  go_wp2_with fail
  refine (none_nil _).mono ?_
  rintro e w' ⟨rfl, rfl⟩
  go_wp2_with fail
  go_ret
  exact ⟨rfl, rfl⟩
def ErrIs (n : Int) (w : World) (e : Ending) (w' : World) : Prop := e = .returned (.int .i64 n) ∧ Kept [] w w'
def CallErr (n : Int) (w : World) (e : Ending) (w' : World) : Prop := e = .returned (.tuple #[.int .u32 0, .int .i64 n]) ∧ Kept [] w w'
theorem asks_nil (a b : Option Addr) (na nb ca cb : Nat) (w : World) : Calls Try.prog 64 #[.pointer none, .slice a na ca, .slice b nb cb] w (ErrIs 2 w) := by
  go_enter Try.func64, Try.ntmps64
  go_wp2_with fail
  refine (nodes_nil _).mono ?_
  rintro e w' ⟨rfl, rfl⟩
  go_wp2_with fail
  go_ret
  exact ⟨rfl, by (repeat (first | with_reducible exact Kept.refl _ _ | with_reducible apply Kept.drew | with_reducible apply Kept.drewN | with_reducible apply Kept.alloc))⟩
theorem asks_len (hg : GraphAt w p F g) (hm : g.nodes.length ≤ 200000) (a b : Option Addr) (na nb ca cb : Nat) (hn : (na = 0 ∧ nb = 0) ∨ (na = 1 ∧ nb = 2) ∨ (na = 65 ∧ nb = 65)) : Calls Try.prog 64 #[.pointer (some ⟨p, 0, none⟩), .slice a na ca, .slice b nb cb] w (ErrIs 1 w) := by
  have hp := hg.wf.pos
  have hne : ((g.nodes.length : Int) == 0) = false := by simp only [beq_eq_false_iff_ne, ne_eq]; omega
  have HG := Lib.hid (fun o => hg.kept0 ((Kept.refl [] w).alloc o))
  clear hg
  rcases hn with ⟨rfl, rfl⟩ | ⟨rfl, rfl⟩ | ⟨rfl, rfl⟩
  all_goals
    go_enter Try.func64, Try.ntmps64
    go_wp2_with fail
    refine (aig_nodes (HG.out _) (by omega)).mono ?_
    rintro e w' ⟨rfl, rfl⟩
    go_wp2_with fail
    go_ret
    exact ⟨rfl, by (repeat (first | with_reducible exact Kept.refl _ _ | with_reducible apply Kept.drew | with_reducible apply Kept.drewN | with_reducible apply Kept.alloc))⟩
theorem asks_gone (hg : GraphAt w p F g) (hm : g.nodes.length ≤ 200000) (a b : Option Addr) (x ca cb : Nat) (hsa : SlN w .u32 a [x]) (hx : x < 4294967296) (hb : g.nodes.length ≤ x / 2) : Calls Try.prog 64 #[.pointer (some ⟨p, 0, none⟩), .slice a 1 ca, .slice b 1 cb] w (ErrIs 1 w) := by
  have hp := hg.wf.pos
  have hne : ((g.nodes.length : Int) == 0) = false := by simp only [beq_eq_false_iff_ne, ne_eq]; omega
  have HG := Lib.hid (fun o => hg.kept0 ((Kept.refl [] w).alloc o))
  have HBA := Lib.hid (show ([x].any fun x => decide (g.nodes.length ≤ x / 2)) = true by simpa using hb)
  have HCA := Lib.hid (contains_any 118 Try.call118 (.pointer (some ⟨w.heap.size, 0, none⟩)) (fun x => decide (g.nodes.length ≤ x / 2)) a ca 1 [x] (w.alloc (.cells #[.pointer (some ⟨p, 0, none⟩)] 22)) rfl (by omega) (hsa.kept0 ((Kept.refl [] w).alloc _)) (fun x' hx' k =>
    compare_asks1 x' w.heap.size ((HG.out _).kept0 ((Kept.refl [] _).drewN k)) (by omega) (by simp at hx'; omega) (by simp [World.cell?_alloc_new])))
  clear hg hsa hb
  go_enter Try.func64, Try.ntmps64
  go_wp2_with fail
  refine (aig_nodes (HG.out _) (by omega)).mono ?_
  rintro e w' ⟨rfl, rfl⟩
  go_wp2_with fail
  refine HCA.out.mono ?_
  rw [HBA.out]
  rintro e w' ⟨rfl, k, rfl⟩
  go_wp2_with fail
  go_ret
  exact ⟨rfl, by (repeat (first | with_reducible exact Kept.refl _ _ | with_reducible apply Kept.drew | with_reducible apply Kept.drewN | with_reducible apply Kept.alloc))⟩
section
variable {q : Option Addr} {a b : Option Addr} {na nb ca cb : Nat} {n : Int}
theorem less_err (sg : Bool) (h : Calls Try.prog 64 #[.pointer q, .slice a na ca, .slice b nb cb] w (ErrIs n w)) (hn : (n != 0) = true) : Calls Try.prog 15 #[.pointer q, .bool sg, .slice a na ca, .slice b nb cb] w (CallErr n w) := by
  have H := Lib.hid h; clear h
  go_enter Try.func15, Try.ntmps15
  go_wp2_with fail
  refine H.out.mono ?_
  rintro e w1 ⟨rfl, hk1⟩
  have HK1 := Lib.hid hk1; clear hk1
  go_wp2_with fail
  go_ret2
  exact ⟨rfl, HK1.out⟩
theorem equal_err (h : Calls Try.prog 64 #[.pointer q, .slice a na ca, .slice b nb cb] w (ErrIs n w)) (hn : (n != 0) = true) : Calls Try.prog 14 #[.pointer q, .slice a na ca, .slice b nb cb] w (CallErr n w) := by
  have H := Lib.hid h; clear h
  go_enter Try.func14, Try.ntmps14
  go_wp2_with fail
  refine H.out.mono ?_
  rintro e w1 ⟨rfl, hk1⟩
  have HK1 := Lib.hid hk1; clear hk1
  go_wp2_with fail
  go_ret2
  exact ⟨rfl, HK1.out⟩
end
theorem zero_nil (w : World) : Calls Try.prog 16 #[.pointer none, .slice none 0 0] w (CallErr 2 w) := by
  have hmk : ∀ w, (Instr.makeSlice 34 (.int .i64 0) (.int .i64 0)).run Try.prog w = .ok (.slice (some ⟨w.heap.size, 0, none⟩) 0 0) (w.alloc (.cells #[] 24)) := fun _ => by kernel_rfl
  go_enter Try.func16, Try.ntmps16
  go_wp2_with fail
  refine (equal_err (asks_nil _ _ _ _ _ _ _) rfl).mono ?_
  rintro e w1 ⟨rfl, hk1⟩
  have HK1 := Lib.hid hk1; clear hk1
  go_wp2_with fail
  go_ret2
  exact ⟨rfl, ((Kept.refl [] w).alloc _).trans HK1.out⟩
theorem zero_wide (hg : GraphAt w p F g) (hm : g.nodes.length ≤ 200000) (a : Option Addr) (ca : Nat) : Calls Try.prog 16 #[.pointer (some ⟨p, 0, none⟩), .slice a 65 ca] w (CallErr 1 w) := by
  have HE := Lib.hid (fun (W : World) (hk : Kept [] w W) (b : Option Addr) (cb : Nat) => equal_err (asks_len (hg.kept0 hk) hm a b 65 65 ca cb (.inr (.inr ⟨rfl, rfl⟩))) rfl)
  clear hg
  go_enter Try.func16, Try.ntmps16
  go_wp2_with (at_make; refine wpList_mk (n := 65) rfl rfl Try.underlying34 lit_info rfl rfl rfl (by omega) (by unfold maxLen; omega) ?_; intro w2 hown2 hst2)
  have HST2 := Lib.hid hst2
  clear hown2 hst2
  refine (HE.out _ HST2.out.kept _ _).mono ?_
  rintro e w1 ⟨rfl, hk1⟩
  have HK1 := Lib.hid hk1; clear hk1
  go_wp2_with fail
  go_ret2
  exact ⟨rfl, HST2.out.kept.trans HK1.out⟩
end Go.Proofs.Ytfngfoabknbgdaa
