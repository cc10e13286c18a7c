/-
  Package adder: what may not be.
-/
import Derived.Test.YtfngfoabknbgdaaAddCall
import Derived.Test.YtfngfoabknbgdaaCmpErr
namespace Go.Proofs.Ytfngfoabknbgdaa
open Go.ChangeShapes Go.WideShapes Go.ChangeAt Go.RowKit
open Go.Maps (Keyed)
open Go.WideMaps
set_option linter.unusedVariables false

variable {w w' w1 : World} {p : Nat} {F F1 F' S : List Nat} {g g' : Gr}
def AddErr (n : Int) (w : World) (e : Ending) (w' : World) : Prop := e = .returned (.tuple #[.slice none 0 0, .int .u32 0, .int .i64 n]) ∧ Kept [] w w'
theorem add_nil (how : Int) (a b : Option Addr) (na nb ca cb c : Nat) (w : World) : Calls Try.prog 22 #[.pointer none, .int .i64 how, .slice a na ca, .slice b nb cb, .int .u32 c] w (AddErr 2 w) := by
  go_enter Try.func22, Try.ntmps22
  go_wp2_with fail
  refine (nodes_nil _).mono ?_
  rintro e w' ⟨rfl, rfl⟩
  go_wp2_with fail
  refine bodyPost_ret (v := .tuple #[.slice none 0 0, .int .u32 0, .int .i64 2]) (by simp [results, Try.results22, go_sem]) rfl ?_
  exact ⟨rfl, by (repeat (first | with_reducible exact Kept.refl _ _ | with_reducible apply Kept.drew | with_reducible apply Kept.drewN | with_reducible apply Kept.alloc))⟩
set_option maxHeartbeats 1600000 in
theorem add_arg (hg : GraphAt w p F g) (hm : g.nodes.length ≤ 200000) (how na nb : Nat) (a b : Option Addr) (ca cb c : Nat) (hn : (how = 0 ∧ na = 3 ∧ nb = 3) ∨ (how = 3 ∧ na = 3 ∧ nb = 3) ∨ (how = 1 ∧ na = 3 ∧ nb = 2) ∨ (how = 1 ∧ na = 0 ∧ nb = 0) ∨ (how = 2 ∧ na = 65 ∧ nb = 65)) : Calls Try.prog 22 #[.pointer (some ⟨p, 0, none⟩), .int .i64 how, .slice a na ca, .slice b nb cb, .int .u32 c] w (AddErr 1 w) := by
  have hp := hg.wf.pos
  have hne : ((g.nodes.length : Int) == 0) = false := by simp only [beq_eq_false_iff_ne, ne_eq]; omega
  have HG := Lib.hid (fun o => hg.kept0 ((Kept.refl [] w).alloc o))
  clear hg
  rcases hn with ⟨rfl, rfl, rfl⟩ | ⟨rfl, rfl, rfl⟩ | ⟨rfl, rfl, rfl⟩ | ⟨rfl, rfl, rfl⟩ | ⟨rfl, rfl, rfl⟩
  all_goals
    go_enter Try.func22, Try.ntmps22
    go_wp2_with fail
    refine (aig_nodes (HG.out _) (by omega)).mono ?_
    rintro e w' ⟨rfl, rfl⟩
    go_wp2_with fail
    refine bodyPost_ret (v := .tuple #[.slice none 0 0, .int .u32 0, .int .i64 1]) (by simp [results, Try.results22, go_sem]) rfl ?_
    exact ⟨rfl, by (repeat (first | with_reducible exact Kept.refl _ _ | with_reducible apply Kept.drew | with_reducible apply Kept.drewN | with_reducible apply Kept.alloc))⟩
/-- the carry is gone, or a literal of the second row -/
theorem add_gone (hg : GraphAt w p F g) (hm : g.nodes.length ≤ 200000) (how n : Nat) (hh : how = 2) (a b : Option Addr) (ca cb c : Nat) (la lb : List Nat) (hn : n = 3) (hla : la.length = 3) (hlb : lb.length = 3) (hsa : SlN w .u32 a la) (hsb : SlN w .u32 b lb) (hoa : ∀ x ∈ la, x < 4294967296) (hob : ∀ x ∈ lb, x < 4294967296) (hc : c < 4294967296)
    (hb : g.nodes.length ≤ c / 2 ∨ (c / 2 < g.nodes.length ∧ (∀ x ∈ la, x / 2 < g.nodes.length) ∧ ∃ x ∈ lb, g.nodes.length ≤ x / 2)) : Calls Try.prog 22 #[.pointer (some ⟨p, 0, none⟩), .int .i64 how, .slice a n ca, .slice b n cb, .int .u32 c] w (AddErr 1 w) := by
  subst hh hn
  have hp := hg.wf.pos
  have hne : ((g.nodes.length : Int) == 0) = false := by simp only [beq_eq_false_iff_ne, ne_eq]; omega
  have HG := Lib.hid (fun o => hg.kept0 ((Kept.refl [] w).alloc o))
  have HC1 := Lib.hid (add_asks1 (w := w.alloc (.cells #[.pointer (some ⟨p, 0, none⟩)] 22)) c w.heap.size (HG.out _) (by omega) hc (by simp [World.cell?_alloc_new]))
  have HCA := Lib.hid (fun m => contains_any 71 Try.call71 (.pointer (some ⟨w.heap.size, 0, none⟩)) (fun x => decide (g.nodes.length ≤ x / 2)) a ca 3 la ((w.alloc (.cells #[.pointer (some ⟨p, 0, none⟩)] 22)).drewN m) hla (by omega) ((hsa.kept0 ((Kept.refl [] w).alloc _)).drewN m) (fun x hx k =>
    add_asks1 x w.heap.size (((HG.out _).kept0 ((Kept.refl [] _).drewN m)).kept0 ((Kept.refl [] _).drewN k)) (by omega) (hoa x hx) (by simp [World.cell?_alloc_new])))
  have HCB := Lib.hid (fun m => contains_any 71 Try.call71 (.pointer (some ⟨w.heap.size, 0, none⟩)) (fun x => decide (g.nodes.length ≤ x / 2)) b cb 3 lb ((w.alloc (.cells #[.pointer (some ⟨p, 0, none⟩)] 22)).drewN m) hlb (by omega) ((hsb.kept0 ((Kept.refl [] w).alloc _)).drewN m) (fun x hx k =>
    add_asks1 x w.heap.size (((HG.out _).kept0 ((Kept.refl [] _).drewN m)).kept0 ((Kept.refl [] _).drewN k)) (by omega) (hob x hx) (by simp [World.cell?_alloc_new])))
  clear hg hsa hsb hoa hob hc hla hlb
  rcases hb with hb | ⟨hb1, hb2, hb3⟩
  · have HBC : Hid (decide (g.nodes.length ≤ c / 2) = true) := Lib.hid (decide_eq_true hb)
    clear hb
    go_enter Try.func22, Try.ntmps22
    go_wp2_with fail
    refine (aig_nodes (HG.out _) (by omega)).mono ?_
    rintro e w' ⟨rfl, rfl⟩
    go_wp2_with fail
    refine HC1.out.mono ?_
    rw [HBC.out]
    rintro e w' ⟨rfl, k0, rfl⟩
    go_wp2_with fail
    refine bodyPost_ret (v := .tuple #[.slice none 0 0, .int .u32 0, .int .i64 1]) (by simp [results, Try.results22, go_sem]) rfl ?_
    exact ⟨rfl, by (repeat (first | with_reducible exact Kept.refl _ _ | with_reducible apply Kept.drew | with_reducible apply Kept.drewN | with_reducible apply Kept.alloc))⟩
  · have HBC : Hid (decide (g.nodes.length ≤ c / 2) = false) := Lib.hid (decide_eq_false (by omega))
    have HBA := Lib.hid (show (la.any fun x => decide (g.nodes.length ≤ x / 2)) = false from by
      rw [List.any_eq_false]; intro x hx; have := hb2 x hx; simp; omega)
    have HBB := Lib.hid (show (lb.any fun x => decide (g.nodes.length ≤ x / 2)) = true from by
      rw [List.any_eq_true]; obtain ⟨x, h1, h2⟩ := hb3; exact ⟨x, h1, by simp; omega⟩)
    clear hb1 hb2 hb3
    go_enter Try.func22, Try.ntmps22
    go_wp2_with fail
    refine (aig_nodes (HG.out _) (by omega)).mono ?_
    rintro e w' ⟨rfl, rfl⟩
    go_wp2_with fail
    refine HC1.out.mono ?_
    rw [HBC.out]
    rintro e w' ⟨rfl, k0, rfl⟩
    go_wp2_with fail
    refine (HCA.out _).mono ?_
    rw [HBA.out]
    rintro e w' ⟨rfl, k1, rfl⟩
    go_wp2_with fail
    refine (HCB.out _).mono ?_
    rw [HBB.out]
    rintro e w' ⟨rfl, k2, rfl⟩
    go_wp2_with fail
    refine bodyPost_ret (v := .tuple #[.slice none 0 0, .int .u32 0, .int .i64 1]) (by simp [results, Try.results22, go_sem]) rfl ?_
    exact ⟨rfl, by (repeat (first | with_reducible exact Kept.refl _ _ | with_reducible apply Kept.drew | with_reducible apply Kept.drewN | with_reducible apply Kept.alloc))⟩
end Go.Proofs.Ytfngfoabknbgdaa
