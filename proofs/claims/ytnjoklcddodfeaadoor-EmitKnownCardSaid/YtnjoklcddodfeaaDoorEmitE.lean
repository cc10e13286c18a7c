/-
  Package emit: nothing to emit: no netlist, or one that Check refuses.
-/
import Derived.Test.YtnjoklcddodfeaaDoorEmitO
namespace Go.Proofs.YtnjoklcddodfeaaDoor
open Go.ChangeShapes Go.WideShapes Go.ChangeAt Go.RowKit Go.Shelf
attribute [local go_sem] Oper.semAt_some
set_option linter.unusedVariables false
set_option linter.unusedSimpArgs false

variable {w w' w1 W W' : World} {n₀ : Nat} {nb k : Nat} {N : Nt} {F R : List Nat}
theorem none_nil (w : World) : Calls Tryd.prog 27 #[.pointer none] w fun e w' => e = .returned (.bool true) ∧ w = w' := by
  go_enter Tryd.func27, Tryd.ntmps27
  go_wp2_with fail
  go_ret
  exact ⟨rfl, rfl⟩
set_option maxHeartbeats 1600000 in
set_option maxRecDepth 100000 in
theorem check_nil (w : World) : Calls Tryd.prog 11 #[.pointer none] w (IntIs 2 w) := by
  go_enter Tryd.func11, Tryd.ntmps11; (try simp only [List.append])
  go_wp2_with fail
  refine (none_nil _).mono ?_
  rintro e w' ⟨rfl, rfl⟩
  go_wp2_with fail
  go_ret
  exact ⟨rfl, .refl _ _⟩
set_option maxHeartbeats 1600000 in
set_option maxRecDepth 100000 in
theorem size_err (a : Option Addr) (c : Nat) (hc : c ≠ 0) (w : World) (H : Calls Tryd.prog 11 #[.pointer a] w (IntIs (c : Int) w)) : Calls Tryd.prog 5 #[.pointer a] w fun e w' => e = .returned (.tuple #[.int .i64 0, .int .i64 (c : Int)]) ∧ Kept [] w w' := by
  have HCK := Lib.hid H
  have g0 : ((c : Int) == 0) = false := by rw [beq_eq_false_iff_ne]; omega
  have g1 : ((c : Int) != 0) = true := by rw [bne_iff_ne]; omega
  clear H
  go_enter Tryd.func5, Tryd.ntmps5
  go_wp2_with fail
  refine HCK.out.mono ?_
  rintro e W1 ⟨rfl, k1⟩
  go_wp2_with fail
  go_ret2
  exact ⟨rfl, k1⟩
set_option maxHeartbeats 1600000 in
set_option maxRecDepth 100000 in
theorem all_err (a : Option Addr) (c : Nat) (hc : c ≠ 0) (w : World) (H : Calls Tryd.prog 11 #[.pointer a] w (IntIs (c : Int) w)) : Calls Tryd.prog 4 #[.pointer a] w fun e w' => e = .returned (.tuple #[.slice none 0 0, .int .i64 (c : Int)]) ∧ Kept [] w w' := by
  have HCK := Lib.hid (size_err a c hc w H)
  have g0 : ((c : Int) == 0) = false := by rw [beq_eq_false_iff_ne]; omega
  have g1 : ((c : Int) != 0) = true := by rw [bne_iff_ne]; omega
  clear H
  go_enter Tryd.func4, Tryd.ntmps4
  go_wp2_with fail
  refine HCK.out.mono ?_
  rintro e W1 ⟨rfl, k1⟩
  go_wp2_with fail
  go_ret2
  exact ⟨rfl, k1⟩
theorem lines_cn (a : Option Addr) (w : World) : Calls Tryd.prog 6 #[.pointer a] w fun e w' => e = .returned (.func (.func 12) #[] #[.pointer (some ⟨w.heap.size, 0, none⟩)]) ∧ w' = w.alloc (.cells #[.pointer a] 22) := by
  go_enter Tryd.func6, Tryd.ntmps6
  go_wp2_with fail
  go_ret
  exact ⟨rfl, rfl⟩
set_option maxHeartbeats 1600000 in
set_option maxRecDepth 100000 in
theorem lines1_err (n l bx : Nat) (a : Option Addr) (c : Nat) (hc : c ≠ 0) (W : World) (hbx : W.cell? ⟨bx, 0, none⟩ = some (.pointer a)) (H : Calls Tryd.prog 11 #[.pointer a] W (IntIs (c : Int) W)) :
    CallsIn Fence.wide n Tryd.prog 12 #[.func (.yield l) #[] #[], .pointer (some ⟨bx, 0, none⟩)] W fun e W' => (∃ v, e = .returned v) ∧ Kept [] W W' := by
  have HCK := Lib.hid H
  have g0 : ((c : Int) == 0) = false := by rw [beq_eq_false_iff_ne]; omega
  have g1 : ((c : Int) != 0) = true := by rw [bne_iff_ne]; omega
  clear H
  refine callsIn_of_wp Tryd.func12 rfl trivial ?_ rfl
  simp only [Tryd.ntmps12, List.size_toArray, List.length_cons, List.length_nil, Nat.reduceAdd, Nat.reduceSub, Array.replicate_succ, Array.replicate_zero, List.push_toArray, List.append_toArray, List.nil_append, List.cons_append]
  gi_wp2_with fail
  refine ⟨trivial, (fun h => nomatch h), ?_⟩
  refine (callsIn_wide.2 HCK.out).mono ?_
  rintro e W1 ⟨rfl, k1⟩
  gi_wp2_with fail
  refine bodyPost_ret (results_none rfl _ _ _) rfl ?_
  exact ⟨⟨_, rfl⟩, k1⟩
/-- what Lines hands back hands on nothing -/
theorem stops_err (n bx : Nat) (a : Option Addr) (c : Nat) (hc : c ≠ 0) (w : World) (hbx : w.cell? ⟨bx, 0, none⟩ = some (.pointer a)) (hlt : bx < w.heap.size) (H : ∀ W, Below w.heap.size w W → Calls Tryd.prog 11 #[.pointer a] W (IntIs (c : Int) W)) :
    SeqStopsK Fence.wide n Tryd.prog 12 #[.pointer (some ⟨bx, 0, none⟩)] (fun x : Empty => x.elim) (Below w.heap.size) (fun ys => ys = []) (fun _ => False) 0 w := by
  intro l J Jx W hW hJ hJx hY h0
  refine (lines1_err n l bx a c hc W ((hW.cell (p := ⟨bx, 0, none⟩) hlt).trans hbx) (H W hW)).mono ?_
  rintro e W' ⟨h1, h2⟩
  exact ⟨h1, .inl ⟨[], rfl, hJ [] W W' none h0 (kept_grown h2) (fun r e => by cases e)⟩⟩
section
variable {ps : Array Tmp} {assign body : Code} {Q : Exit → Act → World → Prop} {act : Act}
/-- a loop over it: no round -/
theorem loop_err {n : Nat} {g : Operand} {w : World} {bx : Nat} {a : Option Addr} {c : Nat} (hc : c ≠ 0) (hg : act.eval g = .func (.func 12) #[] #[.pointer (some ⟨bx, 0, none⟩)]) (hbx : w.cell? ⟨bx, 0, none⟩ = some (.pointer a)) (hlt : bx < w.heap.size) (H : ∀ W, Below w.heap.size w W → Calls Tryd.prog 11 #[.pointer a] W (IntIs (c : Int) W))
    (hdone : ∀ (D : Nat) (W : World), w.heap.size ≤ D → Below w.heap.size w W → W.heap[D]? = some (.deferred (some [])) → Q .normal { act with defers := { target := .collected D, args := #[] } :: act.defers } W) :
    (Code.rangeFunc g ps assign body).wpIn Fence.wide (n + 2) Tryd.prog Q act w := by
  refine wpIn_rangeFunc_ownF rfl (by omega) (gf := 12) (lb := #[.pointer (some ⟨bx, 0, none⟩)]) hg trivial (enters_of Tryd.func12 (by kernel_rfl) rfl)
    (stops_err (n + 1) bx a c hc w hbx hlt H) belowK_t (belowK_b (Nat.le_refl _)) (Below.refl _ _) (fun x => x.elim)
    (fun _ W => Below w.heap.size w W) (fun _ _ _ => False) (ownFrom_below (Nat.le_refl _) (Nat.le_refl _)) (fun _ _ _ _ _ hs _ _ => hs) (Below.refl _ _)
    (fun _ => act) ?_ ?_ ?_ ?_
  · intro l x
    exact x.elim
  · intro l pre x W _ h
    exact absurd h (Nat.not_lt_zero _)
  · intro D xs W hD hxs hB hK
    exact hdone D W hD hB hK
  · intro D c pre W _ h
    exact h.elim
end
end Go.Proofs.YtnjoklcddodfeaaDoor
