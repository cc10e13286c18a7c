/-
  Contracts on known numbers; the chapter's rows (tells) of law 02.
-/
import Derived.Test.YteikngjanfjmfaaLitRows
import Derived.Deep.RegionWith
namespace Go.Proofs.Yteikngjanfjmfaa
open Go.ChangeShapes Go.WideShapes Go.ChangeAt Go.RowKit
set_option linter.unusedVariables false

theorem c_of (n : Int) (t : Bool) (v : Nat) (x : Int) (e : Int) (hx : x = v) (hv : ofV n t = v) (he : ofE n = e) (w : World) : Calls Try.prog 14 #[.int .i64 n, .bool t] w fun e' w' => e' = .returned (.tuple #[.int .u32 x, .int .i64 e]) ∧ w = w' := by
  subst hx hv he; exact lit_of n t w
theorem c_fold (a b : Nat) (x y : Int) (hx : x = a) (hy : y = b) (v : Nat) (u : Int) (t : Bool) (hu : u = v) (ha : a < 4294967296) (hb : b < 4294967296) (hv : foldV a b = v) (ht : foldB a b = t) (w : World) : Calls Try.prog 16 #[.int .u32 x, .int .u32 y] w fun e' w' => e' = .returned (.tuple #[.int .u32 u, .bool t]) ∧ w = w' := by
  subst hx hy hu hv ht; exact lit_fold a b w ha hb
theorem c_node (l : Nat) (x : Int) (hx : x = l) (v : Nat) (u : Int) (hu : u = v) (hl : l < 4294967296) (hv : l / 2 = v) (w : World) : Calls Try.prog 20 #[.int .u32 x] w fun e' w' => e' = .returned (.int .i64 u) ∧ w = w' := by
  subst hx hu hv; exact lit_node l w hl
theorem c_not (l : Nat) (x : Int) (hx : x = l) (v : Nat) (u : Int) (hu : u = v) (hl : l < 4294967296) (hv : ntL l = v) (w : World) : Calls Try.prog 22 #[.int .u32 x] w fun e' w' => e' = .returned (.int .u32 u) ∧ w = w' := by
  subst hx hu hv; exact lit_not l w hl
theorem c_turned (l : Nat) (x : Int) (hx : x = l) (t : Bool) (hl : l < 4294967296) (hv : decide (l % 2 = 1) = t) (w : World) : Calls Try.prog 21 #[.int .u32 x] w fun e' w' => e' = .returned (.bool t) ∧ w = w' := by
  subst hx hv; exact lit_turned l w hl
theorem c_const (n m : Nat) (x : Int) (y : Int) (hx : x = n) (w : World) (hn : n < 18446744073709551616) (hy : (min y 64).toNat = m) :
    Calls Try.prog 27 #[.int .u64 x, .int .i64 y] w fun e w' => ∃ a c, e = .returned (.slice a m c) ∧ Own w' 24 a m c (nats .u32 (constL n m)) ∧ Stepped w w' [] (ft a) := by
  subst hx; exact lit_const n m y w hn hy

set_option maxHeartbeats 400000 in
theorem lit_tells (w : World) : Calls Try.prog 26 #[] w fun e w' => e = .returned (.bool true) ∧ Kept [] w w' := by
  go_enter Try.func26, Try.ntmps26
  go_wp2_with (first
    | (go_at_call 14; refine (c_of 3 true 7 7 0 rfl rfl rfl _).mono ?_; rintro e w' ⟨rfl, rfl⟩)
    | (go_at_call_of 16 (Value.int IntKind.u32 8); refine (c_fold 6 8 _ _ rfl rfl 0 0 false rfl (by omega) (by omega) rfl rfl _).mono ?_; rintro e w' ⟨rfl, rfl⟩)
    | (go_at_call_of 16 (Value.int IntKind.u32 7); refine (c_fold 6 7 _ _ rfl rfl 0 0 true rfl (by omega) (by omega) rfl rfl _).mono ?_; rintro e w' ⟨rfl, rfl⟩)
    | (go_at_call 16; refine (c_fold 6 1 _ _ rfl rfl 6 6 true rfl (by omega) (by omega) rfl rfl _).mono ?_; rintro e w' ⟨rfl, rfl⟩)
    | (go_at_call 27; refine (c_const 6 4 _ _ rfl _ (by omega) rfl).mono ?_; rintro e w1 ⟨a, c, rfl, hown, hst⟩)
    | (go_at_call 28; refine (lit_number a c 4 (constL 6 4) _ rfl (by omega) hown.sln).mono ?_; rintro e w' ⟨rfl, rfl⟩; rw [show numR (constL 6 4) = 6 by decide, show numB (constL 6 4) = true by decide])
    | (go_at_call 20; refine (c_node 7 _ rfl 3 3 rfl (by omega) rfl _).mono ?_; rintro e w' ⟨rfl, rfl⟩)
    | (go_at_call 22; refine (c_not 7 _ rfl 6 6 rfl (by omega) rfl _).mono ?_; rintro e w' ⟨rfl, rfl⟩)
    | (go_at_call 21; refine (c_turned 7 _ rfl true (by omega) rfl _).mono ?_; rintro e w' ⟨rfl, rfl⟩))
  go_ret
  exact ⟨rfl, hst.kept⟩

def allW : Nat := 18446744073709551615
theorem allW_ne : ((allW : Int) != 18446744073709551615) = false := by decide
def nwI (n : Int) : Int := bits .xor .u64 IntKind.u64.max n
theorem nwI_nat (v : Nat) (h : v < 18446744073709551616) : nwI (v : Int) = ((noW v : Nat) : Int) := notw_spell v h
@[go_sem high] theorem unary_not_u64 (n : Int) : Op.unary .xor (.int .u64 n) = pure (.int .u64 (nwI n)) := rfl
theorem of_node (x : Nat) (h : x < 33554432) : ofV ((x : Int) / 2) (decide (x % 2 = 1)) = x := by
  unfold ofV ifL ntL
  rw [if_pos (by omega), show ((x : Int) / 2).toNat = x / 2 by omega]
  by_cases hx : x % 2 = 1
  · simp [hx]; omega
  · simp [hx]; omega
theorem c_word (l : Nat) (x : Int) (hx : x = l) (v : Nat) (u : Int) (hu : u = v) (a : Option Addr) (c n : Nat) (ws : List Nat) (w : World) (hn : ws.length = n) (hl : l < 4294967296) (hs : SlN w .u64 a ws) (hw : Words ws) (hv : wd ws l = v) :
    Calls Try.prog 24 #[.int .u32 x, .slice a n c] w fun e w' => e = .returned (.int .u64 u) ∧ w = w' := by
  subst hx hu hv; exact lit_word l a c n ws w hn hl hs hw

end Go.Proofs.Yteikngjanfjmfaa
