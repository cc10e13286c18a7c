/-
  Law 12: rows of inputs, and a fresh graph of two rows and one input more.
-/
import Derived.Test.YtfngfoabknbgdaaCone
import Derived.Test.YtfngfoabknbgdaaAigMore
import Derived.Deep.RegionWith
import Derived.IntWalk
import Derived.Outline
namespace Go.Proofs.Ytfngfoabknbgdaa
open Go.ChangeShapes Go.WideShapes Go.ChangeAt Go.RowKit
open Go.Maps (Keyed)
open Go.WideMaps
set_option linter.unusedVariables false

variable {w w' : World} {p : Nat} {F S : List Nat} {g : Gr}

/-- so many inputs' literals, from a node on -/
def rowL (k n : Nat) : List Nat := (List.range n).map fun i => 2 * (k + i)
theorem rowL_succ (k n : Nat) : rowL k (n + 1) = rowL k n ++ [2 * (k + n)] := by simp [rowL, List.range_succ]
theorem rowL_length (k n : Nat) : (rowL k n).length = n := by simp [rowL]
/-- a graph of inputs alone -/
def freshG (o1 o2 : Bool) (k : Nat) : Gr := { fold := o1, hash := o2, nodes := (List.range (k + 1)).map fun i => (2 * i, 2 * i) }
theorem freshG_length (o1 o2 : Bool) (k : Nat) : (freshG o1 o2 k).nodes.length = k + 1 := by simp [freshG]
theorem freshG_succ (o1 o2 : Bool) (k : Nat) : inputG (freshG o1 o2 k) = (freshG o1 o2 (k + 1), 2 * (k + 1)) := by
  unfold inputG
  rw [freshG_length]
  simp only [freshG]
  rw [List.range_succ (n := k + 1), List.map_append]
  rfl

def RowPost (l : List Nat) (n : Nat) (w : World) (e : Ending) (w' : World) : Prop := ∃ a c, e = .returned (.slice a n c) ∧ Own w' 24 a n c (nats .u32 l) ∧ Stepped w w' [] (ft a)
set_option maxHeartbeats 800000 in
theorem rows_c (k n : Nat) (x y : Int) (hx : x = k) (hy : y = n) (w : World) (h : k + n ≤ 1000000) :
    Calls Try.prog 68 #[.int .i64 x, .int .i64 y] w (RowPost (rowL k n) n w) := by
  subst hx hy
  go_enter Try.func68, Try.ntmps68
  go_wp2
  go_loopw [5, 6] (fun v i wr => ∃ (j : Nat) (a' : Option Addr) (c' : Nat), j ≤ n ∧ i = .int .i64 j ∧ v = .slice a' j c' ∧ Own wr 24 a' j c' (nats .u32 (rowL k j)) ∧ Stepped w wr [] (ft a')) (fun _ i _ => n - (intOf i).toNat)
  case atStart => exact ⟨0, none, 0, Nat.zero_le _, rfl, rfl, Own.nil _ _, .refl _ _⟩
  case round =>
    obtain ⟨j, a', c', hj, rfl, rfl, hown, hst⟩ := hrel
    by_cases hlt : j < n
    · have HR := Lib.hid (rowL_succ k j)
      have HO := Lib.hid (show ofV ((k : Int) + (j : Int)) false = 2 * (k + j) ∧ ofE ((k : Int) + (j : Int)) = 0 from ⟨by unfold ofV ifL; rw [if_pos (by omega)]; simp; omega, by unfold ofE; rw [if_pos (by omega)]⟩)
      go_wp2_with fail
      refine (lit_of _ _ _).mono ?_
      rintro e w' ⟨rfl, rfl⟩
      rw [HO.out.1, HO.out.2]
      go_wp2_with (at_builtin; refine wpList_push rfl rfl Try.underlying34 lit_info rfl rfl rfl hown rfl (by unfold maxLen; omega) (by omega) ?_; intro a1 c1 w1 hown1 hst1)
      go_roundw
      case rel => exact ⟨j + 1, a1, c1, by omega, by go_num, rfl, by rw [HR.out, ← nats_append]; exact hown1, hst.trans hst1⟩
      case measure => simp [intOf]; omega
    · obtain rfl : n = j := by omega
      go_wp2
      go_ret
      exact ⟨a', c', rfl, hown, hst⟩

theorem own_cell0 {w : World} {e : TypeId} {g3 cap k : Nat} (h : Own w e (some ⟨g3, 0, none⟩) 1 cap (nats .u32 (rowL k 1))) : w.cell? ⟨g3, 0, none⟩ = some (.int .u32 ((2 * k : Nat) : Int)) := by
  have h1 := World.ownsRow.cellAt h 0 (by omega)
  rw [h1]
  simp [nats, rowL]
def FreshPost (o1 o2 : Bool) (n : Nat) (w : World) (e : Ending) (w' : World) : Prop := ∃ p F a ca b cb, e = .returned (.tuple #[.pointer (some ⟨p, 0, none⟩), .slice a n ca, .slice b n cb, .int .u32 ((2 * (1 + 2 * n) : Nat) : Int)]) ∧
  GraphAt w' p F (freshG o1 o2 (2 * n + 1)) ∧ Own w' 24 a n ca (nats .u32 (rowL 1 n)) ∧ Own w' 24 b n cb (nats .u32 (rowL (1 + n) n)) ∧ Stepped w w' [] F
set_option maxHeartbeats 1600000 in
set_option maxRecDepth 100000 in
theorem fresh_c (o1 o2 : Bool) (n : Nat) (w : World) (h1 : 1 ≤ n) (h : n ≤ 64) :
    Calls Try.prog 20 #[.agg #[.bool o1, .bool o2], .int .i64 n] w (FreshPost o1 o2 n w) := by
  go_enter Try.func20, Try.ntmps20
  go_wp2_with fail
  refine (aig_new o1 o2 _).mono ?_
  rintro e w1 ⟨p, F1, rfl, hg1, hst1⟩
  have hg1 : GraphAt w1 p F1 (freshG o1 o2 0) := hg1
  have hst1 : Stepped w w1 [] F1 := ((Stepped.refl w []).alloc _).trans hst1
  go_wp2_with fail
  go_loopw [9] (fun i wr => ∃ (k : Nat) (F : List Nat), k ≤ 2 * n + 1 ∧ i = .int .i64 k ∧ GraphAt wr p F (freshG o1 o2 k) ∧ Stepped w wr [] F) (fun i _ => 2 * n + 1 - (intOf i).toNat)
  case atStart => exact ⟨0, F1, Nat.zero_le _, rfl, hg1, hst1⟩
  case round =>
    clear hg1 hst1
    obtain ⟨k, F2, hk, rfl, hg2, hst2⟩ := hrel
    by_cases hlt : k < 2 * n + 1
    · have HI := Lib.hid (aig_input hg2 (by rw [freshG_length]; omega))
      have HS := Lib.hid (freshG_succ o1 o2 k)
      clear hg2
      go_wp2_with fail
      refine HI.out.mono ?_
      rw [HS.out]
      rintro e w3 ⟨F3, rfl, hg3, hst3⟩
      go_wp2_with fail
      go_roundw
      case rel => exact ⟨k + 1, F3, by omega, by go_num, hg3, hst2.trans hst3⟩
      case measure => simp [intOf]; omega
    · have HK := Lib.hid (show k = 2 * n + 1 by omega)
      have HG := Lib.hid (show GraphAt wr p F2 (freshG o1 o2 (2 * n + 1)) by rw [← HK.out]; exact hg2)
      have HR1 := Lib.hid (fun (x y : Int) (w : World) (hx : x = (1 : Nat)) (hy : y = n) => rows_c 1 n x y hx hy w (by omega))
      have HR2 := Lib.hid (fun (x y : Int) (w : World) (hx : x = (1 + n : Nat)) (hy : y = n) => rows_c (1 + n) n x y hx hy w (by omega))
      have HR3 := Lib.hid (fun (x y : Int) (w : World) (hx : x = (1 + 2 * n : Nat)) (hy : y = (1 : Nat)) => rows_c (1 + 2 * n) 1 x y hx hy w (by omega))
      have w1 : IntKind.i64.wrap (1 + (n : Int)) = 1 + (n : Int) := IntWalk.i64_in _ (by omega)
      have w2 : IntKind.i64.wrap (2 * (n : Int)) = 2 * (n : Int) := IntWalk.i64_in _ (by omega)
      have w3 : IntKind.i64.wrap (1 + 2 * (n : Int)) = 1 + 2 * (n : Int) := IntWalk.i64_in _ (by omega)
      clear hg2
      go_wp2_with fail
      go_region_with (first
        | (go_at_call 68; refine (HR1.out _ _ _ (by omega) (by omega)).mono ?_; rintro e u1 ⟨a1, c1, rfl, ho1, hs1⟩; (try have hcc := hs1.kept.cell hcc (by simp)))
        | (go_at_call 68; refine (HR2.out _ _ _ (by omega) (by omega)).mono ?_; rintro e u2 ⟨a2, c2, rfl, ho2, hs2⟩; (try have hcc := hs2.kept.cell hcc (by simp)))
        | (go_at_call 68; refine (HR3.out _ _ _ (by omega) (by omega)).mono ?_; rintro e u3 ⟨a3, c3, rfl, ho3, hs3⟩; obtain ⟨g3, rfl⟩ := ho3.form (by omega); have hcc : u3.cell? ⟨g3, 0, none⟩ = some (.int .u32 ((2 * (1 + 2 * n) : Nat) : Int)) := own_cell0 ho3))
      all_goals
        go_wp2
        refine bodyPost_ret (v := .tuple #[.pointer (some ⟨p, 0, none⟩), .slice a1 n c1, .slice a2 n c2, .int .u32 ((2 * (1 + 2 * n) : Nat) : Int)]) (by simp [results, Try.results20, go_sem]) rfl ?_
        exact ⟨p, F2, a1, c1, a2, c2, rfl, HG.out.kept0 (by repeat (first | with_reducible exact Kept.refl _ _ | with_reducible apply Kept.drew | refine Kept.trans ?_ hs1.kept | refine Kept.trans ?_ hs2.kept | refine Kept.trans ?_ hs3.kept)), ho1.kept0 (by repeat (first | with_reducible exact Kept.refl _ _ | with_reducible apply Kept.drew | refine Kept.trans ?_ hs1.kept | refine Kept.trans ?_ hs2.kept | refine Kept.trans ?_ hs3.kept)), ho2.kept0 (by repeat (first | with_reducible exact Kept.refl _ _ | with_reducible apply Kept.drew | refine Kept.trans ?_ hs1.kept | refine Kept.trans ?_ hs2.kept | refine Kept.trans ?_ hs3.kept)), ⟨hst2.kept.trans (by repeat (first | with_reducible exact Kept.refl _ _ | with_reducible apply Kept.drew | refine Kept.trans ?_ hs1.kept | refine Kept.trans ?_ hs2.kept | refine Kept.trans ?_ hs3.kept)), hst2.fresh⟩⟩
end Go.Proofs.Ytfngfoabknbgdaa
