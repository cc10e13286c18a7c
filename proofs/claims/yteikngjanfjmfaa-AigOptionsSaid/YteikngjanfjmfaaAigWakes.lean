/-
  Law 03: the document's examples: wakes.
-/
import Derived.Test.YteikngjanfjmfaaAigLaw
import Derived.Test.YteikngjanfjmfaaLitTells
import Derived.Outline
namespace Go.Proofs.Yteikngjanfjmfaa
open Go.ChangeShapes Go.WideShapes Go.ChangeAt Go.RowKit
open Go.Maps (Keyed)
open Go.WideMaps
set_option linter.unusedVariables false

variable {w w' : World} {p : Nat} {F S : List Nat} {g : Gr}

/-- two values, and the graph that is now there -/
def WPost (w0 w : World) (p : Nat) (F : List Nat) (g' : Gr) (V : Int) (e : Ending) (w' : World) : Prop :=
  ∃ F', e = .returned (.tuple #[.int .u32 V, .int .i64 0]) ∧ GraphAt w' p F' g' ∧ Stepped w w' F F'

theorem WPost.of {r : Gr × Nat} {w0 w1 : World} {g' : Gr} {v : Nat} {V : Int} (hV : V = v) (hr : r = (g', v)) (hs : Stepped w0 w1 F F) : ∀ e w', Twos r w1 p F e w' → WPost w0 w0 p F g' V e w' := by
  subst hV hr
  rintro e w' ⟨F', rfl, hg, hst⟩
  exact ⟨F', rfl, hg, hs.trans hst⟩


theorem wk_and (g : Gr) (hg : GraphAt w p F g) (x y : Nat) (X Y : Int) (hX : X = x) (hY : Y = y) (g' : Gr) (v : Nat) (V : Int) (hV : V = v) (hr : manyG andG g 1 [x, y] = (g', v)) (hm : g.nodes.length ≤ 100) (hx : g.ok x) (hy : g.ok y) :
    Calls Try.prog 36 #[.pointer (some ⟨p, 0, none⟩), .slice (some ⟨w.heap.size, 0, none⟩) 2 2] (w.alloc (.cells #[.int .u32 X, .int .u32 Y] 24)) (WPost w w p F g' V) := by
  subst hX hY
  exact (aig_And_ (hg.kept0 ((Kept.refl [] w).alloc _)) (some ⟨w.heap.size, 0, none⟩) 2 2 [x, y] rfl (by omega) (by have := sln_new w .u32 [x, y] 24; exact this) (by simp [hx, hy]) (by intro b hb hF; simp [ft] at hb; subst hb; exact absurd (hg.lt _ hF) (Nat.lt_irrefl _))).mono (WPost.of hV hr ((Stepped.refl w F).alloc _))
theorem wk_or (g : Gr) (hg : GraphAt w p F g) (x y : Nat) (X Y : Int) (hX : X = x) (hY : Y = y) (g' : Gr) (v : Nat) (V : Int) (hV : V = v) (hr : manyG orG g 0 [x, y] = (g', v)) (hm : g.nodes.length ≤ 100) (hx : g.ok x) (hy : g.ok y) :
    Calls Try.prog 39 #[.pointer (some ⟨p, 0, none⟩), .slice (some ⟨w.heap.size, 0, none⟩) 2 2] (w.alloc (.cells #[.int .u32 X, .int .u32 Y] 24)) (WPost w w p F g' V) := by
  subst hX hY
  exact (aig_Or_ (hg.kept0 ((Kept.refl [] w).alloc _)) (some ⟨w.heap.size, 0, none⟩) 2 2 [x, y] rfl (by omega) (by have := sln_new w .u32 [x, y] 24; exact this) (by simp [hx, hy]) (by intro b hb hF; simp [ft] at hb; subst hb; exact absurd (hg.lt _ hF) (Nat.lt_irrefl _))).mono (WPost.of hV hr ((Stepped.refl w F).alloc _))
theorem wk_and0 (g : Gr) (hg : GraphAt w p F g) (g' : Gr) (v : Nat) (V : Int) (hV : V = v) (hr : manyG andG g 1 [] = (g', v)) (hm : g.nodes.length ≤ 100) :
    Calls Try.prog 36 #[.pointer (some ⟨p, 0, none⟩), .slice none 0 0] w (WPost w w p F g' V) :=
  (aig_And_ hg none 0 0 [] rfl (by omega) (fun k hk => absurd hk (by simp)) (by simp) (by simp [ft])).mono (WPost.of hV hr (Stepped.refl w F))
theorem wk_input (g : Gr) (hg : GraphAt w p F g) (g' : Gr) (v : Nat) (V : Int) (hV : V = v) (hr : inputG g = (g', v)) (hm : g.nodes.length ≤ 100) :
    Calls Try.prog 38 #[.pointer (some ⟨p, 0, none⟩)] w (WPost w w p F g' V) :=
  (aig_input hg (by omega)).mono (WPost.of hV hr (Stepped.refl w F))

def wg (l : List (Nat × Nat)) : Gr := { fold := true, hash := true, nodes := l }
def kg (l : List (Nat × Nat)) : Gr := { fold := false, hash := false, nodes := l }
theorem wr1 : inputG (wg [(0,0)]) = (wg [(0,0),(2,2)], 2) := rfl
theorem wr2 : inputG (wg [(0,0),(2,2)]) = (wg [(0,0),(2,2),(4,4)], 4) := rfl
theorem wr3 : manyG andG (wg [(0,0),(2,2),(4,4)]) 1 [2, 4] = (wg [(0,0),(2,2),(4,4),(4,2)], 6) := by kernel_rfl
theorem wr4 : manyG andG (wg [(0,0),(2,2),(4,4),(4,2)]) 1 [4, 2] = (wg [(0,0),(2,2),(4,4),(4,2)], 6) := by kernel_rfl
theorem wr5 : manyG andG (wg [(0,0),(2,2),(4,4),(4,2)]) 1 [2, 3] = (wg [(0,0),(2,2),(4,4),(4,2)], 0) := by kernel_rfl
theorem wr6 : manyG andG (wg [(0,0),(2,2),(4,4),(4,2)]) 1 [2, 1] = (wg [(0,0),(2,2),(4,4),(4,2)], 2) := by kernel_rfl
theorem wr7 : manyG andG (wg [(0,0),(2,2),(4,4),(4,2)]) 1 [] = (wg [(0,0),(2,2),(4,4),(4,2)], 1) := by kernel_rfl
theorem wr8 : manyG orG (wg [(0,0),(2,2),(4,4),(4,2)]) 0 [2, 4] = (wg [(0,0),(2,2),(4,4),(4,2),(5,3)], 9) := by kernel_rfl
theorem wr9 : gateA (wg [(0,0),(2,2),(4,4),(4,2),(5,3)]) 4 = (5, 3, true) := by kernel_rfl
theorem kr1 : inputG (kg [(0,0)]) = (kg [(0,0),(2,2)], 2) := rfl
theorem kr2 : manyG andG (kg [(0,0),(2,2)]) 1 [2, 2] = (kg [(0,0),(2,2),(2,2)], 4) := by kernel_rfl
theorem kr3 : manyG andG (kg [(0,0),(2,2),(2,2)]) 1 [2, 2] = (kg [(0,0),(2,2),(2,2),(2,2)], 6) := by kernel_rfl

def WakesPost (w : World) (e : Ending) (w' : World) : Prop := e = .returned (.bool true) ∧ Kept [] w w'
attribute [local irreducible] GraphAt manyG andG orG inputG gateA
set_option maxHeartbeats 4000000 in
set_option maxRecDepth 100000 in
theorem wakes_c (w : World) : Calls Try.prog 32 #[] w (WakesPost w) := by
  have o : ∀ (l : List (Nat × Nat)) (x : Nat), x < 2 * l.length → (wg l).ok x := fun l x h => by unfold Gr.ok wg; simp only; omega
  have ko : ∀ (l : List (Nat × Nat)) (x : Nat), x < 2 * l.length → (kg l).ok x := fun l x h => by unfold Gr.ok kg; simp only; omega
  go_enter Try.func32, Try.ntmps32; (try simp only [List.append])
  go_wp2_with fail
  refine (aig_new true true _).mono ?_; rintro e w1 ⟨p, F, rfl, hg, hst⟩; have hg : GraphAt w1 p F (wg [(0,0)]) := hg
  go_wp2_with fail
  refine (wk_input (wg [(0,0)]) hg _ 2 2 rfl wr1 (by decide)).mono ?_; rintro e w1 ⟨F, rfl, hg, hst1⟩; have hst := hst.trans hst1; clear hst1
  go_wp2_with fail
  refine (wk_input (wg [(0,0),(2,2)]) hg _ 4 4 rfl wr2 (by decide)).mono ?_; rintro e w1 ⟨F, rfl, hg, hst1⟩; have hst := hst.trans hst1; clear hst1
  go_wp2_with fail
  refine (wk_and (wg [(0,0),(2,2),(4,4)]) hg 2 4 2 4 rfl rfl _ 6 6 rfl wr3 (by decide) (o _ _ (by decide)) (o _ _ (by decide))).mono ?_; rintro e w1 ⟨F, rfl, hg, hst1⟩; have hst := hst.trans hst1; clear hst1
  go_wp2_with fail
  refine (wk_and (wg [(0,0),(2,2),(4,4),(4,2)]) hg 4 2 4 2 rfl rfl _ 6 6 rfl wr4 (by decide) (o _ _ (by decide)) (o _ _ (by decide))).mono ?_; rintro e w1 ⟨F, rfl, hg, hst1⟩; have hst := hst.trans hst1; clear hst1
  go_wp2_with fail
  refine (c_not 2 2 rfl 3 3 rfl (by decide) (by decide) _).mono ?_; rintro e w0 ⟨rfl, rfl⟩
  go_wp2_with fail
  refine (wk_and (wg [(0,0),(2,2),(4,4),(4,2)]) hg 2 3 2 3 rfl rfl _ 0 0 rfl wr5 (by decide) (o _ _ (by decide)) (o _ _ (by decide))).mono ?_; rintro e w1 ⟨F, rfl, hg, hst1⟩; have hst := hst.trans hst1; clear hst1
  go_wp2_with fail
  refine (wk_and (wg [(0,0),(2,2),(4,4),(4,2)]) hg 2 1 2 1 rfl rfl _ 2 2 rfl wr6 (by decide) (o _ _ (by decide)) (o _ _ (by decide))).mono ?_; rintro e w1 ⟨F, rfl, hg, hst1⟩; have hst := hst.trans hst1; clear hst1
  go_wp2_with fail
  refine (wk_and0 (wg [(0,0),(2,2),(4,4),(4,2)]) hg _ 1 1 rfl wr7 (by decide)).mono ?_; rintro e w1 ⟨F, rfl, hg, hst1⟩; have hst := hst.trans hst1; clear hst1
  go_wp2_with fail
  refine (wk_or (wg [(0,0),(2,2),(4,4),(4,2)]) hg 2 4 2 4 rfl rfl _ 9 9 rfl wr8 (by decide) (o _ _ (by decide)) (o _ _ (by decide))).mono ?_; rintro e w1 ⟨F, rfl, hg, hst1⟩; have hst := hst.trans hst1; clear hst1
  go_wp2_with fail
  refine (aig_gateOf (g := wg [(0,0),(2,2),(4,4),(4,2),(5,3)]) hg (by decide) 4 (by decide) (by decide)).mono ?_; rw [wr9]; rintro e w1 ⟨rfl, hk⟩; have hst := hst.trans ⟨hk.more (by simp), fun b h => .inl h⟩
  go_wp2_with fail
  refine (aig_new false false _).mono ?_; rintro e w2 ⟨q, S, rfl, kg, kst⟩; have kg : GraphAt w2 q S (Go.Proofs.Yteikngjanfjmfaa.kg [(0,0)]) := kg
  go_wp2_with fail
  refine (wk_input (Go.Proofs.Yteikngjanfjmfaa.kg [(0,0)]) kg _ 2 2 rfl kr1 (by decide)).mono ?_; rintro e w2 ⟨S, rfl, kg, kst1⟩; have kst := kst.trans kst1; clear kst1
  go_wp2_with fail
  refine (wk_and (Go.Proofs.Yteikngjanfjmfaa.kg [(0,0),(2,2)]) kg 2 2 2 2 rfl rfl _ 4 4 rfl kr2 (by decide) (ko _ _ (by decide)) (ko _ _ (by decide))).mono ?_; rintro e w2 ⟨S, rfl, kg, kst1⟩; have kst := kst.trans kst1; clear kst1
  go_wp2_with fail
  refine (wk_and (Go.Proofs.Yteikngjanfjmfaa.kg [(0,0),(2,2),(2,2)]) kg 2 2 2 2 rfl rfl _ 6 6 rfl kr3 (by decide) (ko _ _ (by decide)) (ko _ _ (by decide))).mono ?_; rintro e w2 ⟨S, rfl, kg, kst1⟩; have kst := kst.trans kst1; clear kst1
  go_wp2_with fail
  go_ret
  exact ⟨rfl, hst.kept.trans kst.kept⟩
end Go.Proofs.Yteikngjanfjmfaa
