/-
  Package sweep: one look for registers that are needed (the closure of Needed).
  Law 04: what literals lean on, their support; the chapter's graph and rows.
-/
import Derived.Test.YtdmcdhkkbkgnbaaP26
import Derived.Test.YtdmcdhkkbkgnbaaP24
import Derived.StillTailTactics
namespace Go.Proofs.Ytdmcdhkkbkgnbaa
open Go.ChangeShapes Go.WideShapes Go.ChangeAt Go.RowKit
open Go.Maps (Keyed)
open Go.WideMaps
set_option linter.unusedVariables false
set_option linter.unusedSimpArgs false

variable {w w' : World} {p q : Nat} {F R S : List Nat} {g g2 : Gr}
theorem cone_reach (hg : GraphAt w p F g) (hm : g.nodes.length ≤ 200000) (a : Option Addr) (c len : Nat) (l : List Nat) (hl : l.length = len) (hlm : len ≤ 1000000) (hs : SlN w .u32 a l) (hok : ∀ x ∈ l, g.ok x) :
    Calls Try.prog 45 #[.pointer (some ⟨p, 0, none⟩), .slice a len c] w (IntsPost (reachL g.nodes l) w) := by
  have H := Lib.hid (nodes_reach hg hm a c len l hl hlm hs hok)
  clear hg hl hs hok
  go_enter Try.func45, Try.ntmps45
  go_wp2_with fail
  refine H.out.mono ?_
  rintro e w1 ⟨a1, c1, n1, rfl, ho, hk⟩
  go_wp2_with fail
  go_ret2
  exact ⟨a1, c1, n1, rfl, ho, hk⟩
theorem cone_support (hg : GraphAt w p F g) (hm : g.nodes.length ≤ 200000) (a : Option Addr) (c len : Nat) (l : List Nat) (hl : l.length = len) (hlm : len ≤ 1000000) (hs : SlN w .u32 a l) (hok : ∀ x ∈ l, g.ok x) :
    Calls Try.prog 28 #[.pointer (some ⟨p, 0, none⟩), .slice a len c] w (IntsPost (supportL g.nodes l) w) := by
  have hk := (Kept.refl [] w).alloc (.cells #[.pointer (some ⟨p, 0, none⟩)] 32)
  have H := Lib.hid (nodes_support (hg.kept0 hk) hm a c len l hl hlm (hs.kept0 hk) hok w.heap.size (by simp [World.cell?_alloc_new]))
  clear hg hl hs hok hk
  go_enter Try.func28, Try.ntmps28
  go_wp2_with fail
  refine H.out.mono ?_
  rintro e w1 ⟨a1, c1, n1, rfl, ho, hk⟩
  have HK := Lib.hid (((Kept.refl [] w).alloc _).trans hk)
  clear hk
  go_wp2_with fail
  go_ret2
  exact ⟨a1, c1, n1, rfl, ho, HK.out⟩
def plainSteps : List Stp := [(0, 0, 0), (0, 0, 0), (0, 0, 0), (1, 2, 4), (1, 9, 6)]
def plainG : Gr := buildTo false false plainSteps 60
def GraphPost (g : Gr) (w : World) (e : Ending) (w' : World) : Prop := ∃ p F, e = .returned (.pointer (some ⟨p, 0, none⟩)) ∧ GraphAt w' p F g ∧ Stepped w w' [] F
def stepCells : Array Value := #[.int .i64 0, .int .u32 0, .int .u32 0, .int .i64 0, .int .u32 0, .int .u32 0, .int .i64 0, .int .u32 0, .int .u32 0, .int .i64 1, .int .u32 2, .int .u32 4, .int .i64 1, .int .u32 9, .int .u32 6]
def toG : Gr := { fold := true, hash := false, nodes := [(0, 0), (2, 2), (4, 4), (6, 6)] }
set_option maxRecDepth 100000 in
theorem plain_facts : plainG.nodes.length ≤ 1000 ∧ reachL plainG.nodes [8] = [1, 2, 4] ∧ supportL plainG.nodes [10] = [1, 2, 3] ∧ mostD (dpL plainG.nodes) [10] = 2 ∧ (ins plainG.nodes).length = 3 ∧ (∀ x ∈ [8, 10], x / 2 < plainG.nodes.length) := by
  refine ⟨by decide, by kernel_rfl, by kernel_rfl, by kernel_rfl, by kernel_rfl, by decide⟩
set_option maxRecDepth 100000 in
theorem copy_facts : [10].map (overL (copyG toG plainG [1, 4, 6] [10]).2) = [8] ∧ gateA (copyG toG plainG [1, 4, 6] [10]).1 4 = (6, 5, true) ∧ (copyG toG plainG [1, 4, 6] [10]).1.nodes.length ≤ 1000 := by
  refine ⟨by kernel_rfl, by kernel_rfl, by decide⟩
end Go.Proofs.Ytdmcdhkkbkgnbaa

namespace Go.Proofs.Ytdmcdhkkbkgnbaa
open Go.ChangeShapes Go.WideShapes Go.ChangeAt Go.RowKit
open Go.Maps (Keyed)
open Go.WideMaps
set_option linter.unusedVariables false
set_option linter.unusedSimpArgs false

variable {w w' W w0 : World} {p n k m bn bt bp bd mp gd : Nat} {F R S : List Nat} {g : Gr} {N : Nt} {nd : List Bool} {todo : List Nat}
/-- a map from nodes to numbers -/
def intF (φ : Nat → Option Nat) : Value → Option Value
  | .int .i64 z => if 0 ≤ z then (φ z.toNat).map (fun x => Value.int .i64 (x : Nat)) else none
  | _ => none
theorem intF_get (φ : Nat → Option Nat) (x : Nat) : intF φ (.int .i64 (x : Int)) = (φ x).map (fun y => Value.int .i64 (y : Nat)) := by simp [intF]
theorem intF_none : (fun _ => none : Value → Option Value) = intF (fun _ => none) := by
  funext v
  unfold intF
  split
  · split <;> rfl
  · rfl
theorem intF_upd (φ : Nat → Option Nat) (x z : Nat) : upd (intF φ) (.int .i64 (x : Int)) (.int .i64 (z : Nat)) = intF (fun y => if y = x then some z else φ y) := by
  funext v
  unfold upd
  by_cases h : v = .int .i64 (x : Int)
  · subst h
    rw [if_pos rfl, intF_get]
    simp
  · rw [if_neg h]
    unfold intF
    split
    · rename_i y
      split
      · rename_i hy
        show _ = Option.map _ (if y.toNat = x then some z else φ y.toNat)
        rw [if_neg]
        intro e
        apply h
        congr 1
        omega
      · rfl
    · rfl
theorem i64_law : Keyed Try.prog 3 := Go.Maps.int_keyed Try.underlying3
theorem i64_key (x : Nat) (h : x < 4294967296) : ∃ kl, keyOf Try.prog 3 (.int .i64 (x : Int)) = some kl :=
  ⟨_, Go.Maps.keyOf_int_mk Try.underlying3 (by simp [Lit.wf, IntKind.min, IntKind.max, IntKind.signed, IntKind.bits]; omega)⟩
def PlMap (w : World) (m : Nat) (φ : Nat → Option Nat) : Prop := MapV w Try.prog 3 m (intF φ)
theorem PlMap.look {φ : Nat → Option Nat} (h : PlMap w m φ) (x : Nat) (hx : x < 4294967296) : (Instr.lookup 65 (.map (some m)) (.int .i64 (x : Int)) true).run Try.prog w = .ok (.tuple #[.int .i64 ((φ x).getD 0 : Nat), .bool (φ x).isSome]) w := by
  obtain ⟨kl, hkl⟩ := i64_key x hx
  have h2 := MapV.look h true i64_law Try.underlying65 (int_zero' _) hkl
  rw [intF_get] at h2
  cases hφ : φ x <;> rw [hφ] at h2 <;> simpa using h2
/-- the closure's boxes -/
structure MoreAt (w0 w : World) (n bn bt bp bd mp gd : Nat) (N : Nt) (nd : List Bool) (todo : List Nat) : Prop where
  cn : w.heap[bn]? = some (.cells #[.pointer (some ⟨n, 0, none⟩)] 22 (0, 0))
  cp : w.heap[bp]? = some (.cells #[.map (some mp)] 65 (0, 0))
  cd : w.heap[bd]? = some (.cells #[.slice (some ⟨gd, 0, none⟩) N.regs.length N.regs.length] 26 (0, 0))
  ct : ∃ a c, w.heap[bt]? = some (.cells #[.slice a todo.length c] 37 (0, 0)) ∧ Own w 41 a todo.length c (nats .u32 todo) ∧ ∀ b ∈ ft a, w0.heap.size ≤ b
  pm : PlMap w mp (placeR N.regs)
  own : Own w 4 (some ⟨gd, 0, none⟩) N.regs.length N.regs.length (bls nd)
  kept : Kept [] w0 w
  new : ∀ b ∈ [bn, bt, bp, bd, mp, gd], w0.heap.size ≤ b
theorem MoreAt.kept0 (h : MoreAt w0 w n bn bt bp bd mp gd N nd todo) (hk : Kept [] w w') : MoreAt w0 w' n bn bt bp bd mp gd N nd todo := by
  obtain ⟨a, c, h1, h2, h3⟩ := h.ct
  exact ⟨hk.heap h.cn (by simp), hk.heap h.cp (by simp), hk.heap h.cd (by simp), ⟨a, c, hk.heap h1 (by simp), h2.kept0 hk, h3⟩, MapV.kept h.pm hk (by simp), h.own.kept0 hk, h.kept.trans hk, h.new⟩
theorem blk_ne {b c : Nat} {cs ds : Array Value} {t u : TypeId} (h1 : w.heap[b]? = some (.cells cs t (0, 0))) (h2 : w.heap[c]? = some (.cells ds u (0, 0))) (h : t ≠ u) : b ≠ c := by
  rintro rfl
  rw [h1] at h2
  injection h2 with h2
  injection h2 with _ h3
  exact h h3
theorem MoreAt.gdb (h : MoreAt w0 w n bn bt bp bd mp gd N nd todo) : ∃ cs, w.heap[gd]? = some (.cells cs 4 (0, 0)) := by
  obtain ⟨cur, hc⟩ := h.own.apart (b := gd) (by simp [ft])
  exact ⟨cur, hc⟩
/-- todo, another -/
theorem MoreAt.setTodo (h : MoreAt w0 w n bn bt bp bd mp gd N nd todo) {a : Option Addr} {c : Nat} {l : List Nat} (ho : Own w 41 a l.length c (nats .u32 l)) (hf : ∀ b ∈ ft a, w0.heap.size ≤ b) :
    MoreAt w0 (w.setCell ⟨bt, 0, none⟩ (.slice a l.length c)) n bn bt bp bd mp gd N nd l := by
  obtain ⟨a0, c0, h1, h2, h3⟩ := h.ct
  obtain ⟨cg, hg⟩ := h.gdb
  have hk : Kept [bt] w (w.setCell ⟨bt, 0, none⟩ (.slice a l.length c)) := (Kept.refl [bt] w).setCell (p := ⟨bt, 0, none⟩) (.inl (by simp)) _
  have n1 := blk_ne h.cn h1 (by decide)
  have n2 := blk_ne h.cp h1 (by decide)
  have n3 := blk_ne h.cd h1 (by decide)
  have n4 := blk_ne hg h1 (by decide)
  have n5 : mp ≠ bt := fun e => h.pm.nocell h1 e.symm
  refine ⟨hk.heap h.cn (by simpa using n1), hk.heap h.cp (by simpa using n2), hk.heap h.cd (by simpa using n3), ⟨a, c, ?_, ho.kept hk (fun b hb hx => ?_), hf⟩, MapV.kept h.pm hk (by simpa using n5), h.own.kept hk (fun b hb hx => ?_), kept_up h.kept hk (fun b hb => by simp at hb; subst hb; exact h.new _ (by simp)), h.new⟩
  · rw [blk_set h1 0]
    rfl
  · simp at hx
    subst hx
    exact blk_apart h1 ho (by decide) hb
  · simp at hx
    subst hx
    simp [ft] at hb
    exact n4 hb.symm
/-- one more that is needed -/
theorem MoreAt.setNeed (h : MoreAt w0 w n bn bt bp bd mp gd N nd todo) {j : Nat} (hj : j < N.regs.length) :
    MoreAt w0 (w.setCell ⟨gd, j, none⟩ (.bool true)) n bn bt bp bd mp gd N (nd.set j true) todo ∧ Kept [gd] w (w.setCell ⟨gd, j, none⟩ (.bool true)) := by
  obtain ⟨a0, c0, h1, h2, h3⟩ := h.ct
  obtain ⟨cg, hg⟩ := h.gdb
  have hk : Kept [gd] w (w.setCell ⟨gd, j, none⟩ (.bool true)) := (Kept.refl [gd] w).setCell (p := ⟨gd, j, none⟩) (.inl (by simp)) _
  have n1 := blk_ne h.cn hg (by decide)
  have n2 := blk_ne h.cp hg (by decide)
  have n3 := blk_ne h.cd hg (by decide)
  have n4 := blk_ne h1 hg (by decide)
  have n5 : mp ≠ gd := fun e => h.pm.nocell hg e.symm
  have ho := (h.own.store hj).2.2 (.bool true)
  rw [bls_set] at ho
  refine ⟨⟨hk.heap h.cn (by simpa using n1), hk.heap h.cp (by simpa using n2), hk.heap h.cd (by simpa using n3), ⟨a0, c0, hk.heap h1 (by simpa using n4), h2.kept hk (fun b hb hx => ?_), h3⟩, MapV.kept h.pm hk (by simpa using n5), ho, kept_up h.kept hk (fun b hb => by simp at hb; subst hb; exact h.new _ (by simp)), h.new⟩, hk⟩
  simp at hx
  subst hx
  exact blk_apart hg h2 (by decide) hb
end Go.Proofs.Ytdmcdhkkbkgnbaa
