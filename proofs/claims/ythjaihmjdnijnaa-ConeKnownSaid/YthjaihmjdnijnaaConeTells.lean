/-
  Law 04: what literals lean on, their support; the chapter's graph and rows.
-/
import Derived.Test.YthjaihmjdnijnaaCopyWalk
namespace Go.Proofs.Ythjaihmjdnijnaa
open Go.ChangeShapes Go.WideShapes Go.ChangeAt Go.RowKit
open Go.Maps (Keyed)
open Go.WideMaps
set_option linter.unusedVariables false
set_option linter.unusedSimpArgs false

variable {w w' : World} {p q : Nat} {F R S : List Nat} {g g2 : Gr}
theorem cone_reach (hg : GraphAt w p F g) (hm : g.nodes.length ≤ 200000) (a : Option Addr) (c len : Nat) (l : List Nat) (hl : l.length = len) (hlm : len ≤ 1000000) (hs : SlN w .u32 a l) (hok : ∀ x ∈ l, g.ok x) :
    Calls Try.prog 19 #[.pointer (some ⟨p, 0, none⟩), .slice a len c] w (IntsPost (reachL g.nodes l) w) := by
  have H := Lib.hid (nodes_reach hg hm a c len l hl hlm hs hok)
  clear hg hl hs hok
  go_enter Try.func19, Try.ntmps19
  go_wp2_with fail
  refine H.out.mono ?_
  rintro e w1 ⟨a1, c1, n1, rfl, ho, hk⟩
  go_wp2_with fail
  go_ret2
  exact ⟨a1, c1, n1, rfl, ho, hk⟩
theorem cone_support (hg : GraphAt w p F g) (hm : g.nodes.length ≤ 200000) (a : Option Addr) (c len : Nat) (l : List Nat) (hl : l.length = len) (hlm : len ≤ 1000000) (hs : SlN w .u32 a l) (hok : ∀ x ∈ l, g.ok x) :
    Calls Try.prog 20 #[.pointer (some ⟨p, 0, none⟩), .slice a len c] w (IntsPost (supportL g.nodes l) w) := by
  have hk := (Kept.refl [] w).alloc (.cells #[.pointer (some ⟨p, 0, none⟩)] 26)
  have H := Lib.hid (nodes_support (hg.kept0 hk) hm a c len l hl hlm (hs.kept0 hk) hok w.heap.size (by simp [World.cell?_alloc_new]))
  clear hg hl hs hok hk
  go_enter Try.func20, Try.ntmps20
  go_wp2_with fail
  refine H.out.mono ?_
  rintro e w1 ⟨a1, c1, n1, rfl, ho, hk⟩
  have HK := Lib.hid (((Kept.refl [] w).alloc _).trans hk)
  clear hk
  go_wp2_with fail
  go_ret2
  exact ⟨a1, c1, n1, rfl, ho, HK.out⟩
def plainSteps : List Stp := [(0, 0, 0), (0, 0, 0), (0, 0, 0), (1, 2, 4), (1, 9, 6)]
def plainG : Gr := buildTo false false plainSteps 60
def GraphPost (g : Gr) (w : World) (e : Ending) (w' : World) : Prop := ∃ p F, e = .returned (.pointer (some ⟨p, 0, none⟩)) ∧ GraphAt w' p F g ∧ Stepped w w' [] F
def stepCells : Array Value := #[.int .i64 0, .int .u32 0, .int .u32 0, .int .i64 0, .int .u32 0, .int .u32 0, .int .i64 0, .int .u32 0, .int .u32 0, .int .i64 1, .int .u32 2, .int .u32 4, .int .i64 1, .int .u32 9, .int .u32 6]
theorem plain_sl (w : World) : SlSteps (w.alloc (.cells stepCells 69)) (some ⟨w.heap.size, 0, none⟩) plainSteps := fun k hk => by
  have hb : (w.alloc (.cells stepCells 69)).heap[w.heap.size]? = some (.cells stepCells 69 (0, 0)) := heap_alloc_new w _
  refine ⟨w.heap.size, 0, rfl, ?_⟩
  rw [Nat.zero_add, blk_cell hb, blk_cell hb, blk_cell hb]
  have hk5 : k < 5 := hk
  match k, hk5 with
  | 0, _ => exact ⟨rfl, rfl, rfl⟩
  | 1, _ => exact ⟨rfl, rfl, rfl⟩
  | 2, _ => exact ⟨rfl, rfl, rfl⟩
  | 3, _ => exact ⟨rfl, rfl, rfl⟩
  | 4, _ => exact ⟨rfl, rfl, rfl⟩
theorem Both.stepped {w0 : World} (h : Both w0 w p F q R g) : Stepped w0 w [] F := ⟨h.kept, fun x hx => .inr (h.newF x hx)⟩
set_option maxHeartbeats 800000 in
set_option maxRecDepth 100000 in
theorem plain_c (w : World) : Calls Try.prog 28 #[] w (GraphPost plainG w) := by
  have H := Lib.hid (build_c false false (some ⟨w.heap.size, 0, none⟩) 5 5 plainSteps (w := w.alloc (.cells stepCells 69)) rfl (by omega) (plain_sl w) (by intro s hs; simp only [plainSteps, List.mem_cons, List.not_mem_nil, or_false] at hs; unfold Stp.ok; rcases hs with rfl | rfl | rfl | rfl | rfl <;> decide))
  go_enter Try.func28, Try.ntmps28
  go_wp2_with fail
  refine H.out.mono ?_
  rintro e w1 ⟨p, F, q, R, rfl, hb⟩
  have HB := Lib.hid (((Stepped.refl w []).alloc (.cells stepCells 69)).trans hb.stepped)
  have HG := Lib.hid hb.graph
  clear hb
  go_wp2_with fail
  go_ret
  exact ⟨p, F, rfl, HG.out, HB.out⟩
set_option maxHeartbeats 800000 in
theorem ints_c (a b : Option Addr) (c d n : Nat) (l : List Nat) (w : World) (hl : l.length = n) (hn : n ≤ 1000000) (ha : SlN w .i64 a l) (hb : SlN w .i64 b l) :
    Calls Try.prog 49 #[.slice a n c, .slice b n d] w fun e w' => e = .returned (.bool true) ∧ ∃ k, w' = w.drewN k := by
  have HL := Lib.hid hl
  have HA := Lib.hid ha
  have HB := Lib.hid hb
  clear hl ha hb
  go_enter Try.func49, Try.ntmps49
  go_wp2_with fail
  go_loopw [5] (fun i wr => ∃ k m : Nat, k ≤ n ∧ i = .int .i64 k ∧ wr = w.drewN m) (fun i _ => n - (intOf i).toNat)
  case atStart => exact ⟨0, 0, Nat.zero_le _, rfl, rfl⟩
  case round =>
    obtain ⟨k, m, hk, rfl, rfl⟩ := hrel
    by_cases hlt : k < n
    · have hkl : k < l.length := by rw [HL.out]; exact hlt
      obtain ⟨ad, rfl, hcx⟩ := HA.out k hkl
      obtain ⟨ad2, rfl, hcy⟩ := HB.out k hkl
      generalize l[k] = x at *
      go_wp2_with fail
      go_quiet (fail)
      go_wp2_with fail
      go_roundw
      case rel => exact ⟨k + 1, _, by omega, by go_num, rfl⟩
      case measure => simp [intOf]; omega
    · go_wp2_with fail
      go_ret
      exact ⟨rfl, m, rfl⟩
def toG : Gr := { fold := true, hash := false, nodes := [(0, 0), (2, 2), (4, 4), (6, 6)] }
set_option maxRecDepth 100000 in
theorem plain_facts : plainG.nodes.length ≤ 1000 ∧ reachL plainG.nodes [8] = [1, 2, 4] ∧ supportL plainG.nodes [10] = [1, 2, 3] ∧ mostD (dpL plainG.nodes) [10] = 2 ∧ (ins plainG.nodes).length = 3 ∧ (∀ x ∈ [8, 10], x / 2 < plainG.nodes.length) := by
  refine ⟨by decide, by kernel_rfl, by kernel_rfl, by kernel_rfl, by kernel_rfl, by decide⟩
set_option maxRecDepth 100000 in
theorem copy_facts : [10].map (overL (copyG toG plainG [1, 4, 6] [10]).2) = [8] ∧ gateA (copyG toG plainG [1, 4, 6] [10]).1 4 = (6, 5, true) ∧ (copyG toG plainG [1, 4, 6] [10]).1.nodes.length ≤ 1000 := by
  refine ⟨by kernel_rfl, by kernel_rfl, by decide⟩
end Go.Proofs.Ythjaihmjdnijnaa
