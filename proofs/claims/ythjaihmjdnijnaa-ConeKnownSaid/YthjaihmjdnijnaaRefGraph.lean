/-
  Package orreryref03: the document's graph, its contracts: it makes the nodes that the program's graph has.
-/
import Derived.Test.YthjaihmjdnijnaaRefMath
import Derived.Test.YthjaihmjdnijnaaLitRows
import Derived.Test.YthjaihmjdnijnaaAigMore
namespace Go.Proofs.Ythjaihmjdnijnaa
open Go.ChangeShapes Go.WideShapes Go.ChangeAt Go.RowKit
open Go.Maps (Keyed)
open Go.WideMaps
set_option linter.unusedVariables false

variable {w w' : World} {q : Nat} {R S : List Nat} {g : Gr}
theorem ref_new (o1 o2 : Bool) (w : World) : Calls Try.prog 29 #[.bool o1, .bool o2] w fun e w' => ∃ q R, e = .returned (.pointer (some ⟨q, 0, none⟩)) ∧ RefAt w' q R { fold := o1, hash := o2, nodes := [(0, 0)] } ∧ Stepped w w' [] R := by
  have hmk : ∀ w, (Instr.makeSlice 70 (.int .i64 1) (.int .i64 1)).run Try.prog w = .ok (.slice (some ⟨w.heap.size, 0, none⟩) 1 1) (w.alloc (.cells #[.bool false, .int .u32 0, .int .u32 0] 102)) := fun _ => by kernel_rfl
  go_enter Try.func29, Try.ntmps29
  go_wp2
  go_ret
  have h1 : (w.alloc (.cells #[.bool false, .int .u32 0, .int .u32 0] 102)).heap[w.heap.size]? = some (.cells #[.bool false, .int .u32 0, .int .u32 0] 102 (0, 0)) := heap_alloc_new w _
  have h2 := heap_alloc_new (w.alloc (.cells #[.bool false, .int .u32 0, .int .u32 0] 102)) (.cells #[.bool o1, .bool o2, .slice (some ⟨w.heap.size, 0, none⟩) 1 1] 72)
  refine ⟨w.heap.size + 1, (w.heap.size + 1) :: ft (some ⟨w.heap.size, 0, none⟩), by simp [go_sem], ⟨some ⟨w.heap.size, 0, none⟩, 1, rfl, ⟨by simpa using h2, ?_, ⟨rfl, fun i a b h => ?_⟩⟩⟩, ?_⟩
  · refine ⟨rfl, .inr ⟨w.heap.size, 1, #[.bool false, .int .u32 0, .int .u32 0], rfl, Nat.zero_le _, ?_, Nat.le_refl _, by decide, rfl, rfl⟩⟩
    exact (Below.heap_alloc _ _ _ (by simp)).trans h1
  · cases i with
    | zero => simp at h; omega
    | succ i => simp at h
  · have := ((Stepped.refl w []).allocOwn (.cells #[.bool false, .int .u32 0, .int .u32 0] 102)).allocOwn (.cells #[.bool o1, .bool o2, .slice (some ⟨w.heap.size, 0, none⟩) 1 1] 72)
    simpa [ft] using this
theorem RefC.c0 {an : Option Addr} {cn : Nat} (h : RefC w q g an cn) : w.cell? ⟨q, 0, none⟩ = some (.bool g.fold) := blk_cell h.blk 0
theorem RefC.c1 {an : Option Addr} {cn : Nat} (h : RefC w q g an cn) : w.cell? ⟨q, 1, none⟩ = some (.bool g.hash) := blk_cell h.blk 1
theorem RefC.c2 {an : Option Addr} {cn : Nat} (h : RefC w q g an cn) : w.cell? ⟨q, 2, none⟩ = some (.slice an g.nodes.length cn) := blk_cell h.blk 2
/-- a node's three cells -/
theorem rnode_cells {gb k : Nat} {ns : List (Nat × Nat)} {p : Nat × Nat} (h : ∀ j u, (rcells ns)[j]? = some u → w.cell? ⟨gb, j, none⟩ = some u) (hp : ns[k]? = some p) :
    w.cell? ⟨gb, k * 3, none⟩ = some (.bool (decide (p.1 / 2 = k) && decide (k ≠ 0))) ∧ (p.1 / 2 ≠ k → w.cell? ⟨gb, k * 3 + 1, none⟩ = some (.int .u32 (p.1 : Int)) ∧ w.cell? ⟨gb, k * 3 + 2, none⟩ = some (.int .u32 (p.2 : Int))) := by
  have h0 := rcells_get hp 0 (by omega)
  have h1 := rcells_get hp 1 (by omega)
  have h2 := rcells_get hp 2 (by omega)
  rw [show 3 * k = k * 3 by omega] at h0 h1 h2
  unfold rnV at h0 h1 h2
  refine ⟨?_, fun hne => ⟨?_, ?_⟩⟩
  · by_cases hp2 : p.1 / 2 = k
    · rw [if_pos hp2] at h0
      rw [show k * 3 = k * 3 + 0 from rfl, h _ _ h0]
      simp [hp2]
    · rw [if_neg hp2] at h0
      rw [show k * 3 = k * 3 + 0 from rfl, h _ _ h0]
      simp [hp2]
  · rw [if_neg hne] at h1
    exact h _ _ h1
  · rw [if_neg hne] at h2
    exact h _ _ h2
set_option maxHeartbeats 800000 in
theorem ref_inputs (hg : RefAt w q R g) (hm : g.nodes.length ≤ 100000) : Calls Try.prog 79 #[.pointer (some ⟨q, 0, none⟩)] w fun e w' => e = .returned (.int .i64 ((ins g.nodes).length : Nat)) ∧ w = w' := by
  have hp := hg.wf.pos
  obtain ⟨an, cn, rfl, hc⟩ := hg
  have c2 := hc.c2
  obtain ⟨gb, rfl, hcell⟩ := own3_form hc.nodes (by omega)
  have HC := Lib.hid hcell
  have hz := hc.wf.zero
  have HZ := Lib.hid (show (ins (g.nodes.take 1)).length = 0 by
    obtain ⟨p, r, hr⟩ : ∃ p r, g.nodes = p :: r := by cases h : g.nodes with | nil => rw [h] at hp; simp at hp | cons p r => exact ⟨p, r, rfl⟩
    rw [hr]; simp [ins, insFrom])
  clear hc hcell hz
  go_enter Try.func79, Try.ntmps79
  go_wp2
  go_loop [3, 4] (fun n i => ∃ k : Nat, 1 ≤ k ∧ k ≤ g.nodes.length ∧ i = .int .i64 k ∧ n = .int .i64 ((ins (g.nodes.take k)).length : Nat)) (fun _ i => g.nodes.length - (intOf i).toNat)
  case atStart => exact ⟨1, by omega, by omega, rfl, by rw [HZ.out]; rfl⟩
  case round =>
    obtain ⟨k, hk1, hk, rfl, rfl⟩ := hrel
    by_cases hlt : k < g.nodes.length
    · obtain ⟨p, hpk⟩ : ∃ p, g.nodes[k]? = some p := ⟨_, List.getElem?_eq_getElem hlt⟩
      have hcb := (rnode_cells HC.out hpk).1
      have hle := insFrom_length 0 (g.nodes.take k)
      have hle2 : (ins (g.nodes.take k)).length ≤ k := by unfold ins; rw [List.length_take] at hle; omega
      have HI := Lib.hid (ins_take hpk (by omega))
      clear hle
      by_cases hin : p.1 / 2 = k
      · have hb : (decide (p.1 / 2 = k) && decide (k ≠ 0)) = true := by simp [hin]; omega
        rw [hb] at hcb
        rw [if_pos hin] at HI
        clear hin hb hpk
        generalize (ins (g.nodes.take k)).length = m at *
        go_wp2
        go_round
        case rel => exact ⟨k + 1, by omega, by omega, by go_num, by rw [HI.out]; go_num⟩
        case measure => simp [intOf]; omega
      · have hb : (decide (p.1 / 2 = k) && decide (k ≠ 0)) = false := by simp [hin]
        rw [hb] at hcb
        rw [if_neg hin] at HI
        clear hin hb hpk
        generalize (ins (g.nodes.take k)).length = m at *
        go_wp2
        go_round
        case rel => exact ⟨k + 1, by omega, by omega, by go_num, by rw [HI.out]; rfl⟩
        case measure => simp [intOf]; omega
    · have HE := Lib.hid (show g.nodes.take k = g.nodes from List.take_of_length_le (by omega))
      rw [HE.out]
      go_wp2
      go_ret
      exact ⟨rfl, rfl⟩
theorem ref_gates (hg : RefAt w q R g) (hm : g.nodes.length ≤ 100000) : Calls Try.prog 76 #[.pointer (some ⟨q, 0, none⟩)] w fun e w' => e = .returned (.int .i64 (gatesN g)) ∧ ∃ k, w' = w.drewN k := by
  have hile : (ins g.nodes).length ≤ g.nodes.length := insFrom_length 0 g.nodes
  have hp := hg.wf.pos
  have HI := Lib.hid (fun n => ref_inputs (hg.kept0 ((Kept.refl [] w).drewN n)) hm)
  obtain ⟨an, cn, rfl, hc⟩ := hg
  have c2 := hc.c2
  have HD := Lib.hid (show gatesN g = (g.nodes.length : Int) - 1 - ((ins g.nodes).length : Nat) from rfl)
  clear hc
  generalize (ins g.nodes).length = m at *
  go_enter Try.func76, Try.ntmps76
  go_wp2
  go_quiet ((go_at_call 79; with_reducible exact q_same (HI.out _)))
  go_wp2
  go_ret
  exact ⟨by rw [HD.out]; rfl, _, rfl⟩
end Go.Proofs.Ythjaihmjdnijnaa
