/-
  Law 09: wakes: what the document's examples say.
-/
import Derived.Test.YtjgcfncganleoaaDoorTrcZb
import Derived.Lib.ConvBytes
import Derived.Lib.SlBytesConst
namespace Go.Proofs.YtjgcfncganleoaaDoor
open Go.ChangeShapes Go.WideShapes Go.ChangeAt Go.RowKit
set_option linter.unusedVariables false
set_option linter.unusedSimpArgs false

variable {w w' w1 W : World}
def wkT : Tb := ⟨[(⟨#[120]⟩, 8), (⟨#[99]⟩, 1)], [[31, 1], [0, 0]]⟩
theorem wk_may : mayT wkT = true := by kernel_rfl
theorem wk_put : putTx wkT = [120, 58, 56, 32, 99, 58, 49, 10, 49, 102, 32, 49, 10, 48, 32, 48, 10] := by kernel_rfl
theorem wk_short : getT [120, 58, 56, 32, 99, 58, 49, 10, 49, 102, 32, 49, 10, 48, 32, 48] = .error 4 := by kernel_rfl
theorem wk_form : getT [120, 58, 56, 10, 48, 49, 10] = .error 5 := by kernel_rfl
/-- a text made of a string -/
theorem conv_txt (w : World) (s : ByteArray) : ∃ c W', (convert 9 44 (.string s)).run Tryd.prog w = .ok (.slice (some ⟨w.heap.size, 0, none⟩) s.size c) W' ∧ TxtAt W' (some ⟨w.heap.size, 0, none⟩) c s.data.toList ∧ Kept [] w W' ∧ W'.heap.size = w.heap.size + 1 := by
  have h := Lib.run_convert_string_bytes (P := Tryd.prog) w 9 44 5 s (u := .string) Tryd.underlying9 Tryd.underlying44 Tryd.underlying5
  have hz := Lib.bytesWorld_size w 5 s
  refine ⟨_, _, h, ⟨fun k hk => ⟨_, rfl, ?_⟩, ?_⟩, ⟨?_, ?_, ?_, by omega, fun k hk _ => Lib.bytesWorld_at_old w _ s k hk⟩, hz⟩
  · have hk' : k < s.size := by rw [Array.length_toList] at hk; exact hk
    rw [add_at, Lib.bytesWorld_cell w _ s _ (by omega)]
    simp [List.getD, List.getElem?_eq_getElem hk]
  · rw [Array.length_toList]; exact grownCap_ge w s.size 0 _
  · simp [Lib.bytesWorld, World.freeze]; rfl
  · simp [Lib.bytesWorld, World.freeze]
  · simp [Lib.bytesWorld, World.freeze]; rfl
theorem wk_ok : wkT.ok := ⟨by simp [wkT], by simp [wkT], by
  intro b hb
  simp [wkT] at hb
  rcases hb with rfl | rfl
  · exact ⟨by show (1 : Nat) ≤ _; omega, by omega, by omega⟩
  · exact ⟨by show (1 : Nat) ≤ _; omega, by omega, by omega⟩, by
  intro r hr
  simp [wkT] at hr
  rcases hr with rfl | rfl <;> simp [Words]⟩
/-- a text that the call made: its form, and the string made of it -/
theorem own_txt {B n : Nat} {v : Value} {l : List UInt8} (h : w.ownsRow B 5 1 v n (Lib.byteCells l)) (hl : l.length = n) (hn : 0 < n) : ∃ g cap, v = .slice (some ⟨g, 0, none⟩) n cap ∧ B ≤ g := by
  rcases h.2 with ⟨_, h0⟩ | ⟨g, cap, cur, hv, hg, _⟩
  · omega
  · exact ⟨g, cap, hv, hg⟩
theorem own_str {B n g cap : Nat} {l : List UInt8} (h : w.ownsRow B 5 1 (.slice (some ⟨g, 0, none⟩) n cap) n (Lib.byteCells l)) (hl : l.length = n) : (convert 44 9 (.slice (some ⟨g, 0, none⟩) n cap)).run Tryd.prog w = .ok (.string ⟨l.toArray⟩) w := by
  have := run_convert_bytes_back (P := Tryd.prog) w 44 9 5 ⟨g, 0, none⟩ cap l Tryd.underlying44 Tryd.underlying5 Tryd.underlying9 (fun j hj => World.ownsRow.cells h (g := g) rfl j _ (by
    simp [Lib.byteCells, List.getElem?_eq_getElem hj]))
  rw [hl] at this
  exact this
theorem wk_size : (ByteArray.extract ⟨#[120, 58, 56, 32, 99, 58, 49, 10, 49, 102, 32, 49, 10, 48, 32, 48, 10]⟩ 0 16).size = 16 := by kernel_rfl
theorem wk_list : (ByteArray.extract ⟨#[120, 58, 56, 32, 99, 58, 49, 10, 49, 102, 32, 49, 10, 48, 32, 48, 10]⟩ 0 16).data.toList = [120, 58, 56, 32, 99, 58, 49, 10, 49, 102, 32, 49, 10, 48, 32, 48] := by kernel_rfl
/-- the table of the examples where it lies -/
theorem wk_tab {b0 b1 b2 b3 : Nat} (h0 : w.heap[b0]? = some (.cells #[.string ⟨#[120]⟩, .int .i64 8, .string ⟨#[99]⟩, .int .i64 1] 35 (0, 0))) (h1 : w.heap[b1]? = some (.cells #[.int .u64 31, .int .u64 1] 27 (0, 0))) (h2 : w.heap[b2]? = some (.cells #[.int .u64 0, .int .u64 0] 27 (0, 0))) (h3 : w.heap[b3]? = some (.cells #[.slice (some ⟨b1, 0, none⟩) 2 2, .slice (some ⟨b2, 0, none⟩) 2 2] 33 (0, 0))) :
    TabV w (some ⟨b0, 0, none⟩) 2 2 (some ⟨b3, 0, none⟩) 2 2 wkT [⟨[31, 1], some ⟨b1, 0, none⟩, 2⟩, ⟨[0, 0], some ⟨b2, 0, none⟩, 2⟩] := by
  have two : ∀ {b : Nat} {x y : Nat}, w.heap[b]? = some (.cells #[.int .u64 (x : Int), .int .u64 (y : Int)] 27 (0, 0)) → SlN w .u64 (some ⟨b, 0, none⟩) [x, y] := fun {b x y} h k hk => by
    refine ⟨_, rfl, ?_⟩
    rw [add_at]
    match k, hk with
    | 0, _ => exact blk_cell h 0
    | 1, _ => exact blk_cell h 1
  refine ⟨rfl, rfl, rfl, fun k hk => ?_, fun k hk => ?_, by omega, by omega, fun r hr => ?_⟩
  · match k, hk with
    | 0, _ => exact ⟨b0, 0, rfl, blk_cell h0 0, blk_cell h0 1⟩
    | 1, _ => exact ⟨b0, 0, rfl, blk_cell h0 2, blk_cell h0 3⟩
  · match k, hk with
    | 0, _ => exact ⟨b3, 0, rfl, blk_cell h3 0, two h1⟩
    | 1, _ => exact ⟨b3, 0, rfl, blk_cell h3 1, two h2⟩
  · simp at hr
    rcases hr with rfl | rfl <;> simp
set_option maxHeartbeats 3200000 in
set_option maxRecDepth 100000 in
theorem wakes_c (w : World) (hg : w.cell? ⟨3, 15, none⟩ = some (.int .u8 4)) : Calls Tryd.prog 12 #[] w (BoolIs true w) := by
  have HG := Lib.hid hg
  clear hg
  go_enter Tryd.func12, Tryd.ntmps12
  obtain ⟨W5, hW5⟩ : ∃ W5, W5 = (((((w.alloc (.cells #[.string ⟨#[120]⟩, .int .i64 8, .string ⟨#[99]⟩, .int .i64 1] 35)).alloc (.cells #[.int .u64 31, .int .u64 1] 27)).alloc (.cells #[.int .u64 0, .int .u64 0] 27)).alloc (.cells #[.slice (some ⟨w.heap.size + 1, 0, none⟩) 2 2, .slice (some ⟨w.heap.size + 1 + 1, 0, none⟩) 2 2] 33)).alloc (.cells #[.slice (some ⟨w.heap.size, 0, none⟩) 2 2, .slice (some ⟨w.heap.size + 1 + 1 + 1, 0, none⟩) 2 2] 25)) := ⟨_, rfl⟩
  have K5 := Lib.hid (show Kept [] w (((((w.alloc (.cells #[.string ⟨#[120]⟩, .int .i64 8, .string ⟨#[99]⟩, .int .i64 1] 35)).alloc (.cells #[.int .u64 31, .int .u64 1] 27)).alloc (.cells #[.int .u64 0, .int .u64 0] 27)).alloc (.cells #[.slice (some ⟨w.heap.size + 1, 0, none⟩) 2 2, .slice (some ⟨w.heap.size + 1 + 1, 0, none⟩) 2 2] 33)).alloc (.cells #[.slice (some ⟨w.heap.size, 0, none⟩) 2 2, .slice (some ⟨w.heap.size + 1 + 1 + 1, 0, none⟩) 2 2] 25)) from (((((Kept.refl [] w).alloc _).alloc _).alloc _).alloc _).alloc _)
  have z1 : (w.alloc (.cells #[.string ⟨#[120]⟩, .int .i64 8, .string ⟨#[99]⟩, .int .i64 1] 35)).heap.size = w.heap.size + 1 := by simp
  have z2 : ((w.alloc (.cells #[.string ⟨#[120]⟩, .int .i64 8, .string ⟨#[99]⟩, .int .i64 1] 35)).alloc (.cells #[.int .u64 31, .int .u64 1] 27)).heap.size = w.heap.size + 1 + 1 := by simp
  have z3 : (((w.alloc (.cells #[.string ⟨#[120]⟩, .int .i64 8, .string ⟨#[99]⟩, .int .i64 1] 35)).alloc (.cells #[.int .u64 31, .int .u64 1] 27)).alloc (.cells #[.int .u64 0, .int .u64 0] 27)).heap.size = w.heap.size + 1 + 1 + 1 := by simp
  have HPC := Lib.hid (put_c (((((w.alloc (.cells #[.string ⟨#[120]⟩, .int .i64 8, .string ⟨#[99]⟩, .int .i64 1] 35)).alloc (.cells #[.int .u64 31, .int .u64 1] 27)).alloc (.cells #[.int .u64 0, .int .u64 0] 27)).alloc (.cells #[.slice (some ⟨w.heap.size + 1, 0, none⟩) 2 2, .slice (some ⟨w.heap.size + 1 + 1, 0, none⟩) 2 2] 33)).alloc (.cells #[.slice (some ⟨w.heap.size, 0, none⟩) 2 2, .slice (some ⟨w.heap.size + 1 + 1 + 1, 0, none⟩) 2 2] 25)) (wk_tab ((((Kept.refl [] _).alloc _).alloc _).alloc _ |>.alloc _ |>.heap (heap_new w _) (by simp)) ((((Kept.refl [] _).alloc _).alloc _).alloc _ |>.heap (z1 ▸ heap_new _ _) (by simp)) (((Kept.refl [] _).alloc _).alloc _ |>.heap (z2 ▸ heap_new _ _) (by simp)) ((Kept.refl [] _).alloc _ |>.heap (z3 ▸ heap_new _ _) (by simp))) wk_ok (K5.out.cell HG.out (by simp)))
  clear hW5 W5 z1 z2 z3
  go_wp2_with fail
  refine HPC.out.mono ?_
  intro e w6 hp
  rcases hp with ⟨h0, _⟩ | ⟨_, v, rfl, hown, hb6⟩
  · exact absurd (h0.symm.trans wk_may) (by decide)
  have K6 := Lib.hid (K5.out.trans (Kept.of_below hb6))
  rw [wk_put] at hown
  obtain ⟨gv, cv, rfl, _⟩ := own_txt hown rfl (by simp)
  have HO6 := Lib.hid hown
  obtain ⟨c7, w7, hcv, ht7, k7, hz7⟩ := conv_txt w6 (ByteArray.extract ⟨#[120, 58, 56, 32, 99, 58, 49, 10, 49, 102, 32, 49, 10, 48, 32, 48, 10]⟩ 0 16)
  rw [wk_size] at hcv
  rw [wk_list] at ht7
  have HGC := Lib.hid (get_c w7 ht7)
  have HT7 := Lib.hid ht7
  have K7 := Lib.hid k7
  clear hb6 hown ht7 k7 hz7
  go_wp2_with fail
  refine HGC.out.mono ?_
  intro e w8 hp
  rw [wk_short] at hp
  obtain ⟨rfl, k8⟩ := hp
  have K8 := Lib.hid (K6.out.trans (K7.out.trans k8))
  obtain ⟨n8, hn8⟩ : ∃ n, n = w8.heap.size := ⟨_, rfl⟩
  have HT9 := Lib.hid (show TxtAt ((w8.alloc (.cells #[.slice none 0 0, .slice none 0 0] 25)).alloc (.cells #[.int .u8 120, .int .u8 58, .int .u8 56, .int .u8 10, .int .u8 48, .int .u8 49, .int .u8 10] 5 (7, 8))) (some ⟨w8.heap.size + 1, 0, none⟩) 7 [120, 58, 56, 10, 48, 49, 10] from by
    have hb := heap_new (w8.alloc (.cells #[.slice none 0 0, .slice none 0 0] 25)) (.cells #[.int .u8 120, .int .u8 58, .int .u8 56, .int .u8 10, .int .u8 48, .int .u8 49, .int .u8 10] 5 (7, 8))
    rw [show (w8.alloc (.cells #[.slice none 0 0, .slice none 0 0] 25)).heap.size = w8.heap.size + 1 from by simp] at hb
    refine ⟨fun k hk => ⟨_, rfl, ?_⟩, by simp⟩
    rw [add_at]
    match k, hk with
    | 0, _ => exact cell_of_row _ _ 0 _ _ _ hb
    | 1, _ => exact cell_of_row _ _ 1 _ _ _ hb
    | 2, _ => exact cell_of_row _ _ 2 _ _ _ hb
    | 3, _ => exact cell_of_row _ _ 3 _ _ _ hb
    | 4, _ => exact cell_of_row _ _ 4 _ _ _ hb
    | 5, _ => exact cell_of_row _ _ 5 _ _ _ hb
    | 6, _ => exact cell_of_row _ _ 6 _ _ _ hb)
  have HG9 := Lib.hid (get_c _ HT9.out)
  have K9 := Lib.hid (show Kept [] w8 ((w8.alloc (.cells #[.slice none 0 0, .slice none 0 0] 25)).alloc (.cells #[.int .u8 120, .int .u8 58, .int .u8 56, .int .u8 10, .int .u8 48, .int .u8 49, .int .u8 10] 5 (7, 8))) from ((Kept.refl [] w8).alloc _).alloc _)
  have HK68 := Lib.hid (show Kept [] w6 w8 from K7.out.trans k8)
  have hcc : (convert 44 44 (.slice (some ⟨w8.heap.size + 1, 0, none⟩) 7 7)).run Tryd.prog ((w8.alloc (.cells #[.slice none 0 0, .slice none 0 0] 25)).alloc (.cells #[.int .u8 120, .int .u8 58, .int .u8 56, .int .u8 10, .int .u8 48, .int .u8 49, .int .u8 10] 5)) = .ok (.slice (some ⟨w8.heap.size + 1, 0, none⟩) 7 7) ((w8.alloc (.cells #[.slice none 0 0, .slice none 0 0] 25)).alloc (.cells #[.int .u8 120, .int .u8 58, .int .u8 56, .int .u8 10, .int .u8 48, .int .u8 49, .int .u8 10] 5 (7, 8))) := by
    have := Lib.run_convert_bytes_const (P := Tryd.prog) (w8.alloc (.cells #[.slice none 0 0, .slice none 0 0] 25)) 44 5 #[.int .u8 120, .int .u8 58, .int .u8 56, .int .u8 10, .int .u8 48, .int .u8 49, .int .u8 10] 7 7 Tryd.underlying44 Tryd.underlying5
    rw [show (w8.alloc (.cells #[.slice none 0 0, .slice none 0 0] 25)).heap.size = w8.heap.size + 1 from by simp] at this
    exact this
  clear k8 hn8 hcv
  go_wp2_with fail
  refine HG9.out.mono ?_
  intro e w10 hp
  rw [wk_form] at hp
  obtain ⟨rfl, k10⟩ := hp
  have K10 := Lib.hid (HK68.out.trans (K9.out.trans k10))
  have HOW := Lib.hid (own_keptB HO6.out (K10.out.alloc (.cells #[.slice none 0 0, .slice none 0 0] 25)) (by simp))
  have hcb : (convert 44 9 (.slice (some ⟨gv, 0, none⟩) 17 cv)).run Tryd.prog (w10.alloc (.cells #[.slice none 0 0, .slice none 0 0] 25)) = .ok (.string ⟨#[120, 58, 56, 32, 99, 58, 49, 10, 49, 102, 32, 49, 10, 48, 32, 48, 10]⟩) (w10.alloc (.cells #[.slice none 0 0, .slice none 0 0] 25)) := own_str HOW.out rfl
  clear k10
  go_wp2_with fail
  go_ret
  exact ⟨rfl, (K6.out.trans K10.out).alloc _⟩
end Go.Proofs.YtjgcfncganleoaaDoor
