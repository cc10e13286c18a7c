/-
  Package trace: Put's two closures that write an item: a word to base 16, a bus's name and width.
-/
import Derived.Test.YtjgcfncganleoaaDoorTrcI
namespace Go.Proofs.YtjgcfncganleoaaDoor
open Go.ChangeShapes Go.WideShapes Go.ChangeAt Go.RowKit
set_option linter.unusedVariables false
set_option linter.unusedSimpArgs false

variable {w w' w1 : World} {B pb : Nat} {L L' : List UInt8}
/-- behind a call that appended to the buffer's row -/
theorem BufAt.called {v' v0 : Value} {w9 : World} {n : Nat} {new : List UInt8} (h : BufAt B w pb L) (hb : w.heap[pb]? = some (.cells #[v0] 44 (0, 0))) (hB9 : Below B w w9) (hO9 : Lib.OthersKept 5 none w w9)
    (hown9 : w9.ownsRow B 5 1 v' (n + new.length) (Lib.byteCells L ++ Lib.byteCells new)) (hn : n = L.length) (hm : 0 < new.length) :
    ∃ g9 cap9, v' = .slice (some ⟨g9, 0, none⟩) (n + new.length) cap9 ∧ (BufAt B (w9.setCell ⟨pb, 0, none⟩ v') pb (L ++ new) ∧ BufK B pb w (w9.setCell ⟨pb, 0, none⟩ v')) ∧ w9.cell? ⟨pb, 0, none⟩ = some v0 ∧ w9.frozen? ⟨pb, 0, none⟩ = false := by
  have b9 := hO9 pb _ hb (by simp) (fun c fz e => by injection e with _ e2; exact absurd e2 (by decide))
  obtain ⟨g9, cap9, he, _, _⟩ := hown9.form (by omega)
  refine ⟨g9, cap9, he, h.stored hB9 hO9 (by simpa [Lib.byteCells] using hown9) (by rw [List.length_append, hn]), ?_, blk_free b9 0⟩
  rw [blk_cell b9 0]
  rfl
theorem hexD_pos (u : Nat) : 0 < (hexD u).length := by
  by_cases h : u < 16
  · rw [hexD_small h]; simp
  · rw [hexD_big h]; simp
set_option maxHeartbeats 3200000 in
set_option maxRecDepth 100000 in
theorem hex_c (rb k n c u : Nat) (ad : Addr) (w : World) (hbuf : BufAt B w pb L) (hL : L.length ≤ 2000000000000) (hr : w.cell? ⟨rb, 0, none⟩ = some (.slice (some ad) n c)) (hk : k < n) (hn : n ≤ 140737488351232) (hu : u < 18446744073709551616) (hx : w.cell? (ad.add k) = some (.int .u64 (u : Int))) (hg : w.cell? ⟨3, 15, none⟩ = some (.int .u8 4)) :
    Calls Tryd.prog 43 #[.int .i64 (k : Int), .pointer (some ⟨pb, 0, none⟩), .pointer (some ⟨rb, 0, none⟩)] w (LinePost B pb (L ++ hexD u) w) := by
  have HBU := Lib.hid hbuf
  obtain ⟨hBp, v, b1, b2⟩ := hbuf
  have c1 : w.cell? ⟨pb, 0, none⟩ = some v := by rw [blk_cell b1 0]; rfl
  have HB1 := Lib.hid b1
  have HCL := Lib.hid (fun (W : World) (hW : Kept [] w W) => app_uint16 B L.length u hu v (Lib.byteCells L) W (own_keptB b2 hW (by simp)) (Nat.le_trans HBU.out.low hW.size) (by omega) (hW.cell hg (by simp)))
  clear b1 b2 hg hBp
  go_enter Tryd.func43, Tryd.ntmps43
  go_wp2_with fail
  go_region_law (first
    | (go_simp; refine (HCL.out _ ((Kept.refl [] w).drew)).mono ?_; rintro e w9 ⟨v', rfl, hown9, hb9, ho9⟩; obtain ⟨g9, cap9, rfl, hst, c9, f9⟩ := HBU.out.called HB1.out ((show Below B w w.drew from ⟨rfl, rfl, rfl, Nat.le_refl _, fun _ _ => rfl⟩).trans hb9) ((others_of_kept ((Kept.refl [] w).drew)).trans ho9) hown9 rfl (hexD_pos u); have HST := Lib.hid hst; clear hst hown9 hb9 ho9))
  all_goals
    (try simp only [Exit.inBlock, Exit.then])
    refine bodyPost_ret (results_none rfl _ _ _) rfl ?_
    exact ⟨rfl, HST.out.1, HST.out.2⟩
end Go.Proofs.YtjgcfncganleoaaDoor
