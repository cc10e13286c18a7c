/-
  The document's stuck registers.
-/
import Derived.Test.YtdmcdhkkbkgnbaaGreatQRSwE
import Derived.Test.YtdmcdhkkbkgnbaaGreatP14
namespace Go.Proofs.YtdmcdhkkbkgnbaaGreat
open Go.ChangeShapes Go.WideShapes Go.ChangeAt Go.RowKit
open Go.Maps (Keyed)
open Go.WideMaps
set_option linter.unusedVariables false
set_option linter.unusedSimpArgs false

variable {w w' W : World} {p n k : Nat} {F R S : List Nat} {g : Gr} {N : Nt}
set_option maxRecDepth 100000 in
theorem rfirst_c (r : Rg) (w : World) : Calls Tryz.prog 44 #[rgV r] w (LitIs (firstR r) w) := by
  unfold rgV firstR
  obtain ⟨q, d, en, init⟩ := r
  simp only
  cases init
  · go_enter Tryz.func44, Tryz.ntmps44
    go_wp2_with fail
    go_ret
    exact ⟨rfl, (Kept.refl [] w).alloc _⟩
  · go_enter Tryz.func44, Tryz.ntmps44
    go_wp2_with fail
    go_ret
    exact ⟨rfl, (Kept.refl [] w).alloc _⟩
set_option maxHeartbeats 1600000 in
set_option maxRecDepth 100000 in
theorem rstuck_c (r : Rg) (w : World) : Calls Tryz.prog 17 #[rgV r] w (BoolIs (stuckR r) w) := by
  have HF := Lib.hid (fun V => rfirst_c r V)
  have HS := Lib.hid (show stuckR r = (decide (r.en = 0) || decide (r.d = r.q) || decide (r.d = firstR r)) from rfl)
  unfold rgV at HF ⊢
  obtain ⟨fr, hfr⟩ : ∃ x, x = firstR r := ⟨_, rfl⟩
  rw [← hfr] at HF HS
  rw [HS.out]
  clear hfr HS
  obtain ⟨q, d, en, init⟩ := r
  simp only at HF ⊢
  by_cases h1 : en = 0
  · subst h1
    go_enter Tryz.func17, Tryz.ntmps17
    go_wp2_with fail
    go_quiet (fail)
    go_wp2_with fail
    go_ret
    exact ⟨by simp, ((Kept.refl [] w).alloc _).drewN _⟩
  · by_cases h2 : d = q
    · subst h2
      have e1 : ((en : Int) == 0) = false := by simp; omega
      go_enter Tryz.func17, Tryz.ntmps17
      go_wp2_with fail
      go_quiet (fail)
      go_wp2_with fail
      go_ret
      exact ⟨by simp, ((Kept.refl [] w).alloc _).drewN _⟩
    · have e1 : ((en : Int) == 0) = false := by simp; omega
      have e2 : ((d : Int) == (q : Int)) = false := by simp; omega
      obtain ⟨V, hV⟩ : ∃ V, V = w.alloc (.cells #[.int .u32 (q : Int), .int .u32 (d : Int), .int .u32 (en : Int), .bool init] 48) := ⟨_, rfl⟩
      obtain ⟨b, hb⟩ : ∃ b, b = w.heap.size := ⟨_, rfl⟩
      have KV := Lib.hid (show Kept [] w V from by rw [hV]; exact (Kept.refl [] w).alloc _)
      have hbl : V.heap[b]? = some (.cells #[.int .u32 (q : Int), .int .u32 (d : Int), .int .u32 (en : Int), .bool init] 48 (0, 0)) := by rw [hV, hb]; exact heap_alloc_new w _
      have d0 : V.cell? ⟨b, 0, none⟩ = some (.int .u32 (q : Int)) := blk_cell hbl 0
      have d1 : V.cell? ⟨b, 1, none⟩ = some (.int .u32 (d : Int)) := blk_cell hbl 1
      have d2 : V.cell? ⟨b, 2, none⟩ = some (.int .u32 (en : Int)) := blk_cell hbl 2
      have d3 : V.cell? ⟨b, 3, none⟩ = some (.bool init) := blk_cell hbl 3
      clear hbl
      go_enter Tryz.func17, Tryz.ntmps17
      go_wp2_with fail
      rw [← hV, ← hb]
      clear hV hb
      go_region_held3 (fun w' => w'.cell? ⟨b, 0, none⟩ = some (.int .u32 (q : Int)) ∧ w'.cell? ⟨b, 1, none⟩ = some (.int .u32 (d : Int)) ∧ w'.cell? ⟨b, 2, none⟩ = some (.int .u32 (en : Int)) ∧ w'.cell? ⟨b, 3, none⟩ = some (.bool init))
        (first | exact keep_4 (w := V) (by (repeat (first | with_reducible exact Kept.refl _ _ | with_reducible apply Kept.drew | with_reducible apply Kept.drewN | with_reducible apply Kept.alloc | refine Kept.trans ?_ k2))) d0 d1 d2 d3 | go_keep)
        (first | (go_at_call 44; (with_reducible refine (HF.out _).mono ?_); rintro e u2 ⟨rfl, k2⟩))
      all_goals
        have KZ := Lib.hid (show Kept [] V u2 from by (repeat (first | with_reducible exact Kept.refl _ _ | with_reducible apply Kept.drew | with_reducible apply Kept.drewN | with_reducible apply Kept.alloc | refine Kept.trans ?_ k2)))
        clear k2 d0 d1 d2 d3
        go_wp2_with fail
        go_ret
        refine ⟨?_, KV.out.trans KZ.out⟩
        have e3 : ((d : Int) == (fr : Int)) = decide (d = fr) := by rw [Bool.eq_iff_iff]; simp; omega
        simp [h1, h2, e3]
end Go.Proofs.YtdmcdhkkbkgnbaaGreat
