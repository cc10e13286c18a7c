/-
  Law 09: of: a table as the document's own has it.
-/
import Derived.Test.YtjgcfncganleoaaDoorRtD
import Derived.Test.YtjgcfncganleoaaDoorTrcC
namespace Go.Proofs.YtjgcfncganleoaaDoor
open Go.ChangeShapes Go.WideShapes Go.ChangeAt Go.RowKit
open Go.Maps (Keyed)
open Go.WideMaps
set_option linter.unusedVariables false
set_option linter.unusedSimpArgs false

variable {w w' : World} {S : List Nat}
theorem rbus_info : (Tryd.prog.info? 85).map (fun i => (i.zero, i.size, i.bytes)) = some (some (.agg #[.string ByteArray.empty, .int .i64 0]), 2, 24) := by kernel_rfl
def OfPost (ra : Option Addr) (rn rc : Nat) (t : Tb) (w : World) (e : Ending) (w' : World) : Prop :=
  ∃ xa xc, e = .returned (.agg #[.slice xa t.bs.length xc, .slice ra rn rc]) ∧ Own2 w' 85 xa t.bs.length xc (busCells t.bs) ∧ Kept [] w w' ∧ ∀ b ∈ ft xa, w.heap.size ≤ b
theorem of_tab {ba ra xa : Option Addr} {bn bc rn rc xc : Nat} {t : Tb} {wl : List WR} (h : TabV w ba bn bc ra rn rc t wl) (ho : Own2 w 85 xa bn xc (busCells t.bs)) : TabV w xa bn xc ra rn rc t wl :=
  ⟨h.bl, h.rl, h.rm, own2_bus ho, h.rs, owns_cap ho, h.rk, h.wk⟩
set_option maxHeartbeats 3200000 in
set_option maxRecDepth 100000 in
theorem of_c {ba ra : Option Addr} {bn bc rn rc : Nat} {t : Tb} {wl : List WR} (h : TabV w ba bn bc ra rn rc t wl) (hok : t.ok) (hb5 : bn ≤ 1000000) :
    Calls Tryd.prog 15 #[.agg #[.slice ba bn bc, .slice ra rn rc]] w (OfPost ra rn rc t w) := by
  have HT := Lib.hid h
  have HOK := Lib.hid hok
  have HBL := Lib.hid h.bl
  clear h hok
  go_enter Tryd.func15, Tryd.ntmps15; (try simp only [List.append])
  go_upto_region 2 with (fail)
  obtain ⟨p1, hp1⟩ : ∃ q, q = w.heap.size := ⟨_, rfl⟩
  obtain ⟨p2, hp2⟩ : ∃ q, q = w.heap.size + 1 := ⟨_, rfl⟩
  obtain ⟨p3, hp3⟩ : ∃ q, q = w.heap.size + 1 + 1 := ⟨_, rfl⟩
  obtain ⟨w3, hw3⟩ : ∃ W, W = ((w.alloc (.cells #[.slice ba bn bc, .slice ra rn rc] 25)).alloc (.cells #[.slice none 0 0, .slice none 0 0] 42)).alloc (.cells #[.slice none 0 0, .slice ra rn rc] 42) := ⟨_, rfl⟩
  have HZ := Lib.hid (show w3.heap.size = p3 + 1 ∧ p1 = w.heap.size ∧ p2 = w.heap.size + 1 ∧ p3 = w.heap.size + 2 from by rw [hw3]; simp; omega)
  have K3 := Lib.hid (show Kept [] w w3 from by rw [hw3]; exact (((Kept.refl [] w).alloc _).alloc _).alloc _)
  have HP1 := Lib.hid (show w3.cell? ⟨p1, 0, none⟩ = some (.slice ba bn bc) from by
    rw [hw3, hp1]
    exact cell_alloc (cell_alloc (blk_cell (heap_alloc_new w _) 0) _) _)
  have HP2 := Lib.hid (show w3.heap[p2]? = some (.cells #[.slice none 0 0, .slice none 0 0] 42 (0, 0)) from by
    rw [hw3, hp2]
    have h := heap_alloc_new (w.alloc (.cells #[.slice ba bn bc, .slice ra rn rc] 25)) (.cells #[.slice none 0 0, .slice none 0 0] 42)
    have hs : (w.alloc (.cells #[.slice ba bn bc, .slice ra rn rc] 25)).heap.size = w.heap.size + 1 := by simp
    rw [hs] at h
    rw [Below.heap_alloc _ _ _ (by simp)]
    exact h)
  have HP3 := Lib.hid (show w3.heap[p3]? = some (.cells #[.slice none 0 0, .slice ra rn rc] 42 (0, 0)) from by
    rw [hw3, hp3]
    have h := heap_alloc_new ((w.alloc (.cells #[.slice ba bn bc, .slice ra rn rc] 25)).alloc (.cells #[.slice none 0 0, .slice none 0 0] 42)) (.cells #[.slice none 0 0, .slice ra rn rc] 42)
    have hs : ((w.alloc (.cells #[.slice ba bn bc, .slice ra rn rc] 25)).alloc (.cells #[.slice none 0 0, .slice none 0 0] 42)).heap.size = w.heap.size + 1 + 1 := by simp
    rw [hs] at h
    exact h)
  try rw [← hp3]
  try rw [← hp2]
  try rw [← hp1]
  try rw [← hw3]
  clear hp1 hp2 hp3 hw3
  have c1 := HP1.out
  go_wp2_with fail
  clear c1
  go_loopw [12] (fun i wr => ∃ (k : Nat) (a : Option Addr) (c : Nat), k ≤ bn ∧ i = .int .i64 k ∧ wr.heap[p3]? = some (.cells #[.slice a k c, .slice ra rn rc] 42 (0, 0)) ∧ Own2 wr 85 a k c (busCells (t.bs.take k)) ∧ Kept [p3] w3 wr ∧ ∀ b ∈ ft a, w3.heap.size ≤ b) (fun i _ => bn - (intOf i).toNat)
  case atStart => exact ⟨0, none, 0, Nat.zero_le _, rfl, HP3.out, World.ownsRow_nil _ _ _ _, .refl _ _, by simp [ft]⟩
  case round =>
    obtain ⟨k, a, c, hk, rfl, hb3, hown, hkr, hfr⟩ := hrel
    have HB3 := Lib.hid hb3
    have HO := Lib.hid hown
    have KR := Lib.hid hkr
    have HFR := Lib.hid hfr
    have KW := Lib.hid (show Kept [] w wr from kept_up K3.out hkr (fun b hb => by rw [List.mem_singleton.1 hb]; have := HZ.out; omega))
    clear hb3 hown hkr hfr
    by_cases hlt : k < bn
    · have hkl : k < t.bs.length := by rw [HBL.out]; exact hlt
      obtain ⟨gb, go_, rfl, x0, x1⟩ := (HT.out.bs.kept0 KW.out) k hkl
      have HTK := Lib.hid (show t.bs.take (k + 1) = t.bs.take k ++ [t.bs[k]] from take_snoc _ _ hkl)
      generalize t.bs[k] = b at *
      obtain ⟨nm, x⟩ := b
      simp only at x0 x1
      obtain ⟨w5, hw5⟩ : ∃ W, W = wr.alloc (.cells #[.string nm, .int .i64 x] 35) := ⟨_, rfl⟩
      have K5 := Lib.hid (show Kept [] wr w5 from by rw [hw5]; exact (Kept.refl [] wr).alloc _)
      obtain ⟨pb, hpb⟩ : ∃ q, q = wr.heap.size := ⟨_, rfl⟩
      have E5 := Lib.hid (show w5.cell? ⟨pb, 0, none⟩ = some (.string nm) ∧ w5.cell? ⟨pb, 1, none⟩ = some (.int .i64 x) from by
        rw [hw5, hpb]
        exact ⟨blk_cell (heap_alloc_new wr _) 0, blk_cell (heap_alloc_new wr _) 1⟩)
      go_upto_region 5 with (fail)
      try rw [← hpb]
      try rw [← hw5]
      clear hpb hw5 x0 x1
      have b3 := K5.out.heap HB3.out (by simp)
      have c3 : w5.cell? ⟨p3, 0, none⟩ = some (.slice a k c) := blk_cell b3 0
      have e0 := E5.out.1
      have e1 := E5.out.2
      have HPA := Lib.hid (show p3 ∉ ft a from fun hx => by have h1 := HFR.out _ hx; have := HZ.out; omega)
      have HO5 := Lib.hid (show w5.ownsRow 0 85 2 (.slice a k c) k (busCells (t.bs.take k)) from HO.out.kept K5.out (by simp))
      have B3 := Lib.hid b3
      clear b3
      go_wp2_with (at_builtin; refine wpList_push2 (w := w5) (news := [.string nm, .int .i64 x]) rfl rfl Tryd.underlying40 rbus_info rfl (by omega) rfl rfl rfl HO5.out rfl (by simp [Value.oneCell']) (by unfold maxLen; omega) (by omega) rfl ?_; intro a6 c6 w6 hown6 hst6; have b6 := hst6.kept.heap B3.out HPA.out; have c6' := blk_cell b6 0; have f6 := blk_free b6 0; have B6 := Lib.hid b6; have HOW6 := Lib.hid hown6; have HST6 := Lib.hid hst6; clear b6 hown6 hst6)
      go_roundw
      case rel =>
        have b9 := blk_set B6.out 0 (.slice a6 (k + 1) c6)
        have hpa6 : p3 ∉ ft a6 := blk_apart B6.out HOW6.out (by decide)
        have ho9 := own_kept HOW6.out ((Kept.refl [p3] w6).setCell (p := ⟨p3, 0, none⟩) (.inl (by simp)) (.slice a6 (k + 1) c6)) (fun b hb h => hpa6 (by simp at h; exact h ▸ hb))
        rw [busCells_snoc _ (nm, x), ← HTK.out] at ho9
        refine ⟨k + 1, a6, c6, by omega, by go_num, by simpa using b9, ho9, ?_, fun b hb => (HST6.out.fresh b hb).elim (HFR.out b) (fun h => by have h1 := KR.out.size; have h2 := K5.out.size; omega)⟩
        exact (kept_upS (KR.out.trans (K5.out.more (by simp))) HST6.out.kept HFR.out).setCell (.inl (by simp)) _
      case measure => simp [intOf]; omega
    · obtain rfl : k = bn := by omega
      have c3 := blk_cell HB3.out 0
      have c3' := blk_cell HB3.out 1
      have hne : p2 ∉ [p3] := by have := HZ.out; simp; omega
      have b2 := KR.out.heap HP2.out hne
      have c2 := blk_cell b2 0
      have c2' := blk_cell b2 1
      have f2 := blk_free b2 0
      have f2' := blk_free b2 1
      have HTA := Lib.hid (show t.bs.take k = t.bs from List.take_of_length_le (by rw [HBL.out]; exact Nat.le_refl _))
      have B2 := Lib.hid b2
      clear b2 hne
      go_wp2_with fail
      have a1 := blk_set B2.out 0 (.slice a k c)
      have a2 := blk_set (by simpa using a1) 1 (.slice ra rn rc)
      have HK2 := Lib.hid (show Kept [p2] wr ((wr.setCell ⟨p2, 0, none⟩ (.slice a k c)).setCell ⟨p2, 1, none⟩ (.slice ra rn rc)) from ((Kept.refl [p2] wr).setCell (p := ⟨p2, 0, none⟩) (.inl (by simp)) _).setCell (p := ⟨p2, 1, none⟩) (.inl (by simp)) _)
      generalize (wr.setCell ⟨p2, 0, none⟩ (.slice a k c)).setCell ⟨p2, 1, none⟩ (.slice ra rn rc) = wE at *
      have g0 : wE.cell? ⟨p2, 0, none⟩ = some (.slice a k c) := by rw [blk_cell a2 0]; rfl
      have g1 : wE.cell? ⟨p2, 1, none⟩ = some (.slice ra rn rc) := by rw [blk_cell a2 1]; rfl
      have HE := Lib.hid (And.intro HO.out HFR.out)
      refine bodyPost_ret (v := .agg #[.slice a k c, .slice ra rn rc]) (by simp [results, Tryd.results15, go_sem, g0, g1]) rfl ?_
      have ho := HE.out.1
      rw [HTA.out] at ho
      have hz := HZ.out
      have hbl := HBL.out
      unfold OfPost
      rw [hbl]
      refine ⟨a, c, rfl, own_kept ho HK2.out (fun b hb hx => by rw [List.mem_singleton] at hx; have := HE.out.2 b hb; omega), kept_up KW.out HK2.out (fun b hb => by rw [List.mem_singleton] at hb; omega), fun b hb => by have := HE.out.2 b hb; omega⟩
end Go.Proofs.YtjgcfncganleoaaDoor
