/-
  Law 13's wakes: the document's examples.
-/
import Derived.Test.YtenhbhckhncamaaQArP
import Derived.BigQuiet
namespace Go.Proofs.Ytenhbhckhncamaa
open Go.ChangeShapes Go.WideShapes Go.ChangeAt Go.RowKit
set_option linter.unusedVariables false
set_option linter.unusedSimpArgs false

variable {w w' W V w0 : World} {mb p how q n k x y : Nat} {F F0 F' S S' : List Nat} {g g' : Gr} {a b : Option Addr} {ca cb : Nat} {la lb : List Nat}
set_option maxHeartbeats 800000 in
theorem ar_equal (a b : Option Addr) (c d n : Nat) (l : List Nat) (w : World) (hl : l.length = n) (hn : n ≤ 1000000) (ha : SlN w .u32 a l) (hb : SlN w .u32 b l) :
    Calls Try.prog 39 #[.slice a n c, .slice b n d] w fun e w' => e = .returned (.bool true) ∧ ∃ k, w' = w.drewN k := by
  have HL := Lib.hid hl
  have HA := Lib.hid ha
  have HB := Lib.hid hb
  clear hl ha hb
  go_enter Try.func39, Try.ntmps39
  go_wp2_with fail
  go_loopw [13] (fun i wr => ∃ k m : Nat, k ≤ n ∧ i = .int .i64 k ∧ wr = w.drewN m) (fun i _ => n - (intOf i).toNat)
  case atStart => exact ⟨0, 0, Nat.zero_le _, rfl, rfl⟩
  case round =>
    obtain ⟨k, m, hk, rfl, rfl⟩ := hrel
    by_cases hlt : k < n
    · have hkl : k < l.length := by rw [HL.out]; exact hlt
      obtain ⟨ad, rfl, hcx⟩ := HA.out k hkl
      obtain ⟨ad2, rfl, hcy⟩ := HB.out k hkl
      generalize l[k] = x at *
      go_wp2_with fail
      go_quiet (fail)
      go_wp2_with fail
      go_roundw
      case rel => exact ⟨k + 1, _, by omega, by go_num, rfl⟩
      case measure => simp [intOf]; omega
    · go_wp2_with fail
      go_ret
      exact ⟨rfl, m, rfl⟩
def u8T : Ty := ⟨false, false, 8⟩
def u4T : Ty := ⟨false, false, 4⟩
def i4T : Ty := ⟨false, true, 4⟩
def g4 : Gr := freshG true true 4
theorem wk_facts : isT u8T 200 = true ∧ isT u8T 100 = true ∧ tyN u8T = 8 ∧ asksB g4 u8T [constL 200 8, constL 100 8] = true ∧ twoE 4 u8T = 0 ∧ twoG 1 4 g4 (constL 200 8) (constL 100 8) 8 = (g4, constL 44 8) ∧ numR (constL 44 8) = 44 ∧ numB (constL 44 8) = true ∧
    asksB g4 u4T [[2, 4, 6, 8]] = true ∧ asksB g4 i4T [[2, 4, 6, 8]] = true ∧ shiftE u4T 1 = 0 ∧ shiftE u4T (-1) = 0 ∧ shiftE i4T (-1) = 0 ∧ shiftL u4T [2, 4, 6, 8] 1 = [0, 2, 4, 6] ∧ shiftL u4T [2, 4, 6, 8] (-1) = [4, 6, 8, 0] ∧ shiftL i4T [2, 4, 6, 8] (-1) = [4, 6, 8, 8] := by
  refine ⟨by kernel_rfl, by kernel_rfl, by kernel_rfl, by kernel_rfl, by kernel_rfl, by kernel_rfl, by kernel_rfl, by kernel_rfl, by kernel_rfl, by kernel_rfl, by kernel_rfl, by kernel_rfl, by kernel_rfl, by kernel_rfl, by kernel_rfl, by kernel_rfl⟩
theorem box33 (w : World) (x0 x1 x2 y0 y1 y2 z0 z1 z2 : Value) (T : TypeId) (S : List Nat) (V : World) (hV : Kept S (((w.alloc (.cells #[x0, x1, x2] T)).alloc (.cells #[y0, y1, y2] T)).alloc (.cells #[z0, z1, z2] T)) V) (hS : ∀ b ∈ S, b < w.heap.size) :
    (V.cell? ⟨w.heap.size, 0, none⟩ = some x0 ∧ V.cell? ⟨w.heap.size, 1, none⟩ = some x1 ∧ V.cell? ⟨w.heap.size, 2, none⟩ = some x2) ∧ (V.cell? ⟨w.heap.size + 1, 0, none⟩ = some y0 ∧ V.cell? ⟨w.heap.size + 1, 1, none⟩ = some y1 ∧ V.cell? ⟨w.heap.size + 1, 2, none⟩ = some y2) ∧ V.cell? ⟨w.heap.size + 1 + 1, 0, none⟩ = some z0 ∧ V.cell? ⟨w.heap.size + 1 + 1, 1, none⟩ = some z1 ∧ V.cell? ⟨w.heap.size + 1 + 1, 2, none⟩ = some z2 := by
  have h1 := heap_alloc_new w (.cells #[x0, x1, x2] T)
  have h2 := heap_alloc_new (w.alloc (.cells #[x0, x1, x2] T)) (.cells #[y0, y1, y2] T)
  have h3 := heap_alloc_new ((w.alloc (.cells #[x0, x1, x2] T)).alloc (.cells #[y0, y1, y2] T)) (.cells #[z0, z1, z2] T)
  rw [show (w.alloc (.cells #[x0, x1, x2] T)).heap.size = w.heap.size + 1 from by simp] at h2
  rw [show ((w.alloc (.cells #[x0, x1, x2] T)).alloc (.cells #[y0, y1, y2] T)).heap.size = w.heap.size + 1 + 1 from by simp] at h3
  have k1 : ∀ i v, (w.alloc (.cells #[x0, x1, x2] T)).cell? ⟨w.heap.size, i, none⟩ = some v → V.cell? ⟨w.heap.size, i, none⟩ = some v := fun i v hv =>
    hV.cell ((((Kept.refl [] _).alloc _).alloc _).cell hv (by simp)) (fun hx => by have := hS _ hx; simp only at this; omega)
  have k2 : ∀ i v, ((w.alloc (.cells #[x0, x1, x2] T)).alloc (.cells #[y0, y1, y2] T)).cell? ⟨w.heap.size + 1, i, none⟩ = some v → V.cell? ⟨w.heap.size + 1, i, none⟩ = some v := fun i v hv =>
    hV.cell (((Kept.refl [] _).alloc _).cell hv (by simp)) (fun hx => by have := hS _ hx; simp only at this; omega)
  have k3 : ∀ i v, (((w.alloc (.cells #[x0, x1, x2] T)).alloc (.cells #[y0, y1, y2] T)).alloc (.cells #[z0, z1, z2] T)).cell? ⟨w.heap.size + 1 + 1, i, none⟩ = some v → V.cell? ⟨w.heap.size + 1 + 1, i, none⟩ = some v := fun i v hv =>
    hV.cell hv (fun hx => by have := hS _ hx; simp only at this; omega)
  exact ⟨⟨k1 _ _ (blk_cell h1 0), k1 _ _ (blk_cell h1 1), k1 _ _ (blk_cell h1 2)⟩, ⟨k2 _ _ (blk_cell h2 0), k2 _ _ (blk_cell h2 1), k2 _ _ (blk_cell h2 2)⟩, k3 _ _ (blk_cell h3 0), k3 _ _ (blk_cell h3 1), k3 _ _ (blk_cell h3 2)⟩
theorem const_lt (x n : Nat) : ∀ y ∈ constL x n, y < 4294967296 := fun y hy => by
  unfold constL at hy
  obtain ⟨i, _, rfl⟩ := List.mem_map.1 hy
  omega
structure WkAt (w0 W5 w : World) (mb p : Nat) (F1 F : List Nat) : Prop where
  ar : ArAt w mb p 1 F g4
  st : Stepped W5 w F1 F
  s0 : Stepped w0 w [] F
theorem WkAt.kept0 {W5 : World} {F1 : List Nat} (h : WkAt w0 W5 w mb p F1 F) (hk : Kept [] w w') : WkAt w0 W5 w' mb p F1 F := ⟨h.ar.kept0 hk, h.st.keep hk, h.s0.keep hk⟩
theorem WkAt.step {W5 : World} {F1 : List Nat} (h : WkAt w0 W5 w mb p F1 F) (hg : GraphAt w' p F' g4) (hs : Stepped w w' F F') : WkAt w0 W5 w' mb p F1 F' := ⟨h.ar.step hs hg, h.st.trans hs, h.s0.trans hs⟩
/-- blocks of a graph that is new: what is written of it is new -/
theorem kept_mono {w0 w1 w2 w7 w8 : World} {F T : List Nat} (h : Kept [] w0 w2) (hk : Kept [] w2 w7) (hs : Stepped w7 w8 F T) (hf : Stepped w0 w1 [] F) : Kept [] w0 w8 :=
  kept_up (h.trans hk) hs.kept (fun b hb => (hf.fresh b hb).elim (by simp) id)
set_option maxHeartbeats 6400000 in
set_option maxRecDepth 100000 in
theorem wakes13 (w : World) : Calls Try.prog 16 #[] w (YesB true w) := by
  obtain ⟨f1, f2, f3, f4, f5, f6, f7, f8, f9, f10, f11, f12, f13, f14, f15, f16⟩ := wk_facts
  have HNEW := Lib.hid (fun V => aig_new true true V)
  have F6 := Lib.hid f6
  have F4 := Lib.hid (And.intro f4 f5)
  have F12 := Lib.hid (And.intro f1 (And.intro f2 f3))
  have F7 := Lib.hid (And.intro f7 f8)
  have F9 := Lib.hid (And.intro f9 (And.intro f10 (And.intro f11 (And.intro f12 f13))))
  have F14 := Lib.hid (And.intro f14 (And.intro f15 f16))
  clear f1 f2 f3 f4 f5 f6 f7 f8 f9 f10 f11 f12 f13 f14 f15 f16
  go_enter Try.func16, Try.ntmps16; (try simp only [List.append])
  go_wp2_with fail
  refine (HNEW.out _).mono ?_
  rintro e w1 ⟨p, F0, rfl, hg0, hs0⟩
  have G0 := Lib.hid (show GrowAt w w1 p [] F0 (freshG true true 0) from ⟨hg0, hs0⟩)
  clear hg0 hs0
  go_wp2_with fail
  go_loopw [24] (fun v wr => ∃ (k : Nat) (F1 : List Nat), k ≤ 4 ∧ v = .int .i64 k ∧ GrowAt w wr p [] F1 (freshG true true k)) (fun v _ => 4 - (intOf v).toNat)
  case atStart => exact ⟨0, F0, by omega, rfl, G0.out⟩
  case round =>
    obtain ⟨k, F1, hk, rfl, hgr⟩ := hrel
    have GR := Lib.hid hgr
    clear hgr
    by_cases hlt : k < 4
    · have HIN := Lib.hid (aig_input GR.out.gr (by rw [freshG_length]; omega))
      rw [freshG_succ] at HIN
      go_wp2_with fail
      refine HIN.out.mono ?_
      rintro e w2 ⟨F2, rfl, hg2, hs2⟩
      have G2 := Lib.hid (GR.out.step hg2 hs2)
      clear hg2 hs2
      go_wp2_with fail
      go_roundw
      case rel => exact ⟨k + 1, F2, by omega, by go_num, G2.out⟩
      case measure => simp [intOf]; omega
    · obtain rfl : k = 4 := by omega
      have HON := Lib.hid (on_c (how := 1) GR.out.gr (by rw [freshG_length]; omega) (.inl rfl))
      have KR := Lib.hid GR.out.st.kept
      go_wp2_with fail
      refine HON.out.mono ?_
      rintro e w2 ⟨mb, rfl, har, k2, hge⟩
      have AR := Lib.hid (show ArAt w2 mb p 1 F1 g4 from har)
      have K2 := Lib.hid (KR.out.trans k2)
      have KN2 := Lib.hid k2
      have HMB := Lib.hid (World.block_lt_of_cell? _ _ har.c0)
      clear har k2 hge HON
      go_upto_region 10 with (fail)
      obtain ⟨W5, hW5⟩ : ∃ v, v = (((w2.alloc (.cells #[.bool false, .bool false, .int .i64 8] 24)).alloc (.cells #[.bool false, .bool false, .int .i64 4] 24)).alloc (.cells #[.bool false, .bool true, .int .i64 4] 24)) := ⟨_, rfl⟩
      have HFL := Lib.hid (show ∀ b ∈ F1, b < w2.heap.size from AR.out.gr.lt)
      have HC := Lib.hid (fun V (hV : Kept F1 W5 V) => box33 w2 (.bool false) (.bool false) (.int .i64 8) (.bool false) (.bool false) (.int .i64 4) (.bool false) (.bool true) (.int .i64 4) 24 F1 V (by rw [← hW5]; exact hV) HFL.out)
      have KW := Lib.hid (show Kept [] w2 W5 from by rw [hW5]; exact (((Kept.refl [] w2).alloc _).alloc _).alloc _)
      rw [← hW5]
      obtain ⟨b6, hb6⟩ : ∃ v, v = w2.heap.size + 1 + 1 := ⟨_, rfl⟩
      obtain ⟨b5, hb5⟩ : ∃ v, v = w2.heap.size + 1 := ⟨_, rfl⟩
      obtain ⟨b4, hb4⟩ : ∃ v, v = w2.heap.size := ⟨_, rfl⟩
      rw [← hb6, ← hb5, ← hb4] at HC ⊢
      clear hW5 hb6 hb5 hb4
      have HK1 := Lib.hid (fun V (hV : Kept [] w2 V) => show Calls Try.prog 10 #[.pointer (some ⟨mb, 0, none⟩), .agg #[.bool false, .bool false, .int .i64 8], .int .u64 200] V (fun e w' => ∃ a c, e = .returned (.tuple #[.slice a 8 c, .int .i64 0]) ∧ Own w' 34 a 8 c (nats .u32 (constL 200 8)) ∧ Kept [] V w' ∧ ∀ b ∈ ft a, V.heap.size ≤ b) from by
        have h := const_c (AR.out.kept0 hV) (by unfold g4; rw [freshG_length]; omega) u8T 200 (by omega)
        rw [F12.out.1, F12.out.2.2] at h
        unfold ConstPost at h
        simp only [if_true] at h
        exact h)
      have HK2 := Lib.hid (fun V (hV : Kept [] w2 V) => show Calls Try.prog 10 #[.pointer (some ⟨mb, 0, none⟩), .agg #[.bool false, .bool false, .int .i64 8], .int .u64 100] V (fun e w' => ∃ a c, e = .returned (.tuple #[.slice a 8 c, .int .i64 0]) ∧ Own w' 34 a 8 c (nats .u32 (constL 100 8)) ∧ Kept [] V w' ∧ ∀ b ∈ ft a, V.heap.size ≤ b) from by
        have h := const_c (AR.out.kept0 hV) (by unfold g4; rw [freshG_length]; omega) u8T 100 (by omega)
        rw [F12.out.2.1, F12.out.2.2] at h
        unfold ConstPost at h
        simp only [if_true] at h
        exact h)
      have HTWO := Lib.hid (fun V (hV : Kept [] w2 V) (a b : Option Addr) (ca cb : Nat) (ho : Own V 34 a 8 ca (nats .u32 (constL 200 8))) (ho2 : Own V 34 b 8 cb (nats .u32 (constL 100 8))) (hc : 8 ≤ ca) => show Calls Try.prog 5 #[.pointer (some ⟨mb, 0, none⟩), .int .i64 4, .agg #[.bool false, .bool false, .int .i64 8], .slice a 8 ca, .slice b 8 cb] V (ArRow (g4, constL 44 8) 8 V p F1) from by
        have hg := (AR.out.kept0 hV).gr
        have h := ar_two (ca := ca) (cb := cb) (AR.out.kept0 hV) (.inl rfl) (by unfold g4; rw [freshG_length]; omega) 4 (fun h => by omega) u8T (constL_length 200 8) (constL_length 100 8) (by omega) (by omega) ho.sln ho2.sln (const_lt 200 8) (const_lt 100 8) (hg.apart ho (by decide) (by decide) (by decide)) (hg.apart ho2 (by decide) (by decide) (by decide)) hc
        rw [F4.out.1, F4.out.2, F6.out] at h
        exact h)
      have HSH := Lib.hid (fun V F' (hA : ArAt V mb p 1 F' g4) (t : Ty) (l : List Nat) (by' : Int) (h1 : -100 ≤ by') (h2 : by' ≤ 100) (q : Nat) (hs : SlN V .u32 (some ⟨q, 0, none⟩) [2, 4, 6, 8]) (hq : q ∉ F') (e1 : asksB g4 t [[2, 4, 6, 8]] = true) (e2 : shiftE t by' = 0) (e3 : shiftL t [2, 4, 6, 8] by' = l) => show Calls Try.prog 6 #[.pointer (some ⟨mb, 0, none⟩), tyV t, .slice (some ⟨q, 0, none⟩) 4 4, .int .i64 by'] V (ArRow (g4, l) 4 V p F') from by
        have h := ar_shift (ca := 4) (n := 4) hA (by unfold g4; rw [freshG_length]; omega) t by' (by omega) (by omega) (la := [2, 4, 6, 8]) rfl (by omega) hs (by simp) (by intro x hx; simp [ft] at hx; subst hx; exact hq)
        rw [e1, e2, e3] at h
        exact h)
      obtain ⟨⟨x0, x1, x2⟩, ⟨y0, y1, y2⟩, z0, z1, z2⟩ := HC.out _ (Kept.refl F1 W5)
      go_wp2_with fail
      refine (HK1.out _ KW.out).mono ?_
      rintro e w6 ⟨a6, c6, rfl, ho6, k6, hf6⟩
      have K6 := Lib.hid (KW.out.trans k6)
      have K56 := Lib.hid k6
      have O6 := Lib.hid ho6
      clear ho6 k6 hf6 x0 x1 x2 y0 y1 y2 z0 z1 z2
      obtain ⟨⟨x0, x1, x2⟩, ⟨y0, y1, y2⟩, z0, z1, z2⟩ := HC.out _ (K56.out.more (by simp))
      go_wp2_with fail
      refine (HK2.out _ K6.out).mono ?_
      rintro e w7 ⟨a7, c7, rfl, ho7, k7, hf7⟩
      have K7 := Lib.hid (K6.out.trans k7)
      have K57 := Lib.hid (K56.out.trans k7)
      have O67 := Lib.hid (O6.out.kept0 k7)
      have O7 := Lib.hid ho7
      clear ho7 k7 hf7 x0 x1 x2 y0 y1 y2 z0 z1 z2
      obtain ⟨⟨x0, x1, x2⟩, ⟨y0, y1, y2⟩, z0, z1, z2⟩ := HC.out _ (K57.out.more (by simp))
      go_wp2_with fail
      refine (HTWO.out _ K7.out _ _ _ _ O67.out O7.out (by
        rcases O67.out.2 with ⟨_, h0⟩ | ⟨g', cap', cur, hv, hb, hg, hle, rest⟩
        · omega
        · injection hv with _ _ hc
          subst hc
          exact hle)).mono ?_
      rintro e w8 ⟨F8, a8, c8, rfl, hg8, ho8, hs8⟩
      have B8 := Lib.hid ((show WkAt w W5 w7 mb p F1 F1 from ⟨AR.out.kept0 K7.out, (Stepped.refl W5 F1).keep K57.out, (GR.out.st.keep KN2.out).keep K7.out⟩).step hg8 (Stepped.left hs8))
      have HN := Lib.hid (lit_number a8 c8 8 (constL 44 8) w8 rfl (by omega) ho8.sln)
      rw [F7.out.1, F7.out.2] at HN
      clear hg8 ho8 hs8 x0 x1 x2 y0 y1 y2 z0 z1 z2
      go_wp2_with fail
      refine HN.out.mono ?_
      rintro e w9 ⟨rfl, rfl⟩
      go_upto_region 15 with (fail)
      obtain ⟨W9, hW9⟩ : ∃ v, v = w8.alloc (.cells #[.int .u32 2, .int .u32 4, .int .u32 6, .int .u32 8] 34) := ⟨_, rfl⟩
      have KR9 := Lib.hid (show Kept [] w8 W9 from by rw [hW9]; exact (Kept.refl [] w8).alloc _)
      have hs9 : SlN W9 .u32 (some ⟨w8.heap.size, 0, none⟩) [2, 4, 6, 8] := by rw [hW9]; exact sln_new w8 .u32 [2, 4, 6, 8] 34
      obtain ⟨q, hq⟩ : ∃ v, v = w8.heap.size := ⟨_, rfl⟩
      have R9 := Lib.hid (show RowAt W9 F8 (some ⟨q, 0, none⟩) [2, 4, 6, 8] from RowAt.of (by rw [hq]; exact hs9) (fun x hx hf => by simp [ft] at hx; have := B8.out.ar.gr.lt x hf; omega))
      have B9 := Lib.hid (B8.out.kept0 KR9.out)
      rw [← hW9, ← hq]
      clear hW9 hq hs9 KR9
      have H10 := Lib.hid (show Calls Try.prog 6 #[.pointer (some ⟨mb, 0, none⟩), .agg #[.bool false, .bool false, .int .i64 4], .slice (some ⟨q, 0, none⟩) 4 4, .int .i64 (1)] W9 (ArRow (g4, [0, 2, 4, 6]) 4 W9 p F8) from HSH.out W9 F8 B9.out.ar u4T [0, 2, 4, 6] (1) (by omega) (by omega) q R9.out.sl (R9.out.ap q (by simp [ft])) F9.out.1 F9.out.2.2.1 F14.out.1)
      obtain ⟨⟨x0, x1, x2⟩, ⟨y0, y1, y2⟩, z0, z1, z2⟩ := HC.out _ B9.out.st.kept
      go_wp2_with fail
      refine H10.out.mono ?_
      rintro e w10 ⟨F10, a10, c10, rfl, hg10, ho10, hs10⟩
      have B10 := Lib.hid (B9.out.step hg10 (Stepped.left hs10))
      have R10 := Lib.hid (R9.out.step (Stepped.left hs10) (by simp))
      have O10 := Lib.hid ho10
      clear ho10 hs10 hg10 x0 x1 x2 y0 y1 y2 z0 z1 z2
      have H11 := Lib.hid (show Calls Try.prog 6 #[.pointer (some ⟨mb, 0, none⟩), .agg #[.bool false, .bool false, .int .i64 4], .slice (some ⟨q, 0, none⟩) 4 4, .int .i64 (-1)] w10 (ArRow (g4, [4, 6, 8, 0]) 4 w10 p F10) from HSH.out w10 F10 B10.out.ar u4T [4, 6, 8, 0] (-1) (by omega) (by omega) q R10.out.sl (R10.out.ap q (by simp [ft])) F9.out.1 F9.out.2.2.2.1 F14.out.2.1)
      obtain ⟨⟨x0, x1, x2⟩, ⟨y0, y1, y2⟩, z0, z1, z2⟩ := HC.out _ B10.out.st.kept
      go_wp2_with fail
      refine H11.out.mono ?_
      rintro e w11 ⟨F11, a11, c11, rfl, hg11, ho11, hs11⟩
      have B11 := Lib.hid (B10.out.step hg11 (Stepped.left hs11))
      have R11 := Lib.hid (R10.out.step (Stepped.left hs11) (by simp))
      have O11 := Lib.hid ho11
      have O10 := Lib.hid (O10.out.kept (Stepped.left hs11).kept (B10.out.ar.gr.apart O10.out (by decide) (by decide) (by decide)))
      clear ho11 hs11 hg11 x0 x1 x2 y0 y1 y2 z0 z1 z2
      have H12 := Lib.hid (show Calls Try.prog 6 #[.pointer (some ⟨mb, 0, none⟩), .agg #[.bool false, .bool true, .int .i64 4], .slice (some ⟨q, 0, none⟩) 4 4, .int .i64 (-1)] w11 (ArRow (g4, [4, 6, 8, 8]) 4 w11 p F11) from HSH.out w11 F11 B11.out.ar i4T [4, 6, 8, 8] (-1) (by omega) (by omega) q R11.out.sl (R11.out.ap q (by simp [ft])) F9.out.2.1 F9.out.2.2.2.2 F14.out.2.2)
      obtain ⟨⟨x0, x1, x2⟩, ⟨y0, y1, y2⟩, z0, z1, z2⟩ := HC.out _ B11.out.st.kept
      go_wp2_with fail
      refine H12.out.mono ?_
      rintro e w12 ⟨F12, a12, c12, rfl, hg12, ho12, hs12⟩
      have B12 := Lib.hid (B11.out.step hg12 (Stepped.left hs12))
      have R12 := Lib.hid (R11.out.step (Stepped.left hs12) (by simp))
      have O12 := Lib.hid ho12
      have O10 := Lib.hid (O10.out.kept (Stepped.left hs12).kept (B11.out.ar.gr.apart O10.out (by decide) (by decide) (by decide)))
      have O11 := Lib.hid (O11.out.kept (Stepped.left hs12).kept (B11.out.ar.gr.apart O11.out (by decide) (by decide) (by decide)))
      clear ho12 hs12 hg12 x0 x1 x2 y0 y1 y2 z0 z1 z2
      have K12 := Lib.hid B12.out.s0.kept
      have HEQ := Lib.hid (fun (V : World) (hV : Kept [] w12 V) (a : Option Addr) (c q : Nat) (l : List Nat) (hl : l.length = 4) (ho : Own w12 34 a 4 c (nats .u32 l)) (hs : SlN V .u32 (some ⟨q, 0, none⟩) l) => show Calls Try.prog 39 #[.slice a 4 c, .slice (some ⟨q, 0, none⟩) 4 4] V (fun e w' => e = .returned (.bool true) ∧ Kept [] V w') from (ar_equal a (some ⟨q, 0, none⟩) c 4 4 l V hl (by omega) (ho.sln.kept0 hV) hs).mono fun e V' h => ⟨h.1, by obtain ⟨_, j, rfl⟩ := h; exact (Kept.refl _ _).drewN j⟩)
      go_wp2_with fail
      refine (HEQ.out _ ((Kept.refl [] w12).alloc _) _ _ _ [0, 2, 4, 6] rfl O10.out (sln_new w12 .u32 [0, 2, 4, 6] 34)).mono ?_
      rintro e w13 ⟨rfl, k13⟩
      have K13 := Lib.hid (((Kept.refl [] w12).alloc (.cells #[.int .u32 0, .int .u32 2, .int .u32 4, .int .u32 6] 34)).trans k13)
      clear k13
      go_wp2_with fail
      refine (HEQ.out _ (K13.out.alloc _) _ _ _ [4, 6, 8, 0] rfl O11.out (sln_new w13 .u32 [4, 6, 8, 0] 34)).mono ?_
      rintro e w14 ⟨rfl, k14⟩
      have K14 := Lib.hid ((K13.out.alloc (.cells #[.int .u32 4, .int .u32 6, .int .u32 8, .int .u32 0] 34)).trans k14)
      clear k14
      go_wp2_with fail
      refine (HEQ.out _ (K14.out.alloc _) _ _ _ [4, 6, 8, 8] rfl O12.out (sln_new w14 .u32 [4, 6, 8, 8] 34)).mono ?_
      rintro e w15 ⟨rfl, k15⟩
      have K15 := Lib.hid ((K14.out.alloc (.cells #[.int .u32 4, .int .u32 6, .int .u32 8, .int .u32 8] 34)).trans k15)
      clear k15
      go_wp2_with fail
      go_ret
      exact ⟨rfl, K12.out.trans K15.out⟩
end Go.Proofs.Ytenhbhckhncamaa
