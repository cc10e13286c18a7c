/-
  ArithKnown: the walk.
-/
import Derived.Test.YtenhbhckhncamaaQArQ
import Derived.Deep.RegionHeld3
import Derived.BigRegion
import Derived.Deep.DeepCutAuto
namespace Go.Proofs.Ytenhbhckhncamaa
open Go.ChangeShapes Go.WideShapes Go.ChangeAt Go.RowKit
set_option linter.unusedVariables false
set_option linter.unusedSimpArgs false

variable {w w' W V w0 : World} {mb p how q n k x y : Nat} {F F0 F' S S' : List Nat} {g g' : Gr} {a b : Option Addr} {ca cb : Nat} {la lb : List Nat}
theorem kn_none (w : World) : Calls Try.prog 37 #[.pointer none] w fun e w' => e = .returned (.bool true) ∧ w = w' := by
  go_enter Try.func37, Try.ntmps37
  go_wp2_with fail
  go_ret
  exact ⟨rfl, rfl⟩
theorem kn_nodes (w : World) : Calls Try.prog 36 #[.pointer none] w fun e w' => e = .returned (.int .i64 0) ∧ w = w' := by
  go_enter Try.func36, Try.ntmps36
  go_wp2_with fail
  refine (kn_none _).mono ?_
  rintro e w' ⟨rfl, rfl⟩
  go_wp2_with fail
  go_ret
  exact ⟨rfl, rfl⟩
set_option maxRecDepth 100000 in
theorem kn_empty (w : World) (h : w.cell? ⟨q, 4, none⟩ = some (.map none)) : Calls Try.prog 36 #[.pointer (some ⟨q, 0, none⟩)] w fun e w' => e = .returned (.int .i64 0) ∧ w = w' := by
  have HN := Lib.hid (show Calls Try.prog 37 #[.pointer (some ⟨q, 0, none⟩)] w fun e w' => e = .returned (.bool true) ∧ w = w' from by
    have q := fun (w : World) (r : Option Nat) => run_eql_map_nil (P := Try.prog) w 46 97 34 r Try.underlying46
    go_enter Try.func37, Try.ntmps37
    go_wp2_with fail
    go_ret
    exact ⟨rfl, rfl⟩)
  go_enter Try.func36, Try.ntmps36
  go_wp2_with fail
  refine HN.out.mono ?_
  rintro e w' ⟨rfl, rfl⟩
  go_wp2_with fail
  go_ret
  exact ⟨rfl, rfl⟩
theorem zget (m i : Nat) (h : i < (zerosL m).length) : (zerosL m)[i] = 0 := by simp [zerosL]
def g00 : Gr := freshG false false 0
def bT : Ty := ⟨true, false, 1⟩
def zT : Ty := ⟨false, false, 0⟩
theorem kn_facts : asksB g00 u8T [zerosL 7] = false ∧ twoE 7 u8T = 0 ∧ asksB g00 zT [[], []] = false ∧ shiftE u8T 64 = 1 ∧ convE u8T bT = 1 ∧ asksB g00 ⟨false, false, ((0 : Nat) : Int)⟩ [[], []] = false ∧ asksB g00 ⟨false, false, ((8 : Nat) : Int)⟩ [zerosL 8, zerosL 8] = true ∧ asksB g00 ⟨false, false, 1⟩ [[2]] = false ∧ isT u8T 256 = false ∧ allE 1 u8T = 0 ∧ allN 1 u8T = 255 ∧ tyN u8T = 8 ∧ allE 5 u8T = 1 ∧ numR (constL 255 8) = 255 ∧ numB (constL 255 8) = true ∧ gatesN g00 = 0 := by
  refine ⟨by kernel_rfl, by kernel_rfl, by kernel_rfl, by kernel_rfl, by kernel_rfl, by kernel_rfl, by kernel_rfl, by kernel_rfl, by kernel_rfl, by kernel_rfl, by kernel_rfl, by kernel_rfl, by kernel_rfl, by kernel_rfl, by kernel_rfl, by kernel_rfl⟩
def KnBad (n : Int) (w : World) (e : Ending) (w' : World) : Prop := e = .returned (.tuple #[.slice none 0 0, .int .i64 n]) ∧ Kept [] w w'
set_option maxHeartbeats 64000000 in
set_option maxRecDepth 100000 in
theorem arith_known (w : World) : Calls Try.prog 3 #[] w (YesB true w) := by
  obtain ⟨f1, f2, f3, f4, f5, f6, f7, f8, f9, f10, f11, f12, f13, f14, f15, f16⟩ := kn_facts
  have F1 := Lib.hid f1
  have F2 := Lib.hid f2
  have F3 := Lib.hid f3
  have F4 := Lib.hid f4
  have F5 := Lib.hid f5
  have F6 := Lib.hid f6
  have F7 := Lib.hid f7
  have F8 := Lib.hid f8
  have F9 := Lib.hid f9
  have F10 := Lib.hid f10
  have F11 := Lib.hid f11
  have F12 := Lib.hid f12
  have F13 := Lib.hid f13
  have F14 := Lib.hid f14
  have F15 := Lib.hid f15
  have F16 := Lib.hid f16
  clear f1 f2 f3 f4 f5 f6 f7 f8 f9 f10 f11 f12 f13 f14 f15 f16
  have N1 := Lib.hid (fun V => show Calls Try.prog 4 #[.pointer none, .int .i64 1, .agg #[.bool false, .bool false, .int .i64 8], .slice none 0 0] V (KnBad 2 V) from none_one 1 u8T V)
  have N2 := Lib.hid (fun V => show Calls Try.prog 5 #[.pointer none, .int .i64 1, .agg #[.bool false, .bool false, .int .i64 8], .slice none 0 0, .slice none 0 0] V (KnBad 2 V) from none_two 1 u8T V)
  have N3 := Lib.hid (fun V => show Calls Try.prog 6 #[.pointer none, .agg #[.bool false, .bool false, .int .i64 8], .slice none 0 0, .int .i64 0] V (KnBad 2 V) from none_shift u8T 0 (by omega) (by omega) V)
  have N4 := Lib.hid (fun V => show Calls Try.prog 7 #[.pointer none, .agg #[.bool false, .bool false, .int .i64 8], .agg #[.bool false, .bool false, .int .i64 8], .slice none 0 0] V (KnBad 2 V) from none_conv u8T u8T V)
  have N5 := Lib.hid (fun V => show Calls Try.prog 8 #[.pointer none, .int .u32 0, .slice none 0 0, .slice none 0 0] V (KnBad 2 V) from none_choose 0 none 0 0 V)
  have N6 := Lib.hid (fun V => show Calls Try.prog 9 #[.pointer none, .int .i64 1, .agg #[.bool false, .bool false, .int .i64 8], .slice none 0 0] V (KnBad 2 V) from none_all 1 u8T V)
  have N7 := Lib.hid (fun V => show Calls Try.prog 10 #[.pointer none, .agg #[.bool false, .bool false, .int .i64 8], .int .u64 0] V (KnBad 2 V) from none_const u8T 0 V)
  have N8 := Lib.hid (fun V => show Calls Try.prog 11 #[.pointer none, .int .i64 1] V (fun e w' => e = .returned (.tuple #[.pointer none, .int .i64 2]) ∧ Kept [] V w') from on_none _ 1 (kn_nodes V))
  have HNEW := Lib.hid (fun V => aig_new false false V)
  have HBX := Lib.hid (fun V hV => box3 w (.bool false) (.bool false) (.int .i64 8) 24 V hV)
  have KA := Lib.hid (show Kept [] w (w.alloc (.cells #[.bool false, .bool false, .int .i64 8] 24)) from (Kept.refl [] w).alloc _)
  unfold KnBad at N1 N2 N3 N4 N5 N6 N7
  go_enter Try.func3, Try.ntmps3; (try simp only [List.append])
  go_wp2_with fail
  have B0 := Lib.hid (Kept.refl [] (w.alloc (.cells #[.bool false, .bool false, .int .i64 8] 24)))
  have c0 := (HBX.out _ B0.out).1
  have c1 := (HBX.out _ B0.out).2.1
  have c2 := (HBX.out _ B0.out).2.2
  refine (N1.out _).mono ?_
  rintro e w1 ⟨rfl, k1⟩
  have B1 := Lib.hid (B0.out.trans k1)
  clear k1 c0 c1 c2
  obtain ⟨c0, c1, c2⟩ := HBX.out _ B1.out
  go_wp2_with fail
  refine (N2.out _).mono ?_
  rintro e w2 ⟨rfl, k2⟩
  have B2 := Lib.hid (B1.out.trans k2)
  clear k2 c0 c1 c2
  obtain ⟨c0, c1, c2⟩ := HBX.out _ B2.out
  go_wp2_with fail
  refine (N3.out _).mono ?_
  rintro e w3 ⟨rfl, k3⟩
  have B3 := Lib.hid (B2.out.trans k3)
  clear k3 c0 c1 c2
  obtain ⟨c0, c1, c2⟩ := HBX.out _ B3.out
  go_wp2_with fail
  refine (N4.out _).mono ?_
  rintro e w4 ⟨rfl, k4⟩
  have B4 := Lib.hid (B3.out.trans k4)
  clear k4 c0 c1 c2
  obtain ⟨c0, c1, c2⟩ := HBX.out _ B4.out
  go_wp2_with fail
  refine (N5.out _).mono ?_
  rintro e w5 ⟨rfl, k5⟩
  have B5 := Lib.hid (B4.out.trans k5)
  clear k5 c0 c1 c2
  obtain ⟨c0, c1, c2⟩ := HBX.out _ B5.out
  go_wp2_with fail
  refine (N6.out _).mono ?_
  rintro e w6 ⟨rfl, k6⟩
  have B6 := Lib.hid (B5.out.trans k6)
  clear k6 c0 c1 c2
  obtain ⟨c0, c1, c2⟩ := HBX.out _ B6.out
  go_wp2_with fail
  refine (N7.out _).mono ?_
  rintro e w7 ⟨rfl, k7⟩
  have B7 := Lib.hid (B6.out.trans k7)
  clear k7 c0 c1 c2
  obtain ⟨c0, c1, c2⟩ := HBX.out _ B7.out
  go_wp2_with fail
  refine (N8.out _).mono ?_
  rintro e w8 ⟨rfl, k8⟩
  have B8 := Lib.hid (B7.out.trans k8)
  clear k8 c0 c1 c2
  obtain ⟨c0, c1, c2⟩ := HBX.out _ B8.out
  go_wp2_with fail
  refine (HNEW.out _).mono ?_
  rintro e w9 ⟨p1, G1, rfl, hg1, hs1⟩
  have B9 := Lib.hid (B8.out.trans hs1.kept)
  have OA := Lib.hid (on_arg hg1 (by show [(0, 0)].length ≤ _; simp) 0 (by omega) (by omega))
  unfold OnBad at OA
  clear hg1 hs1 c0 c1 c2
  obtain ⟨c0, c1, c2⟩ := HBX.out _ B9.out
  go_wp2_with fail
  refine (OA.out).mono ?_
  rintro e w10 ⟨rfl, k10⟩
  have B10 := Lib.hid (B9.out.trans k10)
  clear k10 c0 c1 c2
  obtain ⟨c0, c1, c2⟩ := HBX.out _ B10.out
  go_wp2_with fail
  have OB := Lib.hid (on_none (w := w10.alloc (.cells #[.bool false, .bool false, .slice none 0 0, .slice none 0 0, .map none] 48)) (.pointer (some ⟨w10.heap.size, 0, none⟩)) 2 (kn_empty _ (blk_cell (heap_alloc_new w10 (.cells #[.bool false, .bool false, .slice none 0 0, .slice none 0 0, .map none] 48)) 4)))
  unfold OnBad at OB
  refine OB.out.mono ?_
  rintro e w11 ⟨rfl, k11⟩
  have B11 := Lib.hid (B10.out.trans (((Kept.refl [] w10).alloc (.cells #[.bool false, .bool false, .slice none 0 0, .slice none 0 0, .map none] 48)).trans k11))
  clear k11 c0 c1 c2
  obtain ⟨c0, c1, c2⟩ := HBX.out _ B11.out
  go_wp2_with fail
  refine (how_nil _).mono ?_
  rintro e w' ⟨rfl, rfl⟩
  go_wp2_with fail
  refine (HNEW.out _).mono ?_
  rintro e w12 ⟨p, F, rfl, hg, hs⟩
  have B12 := Lib.hid (B11.out.trans hs.kept)
  have ON := Lib.hid (on_c (how := 2) hg (by show [(0, 0)].length ≤ _; simp) (.inr rfl))
  clear hg hs c0 c1 c2
  obtain ⟨c0, c1, c2⟩ := HBX.out _ B12.out
  go_wp2_with fail
  refine ON.out.mono ?_
  rintro e w13 ⟨mb, rfl, har, k13, hge⟩
  have B13 := Lib.hid (B12.out.trans k13)
  have AR0 := Lib.hid (show ArAt w13 mb p 2 F g00 from har)
  clear har k13 hge c0 c1 c2
  obtain ⟨c0, c1, c2⟩ := HBX.out _ B13.out
  go_wp2_with (at_make; refine wpList_mk (n := 8) rfl rfl Try.underlying25 lit_info rfl rfl rfl (by omega) (by unfold maxLen; omega) ?_; intro w90 hown90 hst90)
  obtain ⟨gb, hgb⟩ : ∃ gb, gb = w13.heap.size := ⟨_, rfl⟩
  rw [← hgb] at hown90 hst90 ⊢
  have B90 := Lib.hid (B13.out.trans hst90.kept)
  have AR := Lib.hid (AR0.out.kept0 hst90.kept)
  have HO := Lib.hid (show Own w90 34 (some ⟨gb, 0, none⟩) 8 8 (nats .u32 (zerosL 8)) from by
    have e : List.replicate 8 (Value.int .u32 0) = nats .u32 (zerosL 8) := by simp [nats, zerosL]
    rw [← e]; exact hown90)
  clear hgb hown90 hst90 c0 c1 c2
  have HGB := Lib.hid (show g00.nodes.length ≤ 1000 from by show [(0, 0)].length ≤ _; simp)
  have HS := Lib.hid (fun V (hV : Kept [] w90 V) => HO.out.sln.kept0 hV)
  have HAP := Lib.hid (show ∀ x ∈ ft (some (⟨gb, 0, none⟩ : Addr)), x ∉ F from AR.out.gr.apart HO.out (by decide) (by decide) (by decide))
  have HS7 := Lib.hid (fun V (hV : Kept [] w90 V) => show SlN V .u32 (some ⟨gb, 0, none⟩) (zerosL 7) from fun i hi => by
    obtain ⟨ad, h1, h2⟩ := HS.out V hV i (by simp [zerosL] at hi ⊢; omega)
    exact ⟨ad, h1, by rw [h2, zget, zget]⟩)
  have HZL := Lib.hid (show ∀ m, ∀ x ∈ zerosL m, x < 4294967296 from fun m x hx => by rw [(List.mem_replicate.1 hx).2]; omega)
  have HNS := Lib.hid (fun V => show SlN V .u32 none [] from fun i hi => absurd hi (by simp))
  have R1 := Lib.hid (fun V (hV : Kept [] w90 V) => show Calls Try.prog 4 #[.pointer (some ⟨mb, 0, none⟩), .int .i64 1, .agg #[.bool false, .bool false, .int .i64 8], .slice (some ⟨gb, 0, none⟩) 7 8] V (fun e w' => e = .returned (.tuple #[.slice none 0 0, .int .i64 1]) ∧ Kept [] V w') from by
    have h := ar_one (ca := 8) (n := 7) (AR.out.kept0 hV) (.inr rfl) (by have := HGB.out; omega) 1 u8T (la := zerosL 7) (by simp [zerosL]) (by omega) (HS7.out V hV) (HZL.out 7) HAP.out
    rw [F1.out] at h
    exact h)
  have R2 := Lib.hid (fun V (hV : Kept [] w90 V) => show Calls Try.prog 5 #[.pointer (some ⟨mb, 0, none⟩), .int .i64 7, .agg #[.bool false, .bool false, .int .i64 8], .slice (some ⟨gb, 0, none⟩) 8 8, .slice (some ⟨gb, 0, none⟩) 8 8] V (fun e w' => e = .returned (.tuple #[.slice none 0 0, .int .i64 1]) ∧ Kept [] V w') from by
    have h := ar_two (ca := 8) (cb := 8) (n := 8) (k := 8) (AR.out.kept0 hV) (.inr rfl) (by have := HGB.out; omega) 7 (fun h => by omega) u8T (la := zerosL 8) (lb := zerosL 8) (by simp [zerosL]) (by simp [zerosL]) (by omega) (by omega) (HS.out V hV) (HS.out V hV) (HZL.out 8) (HZL.out 8) HAP.out HAP.out (by omega)
    rw [show decide ((7 : Int) ≤ 6) = false from rfl, Bool.and_false] at h
    exact h)
  have R3 := Lib.hid (fun V (hV : Kept [] w90 V) => show Calls Try.prog 5 #[.pointer (some ⟨mb, 0, none⟩), .int .i64 1, .agg #[.bool false, .bool false, .int .i64 0], .slice none 0 0, .slice none 0 0] V (fun e w' => e = .returned (.tuple #[.slice none 0 0, .int .i64 1]) ∧ Kept [] V w') from by
    have h := ar_two (ca := 0) (cb := 0) (n := 0) (k := 0) (a := none) (b := none) (AR.out.kept0 hV) (.inr rfl) (by have := HGB.out; omega) 1 (fun h => by omega) zT (la := []) (lb := []) rfl rfl (by omega) (by omega) (HNS.out V) (HNS.out V) (by simp) (by simp) (by simp [ft]) (by simp [ft]) (by omega)
    rw [F3.out] at h
    exact h)
  have R4 := Lib.hid (fun V (hV : Kept [] w90 V) => show Calls Try.prog 6 #[.pointer (some ⟨mb, 0, none⟩), .agg #[.bool false, .bool false, .int .i64 8], .slice (some ⟨gb, 0, none⟩) 8 8, .int .i64 64] V (fun e w' => e = .returned (.tuple #[.slice none 0 0, .int .i64 1]) ∧ Kept [] V w') from by
    have h := ar_shift (ca := 8) (n := 8) (AR.out.kept0 hV) (by have := HGB.out; omega) u8T 64 (by omega) (by omega) (la := zerosL 8) (by simp [zerosL]) (by omega) (HS.out V hV) (HZL.out 8) HAP.out
    rw [F4.out, show decide (1 = 0) = false from rfl, Bool.and_false] at h
    exact h)
  have R5 := Lib.hid (fun V (hV : Kept [] w90 V) => show Calls Try.prog 7 #[.pointer (some ⟨mb, 0, none⟩), .agg #[.bool false, .bool false, .int .i64 8], .agg #[.bool true, .bool false, .int .i64 1], .slice (some ⟨gb, 0, none⟩) 8 8] V (fun e w' => e = .returned (.tuple #[.slice none 0 0, .int .i64 1]) ∧ Kept [] V w') from by
    have h := ar_conv (ca := 8) (n := 8) (AR.out.kept0 hV) (by have := HGB.out; omega) u8T bT (by omega) (la := zerosL 8) (by simp [zerosL]) (by omega) (HS.out V hV) (HZL.out 8) HAP.out
    rw [F5.out, show decide (1 = 0) = false from rfl, Bool.and_false] at h
    exact h)
  have R6 := Lib.hid (fun V (hV : Kept [] w90 V) => show Calls Try.prog 8 #[.pointer (some ⟨mb, 0, none⟩), .int .u32 0, .slice none 0 0, .slice none 0 0] V (fun e w' => e = .returned (.tuple #[.slice none 0 0, .int .i64 1]) ∧ Kept [] V w') from 
    choose_bad1 (ca := 0) (cb := 0) (n := 0) (k := 0) (a := none) (b := none) (AR.out.kept0 hV) (by have := HGB.out; omega) 0 (la := []) (lb := []) rfl rfl (by omega) (by omega) (HNS.out V) (HNS.out V) (by simp) (by simp) F6.out)
  have R7 := Lib.hid (fun V (hV : Kept [] w90 V) => show Calls Try.prog 8 #[.pointer (some ⟨mb, 0, none⟩), .int .u32 2, .slice (some ⟨gb, 0, none⟩) 8 8, .slice (some ⟨gb, 0, none⟩) 8 8] V (fun e w' => e = .returned (.tuple #[.slice none 0 0, .int .i64 1]) ∧ Kept [] V w') from 
    choose_bad2 (c := 2) (ca := 8) (cb := 8) (n := 8) (k := 8) (AR.out.kept0 hV) (by have := HGB.out; omega) (by omega) (la := zerosL 8) (lb := zerosL 8) (by simp [zerosL]) (by simp [zerosL]) (by omega) (by omega) (HS.out V hV) (HS.out V hV) (HZL.out 8) (HZL.out 8) F7.out F8.out)
  have R8 := Lib.hid (fun V (hV : Kept [] w90 V) => show Calls Try.prog 10 #[.pointer (some ⟨mb, 0, none⟩), .agg #[.bool false, .bool false, .int .i64 8], .int .u64 256] V (fun e w' => e = .returned (.tuple #[.slice none 0 0, .int .i64 1]) ∧ Kept [] V w') from by
    have h := const_c (AR.out.kept0 hV) (by have := HGB.out; omega) u8T 256 (by omega)
    rw [F9.out] at h
    exact h)
  have R9 := Lib.hid (fun V (hV : Kept [] w90 V) => show Calls Try.prog 9 #[.pointer (some ⟨mb, 0, none⟩), .int .i64 1, .agg #[.bool false, .bool false, .int .i64 8], .slice none 0 0] V (fun e w' => ∃ a c, e = .returned (.tuple #[.slice a 8 c, .int .i64 0]) ∧ Own w' 34 a 8 c (nats .u32 (constL 255 8)) ∧ Kept [] V w' ∧ ∀ b ∈ ft a, V.heap.size ≤ b) from by
    have h := ar_all0 (AR.out.kept0 hV) (by have := HGB.out; omega) 1 u8T
    rw [F10.out, F11.out, F12.out] at h
    exact h)
  have R10 := Lib.hid (fun V (hV : Kept [] w90 V) => show Calls Try.prog 9 #[.pointer (some ⟨mb, 0, none⟩), .int .i64 5, .agg #[.bool false, .bool false, .int .i64 8], .slice none 0 0] V (fun e w' => e = .returned (.tuple #[.slice none 0 0, .int .i64 1]) ∧ Kept [] V w') from by
    have h := ar_all0 (AR.out.kept0 hV) (by have := HGB.out; omega) 5 u8T
    rw [F13.out, show decide (1 = 0) = false from rfl] at h
    exact h)
  have HB90 := Lib.hid (fun V (hV : Kept [] w90 V) => HBX.out V (B90.out.trans hV))
  obtain ⟨c0, c1, c2⟩ := HBX.out _ B90.out
  refine wp_region_keptW (by kernel_rfl) ?_
  (go_big_quiet_want; apply Exists.intro; refine ⟨fun V hV => ?_, ?_⟩; rotate_left; go_big_quiet_on; (try simp only [Act.put, List.setIfInBounds_toArray, List.set_cons_zero, List.set_cons_succ]); rotate_right)
  · go_simp
    exact rfl
  try (rename_i Kq hq; clear hq Kq)
  (go_big_quiet_want; apply Exists.intro; refine ⟨fun V hV => ?_, ?_⟩; rotate_left; go_big_quiet_on; (try simp only [Act.put, List.setIfInBounds_toArray, List.set_cons_zero, List.set_cons_succ]); rotate_right)
  · obtain ⟨c0, c1, c2⟩ := HB90.out V hV
    go_simp
    exact rfl
  try (rename_i Kq hq; clear hq Kq)
  (go_big_quiet_want; apply Exists.intro; refine ⟨fun V hV => ?_, ?_⟩; rotate_left; go_big_quiet_on; (try simp only [Act.put, List.setIfInBounds_toArray, List.set_cons_zero, List.set_cons_succ]); rotate_right)
  · go_simp
    exact rfl
  try (rename_i Kq hq; clear hq Kq)
  (go_big_quiet_want; apply Exists.intro; refine ⟨fun V hV => ?_, ?_⟩; rotate_left; go_big_quiet_on; (try simp only [Act.put, List.setIfInBounds_toArray, List.set_cons_zero, List.set_cons_succ]); rotate_right)
  · go_simp
    exact rfl
  try (rename_i Kq hq; clear hq Kq)
  (go_big_quiet_want; apply Exists.intro; refine ⟨fun V hV => ?_, ?_⟩; rotate_left; go_big_quiet_on; (try simp only [Act.put, List.setIfInBounds_toArray, List.set_cons_zero, List.set_cons_succ]); rotate_right)
  · go_simp
    exact (R1.out V hV).mono fun e V' h => ⟨h.1, hV.trans h.2⟩
  try (rename_i Kq hq; clear hq Kq)
  (go_big_quiet_want; apply Exists.intro; refine ⟨fun V hV => ?_, ?_⟩; rotate_left; go_big_quiet_on; (try simp only [Act.put, List.setIfInBounds_toArray, List.set_cons_zero, List.set_cons_succ]); rotate_right)
  · go_simp
    exact rfl
  try (rename_i Kq hq; clear hq Kq)
  (go_big_quiet_want; apply Exists.intro; refine ⟨fun V hV => ?_, ?_⟩; rotate_left; go_big_quiet_on; (try simp only [Act.put, List.setIfInBounds_toArray, List.set_cons_zero, List.set_cons_succ]); rotate_right)
  · go_simp
    exact rfl
  try (rename_i Kq hq; clear hq Kq)
  (go_big_quiet_want; apply Exists.intro; refine ⟨fun V hV => ?_, ?_⟩; rotate_left; go_big_quiet_on; (try simp only [Act.put, List.setIfInBounds_toArray, List.set_cons_zero, List.set_cons_succ]); rotate_right)
  · go_simp
    exact rfl
  try (rename_i Kq hq; clear hq Kq)
  (go_big_quiet_want; apply Exists.intro; refine ⟨fun V hV => ?_, ?_⟩; rotate_left; go_big_quiet_on; (try simp only [Act.put, List.setIfInBounds_toArray, List.set_cons_zero, List.set_cons_succ]); rotate_right)
  · go_simp
    exact rfl
  try (rename_i Kq hq; clear hq Kq)
  (go_big_quiet_want; apply Exists.intro; refine ⟨fun V hV => ?_, ?_⟩; rotate_left; go_big_quiet_on; (try simp only [Act.put, List.setIfInBounds_toArray, List.set_cons_zero, List.set_cons_succ]); rotate_right)
  · go_simp
    exact rfl
  try (rename_i Kq hq; clear hq Kq)
  refine wpQuiet_nil ?_
  intro w91 k91
  have C1 := Lib.hid k91
  clear k91 c0 c1 c2
  obtain ⟨c0, c1, c2⟩ := HB90.out _ C1.out
  go_wp2_with fail
  refine (R2.out _ C1.out).mono ?_
  rintro e w92 ⟨rfl, k92⟩
  have C92 := Lib.hid (C1.out.trans k92)
  clear k92 c0 c1 c2
  obtain ⟨c0, c1, c2⟩ := HB90.out _ C92.out
  go_wp2_with fail
  refine (R3.out _ C92.out).mono ?_
  rintro e w93 ⟨rfl, k93⟩
  have C93 := Lib.hid (C92.out.trans k93)
  clear k93 c0 c1 c2
  obtain ⟨c0, c1, c2⟩ := HB90.out _ C93.out
  go_wp2_with fail
  refine (R4.out _ C93.out).mono ?_
  rintro e w94 ⟨rfl, k94⟩
  have C94 := Lib.hid (C93.out.trans k94)
  clear k94 c0 c1 c2
  obtain ⟨c0, c1, c2⟩ := HB90.out _ C94.out
  go_wp2_with fail
  refine (R5.out _ C94.out).mono ?_
  rintro e w95 ⟨rfl, k95⟩
  have C95 := Lib.hid (C94.out.trans k95)
  clear k95 c0 c1 c2
  obtain ⟨c0, c1, c2⟩ := HB90.out _ C95.out
  go_wp2_with fail
  refine (R6.out _ C95.out).mono ?_
  rintro e w96 ⟨rfl, k96⟩
  have C96 := Lib.hid (C95.out.trans k96)
  clear k96 c0 c1 c2
  obtain ⟨c0, c1, c2⟩ := HB90.out _ C96.out
  go_wp2_with fail
  refine (R7.out _ C96.out).mono ?_
  rintro e w97 ⟨rfl, k97⟩
  have C97 := Lib.hid (C96.out.trans k97)
  clear k97 c0 c1 c2
  obtain ⟨c0, c1, c2⟩ := HB90.out _ C97.out
  go_wp2_with fail
  refine (R8.out _ C97.out).mono ?_
  rintro e w98 ⟨rfl, k98⟩
  have C98 := Lib.hid (C97.out.trans k98)
  clear k98 c0 c1 c2
  obtain ⟨c0, c1, c2⟩ := HB90.out _ C98.out
  go_wp2_with fail
  refine (R9.out _ C98.out).mono ?_
  rintro e w99 ⟨a9, c9, rfl, ho9, k99, hf9⟩
  have C99 := Lib.hid (C98.out.trans k99)
  have HN := Lib.hid (lit_number a9 c9 8 (constL 255 8) w99 rfl (by omega) ho9.sln)
  rw [F14.out, F15.out] at HN
  clear k99 hf9 ho9 c0 c1 c2
  obtain ⟨c0, c1, c2⟩ := HB90.out _ C99.out
  go_wp2_with fail
  refine HN.out.mono ?_
  rintro e w' ⟨rfl, rfl⟩
  go_wp2_with fail
  refine (R10.out _ C99.out).mono ?_
  rintro e w100 ⟨rfl, k100⟩
  have C100 := Lib.hid (C99.out.trans k100)
  clear k100 c0 c1 c2
  obtain ⟨c0, c1, c2⟩ := HB90.out _ C100.out
  go_wp2_with fail
  have HHW := Lib.hid (how_c (AR.out.kept0 C100.out))
  have cm := (AR.out.kept0 C100.out).c0
  have HGT := Lib.hid (aig_gates (AR.out.kept0 C100.out).gr (by have := HGB.out; omega))
  rw [F16.out] at HGT
  refine HHW.out.mono ?_
  rintro e w' ⟨rfl, rfl⟩
  go_wp2_with fail
  refine HGT.out.mono ?_
  rintro e w' ⟨rfl, j, rfl⟩
  go_wp2_with fail
  refine (wakes13 _).mono ?_
  rintro e w98 ⟨rfl, k98⟩
  have C98 := Lib.hid ((C100.out.drewN j).trans k98)
  clear k98 cm c0 c1 c2
  go_wp2_with fail
  go_ret
  exact ⟨rfl, KA.out.trans (B90.out.trans C98.out)⟩
end Go.Proofs.Ytenhbhckhncamaa
