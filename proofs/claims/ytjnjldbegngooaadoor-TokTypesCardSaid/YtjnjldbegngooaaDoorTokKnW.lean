/-
  TokKnown: the walk.
-/
import Derived.Test.YtjnjldbegngooaaDoorTokCard
import Derived.Lib.ConvBytes
import Derived.Laws.MakeOwn
namespace Go.Proofs.YtjnjldbegngooaaDoor
open Go.ChangeShapes Go.WideShapes Go.ChangeAt Go.RowKit
set_option linter.unusedVariables false
set_option linter.unusedSimpArgs false

variable {w w' w1 W : World}
def badL : List (List UInt8) := [[53, 98, 111, 111, 108], [49, 105, 49], [49, 50, 56, 105, 56], [49, 50, 97, 98], [53, 117, 48, 56], [53, 117, 48], [49, 56, 52, 52, 54, 55, 52, 52, 48, 55, 51, 55, 48, 57, 53, 53, 49, 54, 49, 54], [48, 48, 48, 48, 48, 48, 48, 48, 48, 48, 48, 48, 48, 48, 48, 48, 48, 48, 48, 48, 49], [35], [0], [228], [97, 50, 51, 52, 53, 54, 55, 56, 57, 48, 49, 50, 51, 52, 53, 54, 55, 56, 57, 48, 49, 50, 51, 52, 53, 54, 55, 56, 57, 48, 49, 50, 51], [53, 117, 56, 120], [53, 95]]
def goodL : List (List UInt8) := [[48, 105, 49], [49, 50, 55, 105, 56], [49, 56, 52, 52, 54, 55, 52, 52, 48, 55, 51, 55, 48, 57, 53, 53, 49, 54, 49, 53, 117, 54, 52], [57, 50, 50, 51, 51, 55, 50, 48, 51, 54, 56, 53, 52, 55, 55, 53, 56, 48, 55, 105, 54, 52], [48, 48, 55], [117, 54, 53], [105, 48], [117, 48, 56], [95], [78, 111, 100, 101], [97, 50, 51, 52, 53, 54, 55, 56, 57, 48, 49, 50, 51, 52, 53, 54, 55, 56, 57, 48, 49, 50, 51, 52, 53, 54, 55, 56, 57, 48, 49, 50], [60, 62], [60], [42]]
set_option maxRecDepth 100000 in
theorem bad_ix (k : Nat) (h : k < 14) (w : World) : (Instr.index 47 (.agg #[.string ⟨#[53, 98, 111, 111, 108]⟩, .string ⟨#[49, 105, 49]⟩, .string ⟨#[49, 50, 56, 105, 56]⟩, .string ⟨#[49, 50, 97, 98]⟩, .string ⟨#[53, 117, 48, 56]⟩, .string ⟨#[53, 117, 48]⟩, .string ⟨#[49, 56, 52, 52, 54, 55, 52, 52, 48, 55, 51, 55, 48, 57, 53, 53, 49, 54, 49, 54]⟩, .string ⟨#[48, 48, 48, 48, 48, 48, 48, 48, 48, 48, 48, 48, 48, 48, 48, 48, 48, 48, 48, 48, 49]⟩, .string ⟨#[35]⟩, .string ⟨#[0]⟩, .string ⟨#[228]⟩, .string ⟨#[97, 50, 51, 52, 53, 54, 55, 56, 57, 48, 49, 50, 51, 52, 53, 54, 55, 56, 57, 48, 49, 50, 51, 52, 53, 54, 55, 56, 57, 48, 49, 50, 51]⟩, .string ⟨#[53, 117, 56, 120]⟩, .string ⟨#[53, 95]⟩]) (.int .i64 (k : Int))).run Tryd.prog w = .ok (.string ⟨(badL[k]'h).toArray⟩) w := by
  match k, h with
  | 0, _ => rfl
  | 1, _ => rfl
  | 2, _ => rfl
  | 3, _ => rfl
  | 4, _ => rfl
  | 5, _ => rfl
  | 6, _ => rfl
  | 7, _ => rfl
  | 8, _ => rfl
  | 9, _ => rfl
  | 10, _ => rfl
  | 11, _ => rfl
  | 12, _ => rfl
  | 13, _ => rfl
  | k + 14, h => exact absurd h (by omega)
set_option maxRecDepth 100000 in
theorem good_ix (k : Nat) (h : k < 14) (w : World) : (Instr.index 47 (.agg #[.string ⟨#[48, 105, 49]⟩, .string ⟨#[49, 50, 55, 105, 56]⟩, .string ⟨#[49, 56, 52, 52, 54, 55, 52, 52, 48, 55, 51, 55, 48, 57, 53, 53, 49, 54, 49, 53, 117, 54, 52]⟩, .string ⟨#[57, 50, 50, 51, 51, 55, 50, 48, 51, 54, 56, 53, 52, 55, 55, 53, 56, 48, 55, 105, 54, 52]⟩, .string ⟨#[48, 48, 55]⟩, .string ⟨#[117, 54, 53]⟩, .string ⟨#[105, 48]⟩, .string ⟨#[117, 48, 56]⟩, .string ⟨#[95]⟩, .string ⟨#[78, 111, 100, 101]⟩, .string ⟨#[97, 50, 51, 52, 53, 54, 55, 56, 57, 48, 49, 50, 51, 52, 53, 54, 55, 56, 57, 48, 49, 50, 51, 52, 53, 54, 55, 56, 57, 48, 49, 50]⟩, .string ⟨#[60, 62]⟩, .string ⟨#[60]⟩, .string ⟨#[42]⟩]) (.int .i64 (k : Int))).run Tryd.prog w = .ok (.string ⟨(goodL[k]'h).toArray⟩) w := by
  match k, h with
  | 0, _ => rfl
  | 1, _ => rfl
  | 2, _ => rfl
  | 3, _ => rfl
  | 4, _ => rfl
  | 5, _ => rfl
  | 6, _ => rfl
  | 7, _ => rfl
  | 8, _ => rfl
  | 9, _ => rfl
  | 10, _ => rfl
  | 11, _ => rfl
  | 12, _ => rfl
  | 13, _ => rfl
  | k + 14, h => exact absurd h (by omega)
def isBad (l : List UInt8) : Bool := decide (l.length ≤ 100) && match allR l with
  | .error p => decide (p = (20, 0))
  | .ok _ => false
def isGood (l : List UInt8) : Bool := decide (l.length ≤ 100) && match allR l with
  | .ok [x, y] => decide (x.text = l)
  | _ => false
theorem bad_all : (badL.all isBad) = true := by kernel_rfl
theorem good_all : (goodL.all isGood) = true := by kernel_rfl
theorem bad_at (k : Nat) (h : k < 14) : (badL[k]'h).length ≤ 100 ∧ allR (badL[k]'h) = .error (20, 0) := by
  have h1 := List.all_eq_true.1 bad_all (badL[k]'h) (List.getElem_mem h)
  unfold isBad at h1
  rw [Bool.and_eq_true, decide_eq_true_eq] at h1
  refine ⟨h1.1, ?_⟩
  revert h1
  cases allR (badL[k]'h) with
  | error p => intro h1; rw [of_decide_eq_true h1.2]
  | ok xs => intro h1; exact absurd h1.2 (by simp)
theorem good_at (k : Nat) (h : k < 14) : (goodL[k]'h).length ≤ 100 ∧ ∃ x y, allR (goodL[k]'h) = .ok [x, y] ∧ x.text = goodL[k]'h := by
  have h1 := List.all_eq_true.1 good_all (goodL[k]'h) (List.getElem_mem h)
  unfold isGood at h1
  rw [Bool.and_eq_true, decide_eq_true_eq] at h1
  refine ⟨h1.1, ?_⟩
  have h2 := h1.2
  clear h1
  split at h2
  · rename_i x y hr
    exact ⟨x, y, hr, of_decide_eq_true h2⟩
  · cases h2
/-- bytes made of a string -/
theorem conv_bt (w : World) (l : List UInt8) : ∃ c W', (convert 9 22 (.string ⟨l.toArray⟩)).run Tryd.prog w = .ok (.slice (some ⟨w.heap.size, 0, none⟩) l.length c) W' ∧ Bt W' (some ⟨w.heap.size, 0, none⟩) l ∧ Kept [] w W' := by
  have h := Lib.run_convert_string_bytes (P := Tryd.prog) w 9 22 5 ⟨l.toArray⟩ (u := .string) Tryd.underlying9 Tryd.underlying22 Tryd.underlying5
  have hz := Lib.bytesWorld_size w 5 ⟨l.toArray⟩
  refine ⟨_, _, h, fun k hk => ⟨_, rfl, ?_⟩, ⟨?_, ?_, ?_, by omega, fun k hk _ => Lib.bytesWorld_at_old w _ _ k hk⟩⟩
  · rw [add_at', Lib.bytesWorld_cell w _ ⟨l.toArray⟩ _ (by show 0 + k < l.length; omega)]
    simp [List.getD, List.getElem?_eq_getElem hk]
  · simp [Lib.bytesWorld, World.freeze]; rfl
  · simp [Lib.bytesWorld, World.freeze]
  · simp [Lib.bytesWorld, World.freeze]; rfl
theorem all_long (n : Nat) (a : Option Addr) (c : Nat) (w : World) (h : 65536 < n) (hl : n ≤ 140737488351232) :
    Calls Tryd.prog 9 #[.slice a n c] w (AllPost (.error (3, 0)) w) := by
  have g1 : ¬ ((n : Nat) : Int) ≤ 65536 := by omega
  have g2 : ¬ n ≤ 65536 := by omega
  clear h
  go_enter Tryd.func9, Tryd.ntmps9
  go_wp2_with fail
  refine bodyPost_ret (v := .tuple #[.slice none 0 0, .agg #[.int .i64 3, .int .i64 0]]) (by simp [results, Tryd.results9, go_sem]) rfl ?_
  exact ⟨(Kept.refl [] w).alloc _, rfl⟩
theorem make_z (w : World) : ∃ W', (Instr.makeSlice 22 (.int .i64 65537) (.int .i64 65537)).run Tryd.prog w = .ok (.slice (some ⟨w.heap.size, 0, none⟩) 65537 65537) W' ∧ Kept [] w W' := by
  have u8i : (Tryd.prog.info? 5).map (fun i => (i.zero, i.size, i.bytes)) = some (some (.int .u8 0), 1, 1) := by kernel_rfl
  obtain ⟨i, hi, hiz, hisz, hib⟩ := info3 u8i
  have h := run_makeSlice (P := Tryd.prog) w 22 5 i (.int .u8 0) Tryd.underlying22 hi hiz .i64 .i64 65537 65537 (by omega) (by omega) (by rw [hisz]; decide) (by rw [hib]; omega) (by omega)
  exact ⟨_, h, (Kept.refl [] w).alloc _⟩
theorem blank_spaces (n : Nat) : blankB (List.replicate n 32) = [] := by
  induction n with
  | zero => rfl
  | succ n ih => rw [List.replicate_succ, blankB_ws (by rfl), ih]
theorem all_spaces : allR (List.replicate 65536 32) = .ok [endTk 65536] := by
  unfold allR
  rw [if_neg (by rw [List.length_replicate]; omega)]
  have h : allB (List.replicate 65536 32) = .ok [endTk 65536] := by
    show allP 0 _ = _
    rw [allP_nil (blank_spaces _), List.length_replicate, Nat.zero_add]
  rw [h]
theorem repeat_one (n : Nat) : Lib.repeatL [32] n = List.replicate n 32 := by
  induction n with
  | zero => rfl
  | succ n ih => unfold Lib.repeatL; simp [List.replicate_succ, ih]
theorem knr1 : allR [97, 60, 61, 98, 60, 62, 99, 45, 45, 62] = .ok [⟨1, [97], 0, 0, noTy⟩, ⟨6, [60, 61], 1, 0, noTy⟩, ⟨1, [98], 3, 0, noTy⟩, ⟨6, [60, 62], 4, 0, noTy⟩, ⟨1, [99], 6, 0, noTy⟩, ⟨7, [], 10, 0, noTy⟩] := by kernel_rfl
theorem knr2 : allR [120, 45, 62, 45, 121, 62, 62, 45, 49] = .ok [⟨1, [120], 0, 0, noTy⟩, ⟨6, [45, 62], 1, 0, noTy⟩, ⟨6, [45], 3, 0, noTy⟩, ⟨1, [121], 4, 0, noTy⟩, ⟨6, [62, 62], 5, 0, noTy⟩, ⟨6, [45], 7, 0, noTy⟩, ⟨4, [49], 8, 1, noTy⟩, ⟨7, [], 9, 0, noTy⟩] := by kernel_rfl
set_option maxHeartbeats 3200000 in
set_option maxRecDepth 100000 in
theorem known_c (w : World) (hL : Laid w) : Calls Tryd.prog 7 #[] w (BoolIs true w) := by
  have HL := Lib.hid hL
  clear hL
  go_enter Tryd.func7, Tryd.ntmps7; (try simp only [List.append])
  go_wp2_with fail
  go_loopw [18] (fun iv wr => ∃ i : Nat, i ≤ 14 ∧ iv = .int .i64 i ∧ Kept [] w wr) (fun iv _ => 14 - (intOf iv).toNat)
  case atStart => exact ⟨0, by omega, rfl, .refl _ _⟩
  case round =>
    obtain ⟨i, hi, rfl, kr⟩ := hrel
    have KR := Lib.hid kr
    clear kr
    by_cases hlt : i < 14
    · have hix := bad_ix i hlt
      obtain ⟨hl0, hr0⟩ := bad_at i hlt
      generalize badL[i]'hlt = s at hix hl0 hr0
      have HR := Lib.hid hr0
      obtain ⟨c1, W1, hcv, hbt, hk⟩ := conv_bt wr s
      have HA := Lib.hid (all_c s (some ⟨wr.heap.size, 0, none⟩) c1 W1 (HL.out.kept0 (KR.out.trans hk)) hbt (by omega))
      have HK := Lib.hid hk
      clear hr0 hbt hk hl0
      go_wp2_with fail
      refine HA.out.mono ?_
      intro e w2 hp
      rw [HR.out] at hp
      obtain ⟨k2, he⟩ := hp
      have he' : e = .returned (.tuple #[.slice none 0 0, .agg #[.int .i64 20, .int .i64 0]]) := he
      subst he'
      have K2 := Lib.hid k2
      clear he k2
      go_wp2_with fail
      go_roundw
      case rel => exact ⟨i + 1, by omega, by go_num, ((KR.out.trans HK.out).trans K2.out).alloc _⟩
      case measure => simp [intOf]; omega
    · obtain rfl : i = 14 := by omega
      obtain ⟨wA, rfl⟩ : ∃ v : World, v = wr := ⟨_, rfl⟩
      have e14 : ((14 : Nat) : Int) = 14 := rfl
      rw [e14]
      clear e14
      go_wp2_with fail
      go_loopw [37] (fun iv wr => ∃ i : Nat, i ≤ 14 ∧ iv = .int .i64 i ∧ Kept [] w wr) (fun iv _ => 14 - (intOf iv).toNat)
      case atStart => exact ⟨0, by omega, rfl, KR.out⟩
      case round =>
        obtain ⟨i, hi, rfl, kr⟩ := hrel
        have KRR := Lib.hid kr
        clear kr
        by_cases hlt : i < 14
        · have hix := good_ix i hlt
          obtain ⟨hl0, x, y, hr0, hxt⟩ := good_at i hlt
          generalize goodL[i]'hlt = s at hix hl0 hr0 hxt
          have HR := Lib.hid hr0
          obtain ⟨c1, W1, hcv, hbt, hk⟩ := conv_bt wr s
          have HA := Lib.hid (all_c s (some ⟨wr.heap.size, 0, none⟩) c1 W1 (HL.out.kept0 (KRR.out.trans hk)) hbt (by omega))
          have HK := Lib.hid hk
          have HXT := Lib.hid hxt
          clear hr0 hbt hk hl0 hxt
          go_wp2_with fail
          refine HA.out.mono ?_
          intro e w2 hp
          rw [HR.out] at hp
          obtain ⟨k2, a2, c2, rfl, ho, _⟩ := hp
          have K2 := Lib.hid k2
          obtain ⟨g, rfl, x0, _⟩ := tk_cell ho 0 1 (by simp) (by omega)
          simp only [List.getElem_cons_zero, tkCells, List.getElem?_cons_zero, List.getElem?_cons_succ, Nat.reduceMul, Nat.reduceAdd, HXT.out] at x0
          have hlg := World.block_lt_of_cell? _ _ x0
          clear k2 ho
          go_wp2_with fail
          go_roundw
          case rel => exact ⟨i + 1, by omega, by go_num, ((KRR.out.trans HK.out).trans K2.out).alloc _⟩
          case measure => simp [intOf]; omega
        · obtain rfl : i = 14 := by omega
          obtain ⟨W3, hmk, hk3⟩ := make_z wr
          have HK3 := Lib.hid hk3
          have HA := Lib.hid (all_long 65537 (some ⟨wr.heap.size, 0, none⟩) 65537 W3 (by omega) (by omega))
          clear hk3
          go_wp2_with fail
          refine HA.out.mono ?_
          rintro e w4 ⟨k4, he⟩
          have he' : e = .returned (.tuple #[.slice none 0 0, .agg #[.int .i64 3, .int .i64 0]]) := he
          subst he'
          have K4 := Lib.hid ((KRR.out.trans HK3.out).trans k4)
          clear he k4 hmk
          have HRP := Lib.hid (fun W => Tryd.strings_Repeat ⟨#[32]⟩ 65536 W (by omega) (by show 1 * 65536 ≤ _; omega))
          go_wp2_with fail
          refine (HRP.out _).mono ?_
          rintro e w5 ⟨rfl, hb5⟩
          have hrp : Lib.repeatL (⟨#[32]⟩ : ByteArray).data.toList 65536 = List.replicate 65536 32 := repeat_one 65536
          rw [hrp]
          have HF4 := Lib.hid ((Kept.of_below hb5).heap (heap_alloc_new w4 (.cells #[.int .i64 3, .int .i64 0] 26)) (by simp))
          have K5 := Lib.hid ((K4.out.alloc (.cells #[.int .i64 3, .int .i64 0] 26)).trans (Kept.of_below hb5))
          obtain ⟨sp, hsp⟩ : ∃ sp : List UInt8, sp = List.replicate 65536 32 := ⟨_, rfl⟩
          have hsl : sp.length = 65536 := by rw [hsp, List.length_replicate]
          have HSR := Lib.hid (show allR sp = .ok [endTk 65536] from by rw [hsp]; exact all_spaces)
          rw [← hsp]
          obtain ⟨c6, W6, hcv, hbt, hk6⟩ := conv_bt w5 sp
          have HA6 := Lib.hid (show Calls Tryd.prog 9 #[.slice (some ⟨w5.heap.size, 0, none⟩) 65536 c6] W6 (AllPost (.ok [endTk 65536]) W6) from by
            have h := all_c sp (some ⟨w5.heap.size, 0, none⟩) c6 W6 (HL.out.kept0 (K5.out.trans hk6)) hbt (by rw [hsl]; omega)
            rw [HSR.out, hsl] at h
            exact h)
          rw [hsl] at hcv
          have HK6 := Lib.hid hk6
          clear hb5 hrp hsp hsl hbt hk6 HSR HRP
          go_wp2_with fail
          refine HA6.out.mono ?_
          intro e w7 hp
          obtain ⟨k7, a7, c7, rfl, ho7, _⟩ := hp
          have HO7 := Lib.hid ho7
          have K57 := Lib.hid (HK6.out.trans k7)
          clear hcv k7 ho7
          have K7 := Lib.hid (K5.out.trans K57.out)
          have hcc8 : (convert 22 22 (.slice (some ⟨(w7.heap.size + 1), 0, none⟩) 10 10)).run Tryd.prog ((w7.alloc (.cells #[.int .i64 0, .int .i64 0] 26)).alloc (.cells #[.int .u8 97, .int .u8 60, .int .u8 61, .int .u8 98, .int .u8 60, .int .u8 62, .int .u8 99, .int .u8 45, .int .u8 45, .int .u8 62] 5)) = .ok (.slice (some ⟨(w7.heap.size + 1), 0, none⟩) 10 10) ((w7.alloc (.cells #[.int .i64 0, .int .i64 0] 26)).alloc (.cells #[.int .u8 97, .int .u8 60, .int .u8 61, .int .u8 98, .int .u8 60, .int .u8 62, .int .u8 99, .int .u8 45, .int .u8 45, .int .u8 62] 5 (10, 11))) := by
            have h := Lib.run_convert_bytes_const (P := Tryd.prog) (w7.alloc (.cells #[.int .i64 0, .int .i64 0] 26)) 22 5 #[.int .u8 97, .int .u8 60, .int .u8 61, .int .u8 98, .int .u8 60, .int .u8 62, .int .u8 99, .int .u8 45, .int .u8 45, .int .u8 62] 10 10 Tryd.underlying22 Tryd.underlying5
            rw [show (w7.alloc (.cells #[.int .i64 0, .int .i64 0] 26)).heap.size = (w7.heap.size + 1) from by simp] at h
            exact h
          have HA8 := Lib.hid (all_c [97, 60, 61, 98, 60, 62, 99, 45, 45, 62] (some ⟨(w7.heap.size + 1), 0, none⟩) 10 ((w7.alloc (.cells #[.int .i64 0, .int .i64 0] 26)).alloc (.cells #[.int .u8 97, .int .u8 60, .int .u8 61, .int .u8 98, .int .u8 60, .int .u8 62, .int .u8 99, .int .u8 45, .int .u8 45, .int .u8 62] 5 (10, 11))) (HL.out.kept0 ((K7.out.alloc _).alloc _)) (bt_row (by
            have h := heap_alloc_new (w7.alloc (.cells #[.int .i64 0, .int .i64 0] 26)) (.cells #[.int .u8 97, .int .u8 60, .int .u8 61, .int .u8 98, .int .u8 60, .int .u8 62, .int .u8 99, .int .u8 45, .int .u8 45, .int .u8 62] 5 (10, 11))
            rw [show (w7.alloc (.cells #[.int .i64 0, .int .i64 0] 26)).heap.size = (w7.heap.size + 1) from by simp] at h
            exact h)) (by simp))
          go_wp2_with fail
          refine HA8.out.mono ?_
          intro e w8 hp
          rw [knr1] at hp
          obtain ⟨k8, a8, c8, rfl, ho8, _⟩ := hp
          have HO8 := Lib.hid ho8
          have HK8 := Lib.hid (show Kept [] (w7.alloc (.cells #[.int .i64 0, .int .i64 0] 26)) w8 from ((Kept.refl [] (w7.alloc (.cells #[.int .i64 0, .int .i64 0] 26))).alloc _).trans k8)
          have P8 := Lib.hid (show Kept [] w7 w8 from ((Kept.refl [] w7).alloc _).trans HK8.out)
          have K8 := Lib.hid (K7.out.trans P8.out)
          have HF8 := Lib.hid (HK8.out.heap (heap_alloc_new w7 (.cells #[.int .i64 0, .int .i64 0] 26)) (by simp))
          clear k8 ho8 hcc8 HA8
          have hcc9 : (convert 22 22 (.slice (some ⟨(w8.heap.size + 1), 0, none⟩) 9 9)).run Tryd.prog ((w8.alloc (.cells #[.int .i64 0, .int .i64 0] 26)).alloc (.cells #[.int .u8 120, .int .u8 45, .int .u8 62, .int .u8 45, .int .u8 121, .int .u8 62, .int .u8 62, .int .u8 45, .int .u8 49] 5)) = .ok (.slice (some ⟨(w8.heap.size + 1), 0, none⟩) 9 9) ((w8.alloc (.cells #[.int .i64 0, .int .i64 0] 26)).alloc (.cells #[.int .u8 120, .int .u8 45, .int .u8 62, .int .u8 45, .int .u8 121, .int .u8 62, .int .u8 62, .int .u8 45, .int .u8 49] 5 (9, 10))) := by
            have h := Lib.run_convert_bytes_const (P := Tryd.prog) (w8.alloc (.cells #[.int .i64 0, .int .i64 0] 26)) 22 5 #[.int .u8 120, .int .u8 45, .int .u8 62, .int .u8 45, .int .u8 121, .int .u8 62, .int .u8 62, .int .u8 45, .int .u8 49] 9 9 Tryd.underlying22 Tryd.underlying5
            rw [show (w8.alloc (.cells #[.int .i64 0, .int .i64 0] 26)).heap.size = (w8.heap.size + 1) from by simp] at h
            exact h
          have HA9 := Lib.hid (all_c [120, 45, 62, 45, 121, 62, 62, 45, 49] (some ⟨(w8.heap.size + 1), 0, none⟩) 9 ((w8.alloc (.cells #[.int .i64 0, .int .i64 0] 26)).alloc (.cells #[.int .u8 120, .int .u8 45, .int .u8 62, .int .u8 45, .int .u8 121, .int .u8 62, .int .u8 62, .int .u8 45, .int .u8 49] 5 (9, 10))) (HL.out.kept0 ((K8.out.alloc _).alloc _)) (bt_row (by
            have h := heap_alloc_new (w8.alloc (.cells #[.int .i64 0, .int .i64 0] 26)) (.cells #[.int .u8 120, .int .u8 45, .int .u8 62, .int .u8 45, .int .u8 121, .int .u8 62, .int .u8 62, .int .u8 45, .int .u8 49] 5 (9, 10))
            rw [show (w8.alloc (.cells #[.int .i64 0, .int .i64 0] 26)).heap.size = (w8.heap.size + 1) from by simp] at h
            exact h)) (by simp))
          go_wp2_with fail
          refine HA9.out.mono ?_
          intro e w9 hp
          rw [knr2] at hp
          obtain ⟨k9, a9, c9, rfl, ho9, _⟩ := hp
          have HO9 := Lib.hid ho9
          have HK9 := Lib.hid (show Kept [] (w8.alloc (.cells #[.int .i64 0, .int .i64 0] 26)) w9 from ((Kept.refl [] (w8.alloc (.cells #[.int .i64 0, .int .i64 0] 26))).alloc _).trans k9)
          have P9 := Lib.hid (show Kept [] w8 w9 from ((Kept.refl [] w8).alloc _).trans HK9.out)
          have K9 := Lib.hid (K8.out.trans P9.out)
          have HF9 := Lib.hid (HK9.out.heap (heap_alloc_new w8 (.cells #[.int .i64 0, .int .i64 0] 26)) (by simp))
          clear k9 ho9 hcc9 HA9
          obtain ⟨g7_0_2, hg7_0_2, x7_0_2, z7_0_2⟩ := tk_cell HO7.out 0 2 (by simp) (by omega)
          obtain ⟨g7, hg7⟩ : ∃ g, a7 = some ⟨g, 0, none⟩ := ⟨_, hg7_0_2⟩
          subst hg7
          obtain rfl : g7 = g7_0_2 := by injection hg7_0_2 with h; injection h
          clear hg7_0_2 z7_0_2
          simp only [List.getElem_cons_zero, List.getElem_cons_succ, tkCells, endTk, List.getElem?_cons_zero, List.getElem?_cons_succ, Nat.reduceMul, Nat.reduceAdd] at x7_0_2
          replace x7_0_2 := (P8.out.trans P9.out).cell x7_0_2 (by simp)
          obtain ⟨g8_1_1, hg8_1_1, x8_1_1, z8_1_1⟩ := tk_cell HO8.out 1 1 (by simp) (by omega)
          obtain ⟨g8_3_1, hg8_3_1, x8_3_1, z8_3_1⟩ := tk_cell HO8.out 3 1 (by simp) (by omega)
          obtain ⟨g8, hg8⟩ : ∃ g, a8 = some ⟨g, 0, none⟩ := ⟨_, hg8_1_1⟩
          subst hg8
          obtain rfl : g8 = g8_1_1 := by injection hg8_1_1 with h; injection h
          clear hg8_1_1 z8_1_1
          obtain rfl : g8 = g8_3_1 := by injection hg8_3_1 with h; injection h
          clear hg8_3_1 z8_3_1
          simp only [List.getElem_cons_zero, List.getElem_cons_succ, tkCells, endTk, List.getElem?_cons_zero, List.getElem?_cons_succ, Nat.reduceMul, Nat.reduceAdd] at x8_1_1
          replace x8_1_1 := P9.out.cell x8_1_1 (by simp)
          simp only [List.getElem_cons_zero, List.getElem_cons_succ, tkCells, endTk, List.getElem?_cons_zero, List.getElem?_cons_succ, Nat.reduceMul, Nat.reduceAdd] at x8_3_1
          replace x8_3_1 := P9.out.cell x8_3_1 (by simp)
          obtain ⟨g9_1_1, hg9_1_1, x9_1_1, z9_1_1⟩ := tk_cell HO9.out 1 1 (by simp) (by omega)
          obtain ⟨g9_4_1, hg9_4_1, x9_4_1, z9_4_1⟩ := tk_cell HO9.out 4 1 (by simp) (by omega)
          obtain ⟨g9, hg9⟩ : ∃ g, a9 = some ⟨g, 0, none⟩ := ⟨_, hg9_1_1⟩
          subst hg9
          obtain rfl : g9 = g9_1_1 := by injection hg9_1_1 with h; injection h
          clear hg9_1_1 z9_1_1
          obtain rfl : g9 = g9_4_1 := by injection hg9_4_1 with h; injection h
          clear hg9_4_1 z9_4_1
          simp only [List.getElem_cons_zero, List.getElem_cons_succ, tkCells, endTk, List.getElem?_cons_zero, List.getElem?_cons_succ, Nat.reduceMul, Nat.reduceAdd] at x9_1_1
          simp only [List.getElem_cons_zero, List.getElem_cons_succ, tkCells, endTk, List.getElem?_cons_zero, List.getElem?_cons_succ, Nat.reduceMul, Nat.reduceAdd] at x9_4_1
          have hf4 := ((K57.out.trans P8.out).trans P9.out).heap HF4.out (by simp)
          have d40 := blk_cell hf4 0
          have d41 := blk_cell hf4 1
          simp only [List.getElem?_toArray, List.getElem?_cons_zero, List.getElem?_cons_succ] at d40 d41
          have hl4 := blk_lt hf4
          clear hf4
          have hf8 := P9.out.heap HF8.out (by simp)
          have d80 := blk_cell hf8 0
          have d81 := blk_cell hf8 1
          simp only [List.getElem?_toArray, List.getElem?_cons_zero, List.getElem?_cons_succ] at d80 d81
          have hl8 := blk_lt hf8
          clear hf8
          have hf9 := HF9.out
          have d90 := blk_cell hf9 0
          have d91 := blk_cell hf9 1
          simp only [List.getElem?_toArray, List.getElem?_cons_zero, List.getElem?_cons_succ] at d90 d91
          have hl9 := blk_lt hf9
          clear hf9
          have hlg7 := World.block_lt_of_cell? _ _ x7_0_2
          have hlg8 := World.block_lt_of_cell? _ _ x8_1_1
          have hlg9 := World.block_lt_of_cell? _ _ x9_1_1
          have HS := Lib.hid (fun W => (show Calls Tryd.prog 16 #[.agg #[.bool false, .bool false, .int .i64 0]] W fun e w' => e = .returned (.string ⟨#[]⟩) ∧ Kept [] W w' from says_c noTy W))
          have HRB := Lib.hid (fun W hW => reserved_c [98, 111, 111, 108] (by simp) W hW)
          have HRT := Lib.hid (fun W hW => reserved_c [116, 101, 108] (by simp) W hW)
          have eb : resB [98, 111, 111, 108] = false := by kernel_rfl
          have et : resB [116, 101, 108] = true := by kernel_rfl
          rw [eb] at HRB
          rw [et] at HRT
          clear eb et
          have HWK := Lib.hid (fun W hW => wakes_c W hW)
          go_wp2_with fail
          refine (HS.out _).mono ?_
          rintro e v1 ⟨rfl, q1⟩
          have Q1 := Lib.hid ((K9.out.alloc (.cells #[.int .i64 0, .int .i64 0] 26)).trans q1)
          clear q1
          go_wp2_with fail
          refine (HRB.out _ (HL.out.kept0 Q1.out)).mono ?_
          rintro e v2 ⟨rfl, rfl⟩
          go_wp2_with fail
          refine (HRT.out _ (HL.out.kept0 Q1.out)).mono ?_
          rintro e v2 ⟨rfl, rfl⟩
          go_wp2_with fail
          refine (HWK.out _ (HL.out.kept0 Q1.out)).mono ?_
          rintro e v3 ⟨rfl, q3⟩
          have Q3 := Lib.hid (Q1.out.trans q3)
          clear q3
          go_wp2_with fail
          go_ret
          exact ⟨rfl, Q3.out⟩
end Go.Proofs.YtjnjldbegngooaaDoor
