/-
  net.MayName: what a name may be.
-/
import Derived.Test.YtdmcdhkkbkgnbaaGreatP00
import Derived.Lib.Bytealg
import Derived.Lib.Small
import Derived.Lib.OthersKept
import Derived.Lib.TrimU
import Derived.Laws.Runes
import Derived.Deep.LoopGhost
import Derived.Deep.RegionHeld3
import Derived.Outline
namespace Go.Proofs.YtdmcdhkkbkgnbaaGreat
open Go.ChangeShapes Go.WideShapes Go.ChangeAt Go.RowKit
set_option linter.unusedVariables false
set_option linter.unusedSimpArgs false

theorem ibs_run (s : ByteArray) (c : Int) (w : World) : (callFunc 163 #[.string s, .int .u8 c]).run Tryz.prog w = .ok (.value (.int .i64 (Lib.indexByte s.data.toList c.toNat.toUInt8))) w := by
  rw [run_callFunc_extern Tryz.func163 (by kernel_rfl) (by kernel_rfl) (by kernel_rfl) (e := Extern.BytealgIndexByte.indexByte) (by kernel_rfl), Lib.run_indexByteString]
  rfl
theorem slite_ib (s : ByteArray) (c : Int) (w : World) : Calls Tryz.prog 161 #[.string s, .int .u8 c] w fun e w' => e = .returned (.int .i64 (Lib.indexByte s.data.toList c.toNat.toUInt8)) ∧ w = w' := by
  have h := ibs_run s c
  go_enter Tryz.func161, Tryz.ntmps161
  go_wp2
  go_ret
  exact ⟨rfl, rfl⟩
theorem strings_ib (s : ByteArray) (c : Int) (w : World) : Calls Tryz.prog 153 #[.string s, .int .u8 c] w fun e w' => e = .returned (.int .i64 (Lib.indexByte s.data.toList c.toNat.toUInt8)) ∧ w = w' := by
  go_enter Tryz.func153, Tryz.ntmps153
  go_wp2_with fail
  refine (slite_ib _ _ _).mono ?_
  rintro e w' ⟨rfl, rfl⟩
  go_wp2_with fail
  go_ret
  exact ⟨rfl, rfl⟩
theorem vr_true {r : Int} (h : (0 ≤ r ∧ r < 55296) ∨ (57343 < r ∧ r ≤ 1114111)) : Value.bool true = .bool (Lib.validRune r) := by
  unfold Lib.validRune; rw [decide_eq_true (by omega)]
theorem vr_false {r : Int} (h : ¬ ((0 ≤ r ∧ r < 55296) ∨ (57343 < r ∧ r ≤ 1114111))) : Value.bool false = .bool (Lib.validRune r) := by
  unfold Lib.validRune; rw [decide_eq_false (by omega)]
theorem valid_rune (r : Int) (w : World) : Calls Tryz.prog 154 #[.int .i32 r] w fun e w' => e = .returned (.bool (Lib.validRune r)) ∧ w = w' := by
  go_enter Tryz.func154, Tryz.ntmps154
  go_wp2
  all_goals (go_ret; refine ⟨?_, rfl⟩; first | exact congrArg Ending.returned (vr_true (by omega)) | exact congrArg Ending.returned (vr_false (by omega)))
def puncs : ByteArray := ⟨#[95, 64, 63]⟩
def IntIs (n : Int) (w : World) (e : Ending) (w' : World) : Prop := e = .returned (.int .i64 n) ∧ Kept [] w w'
set_option maxHeartbeats 800000 in
set_option maxRecDepth 100000 in
theorem idxrune_ascii (s : ByteArray) (r : Int) (w : World) (h0 : 0 ≤ r) (h1 : r < 128) :
    Calls Tryz.prog 137 #[.string s, .int .i32 r] w (IntIs (Lib.indexByte s.data.toList r.toNat.toUInt8) w) := by
  go_enter Tryz.func137, Tryz.ntmps137
  go_wp2_with fail
  refine (strings_ib _ _ _).mono ?_
  rintro e w' ⟨rfl, rfl⟩
  go_wp2_with fail
  go_ret
  exact ⟨rfl, .refl _ _⟩
set_option maxHeartbeats 800000 in
set_option maxRecDepth 100000 in
theorem idxrune_invalid (s : ByteArray) (r : Int) (w : World) (h0 : 128 ≤ r) (h1 : r ≠ 65533) (hv : Lib.validRune r = false) :
    Calls Tryz.prog 137 #[.string s, .int .i32 r] w (IntIs (-1) w) := by
  have hn : (r == 65533) = false := by rw [beq_eq_false_iff_ne]; exact h1
  have HV := Lib.hid hv
  clear h1 hv
  go_enter Tryz.func137, Tryz.ntmps137
  go_wp2_with fail
  refine (valid_rune _ _).mono ?_
  rw [HV.out]
  rintro e w' ⟨rfl, rfl⟩
  go_wp2_with fail
  go_ret
  exact ⟨rfl, .refl _ _⟩
set_option maxHeartbeats 800000 in
set_option maxRecDepth 100000 in
theorem idxrune_wide (S : ByteArray) (hS3 : S.size = 3) (hSA : ∀ b ∈ S.data.toList, b.toNat < 128) (r : Int) (w : World) (h0 : 128 ≤ r) (h1 : r ≠ 65533) (hv : Lib.validRune r = true) :
    Calls Tryz.prog 137 #[.string S, .int .i32 r] w (IntIs (-1) w) := by
  have p1 : 1 < S.size := by rw [hS3]; decide
  have p2 : 2 < S.size := by rw [hS3]; decide
  obtain ⟨c1, hc1⟩ : ∃ c, c = S[1]'p1 := ⟨_, rfl⟩
  obtain ⟨c2, hc2⟩ : ∃ c, c = S[2]'p2 := ⟨_, rfl⟩
  have hS1 : c1.toNat < 128 := by rw [hc1]; exact hSA _ (Array.getElem_mem_toList (xs := S.data) p1)
  have hS2 : c2.toNat < 128 := by rw [hc2]; exact hSA _ (Array.getElem_mem_toList (xs := S.data) p2)
  have hn : (r == 65533) = false := by rw [beq_eq_false_iff_ne]; exact h1
  have HV := Lib.hid hv
  obtain ⟨f2, f4, f8⟩ := encode_facts r (by rw [validRune_eq]; exact hv) h0
  have hcv : ∀ w, (convert 21 9 (.int .i32 r)).run Tryz.prog w = .ok (.string (Utf8.encode r)) w := fun w => run_convert_int_string w _ _ _ _ (by rw [Tryz.underlying21]; rfl) Tryz.underlying9
  clear h1 hv
  generalize Utf8.encode r = rs at *
  obtain ⟨z, hz⟩ : ∃ z, z = rs.size := ⟨_, rfl⟩
  rw [← hz] at f2 f4
  have f8 := f8 (by omega)
  have h3 : z = 2 ∨ z = 3 ∨ z = 4 := by omega
  obtain ⟨c, hc⟩ : ∃ c, c = rs[z - 1]'(by omega) := ⟨_, rfl⟩
  have f9 : 128 ≤ c.toNat := by rw [hc]; simpa only [hz] using f8
  have HZ := Lib.hid (show rs.size = z from hz.symm)
  have HC := Lib.hid (show ∀ (i : Nat) (h : i < rs.size), i + 1 = z → rs[i]'h = c from fun i h he => by subst hc; congr 1; omega)
  clear f2 f4 f8 hc hz
  have hI := Lib.hid (fun (a e : Nat) (w : World) => show Calls Tryz.prog 153 #[.string (S.extract a e), .int .u8 (c.toNat : Int)] w fun e w' => e = .returned (.int .i64 (-1)) ∧ w = w' from (strings_ib (S.extract a e) (c.toNat : Int) w).mono fun e' w' h => by
    rw [← Lib.firstIdx_eq, show ((c.toNat : Int).toNat.toUInt8) = c from by simp, firstIdx_ascii S a e c hSA f9] at h
    exact h)
  have hE := Lib.hid (fun (w : World) => show Calls Tryz.prog 153 #[.string ByteArray.empty, .int .u8 (c.toNat : Int)] w fun e w' => e = .returned (.int .i64 (-1)) ∧ w = w' from (strings_ib ByteArray.empty (c.toNat : Int) w).mono fun e' w' h => h)
  have hn1 : ((c1.toNat : Int) != (c.toNat : Int)) = true := by rw [bne_iff_ne]; omega
  have hn2 : ((c2.toNat : Int) != (c.toNat : Int)) = true := by rw [bne_iff_ne]; omega
  clear hSA hS1 hS2
  rcases h3 with rfl | rfl | rfl
  · have hz2 := HZ.out
    have hlt : 1 < rs.size := by omega
    have hcc : rs[1]'hlt = c := HC.out 1 hlt rfl
    have hcc1 : S[1]'p1 = c1 := hc1.symm
    clear hc1 hc2
    go_enter Tryz.func137, Tryz.ntmps137
    go_wp2_with fail
    refine (valid_rune _ _).mono ?_
    rw [HV.out]
    rintro e w' ⟨rfl, rfl⟩
    go_wp2_with fail
    go_step3
    go_wp2_with fail
    refine wp_loop_rounds 1 ?_
    rw [rounds_succ]
    go_wp2_with fail
    go_step3
    go_wp2_with fail
    go_quiet (fail)
    go_wp2_with fail
    go_quiet ((go_at_call 153; with_reducible exact q_same2 (hI.out _ _ _)))
    go_wp2_with fail
    rw [Exit.noGoto_ret]
    go_simp
    go_ret
    exact ⟨rfl, (Kept.refl [] w).drewN _⟩
  · have hz2 := HZ.out
    have hlt : 2 < rs.size := by omega
    have hcc : rs[2]'hlt = c := HC.out 2 hlt rfl
    have hcc1 : S[2]'p2 = c2 := hc2.symm
    have hw3 : IntKind.i64.wrap 3 = 3 := by decide
    clear hc1 hc2
    go_enter Tryz.func137, Tryz.ntmps137
    go_wp2_with fail
    refine (valid_rune _ _).mono ?_
    rw [HV.out]
    rintro e w' ⟨rfl, rfl⟩
    go_wp2_with fail
    go_step3
    go_wp2_with fail
    refine wp_loop_rounds 1 ?_
    rw [rounds_succ]
    go_wp2_with fail
    go_step3
    go_wp2_with fail
    go_quiet (fail)
    go_wp2_with fail
    go_quiet ((go_at_call 153; with_reducible exact q_same2 (hE.out _)))
    go_wp2_with fail
    rw [Exit.noGoto_ret]
    go_simp
    go_ret
    exact ⟨rfl, (Kept.refl [] w).drewN _⟩
  · have hz2 := HZ.out
    go_enter Tryz.func137, Tryz.ntmps137
    go_wp2_with fail
    refine (valid_rune _ _).mono ?_
    rw [HV.out]
    rintro e w' ⟨rfl, rfl⟩
    go_wp2_with fail
    go_step3
    go_wp2_with fail
    refine wp_loop_rounds 1 ?_
    rw [rounds_succ]
    go_wp2_with fail
    rw [Exit.noGoto_ret]
    go_ret
    exact ⟨rfl, .refl _ _⟩
set_option maxHeartbeats 800000 in
set_option maxRecDepth 100000 in
theorem idxrune_err (w : World) : Calls Tryz.prog 137 #[.string puncs, .int .i32 65533] w (IntIs (-1) w) := by
  unfold puncs
  go_enter Tryz.func137, Tryz.ntmps137
  have hdec : ∀ pos, pos < 3 → ∃ b, b < 128 ∧ Utf8.decode ⟨#[95, 64, 63]⟩ pos = (b, 1) := fun pos h => by
    match pos, h with
    | 0, _ => exact ⟨95, by omega, by decide⟩
    | 1, _ => exact ⟨64, by omega, by decide⟩
    | 2, _ => exact ⟨63, by omega, by decide⟩
  have HD := Lib.hid hdec; clear hdec
  go_wp2_with fail
  go_loopg [] 3 (fun gf wx => ∃ pos : Nat, wx.heap[w.heap.size]? = some (.stringIter ⟨#[95, 64, 63]⟩ pos) ∧ Kept [] w wx ∧ pos + gf = 3)
  case atStart => exact ⟨0, World.iter_heap w _ 0, (Kept.refl [] w).alloc _, by omega⟩
  case round =>
    obtain ⟨pos, hit, hbw, hfu⟩ := hrel
    by_cases hps : pos < 3
    · obtain ⟨g', rfl⟩ : ∃ g', gk = g' + 1 := ⟨gk - 1, by omega⟩
      obtain ⟨b, hb, hd⟩ := HD.out pos hps
      have hnx : ∀ ty, (Instr.next (.pointer (some ⟨w.heap.size, 0, none⟩)) true ty).run Tryz.prog wr = _ := fun ty => Lib.run_next_any_at wr w.heap.size _ pos ty hit hps
      rw [hd] at hnx
      have hit2 := Lib.iterAt_heap wr w.heap.size _ pos (pos + 1) hit
      have hbw2 : Kept [] w (wr.iterAt w.heap.size ⟨#[95, 64, 63]⟩ (pos + 1)) := Kept.of_below (Lib.below_iterAt hbw.below (k := w.heap.size) (Nat.le_refl _) _ (pos + 1))
      have hbn : ((b : Int) == 65533) = false := by rw [beq_eq_false_iff_ne]; omega
      clear hd
      go_wp2_with fail
      go_roundg g'
      case measure => omega
      case rel => exact ⟨pos + 1, hit2, hbw2, by omega⟩
    · have hnx : ∀ ty, (Instr.next (.pointer (some ⟨w.heap.size, 0, none⟩)) true ty).run Tryz.prog wr = _ := fun ty => Lib.run_next_end_at wr w.heap.size _ pos ty hit hps
      go_wp2_with fail
      go_ret
      exact ⟨rfl, hbw⟩
theorem puncs_ascii : ∀ b ∈ puncs.data.toList, b.toNat < 128 := by decide
def punc (r : Nat) : Bool := decide (r = 95 ∨ r = 64 ∨ r = 63)
theorem idx_puncs (r : Nat) (h : r < 128) : decide ((0 : Int) ≤ Lib.indexByte puncs.data.toList ((r : Int).toNat.toUInt8)) = punc r := by
  have key : ∀ r : Fin 128, decide ((0 : Int) ≤ Lib.indexByte puncs.data.toList (((r.val : Nat) : Int).toNat.toUInt8)) = punc r.val := by decide
  exact key ⟨r, h⟩
def BoolIs (b : Bool) (w : World) (e : Ending) (w' : World) : Prop := e = .returned (.bool b) ∧ Kept [] w w'
theorem contains_rune (r : Nat) (w : World) (h : r ≤ 1114111) : Calls Tryz.prog 112 #[.string puncs, .int .i32 r] w (BoolIs (punc r) w) := by
  by_cases h1 : r < 128
  · have H := Lib.hid (idxrune_ascii puncs (r : Int) w (by omega) (by omega))
    have HP := Lib.hid (idx_puncs r h1)
    generalize Lib.indexByte puncs.data.toList ((r : Int).toNat.toUInt8) = i at *
    generalize puncs = S at *
    go_enter Tryz.func112, Tryz.ntmps112
    go_wp2_with fail
    refine H.out.mono ?_
    rintro e w' ⟨rfl, hk⟩
    have HK := Lib.hid hk
    clear hk
    go_wp2_with fail
    go_ret
    exact ⟨by rw [← HP.out]; rfl, HK.out⟩
  · have H : Calls Tryz.prog 137 #[.string puncs, .int .i32 r] w (IntIs (-1) w) := by
      by_cases h2 : r = 65533
      · subst h2; exact idxrune_err w
      · cases hv : Lib.validRune (r : Int)
        · exact idxrune_invalid puncs r w (by omega) (by omega) hv
        · exact idxrune_wide puncs rfl puncs_ascii r w (by omega) (by omega) hv
    have H2 := Lib.hid H
    have HP := Lib.hid (show punc r = false from by unfold punc; rw [decide_eq_false]; omega)
    clear H
    generalize puncs = S at *
    go_enter Tryz.func112, Tryz.ntmps112
    go_wp2_with fail
    refine H2.out.mono ?_
    rintro e w' ⟨rfl, hk⟩
    have HK := Lib.hid hk
    clear hk
    go_wp2_with fail
    go_ret
    exact ⟨by rw [HP.out]; rfl, HK.out⟩
/-- may stand in a name -/
def okR (r : Nat) : Bool := decide (97 ≤ r ∧ r ≤ 122) || decide (65 ≤ r ∧ r ≤ 90) || decide (48 ≤ r ∧ r ≤ 57) || punc r
theorem okR_iff (r : Nat) : okR r = true ↔ (97 ≤ r ∧ r ≤ 122) ∨ (65 ≤ r ∧ r ≤ 90) ∨ (48 ≤ r ∧ r ≤ 57) ∨ r = 95 ∨ r = 64 ∨ r = 63 := by
  unfold okR punc; simp only [Bool.or_eq_true, decide_eq_true_eq]; omega
set_option maxHeartbeats 1600000 in
theorem odd_c (r : Nat) (w : World) (h : r ≤ 1114111) : Calls Tryz.prog 111 #[.int .i32 r] w (BoolIs (!okR r) w) := by
  have HC := Lib.hid (contains_rune r w h)
  have hcases : (97 ≤ r ∧ r ≤ 122) ∨ (65 ≤ r ∧ r ≤ 90) ∨ (48 ≤ r ∧ r ≤ 57) ∨ r < 48 ∨ (57 < r ∧ r < 65) ∨ (90 < r ∧ r < 97) ∨ 122 < r := by omega
  have HY := Lib.hid (fun (h : (97 ≤ r ∧ r ≤ 122) ∨ (65 ≤ r ∧ r ≤ 90) ∨ (48 ≤ r ∧ r ≤ 57)) => show okR r = true from (okR_iff r).2 (by omega))
  have HN := Lib.hid (fun (h : ¬ ((97 ≤ r ∧ r ≤ 122) ∨ (65 ≤ r ∧ r ≤ 90) ∨ (48 ≤ r ∧ r ≤ 57))) => show okR r = punc r from by
    rw [Bool.eq_iff_iff, okR_iff]; unfold punc; rw [decide_eq_true_eq]; omega)
  have HPU : puncs = ⟨#[95, 64, 63]⟩ := rfl
  rw [HPU] at HC
  clear HPU
  rcases hcases with h1 | h1 | h1 | h1 | h1 | h1 | h1
  · have HR := Lib.hid (HY.out (by omega))
    clear HY HN HC
    go_enter Tryz.func111, Tryz.ntmps111
    go_wp2
    go_ret
    exact ⟨by rw [HR.out]; rfl, .refl _ _⟩
  · have HR := Lib.hid (HY.out (by omega))
    clear HY HN HC
    go_enter Tryz.func111, Tryz.ntmps111
    go_wp2
    go_ret
    exact ⟨by rw [HR.out]; rfl, .refl _ _⟩
  · have HR := Lib.hid (HY.out (by omega))
    clear HY HN HC
    go_enter Tryz.func111, Tryz.ntmps111
    go_wp2
    go_ret
    exact ⟨by rw [HR.out]; rfl, .refl _ _⟩
  · have HR := Lib.hid (HN.out (by omega))
    clear HY HN
    have e1 : decide ((r : Int) < 97) = true := decide_eq_true (by omega)
    have e2 : decide (122 < (r : Int)) = false := decide_eq_false (by omega)
    have e3 : decide ((r : Int) < 65) = true := decide_eq_true (by omega)
    have e4 : decide (90 < (r : Int)) = false := decide_eq_false (by omega)
    have e5 : decide ((r : Int) < 48) = true := decide_eq_true (by omega)
    have e6 : decide (57 < (r : Int)) = false := decide_eq_false (by omega)
    generalize punc r = b at *
    go_enter Tryz.func111, Tryz.ntmps111
    go_wp2_with fail
    refine HC.out.mono ?_
    rintro e w' ⟨rfl, hk⟩
    have HK := Lib.hid hk
    clear hk
    go_wp2_with fail
    go_ret
    exact ⟨by rw [HR.out]; rfl, HK.out⟩
  · have HR := Lib.hid (HN.out (by omega))
    clear HY HN
    have e1 : decide ((r : Int) < 97) = true := decide_eq_true (by omega)
    have e2 : decide (122 < (r : Int)) = false := decide_eq_false (by omega)
    have e3 : decide ((r : Int) < 65) = true := decide_eq_true (by omega)
    have e4 : decide (90 < (r : Int)) = false := decide_eq_false (by omega)
    have e5 : decide ((r : Int) < 48) = false := decide_eq_false (by omega)
    have e6 : decide (57 < (r : Int)) = true := decide_eq_true (by omega)
    generalize punc r = b at *
    go_enter Tryz.func111, Tryz.ntmps111
    go_wp2_with fail
    refine HC.out.mono ?_
    rintro e w' ⟨rfl, hk⟩
    have HK := Lib.hid hk
    clear hk
    go_wp2_with fail
    go_ret
    exact ⟨by rw [HR.out]; rfl, HK.out⟩
  · have HR := Lib.hid (HN.out (by omega))
    clear HY HN
    have e1 : decide ((r : Int) < 97) = true := decide_eq_true (by omega)
    have e2 : decide (122 < (r : Int)) = false := decide_eq_false (by omega)
    have e3 : decide ((r : Int) < 65) = false := decide_eq_false (by omega)
    have e4 : decide (90 < (r : Int)) = true := decide_eq_true (by omega)
    have e5 : decide ((r : Int) < 48) = false := decide_eq_false (by omega)
    have e6 : decide (57 < (r : Int)) = true := decide_eq_true (by omega)
    generalize punc r = b at *
    go_enter Tryz.func111, Tryz.ntmps111
    go_wp2_with fail
    refine HC.out.mono ?_
    rintro e w' ⟨rfl, hk⟩
    have HK := Lib.hid hk
    clear hk
    go_wp2_with fail
    go_ret
    exact ⟨by rw [HR.out]; rfl, HK.out⟩
  · have HR := Lib.hid (HN.out (by omega))
    clear HY HN
    have e1 : decide ((r : Int) < 97) = false := decide_eq_false (by omega)
    have e2 : decide (122 < (r : Int)) = true := decide_eq_true (by omega)
    have e3 : decide ((r : Int) < 65) = false := decide_eq_false (by omega)
    have e4 : decide (90 < (r : Int)) = true := decide_eq_true (by omega)
    have e5 : decide ((r : Int) < 48) = false := decide_eq_false (by omega)
    have e6 : decide (57 < (r : Int)) = true := decide_eq_true (by omega)
    generalize punc r = b at *
    go_enter Tryz.func111, Tryz.ntmps111
    go_wp2_with fail
    refine HC.out.mono ?_
    rintro e w' ⟨rfl, hk⟩
    have HK := Lib.hid hk
    clear hk
    go_wp2_with fail
    go_ret
    exact ⟨by rw [HR.out]; rfl, HK.out⟩
theorem decode_hi (s : ByteArray) (i : Nat) (h : i < s.size) (hb : 128 ≤ (s[i]'h).toNat) : 128 ≤ (Utf8.decode s i).1 := by
  have e0 : (s.get! (i + 0)).toNat = (s[i]'h).toNat := by
    rw [Nat.add_zero]
    obtain ⟨bs⟩ := s
    show (bs[i]!).toNat = (bs[i]'h).toNat
    rw [getElem!_pos bs i h]
  unfold Utf8.decode
  simp only [e0]
  rw [if_neg (by omega)]
  have hr : 128 ≤ Utf8.runeError := by decide
  repeat' split
  all_goals first | exact hr | (simp only [Bool.and_eq_true, decide_eq_true_eq, ge_iff_le] at *; omega)
def allOk (s : ByteArray) : Bool := s.data.toList.all fun b => okR b.toNat
theorem allOk_iff (s : ByteArray) : allOk s = true ↔ ∀ i (h : i < s.size), okR (s[i]'h).toNat = true := by
  unfold allOk
  rw [List.all_eq_true]
  constructor
  · intro h i hi
    exact h _ (Array.getElem_mem_toList (xs := s.data) hi)
  · intro h b hb
    obtain ⟨i, hi, e⟩ := List.getElem_of_mem hb
    have hi' : i < s.size := by rw [Array.length_toList] at hi; exact hi
    have := h i hi'
    have e2 : s[i]'hi' = b := e
    rw [e2] at this
    exact this
theorem allOk_no (s : ByteArray) (i : Nat) (h : i < s.size) (hn : okR (s[i]'h).toNat = false) : allOk s = false := by
  cases ha : allOk s
  · rfl
  · rw [(allOk_iff s).1 ha i h] at hn; cases hn
def NegIs (b : Bool) (w : World) (e : Ending) (w' : World) : Prop := ∃ r : Int, e = .returned (.int .i64 r) ∧ decide (r < 0) = b ∧ Kept [] w w'
set_option maxHeartbeats 1600000 in
set_option maxRecDepth 100000 in
theorem idxfunc_odd (s : ByteArray) (w : World) (hs : s.size ≤ 140737488351232) : Calls Tryz.prog 138 #[.string s, .func (.func 111) #[] #[], .bool true] w (NegIs (allOk s) w) := by
  go_enter Tryz.func138, Tryz.ntmps138
  go_wp2_with fail
  go_loopg [] s.size (fun gf wx => ∃ pos : Nat, wx.heap[w.heap.size]? = some (.stringIter s pos) ∧ Kept [] w wx ∧ pos + gf = s.size ∧ ∀ j (h : j < s.size), j < pos → okR (s[j]'h).toNat = true)
  case atStart => exact ⟨0, World.iter_heap w _ 0, (Kept.refl [] w).alloc _, by omega, fun j h h2 => by omega⟩
  case round =>
    obtain ⟨pos, hit, hbw, hfu, hall⟩ := hrel
    have HALL := Lib.hid hall
    clear hall
    by_cases hps : pos < s.size
    · obtain ⟨g', rfl⟩ : ∃ g', gk = g' + 1 := ⟨gk - 1, by omega⟩
      have hnx : ∀ ty, (Instr.next (.pointer (some ⟨w.heap.size, 0, none⟩)) true ty).run Tryz.prog wr = _ := fun ty => Lib.run_next_any_at wr w.heap.size _ pos ty hit hps
      have HR := Lib.hid (Lib.rune_le s pos)
      obtain ⟨c, hc⟩ : ∃ c, c = (s[pos]'hps).toNat := ⟨_, rfl⟩
      have HC := Lib.hid hc
      by_cases h128 : c < 128
      · have hd : Utf8.decode s pos = (c, 1) := by rw [hc]; exact decode_ascii s pos hps (by omega)
        rw [hd] at hnx HR
        have hit2 := Lib.iterAt_heap wr w.heap.size _ pos (pos + 1) hit
        have hbw2 : Kept [] w (wr.iterAt w.heap.size s (pos + 1)) := Kept.of_below (Lib.below_iterAt hbw.below (k := w.heap.size) (Nat.le_refl _) _ (pos + 1))
        simp only at hnx HR
        obtain ⟨W, hWd⟩ : ∃ W, wr.iterAt w.heap.size s (pos + 1) = W := ⟨_, rfl⟩
        rw [hWd] at hnx hit2 hbw2
        have HO := Lib.hid (odd_c c W HR.out)
        clear hd hit hbw hc hWd
        cases hok : okR c
        · have HN := Lib.hid (allOk_no s pos hps (by rw [← HC.out]; exact hok))
          rw [hok] at HO
          clear hok
          go_wp2_with fail
          refine HO.out.mono ?_
          rintro e W2 ⟨rfl, hk⟩
          have HK := Lib.hid (hbw2.trans hk)
          clear hk
          go_wp2_with fail
          go_ret
          exact ⟨_, rfl, by rw [HN.out]; exact decide_eq_false (by omega), HK.out⟩
        · have HY := Lib.hid (show okR (s[pos]'hps).toNat = true from by rw [← HC.out]; exact hok)
          rw [hok] at HO
          clear hok
          go_wp2_with fail
          refine HO.out.mono ?_
          rintro e W2 ⟨rfl, hk⟩
          have HK := Lib.hid (hbw2.trans hk)
          have HI := Lib.hid (hk.heap hit2 (by simp))
          clear hk
          go_wp2_with fail
          go_roundg g'
          case measure => omega
          case rel => exact ⟨pos + 1, HI.out, HK.out, by omega, fun j h h2 => by
            rcases Nat.lt_or_ge j pos with h3 | h3
            · exact HALL.out j h h3
            · have : j = pos := by omega
              subst this; exact HY.out⟩
      · have hd := decode_hi s pos hps (by omega)
        obtain ⟨R, hR⟩ : ∃ R, (Utf8.decode s pos).1 = R := ⟨_, rfl⟩
        obtain ⟨K, hK⟩ : ∃ K, (Utf8.decode s pos).2 = K := ⟨_, rfl⟩
        rw [hR, hK] at hnx
        rw [hR] at HR hd
        have hbw2 : Kept [] w (wr.iterAt w.heap.size s (pos + K)) := Kept.of_below (Lib.below_iterAt hbw.below (k := w.heap.size) (Nat.le_refl _) _ (pos + K))
        obtain ⟨W, hWd⟩ : ∃ W, wr.iterAt w.heap.size s (pos + K) = W := ⟨_, rfl⟩
        rw [hWd] at hnx hbw2
        have hok : okR R = false := by
          cases h : okR R
          · rfl
          · have := (okR_iff R).1 h; omega
        have HO := Lib.hid (odd_c R W HR.out)
        rw [hok] at HO
        have HN := Lib.hid (allOk_no s pos hps (by
          cases h : okR (s[pos]'hps).toNat
          · rfl
          · have := (okR_iff _).1 h; omega))
        clear hd hit hbw hR hK hWd hc hok
        go_wp2_with fail
        refine HO.out.mono ?_
        rintro e W2 ⟨rfl, hk⟩
        have HK := Lib.hid (hbw2.trans hk)
        clear hk
        go_wp2_with fail
        go_ret
        exact ⟨_, rfl, by rw [HN.out]; exact decide_eq_false (by omega), HK.out⟩
    · have hnx : ∀ ty, (Instr.next (.pointer (some ⟨w.heap.size, 0, none⟩)) true ty).run Tryz.prog wr = _ := fun ty => Lib.run_next_end_at wr w.heap.size _ pos ty hit hps
      have HY := Lib.hid (show allOk s = true from (allOk_iff s).2 fun j h => HALL.out j h (by omega))
      go_wp2_with fail
      go_ret
      exact ⟨_, rfl, by rw [HY.out]; rfl, hbw⟩
theorem index_odd (s : ByteArray) (w : World) (hs : s.size ≤ 140737488351232) : Calls Tryz.prog 113 #[.string s, .func (.func 111) #[] #[]] w (NegIs (allOk s) w) := by
  have H := Lib.hid (idxfunc_odd s w hs)
  go_enter Tryz.func113, Tryz.ntmps113
  go_wp2_with fail
  refine H.out.mono ?_
  rintro e w1 ⟨r, rfl, hr, hk⟩
  have HR := Lib.hid hr
  have HK := Lib.hid hk
  clear hr hk
  go_wp2_with fail
  go_ret
  exact ⟨r, rfl, HR.out, HK.out⟩
theorem toList_len (s : ByteArray) : s.toList.length = s.size := by rw [ByteArray.toList_eq]; exact (Lib.size_eq s).symm
/-- a name that may be -/
def mayB (s : ByteArray) : Bool := decide (0 < s.size) && decide (s.size ≤ 80) && allOk s
set_option maxHeartbeats 800000 in
theorem mayname_c (s : ByteArray) (w : World) (hs : s.size ≤ 140737488351232) : Calls Tryz.prog 65 #[.string s] w (BoolIs (mayB s) w) := by
  have H := Lib.hid (index_odd s w hs)
  have HM := Lib.hid (show mayB s = (decide (0 < s.size) && decide (s.size ≤ 80) && allOk s) from rfl)
  obtain ⟨b, hb⟩ : ∃ b, b = allOk s := ⟨_, rfl⟩
  rw [← hb] at H HM
  clear hb
  by_cases h0 : s.size = 0
  · have HF := Lib.hid (show mayB s = false from by rw [HM.out]; simp [h0])
    have e1 : s.toList = [] := by
      apply List.eq_nil_of_length_eq_zero
      rw [toList_len]; exact h0
    clear H HM h0
    go_enter Tryz.func65, Tryz.ntmps65
    go_wp2_with fail
    go_ret
    exact ⟨by rw [HF.out]; rfl, .refl _ _⟩
  · have e2 : (!s.toList.isEmpty) = true := by
      have : s.toList.length ≠ 0 := by rw [toList_len]; exact h0
      cases h : s.toList
      · rw [h] at this; simp at this
      · rfl
    have e1 : ¬ s.toList = [] := by
      intro h
      rw [h] at e2; simp at e2
    by_cases h80 : s.size ≤ 80
    · have HF := Lib.hid (show mayB s = b from by rw [HM.out]; simp [h80]; omega)
      clear HM h0
      go_enter Tryz.func65, Tryz.ntmps65
      go_wp2_with fail
      refine H.out.mono ?_
      rintro e w1 ⟨r, rfl, hr, hk⟩
      have HK := Lib.hid hk
      clear hk
      go_wp2_with fail
      go_ret
      exact ⟨by rw [HF.out]; rfl, HK.out⟩
    · have HF := Lib.hid (show mayB s = false from by rw [HM.out]; simp [h80])
      clear H HM h0
      go_enter Tryz.func65, Tryz.ntmps65
      go_wp2_with fail
      go_ret
      exact ⟨by rw [HF.out]; rfl, .refl _ _⟩
end Go.Proofs.YtdmcdhkkbkgnbaaGreat
