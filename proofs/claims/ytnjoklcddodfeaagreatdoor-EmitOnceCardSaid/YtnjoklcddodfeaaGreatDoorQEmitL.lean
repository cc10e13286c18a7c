/-
  Package emit: a line's text.
-/
import Derived.Test.YtnjoklcddodfeaaGreatDoorQEmitB
import Derived.Test.YtnjoklcddodfeaaGreatDoorQEmitM
import Derived.Lib.Builder
namespace Go.Proofs.YtnjoklcddodfeaaGreatDoor
open Go.ChangeShapes Go.WideShapes Go.ChangeAt Go.RowKit
set_option linter.unusedVariables false
set_option linter.unusedSimpArgs false

variable {w w' w1 W : World}
def BldAt (B b : Nat) (l : List UInt8) (w : World) : Prop := Lib.IsBuilder 167 5 B b (Lib.byteCells l) w
theorem bldAt_kept {B b : Nat} {p : Value} {bs : List Value} (h : Lib.BuilderAt 167 5 B b p bs w) (hk : Kept [] w w') : Lib.BuilderAt 167 5 B b p bs w' := by
  obtain ⟨h1, v, h2, h3, h4⟩ := h
  refine ⟨h1, v, hk.heap h2 (by simp), ?_, h4⟩
  refine ⟨h3.1, ?_⟩
  rcases h3.2 with hn | ⟨g, cap', cur, hv, hb, hg, rest⟩
  · exact .inl hn
  · exact .inr ⟨g, cap', cur, hv, hb, hk.heap hg (by simp), rest⟩
theorem BldAt.kept0 {B b : Nat} {l : List UInt8} (h : BldAt B b l w) (hk : Kept [] w w') : BldAt B b l w' := h.imp (bldAt_kept · hk) (bldAt_kept · hk)
theorem bld_new (w : World) : BldAt w.heap.size w.heap.size [] (w.alloc (.cells #[.pointer none, .slice none 0 0] 167)) :=
  .inl ⟨Nat.le_refl _, .slice none 0 0, by show (w.heap.push _)[w.heap.size]? = _; simp, World.ownsRow_nil _ _ _ _, by simp [Value.ownBlock]⟩
theorem str_cells (l m : List UInt8) : Lib.byteCells l ++ Lib.strCells ⟨m.toArray⟩ = Lib.byteCells (l ++ m) := by
  simp [Lib.byteCells, Lib.strCells]
theorem byteCells_len (l : List UInt8) : (Lib.byteCells l).length = l.length := by simp [Lib.byteCells]
theorem str_join (l m : List UInt8) : (⟨l.toArray⟩ : ByteArray) ++ ⟨m.toArray⟩ = ⟨(l ++ m).toArray⟩ := by
  have h : ((⟨l.toArray⟩ : ByteArray) ++ ⟨m.toArray⟩).data = l.toArray ++ m.toArray := ByteArray.data_append
  rw [List.append_toArray] at h
  exact congrArg ByteArray.mk h
/-- a row of bytes is told, and nothing old has turned -/
def TxtIs (l : List UInt8) (w : World) (e : Ending) (w' : World) : Prop := e = .returned (.string ⟨l.toArray⟩) ∧ Kept [] w w'
theorem bld_write (B b : Nat) (l m : List UInt8) (w : World) (h : BldAt B b l w) (hl : l.length + m.length ≤ 100000000) (hB : B ≤ w.heap.size) :
    Calls Tryz.prog 89 #[.pointer (some ⟨b, 0, none⟩), .string ⟨m.toArray⟩] w fun e w' => e = .returned (.tuple #[.int .i64 (m.length : Int), .nilIface]) ∧ BldAt B b (l ++ m) w' ∧ Below B w w' := by
  have h1 := ws_c B b (Lib.byteCells l) ⟨m.toArray⟩ w h (by rw [byteCells_len]; show l.length + m.length ≤ _; omega) hB
  refine h1.mono ?_
  rintro e w' ⟨h2, h3, h4⟩
  refine ⟨h2, .inr ?_, h4⟩
  rw [str_cells] at h3
  exact h3
set_option maxHeartbeats 3200000 in
set_option maxRecDepth 100000 in
theorem line_c (word nm : List UInt8) (a : Option Addr) (c n : Nat) (ls : List Nat) (w : World) (hL : PowLaid w) (hn : ls.length = n) (hs : SlN w .u32 a ls) (hlt : ∀ x ∈ ls, x < 4294967296) (hlen : n ≤ 1000000) (hw : word.length ≤ 1000) (hm : nm.length ≤ 1000) :
    Calls Tryz.prog 45 #[.string ⟨word.toArray⟩, .string ⟨nm.toArray⟩, .slice a n c] w (TxtIs (lineB word nm ls) w) := by
  have HL := Lib.hid hL
  have HS := Lib.hid hs
  have HLT := Lib.hid hlt
  have HN := Lib.hid hn
  have HB0 := Lib.hid (bld_new w)
  obtain ⟨B, hB⟩ : ∃ B, B = w.heap.size := ⟨_, rfl⟩
  have HBW := Lib.hid hB
  have HW1 := Lib.hid (bld_write w.heap.size w.heap.size [] word _ HB0.out (by simp; omega) (by simp))
  clear hL hs hlt hn hB
  go_enter Tryz.func45, Tryz.ntmps45
  go_wp2_with fail
  refine HW1.out.mono ?_
  rintro e w1 ⟨rfl, hb1, k1⟩
  rw [List.nil_append] at hb1
  have K1 := Lib.hid (show Below w.heap.size w w1 from ((Below.refl _ w).alloc (Nat.le_refl _) _).trans k1)
  have HB1 := Lib.hid hb1
  clear k1 hb1 HW1 HB0
  cases nm with
  | nil =>
    have HBQ := Lib.hid (show BldAt B B word w1 from by rw [HBW.out]; exact HB1.out)
    have KL := Lib.hid (show Below B w w1 from by rw [HBW.out]; exact K1.out)
    clear HB1 K1
    obtain ⟨wL, hwL⟩ : ∃ V, V = w1 := ⟨_, rfl⟩
    rw [← hwL] at HBQ KL ⊢
    clear hwL
    rw [← HBW.out]
    have HBX := Lib.hid (show BldAt B B (word ++ wordsB (ls.take 0)) wL from by
      have h := HBQ.out
      simpa [wordsB] using h)
    go_wp2_with fail
    go_loopw [19] (fun v wr => ∃ k : Nat, k ≤ n ∧ v = .int .i64 k ∧ BldAt B B (word ++ wordsB (ls.take k)) wr ∧ Below B w wr) (fun v _ => n - (intOf v).toNat)
    case atStart => exact ⟨0, Nat.zero_le _, rfl, HBX.out, KL.out⟩
    case round =>
      obtain ⟨k, hk, rfl, hb, hkr⟩ := hrel
      have HBR := Lib.hid hb
      have KR := Lib.hid hkr
      clear hb hkr
      have KK := Lib.hid (show Kept [] w wr from .of_below (by rw [← HBW.out]; exact KR.out))
      have HSB := Lib.hid (show B ≤ wr.heap.size from by have := KR.out.size; have := HBW.out; omega)
      by_cases hlt : k < n
      · have hkl : k < ls.length := by rw [HN.out]; exact hlt
        obtain ⟨ad, hac⟩ : ∃ ad, a = some ad ∧ wr.cell? (ad.add k) = some (.int .u32 (ls[k] : Int)) := by
          obtain ⟨ad, h1, h2⟩ := HS.out k hkl
          exact ⟨ad, h1, KK.out.cell h2 (by simp)⟩
        obtain ⟨rfl, hcell⟩ := hac
        have hx := HLT.out _ (List.getElem_mem hkl)
        have HT := Lib.hid (show wordsB (ls.take (k + 1)) = wordsB (ls.take k) ++ (32 :: Lib.decDigits ls[k]) from by
          rw [List.take_succ_eq_append_getElem hkl, wordsB_snoc])
        have HWL := Lib.hid (show (wordsB (ls.take k)).length ≤ 21 * k from by
          have := wordsB_len (ls.take k) fun y hy => HLT.out y (List.mem_of_mem_take hy)
          rw [List.length_take] at this
          have e : min k ls.length = k := by omega
          rwa [e] at this)
        obtain ⟨x, hxx⟩ : ∃ x, x = ls[k] := ⟨_, rfl⟩
        rw [← hxx] at hcell hx HT
        have HFU := Lib.hid (fu_c x (by omega) wr (HL.out.kept0 KK.out))
        have hdl := dec_len hx
        have hcat : ∀ W, (Op.stringOp .add ⟨#[32]⟩ ⟨(Lib.decDigits x).toArray⟩).run Tryz.prog W = .ok (.string ⟨(32 :: Lib.decDigits x).toArray⟩) W := fun W => run_string_add_lists (P := Tryz.prog) W [32] (Lib.decDigits x) (by simp) (by omega)
        have q0 : (0 : Int) ≤ (k : Int) := by omega
        have q1 : (k : Int) < (n : Int) := by omega
        clear hxx hkl
        go_wp2_with fail
        refine HFU.out.mono ?_
        rintro e w3 ⟨rfl, k3⟩
        have HBR3 := Lib.hid (HBR.out.kept0 k3)
        have hPL := hw
        have HWR := Lib.hid (bld_write B B (word ++ wordsB (ls.take k)) (32 :: Lib.decDigits x) w3 HBR3.out (by simp only [List.length_append, List.length_cons]; have := HWL.out; omega) (Nat.le_trans HSB.out k3.size))
        have K3 := Lib.hid (show Below B w w3 from KR.out.trans (k3.below.mono HSB.out))
        clear k3 hPL
        go_wp2_with fail
        refine HWR.out.mono ?_
        rintro e w4 ⟨rfl, hb4, k4⟩
        have HB4 := Lib.hid hb4
        have K4 := Lib.hid (K3.out.trans k4)
        clear hb4 k4 hcat hcell
        go_wp2_with fail
        go_roundw
        case rel =>
          refine ⟨k + 1, by omega, by go_num, ?_, K4.out⟩
          rw [HT.out, ← List.append_assoc]
          exact HB4.out
        case measure => simp [intOf]; omega
      · obtain rfl : k = n := by omega
        have HST := Lib.hid (Tryz.Builder_String_any B B (word ++ wordsB (ls.take k)) wr HBR.out HSB.out)
        have HTK := Lib.hid (show ls.take k = ls from by rw [← HN.out]; exact List.take_length)
        go_wp2_with fail
        refine HST.out.mono ?_
        rintro e w3 ⟨rfl, k3⟩
        have K3 := Lib.hid (show Kept [] w w3 from .of_below (by rw [← HBW.out]; exact KR.out.trans k3))
        clear k3
        go_wp2_with fail
        go_ret
        refine ⟨?_, K3.out⟩
        rw [HTK.out]
        simp [lineB, nameB1, results, go_sem]
  | cons x r =>
    have HB1' := Lib.hid (show BldAt B B word w1 from by rw [HBW.out]; exact HB1.out)
    have HK1 := Lib.hid (show Below B w w1 from by rw [HBW.out]; exact K1.out)
    have HSB1 := Lib.hid (show B ≤ w1.heap.size from by have := HK1.out.size; have := HBW.out; omega)
    obtain ⟨nm, hnm⟩ : ∃ nm, nm = x :: r := ⟨_, rfl⟩
    have HNM := Lib.hid hnm
    have g0 : (nm == []) = false := by rw [hnm]; rfl
    have g1 : nm.isEmpty = false := by rw [hnm]; rfl
    rw [← hnm] at hm ⊢
    clear HB1 K1 hnm
    have hcat : ∀ W, (Op.stringOp .add ⟨#[32]⟩ ⟨nm.toArray⟩).run Tryz.prog W = .ok (.string ⟨(32 :: nm).toArray⟩) W := fun W => run_string_add_lists (P := Tryz.prog) W [32] nm (by simp) (by omega)
    have HW2 := Lib.hid (bld_write B B word (32 :: nm) w1 HB1'.out (by simp; omega) HSB1.out)
    rw [← HBW.out]
    go_wp2_with fail
    refine HW2.out.mono ?_
    rintro e wL ⟨rfl, hb2, k2⟩
    have HBQ := Lib.hid hb2
    have KL := Lib.hid (HK1.out.trans k2)
    clear hb2 k2 hcat
    have HBX := Lib.hid (show BldAt B B ((word ++ (32 :: nm)) ++ wordsB (ls.take 0)) wL from by
      have h := HBQ.out
      simpa [wordsB] using h)
    go_wp2_with fail
    go_loopw [19] (fun v wr => ∃ k : Nat, k ≤ n ∧ v = .int .i64 k ∧ BldAt B B ((word ++ (32 :: nm)) ++ wordsB (ls.take k)) wr ∧ Below B w wr) (fun v _ => n - (intOf v).toNat)
    case atStart => exact ⟨0, Nat.zero_le _, rfl, HBX.out, KL.out⟩
    case round =>
      obtain ⟨k, hk, rfl, hb, hkr⟩ := hrel
      have HBR := Lib.hid hb
      have KR := Lib.hid hkr
      clear hb hkr
      have KK := Lib.hid (show Kept [] w wr from .of_below (by rw [← HBW.out]; exact KR.out))
      have HSB := Lib.hid (show B ≤ wr.heap.size from by have := KR.out.size; have := HBW.out; omega)
      by_cases hlt : k < n
      · have hkl : k < ls.length := by rw [HN.out]; exact hlt
        obtain ⟨ad, hac⟩ : ∃ ad, a = some ad ∧ wr.cell? (ad.add k) = some (.int .u32 (ls[k] : Int)) := by
          obtain ⟨ad, h1, h2⟩ := HS.out k hkl
          exact ⟨ad, h1, KK.out.cell h2 (by simp)⟩
        obtain ⟨rfl, hcell⟩ := hac
        have hx := HLT.out _ (List.getElem_mem hkl)
        have HT := Lib.hid (show wordsB (ls.take (k + 1)) = wordsB (ls.take k) ++ (32 :: Lib.decDigits ls[k]) from by
          rw [List.take_succ_eq_append_getElem hkl, wordsB_snoc])
        have HWL := Lib.hid (show (wordsB (ls.take k)).length ≤ 21 * k from by
          have := wordsB_len (ls.take k) fun y hy => HLT.out y (List.mem_of_mem_take hy)
          rw [List.length_take] at this
          have e : min k ls.length = k := by omega
          rwa [e] at this)
        obtain ⟨x, hxx⟩ : ∃ x, x = ls[k] := ⟨_, rfl⟩
        rw [← hxx] at hcell hx HT
        have HFU := Lib.hid (fu_c x (by omega) wr (HL.out.kept0 KK.out))
        have hdl := dec_len hx
        have hcat : ∀ W, (Op.stringOp .add ⟨#[32]⟩ ⟨(Lib.decDigits x).toArray⟩).run Tryz.prog W = .ok (.string ⟨(32 :: Lib.decDigits x).toArray⟩) W := fun W => run_string_add_lists (P := Tryz.prog) W [32] (Lib.decDigits x) (by simp) (by omega)
        have q0 : (0 : Int) ≤ (k : Int) := by omega
        have q1 : (k : Int) < (n : Int) := by omega
        clear hxx hkl
        go_wp2_with fail
        refine HFU.out.mono ?_
        rintro e w3 ⟨rfl, k3⟩
        have HBR3 := Lib.hid (HBR.out.kept0 k3)
        have hPL := (show (word ++ (32 :: nm)).length ≤ 2001 from by simp; omega)
        have HWR := Lib.hid (bld_write B B ((word ++ (32 :: nm)) ++ wordsB (ls.take k)) (32 :: Lib.decDigits x) w3 HBR3.out (by simp only [List.length_append, List.length_cons]; have := HWL.out; omega) (Nat.le_trans HSB.out k3.size))
        have K3 := Lib.hid (show Below B w w3 from KR.out.trans (k3.below.mono HSB.out))
        clear k3 hPL
        go_wp2_with fail
        refine HWR.out.mono ?_
        rintro e w4 ⟨rfl, hb4, k4⟩
        have HB4 := Lib.hid hb4
        have K4 := Lib.hid (K3.out.trans k4)
        clear hb4 k4 hcat hcell
        go_wp2_with fail
        go_roundw
        case rel =>
          refine ⟨k + 1, by omega, by go_num, ?_, K4.out⟩
          rw [HT.out, ← List.append_assoc]
          exact HB4.out
        case measure => simp [intOf]; omega
      · obtain rfl : k = n := by omega
        have HST := Lib.hid (Tryz.Builder_String_any B B ((word ++ (32 :: nm)) ++ wordsB (ls.take k)) wr HBR.out HSB.out)
        have HTK := Lib.hid (show ls.take k = ls from by rw [← HN.out]; exact List.take_length)
        go_wp2_with fail
        refine HST.out.mono ?_
        rintro e w3 ⟨rfl, k3⟩
        have K3 := Lib.hid (show Kept [] w w3 from .of_below (by rw [← HBW.out]; exact KR.out.trans k3))
        clear k3
        go_wp2_with fail
        go_ret
        refine ⟨?_, K3.out⟩
        rw [HTK.out]
        rw [HNM.out]
        simp [lineB, nameB1, results, go_sem]
end Go.Proofs.YtnjoklcddodfeaaGreatDoor
