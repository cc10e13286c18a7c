/-
  TokParts: a text of blanks and comments alone.
-/
import Derived.Test.YtjnjldbegngooaaDoorTokD
import Derived.Test.YtjnjldbegngooaaDoorTokPaN
import Derived.Lib.TrimU
import Derived.Laws.Runes
import Derived.Deep.LoopGhost
namespace Go.Proofs.YtjnjldbegngooaaDoor
open Go.ChangeShapes Go.WideShapes Go.ChangeAt Go.RowKit
set_option linter.unusedVariables false
set_option linter.unusedSimpArgs false

variable {w w' w1 W : World}
theorem vr_true {r : Int} (h : (0 ≤ r ∧ r < 55296) ∨ (57343 < r ∧ r ≤ 1114111)) : Value.bool true = .bool (Lib.validRune r) := by
  unfold Lib.validRune; rw [decide_eq_true (by omega)]
theorem vr_false {r : Int} (h : ¬ ((0 ≤ r ∧ r < 55296) ∨ (57343 < r ∧ r ≤ 1114111))) : Value.bool false = .bool (Lib.validRune r) := by
  unfold Lib.validRune; rw [decide_eq_false (by omega)]
theorem valid_rune (r : Int) (w : World) : Calls Tryd.prog 75 #[.int .i32 r] w fun e w' => e = .returned (.bool (Lib.validRune r)) ∧ w = w' := by
  go_enter Tryd.func75, Tryd.ntmps75
  go_wp2
  all_goals (go_ret; refine ⟨?_, rfl⟩; first | exact congrArg Ending.returned (vr_true (by omega)) | exact congrArg Ending.returned (vr_false (by omega)))
def IntIs (n : Int) (w : World) (e : Ending) (w' : World) : Prop := e = .returned (.int .i64 n) ∧ Kept [] w w'
set_option maxHeartbeats 800000 in
set_option maxRecDepth 100000 in
theorem idxrune_ascii (s : ByteArray) (r : Int) (w : World) (h0 : 0 ≤ r) (h1 : r < 128) :
    Calls Tryd.prog 62 #[.string s, .int .i32 r] w (IntIs (Lib.indexByte s.data.toList r.toNat.toUInt8) w) := by
  go_enter Tryd.func62, Tryd.ntmps62
  go_wp2_with fail
  refine (strings_ib _ _ _).mono ?_
  rintro e w' ⟨rfl, rfl⟩
  go_wp2_with fail
  go_ret
  exact ⟨rfl, .refl _ _⟩
set_option maxHeartbeats 800000 in
set_option maxRecDepth 100000 in
theorem idxrune_two (S : ByteArray) (hS3 : S.size = 4) (hSA : ∀ b ∈ S.data.toList, b.toNat < 128) (r : Int) (w : World) (h0 : 128 ≤ r) (h1 : r < 2048) :
    Calls Tryd.prog 62 #[.string S, .int .i32 r] w (IntIs (-1) w) := by
  have p1 : 1 < S.size := by rw [hS3]; decide
  obtain ⟨c1, hc1⟩ : ∃ c, c = S[1]'p1 := ⟨_, rfl⟩
  have hS1 : c1.toNat < 128 := by rw [hc1]; exact hSA _ (Array.getElem_mem_toList (xs := S.data) p1)
  have hn : (r == 65533) = false := by rw [beq_eq_false_iff_ne]; omega
  have hv : Lib.validRune r = true := by unfold Lib.validRune; exact decide_eq_true (by omega)
  have HV := Lib.hid hv
  obtain ⟨f2, f4, f8⟩ := encode_facts r (by rw [validRune_eq]; exact hv) h0
  have hcv : ∀ w, (convert 21 9 (.int .i32 r)).run Tryd.prog w = .ok (.string (Utf8.encode r)) w := fun w => run_convert_int_string w _ _ _ _ (by rw [Tryd.underlying21]; rfl) Tryd.underlying9
  have hsz : (Utf8.encode r).size = 2 := by
    have hv2 : Utf8.valid r = true := by rw [validRune_eq]; exact hv
    unfold Utf8.encode
    simp only [hv2, if_true]
    rw [if_neg (by omega), if_pos (by omega)]
    rfl
  clear hv
  generalize Utf8.encode r = rs at *
  have f8 := f8 (by omega)
  obtain ⟨c, hc⟩ : ∃ c, c = rs[1]'(by omega) := ⟨_, rfl⟩
  have f9 : 128 ≤ c.toNat := by rw [hc]; simpa only [hsz] using f8
  have hI := Lib.hid (fun (a e : Nat) (w : World) => show Calls Tryd.prog 40 #[.string (S.extract a e), .int .u8 (c.toNat : Int)] w fun e w' => e = .returned (.int .i64 (-1)) ∧ w = w' from (strings_ib (S.extract a e) (c.toNat : Int) w).mono fun e' w' h => by
    rw [← Lib.firstIdx_eq, show ((c.toNat : Int).toNat.toUInt8) = c from by simp, firstIdx_ascii S a e c hSA f9] at h
    exact h)
  have hn1 : ((c1.toNat : Int) != (c.toNat : Int)) = true := by rw [bne_iff_ne]; omega
  have hlt : 1 < rs.size := by omega
  have hcc : rs[1]'hlt = c := hc.symm
  have hcc1 : S[1]'p1 = c1 := hc1.symm
  clear hSA hS1 hc1 hc f2 f4 f8
  go_enter Tryd.func62, Tryd.ntmps62
  go_wp2_with fail
  refine (valid_rune _ _).mono ?_
  rw [HV.out]
  rintro e w' ⟨rfl, rfl⟩
  go_wp2_with fail
  go_step3
  go_wp2_with fail
  refine wp_loop_rounds 1 ?_
  rw [rounds_succ]
  go_wp2_with fail
  go_step3
  go_wp2_with fail
  go_quiet (fail)
  go_wp2_with fail
  go_quiet ((go_at_call 40; with_reducible exact q_same2 (hI.out _ _ _)))
  go_wp2_with fail
  rw [Exit.noGoto_ret]
  go_simp
  go_ret
  exact ⟨rfl, (Kept.refl [] w).drewN _⟩
theorem blanks_ascii : ∀ b ∈ blanksS.data.toList, b.toNat < 128 := by decide
theorem idx_blanks (r : UInt8) : decide ((0 : Int) ≤ Lib.indexByte blanksS.data.toList ((r.toNat : Int).toNat.toUInt8)) = wsB r := by
  have h := ibw_ws r
  have e : ((r.toNat : Int).toNat.toUInt8) = r := by simp
  rw [e]
  show decide (0 ≤ ibw r) = _
  cases hw : wsB r with
  | true => exact decide_eq_true (h.1 hw)
  | false => exact decide_eq_false (by have := h.2 hw; omega)
theorem ws_hi (r : UInt8) (h : 128 ≤ r.toNat) : wsB r = false := by
  unfold wsB
  simp
  omega
theorem contains_ws (r : UInt8) (w : World) : Calls Tryd.prog 41 #[.string ⟨#[32, 9, 10, 13]⟩, .int .i32 (r.toNat : Int)] w (BoolIs (wsB r) w) := by
  show Calls _ _ #[.string blanksS, _] _ _
  by_cases h1 : r.toNat < 128
  · have H := Lib.hid (idxrune_ascii blanksS (r.toNat : Int) w (by omega) (by omega))
    have HP := Lib.hid (idx_blanks r)
    generalize Lib.indexByte blanksS.data.toList ((r.toNat : Int).toNat.toUInt8) = i at *
    generalize blanksS = S at *
    go_enter Tryd.func41, Tryd.ntmps41
    go_wp2_with fail
    refine H.out.mono ?_
    rintro e w' ⟨rfl, hk⟩
    have HK := Lib.hid hk
    clear hk
    go_wp2_with fail
    go_ret
    exact ⟨by rw [← HP.out]; rfl, HK.out⟩
  · have H2 := Lib.hid (idxrune_two blanksS rfl blanks_ascii (r.toNat : Int) w (by omega) (by have := UInt8.toNat_lt r; omega))
    have HP := Lib.hid (ws_hi r (by omega))
    generalize blanksS = S at *
    go_enter Tryd.func41, Tryd.ntmps41
    go_wp2_with fail
    refine H2.out.mono ?_
    rintro e w' ⟨rfl, hk⟩
    have HK := Lib.hid hk
    clear hk
    go_wp2_with fail
    go_ret
    exact ⟨by rw [HP.out]; rfl, HK.out⟩
/-- where a line ends -/
theorem ib_drop : ∀ l : List UInt8, (Lib.indexByte l 10 < 0 ∧ l.dropWhile notNl = []) ∨ ∃ n : Nat, Lib.indexByte l 10 = (n : Int) ∧ n ≤ l.length ∧ l.dropWhile notNl = l.drop n
  | [] => .inl ⟨by decide, rfl⟩
  | c :: l => by
    unfold Lib.indexByte
    by_cases hc : c = 10
    · subst hc
      exact .inr ⟨0, by simp, by simp, by rw [List.dropWhile_cons, if_neg (by decide)]; rfl⟩
    · have hb : (c == 10) = false := by rw [beq_eq_false_iff_ne]; exact hc
      have hn : notNl c = true := by
        unfold notNl
        refine decide_eq_true fun h => hc ?_
        exact UInt8.toNat_inj.1 h
      rw [List.dropWhile_cons, if_pos hn]
      simp only [hb]
      rcases ib_drop l with ⟨h1, h2⟩ | ⟨n, h1, h2, h3⟩
      · refine .inl ⟨?_, h2⟩
        have h3 := Lib.indexByte_ge l 10
        have h4 : (Lib.indexByte l 10 == -1) = true := by rw [beq_iff_eq]; omega
        simp [h4]
      · refine .inr ⟨n + 1, ?_, by simpa using h2, by rw [h3]; rfl⟩
        have h4 : (Lib.indexByte l 10 == -1) = false := by rw [beq_eq_false_iff_ne]; omega
        rw [h1] at h4 ⊢
        simp [h4]
def strLen (v : Value) : Nat := match v with
  | .string s => s.size
  | _ => 0
set_option maxHeartbeats 1600000 in
set_option maxRecDepth 100000 in
theorem tblank_c (l : List UInt8) (hl : l.length ≤ 140737488351232) (w : World) : Calls Tryd.prog 19 #[.string ⟨l.toArray⟩] w (BoolIs (blkB l) w) := by
  go_enter Tryd.func19, Tryd.ntmps19
  go_wp2_with fail
  go_loopw [0] (fun sv wr => ∃ m : List UInt8, sv = .string ⟨m.toArray⟩ ∧ m.length ≤ l.length ∧ Kept [] w wr ∧ blkB m = blkB l) (fun sv _ => strLen sv)
  case atStart => exact ⟨l, rfl, Nat.le_refl _, .refl _ _, rfl⟩
  case round =>
    obtain ⟨m, rfl, hm, kr, hb⟩ := hrel
    have KR := Lib.hid kr
    have HB := Lib.hid hb
    clear kr hb
    cases m with
    | nil =>
      have HT := Lib.hid (show blkB l = true from by rw [← HB.out]; rfl)
      go_wp2_with fail
      go_ret
      refine ⟨?_, KR.out⟩
      rw [HT.out]
      rfl
    | cons c r =>
      have HP := Lib.hid (fun W => strings_hp ⟨(c :: r).toArray⟩ ⟨#[45, 45]⟩ W)
      obtain ⟨b, hb⟩ : ∃ b, b = hpB ⟨(c :: r).toArray⟩ ⟨#[45, 45]⟩ := ⟨_, rfl⟩
      have HPE := Lib.hid (show b = [45, 45].isPrefixOf (c :: r) from hb)
      rw [← hb] at HP
      obtain ⟨S, hS⟩ : ∃ S : ByteArray, S = ⟨(c :: r).toArray⟩ := ⟨_, rfl⟩
      have hsz : S.size = r.length + 1 := by rw [hS]; rfl
      have HSZ := Lib.hid hsz
      have hne : S.toList.isEmpty = false := by rw [hS, ByteArray.toList_eq]; rfl
      have hne2 : (!S.toList.isEmpty) = true := by rw [hne]; rfl
      have h0 : 0 < S.size := by omega
      have hS0 : S[0]'h0 = c := by subst hS; rfl
      have HS := Lib.hid hS
      rw [← hS] at HP ⊢
      clear hb hS hsz
      have HSE := Lib.hid (fun a => (show S.extract a S.size = ⟨((c :: r).drop a).toArray⟩ from by
        rw [ext_list, HSZ.out, HS.out]
        congr 2
        rw [List.take_of_length_le]
        simp))
      cases b with
      | true =>
        have HI := Lib.hid (fun W => strings_ib S 10 W)
        have e10 : Lib.indexByte S.data.toList (10 : Int).toNat.toUInt8 = Lib.indexByte (c :: r) 10 := by rw [HS.out]; rfl
        rw [e10] at HI
        have hcd := comment_drop HPE.out.symm
        have hc45 : c = 45 := by
          have h2 := HPE.out.symm
          simp [List.isPrefixOf] at h2
          exact h2.1.symm
        have HBC := Lib.hid (blankB_com (c := c) (r := r) (by rw [hc45]; rfl) HPE.out.symm)
        clear e10
        rcases ib_drop (c :: r) with ⟨h1, h2⟩ | ⟨n, h1, h2, h3⟩
        · have HT := Lib.hid (show blkB l = true from by
            rw [← HB.out]
            unfold blkB
            rw [HBC.out, h2]
            rfl)
          generalize Lib.indexByte (c :: r) 10 = ix at *
          clear h2 hc45 hcd
          go_wp2_with fail
          refine (HP.out _).mono ?_
          rintro e w2 ⟨rfl, rfl⟩
          go_wp2_with fail
          refine (HI.out _).mono ?_
          rintro e w2 ⟨rfl, rfl⟩
          go_wp2_with fail
          go_ret
          exact ⟨by rw [HT.out]; rfl, KR.out⟩
        · have HI := Lib.hid (fun W => (show Calls Tryd.prog 40 #[.string S, .int .u8 10] W fun e w' => e = .returned (.int .i64 (n : Int)) ∧ W = w' from by rw [← h1]; exact HI.out W))
          have HT := Lib.hid (show blkB ((c :: r).drop n) = blkB l from by
            rw [← HB.out]
            unfold blkB
            rw [HBC.out, h3])
          have hn : 0 < n := by
            rw [h3] at hcd
            rw [List.length_drop] at hcd
            omega
          have hnS : n ≤ S.size := by rw [HSZ.out]; simpa using h2
          have HSE2 := HSE.out n
          have HSEn := Lib.hid HSE2
          clear h1 h2 h3 hc45 hcd HSE2
          go_wp2_with fail
          refine (HP.out _).mono ?_
          rintro e w2 ⟨rfl, rfl⟩
          go_wp2_with fail
          refine (HI.out _).mono ?_
          rintro e w2 ⟨rfl, rfl⟩
          go_wp2_with fail
          go_roundw
          case rel =>
            refine ⟨(c :: r).drop n, congrArg Value.string HSEn.out, ?_, KR.out, HT.out⟩
            rw [List.length_drop]
            omega
          case measure =>
            simp [strLen]
            omega
      | false =>
        have HC := Lib.hid (fun W => contains_ws c W)
        have hc := UInt8.toNat_lt c
        cases hw : wsB c with
        | true =>
          have HT := Lib.hid (show blkB ((c :: r).drop 1) = blkB l from by
            rw [← HB.out]
            unfold blkB
            rw [blankB_ws hw]
            rfl)
          rw [hw] at HC
          clear hw
          have HSEn := Lib.hid (HSE.out 1)
          go_wp2_with fail
          refine (HP.out _).mono ?_
          rintro e w2 ⟨rfl, rfl⟩
          go_wp2_with fail
          refine (HC.out _).mono ?_
          rintro e w2 ⟨rfl, k2⟩
          have K2 := Lib.hid (KR.out.trans k2)
          clear k2
          go_wp2_with fail
          go_roundw
          case rel =>
            refine ⟨(c :: r).drop 1, congrArg Value.string HSEn.out, ?_, K2.out, HT.out⟩
            rw [List.length_drop]
            omega
          case measure =>
            simp [strLen]
            omega
        | false =>
          have HT := Lib.hid (show blkB l = false from by
            rw [← HB.out]
            unfold blkB
            rw [blankB_stop hw HPE.out.symm]
            rfl)
          rw [hw] at HC
          clear hw
          go_wp2_with fail
          refine (HP.out _).mono ?_
          rintro e w2 ⟨rfl, rfl⟩
          go_wp2_with fail
          refine (HC.out _).mono ?_
          rintro e w2 ⟨rfl, k2⟩
          have K2 := Lib.hid (KR.out.trans k2)
          clear k2
          go_wp2_with fail
          go_ret
          exact ⟨by rw [HT.out]; rfl, K2.out⟩
end Go.Proofs.YtjnjldbegngooaaDoor
