/-
  Law 15: blanks and comments passed over.
-/
import Derived.Test.YtjnjldbegngooaaDoorTokC
import Derived.BigQuiet
import Derived.Deep.QuietTactic
import Derived.StillTailTactics
import Derived.Lib.Strings
import Derived.Lib.Bytealg
import Derived.Lib.Small
namespace Go.Proofs.YtjnjldbegngooaaDoor
open Go.ChangeShapes Go.WideShapes Go.ChangeAt Go.RowKit
set_option linter.unusedVariables false
set_option linter.unusedSimpArgs false

variable {w w' w1 W : World}
theorem ibs_run (s : ByteArray) (c : Int) (w : World) : (callFunc 74 #[.string s, .int .u8 c]).run Tryd.prog w = .ok (.value (.int .i64 (Lib.indexByte s.data.toList c.toNat.toUInt8))) w := by
  rw [run_callFunc_extern Tryd.func74 (by kernel_rfl) (by kernel_rfl) (by kernel_rfl) (e := Extern.BytealgIndexByte.indexByte) (by kernel_rfl), Lib.run_indexByteString]
  rfl
theorem slite_ib (s : ByteArray) (c : Int) (w : World) : Calls Tryd.prog 61 #[.string s, .int .u8 c] w fun e w' => e = .returned (.int .i64 (Lib.indexByte s.data.toList c.toNat.toUInt8)) ∧ w = w' := by
  have h := ibs_run s c
  go_enter Tryd.func61, Tryd.ntmps61
  go_wp2
  go_ret
  exact ⟨rfl, rfl⟩
theorem strings_ib (s : ByteArray) (c : Int) (w : World) : Calls Tryd.prog 40 #[.string s, .int .u8 c] w fun e w' => e = .returned (.int .i64 (Lib.indexByte s.data.toList c.toNat.toUInt8)) ∧ w = w' := by
  go_enter Tryd.func40, Tryd.ntmps40
  go_wp2_with fail
  refine (slite_ib _ _ _).mono ?_
  rintro e w' ⟨rfl, rfl⟩
  go_wp2_with fail
  go_ret
  exact ⟨rfl, rfl⟩
/-- a text begins with another one -/
def hpB (s p : ByteArray) : Bool := p.data.toList.isPrefixOf s.data.toList
theorem slite_hp (s p : ByteArray) (w : World) : Calls Tryd.prog 58 #[.string s, .string p] w fun e w' => e = .returned (.bool (hpB s p)) ∧ w = w' := by
  have HH := Lib.hid (show (decide (p.size ≤ s.size) && ((s.extract 0 p.size).toList == p.toList)) = hpB s p from Lib.hasPrefix_raw s p)
  go_enter Tryd.func58, Tryd.ntmps58
  go_wp2
  · rename_i h
    go_ret
    refine ⟨?_, rfl⟩
    rw [← HH.out]
    show Ending.returned (Value.bool ((s.extract 0 p.size).toList == p.toList)) = _
    simp [h]
  · rename_i h
    go_ret
    refine ⟨?_, rfl⟩
    rw [← HH.out]
    show Ending.returned (Value.bool false) = _
    simp [h]
theorem strings_hp (s p : ByteArray) (w : World) : Calls Tryd.prog 35 #[.string s, .string p] w fun e w' => e = .returned (.bool (hpB s p)) ∧ w = w' := by
  go_enter Tryd.func35, Tryd.ntmps35
  go_wp2_with fail
  refine (slite_hp _ _ _).mono ?_
  rintro e w' ⟨rfl, rfl⟩
  go_wp2_with fail
  go_ret
  exact ⟨rfl, rfl⟩
def blanksS : ByteArray := ⟨#[32, 9, 10, 13]⟩
def ibw (c : UInt8) : Int := Lib.indexByte [32, 9, 10, 13] c
theorem ibw_ws (c : UInt8) : (wsB c = true → 0 ≤ ibw c) ∧ (wsB c = false → ibw c < 0) := by
  have h : ((List.range 256).all fun n => if wsB (UInt8.ofNat n) then decide (0 ≤ ibw (UInt8.ofNat n)) else decide (ibw (UInt8.ofNat n) < 0)) = true := by kernel_rfl
  have h1 := List.all_eq_true.1 h c.toNat (List.mem_range.2 (UInt8.toNat_lt c))
  rw [UInt8.ofNat_toNat] at h1
  constructor
  · intro h2
    rw [if_pos h2] at h1
    simpa using h1
  · intro h2
    rw [if_neg (by simp [h2])] at h1
    simpa using h1
theorem blanks_ib (c : UInt8) (w : World) : Calls Tryd.prog 40 #[.string ⟨#[32, 9, 10, 13]⟩, .int .u8 (c.toNat : Int)] w fun e w' => e = .returned (.int .i64 (ibw c)) ∧ w = w' :=
  (strings_ib ⟨#[32, 9, 10, 13]⟩ (c.toNat : Int) w).mono fun e w' ⟨h1, h2⟩ => ⟨by rw [h1]; simp [ibw], h2⟩
theorem RdS.kept {F : List Nat} {rb k : Nat} {S : ByteArray} (h : RdS w rb S k) (hk : Kept F w w') (hF : rb ∉ F) : RdS w' rb S k := hk.heap h hF
theorem RdS.set {rb k j : Nat} {S : ByteArray} (h : RdS w rb S k) : RdS (w.setCell ⟨rb, 1, none⟩ (.int .i64 (j : Int))) rb S j := by
  have := blk_set h 1 (.int .i64 (j : Int))
  exact this
theorem drop_head (S : ByteArray) (j : Nat) (h : j < S.size) : S.data.toList.drop j = S[j]'h :: S.data.toList.drop (j + 1) := List.drop_eq_getElem_cons (show j < S.data.toList.length from h)
theorem dropWhile_takeWhile (p : UInt8 → Bool) (l : List UInt8) : l.dropWhile p = l.drop (l.takeWhile p).length := by
  induction l with
  | nil => rfl
  | cons c l ih =>
    rw [List.dropWhile_cons, List.takeWhile_cons]
    split
    · simpa using ih
    · simp
theorem takeWhile_le (p : UInt8 → Bool) (l : List UInt8) : (l.takeWhile p).length ≤ l.length := by
  have h := congrArg List.length (List.takeWhile_append_dropWhile (p := p) (l := l))
  rw [List.length_append] at h
  omega
theorem RdS.set' {rb k j : Nat} {S : ByteArray} {v : Value} (h : RdS w rb S k) (hv : v = .int .i64 (j : Int)) : RdS (w.setCell ⟨rb, 1, none⟩ v) rb S j := hv ▸ h.set
theorem rd_less {V W : World} {rb j k : Nat} {S : ByteArray} (h : ∃ U v, RdS U rb S k ∧ V = U.setCell ⟨rb, 1, none⟩ v ∧ v = .int .i64 (j : Int)) (h2 : RdS W rb S k) (hlt : S.size - j < S.size - k) : S.size - (intOf ((V.cell? ⟨rb, 1, none⟩).getD (.int .i64 0))).toNat < S.size - (intOf ((W.cell? ⟨rb, 1, none⟩).getD (.int .i64 0))).toNat := by
  obtain ⟨U, v, h1, rfl, hv⟩ := h
  have e1 := blk_cell (h1.set' hv) 1
  have e2 := blk_cell h2 1
  rw [e1, e2]
  simpa [intOf] using hlt
/-- what blank leaves -/
def BlankPost (rb : Nat) (S : ByteArray) (k : Nat) (w : World) (e : Ending) (w' : World) : Prop := e = .returned (.tuple #[]) ∧ ∃ j, k ≤ j ∧ j ≤ S.size ∧ RdS w' rb S j ∧ S.data.toList.drop j = blankB (S.data.toList.drop k) ∧ Kept [rb] w w'
set_option maxHeartbeats 3200000 in
set_option maxRecDepth 100000 in
theorem blank_c (rb : Nat) (S : ByteArray) (k : Nat) (w : World) (hr : RdS w rb S k) (hk : k ≤ S.size) (hS : S.size ≤ 140737488351232) :
    Calls Tryd.prog 22 #[.pointer (some ⟨rb, 0, none⟩)] w (BlankPost rb S k w) := by
  have HR := Lib.hid hr
  clear hr
  go_enter Tryd.func22, Tryd.ntmps22
  go_wp2_with fail
  go_loopw [] (fun wr => ∃ j : Nat, k ≤ j ∧ j ≤ S.size ∧ RdS wr rb S j ∧ Kept [rb] w wr ∧ blankB (S.data.toList.drop j) = blankB (S.data.toList.drop k)) (fun W => S.size - (intOf ((W.cell? ⟨rb, 1, none⟩).getD (.int .i64 0))).toNat)
  case atStart => exact ⟨k, Nat.le_refl _, hk, HR.out, .refl _ _, rfl⟩
  case round =>
    obtain ⟨j, hkj, hj, hr, kr, hb⟩ := hrel
    have HRR := Lib.hid hr
    have KR := Lib.hid kr
    have HB := Lib.hid hb
    have c0 : wr.cell? ⟨rb, 0, none⟩ = some (.string S) := blk_cell hr 0
    have c1 : wr.cell? ⟨rb, 1, none⟩ = some (.int .i64 (j : Int)) := blk_cell hr 1
    have hfz : wr.frozen? ⟨rb, 1, none⟩ = false := blk_free hr 1
    clear hr kr hb
    by_cases hlt : j < S.size
    · have HD := Lib.hid (drop_head S j hlt)
      obtain ⟨c, hc⟩ : ∃ c : UInt8, c = S[j]'hlt := ⟨_, rfl⟩
      have HI := Lib.hid (fun W => (show Calls Tryd.prog 40 #[.string ⟨#[32, 9, 10, 13]⟩, .int .u8 ((S[j]'hlt).toNat : Int)] W fun e w' => e = .returned (.int .i64 (ibw c)) ∧ W = w' from hc ▸ blanks_ib c W))
      rw [← hc] at HD
      clear hc
      have hws := ibw_ws c
      cases hw : wsB c with
      | true =>
        have h1 := hws.1 hw
        have HB2 := Lib.hid (show blankB (S.data.toList.drop (j + 1)) = blankB (S.data.toList.drop k) from by rw [← HB.out, HD.out, blankB_ws hw])
        clear hws hw
        go_wp2_with fail
        go_quiet (fail)
        go_wp2_with fail
        go_quiet ((go_at_call 40; exact q_same2 (HI.out _)))
        go_wp2_with fail
        go_roundw
        case rel => exact ⟨j + 1, by omega, by omega, (HRR.out.kept ((Kept.refl [] wr).drewN _) (by simp)).set' (by go_num), (KR.out.drewN _).setCell (.inl (by simp)) _, HB2.out⟩
        case measure => exact rd_less (j := j + 1) ⟨_, _, HRR.out.kept ((Kept.refl [] wr).drewN _) (by simp), rfl, by go_num⟩ HRR.out (by omega)
      | false =>
        have h1 := hws.2 hw
        have HP := Lib.hid (fun W => strings_hp (S.extract j S.size) ⟨#[45, 45]⟩ W)
        have HPE := Lib.hid (show hpB (S.extract j S.size) ⟨#[45, 45]⟩ = [45, 45].isPrefixOf (c :: S.data.toList.drop (j + 1)) from by
          rw [← HD.out]
          unfold hpB
          rw [ext_list]
          simp [List.take_of_length_le])
        obtain ⟨b, hb⟩ : ∃ b, b = hpB (S.extract j S.size) ⟨#[45, 45]⟩ := ⟨_, rfl⟩
        rw [← hb] at HP HPE
        clear hb hws
        cases b with
        | true =>
          have HL := Lib.hid (comment_drop HPE.out.symm)
          have HB2 := Lib.hid (show blankB (S.data.toList.drop (j + (List.takeWhile notNl (S.data.toList.drop j)).length)) = blankB (S.data.toList.drop k) from by
            rw [← HB.out, ← List.drop_drop, ← dropWhile_takeWhile, HD.out, blankB_com hw HPE.out.symm])
          have htl : j + (List.takeWhile notNl (S.data.toList.drop j)).length ≤ S.size := by
            have h2 := takeWhile_le notNl (S.data.toList.drop j)
            rw [List.length_drop] at h2
            have h3 : S.data.toList.length = S.size := rfl
            omega
          have htp : 0 < (List.takeWhile notNl (S.data.toList.drop j)).length := by
            have h2 := HL.out
            rw [← HD.out, dropWhile_takeWhile, List.length_drop] at h2
            omega
          have HRUN := Lib.hid (fun W (hW : RdS W rb S j) => run_c 43 Tryd.call43 notNl notnl_c rb S j j W hW hj hS)
          clear hw
          obtain ⟨l, hl⟩ : ∃ l, l = List.takeWhile notNl (S.data.toList.drop j) := ⟨_, rfl⟩
          rw [← hl] at HB2 htl htp HRUN
          clear hl
          go_wp2_with fail
          go_quiet (fail)
          go_wp2_with fail
          go_quiet ((go_at_call 40; exact q_same2 (HI.out _)))
          go_wp2_with fail
          go_quiet ((go_at_call 35; exact q_same2 (HP.out _)))
          go_wp2_with fail
          rename_i n0 n1 hx
          have hz := HRR.out.kept ((((Kept.refl [] wr).drewN n0).drewN n1).drewN nq) (by simp)
          have kz := (((KR.out.drewN n0).drewN n1).drewN nq)
          clear c0 c1 hfz
          generalize ((wr.drewN n0).drewN n1).drewN nq = wz at *
          have HZ := Lib.hid hz
          have KZ := Lib.hid kz
          have c0 : wz.cell? ⟨rb, 0, none⟩ = some (.string S) := blk_cell hz 0
          have c1 : wz.cell? ⟨rb, 1, none⟩ = some (.int .i64 (j : Int)) := blk_cell hz 1
          have hfz : wz.frozen? ⟨rb, 1, none⟩ = false := blk_free hz 1
          have HRUN2 := Lib.hid (show Calls Tryd.prog 42 #[.pointer (some ⟨rb, 0, none⟩), .int .i64 (j : Int), .func (.func 43) #[] #[]] wz.drew fun e w' => e = .returned (.string ⟨l.toArray⟩) ∧ w' = wz.drew from HRUN.out wz.drew (hz.kept ((Kept.refl [] wz).drew) (by simp)))
          clear hz kz HRUN
          refine wp_region_still_tail 14 (by kernel_rfl) (by kernel_rfl) ?_
          simp only [List.take_succ_cons, List.take_zero, List.drop_succ_cons, List.drop_zero]
          repeat still_step
          still_call HRUN2.out
          repeat still_step
          refine wpStill_nil ?_
          change wpList _ _ _ _ _ wz.drew
          go_wp2_with fail
          go_roundw
          case rel => exact ⟨j + l.length, by omega, htl, (HZ.out.kept ((Kept.refl [] wz).drew) (by simp)).set' (by go_num), KZ.out.drew.setCell (.inl (by simp)) _, HB2.out⟩
          case measure => exact rd_less (j := j + l.length) ⟨_, _, HZ.out.kept ((Kept.refl [] wz).drew) (by simp), rfl, by go_num⟩ HRR.out (by omega)
        | false =>
          have HB2 := Lib.hid (show S.data.toList.drop j = blankB (S.data.toList.drop k) from by
            rw [← HB.out, HD.out, blankB_stop hw HPE.out.symm])
          clear hw
          go_wp2_with fail
          go_quiet (fail)
          go_wp2_with fail
          go_quiet ((go_at_call 40; exact q_same2 (HI.out _)))
          go_wp2_with fail
          go_quiet ((go_at_call 35; exact q_same2 (HP.out _)))
          go_wp2_with fail
          refine bodyPost_ret (v := .tuple #[]) (by simp [results, Tryd.results22, go_sem]) rfl ?_
          exact ⟨rfl, j, hkj, hj, HRR.out.kept ((((Kept.refl [] wr).drewN _).drewN _).drewN _) (by simp), HB2.out, ((KR.out.drewN _).drewN _).drewN _⟩
    · obtain rfl : j = S.size := by omega
      have HB2 := Lib.hid (show S.data.toList.drop S.size = blankB (S.data.toList.drop k) from by
        rw [← HB.out]
        have h0 : S.data.toList.drop S.size = [] := List.drop_eq_nil_of_le (Nat.le_refl _)
        rw [h0]; rfl)
      go_wp2_with fail
      go_quiet (fail)
      go_wp2_with fail
      refine bodyPost_ret (v := .tuple #[]) (by simp [results, Tryd.results22, go_sem]) rfl ?_
      exact ⟨rfl, S.size, hkj, hj, HRR.out.kept ((Kept.refl [] wr).drewN _) (by simp), HB2.out, KR.out.drewN _⟩
end Go.Proofs.YtjnjldbegngooaaDoor
