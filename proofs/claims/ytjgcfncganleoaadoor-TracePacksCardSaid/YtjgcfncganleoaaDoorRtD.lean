/-
  Law 09's document: which tables may be.
-/
import Derived.Test.YtjgcfncganleoaaDoorRtC
import Derived.Deep.QuietTactic
import Derived.BigQuiet
namespace Go.Proofs.YtjgcfncganleoaaDoor
open Go.ChangeShapes Go.WideShapes Go.ChangeAt Go.RowKit
set_option linter.unusedVariables false
set_option linter.unusedSimpArgs false

variable {w w' w1 W : World}
theorem SlBus.take {a : Option Addr} {bs : List (ByteArray × Int)} (h : SlBus w a bs) (m : Nat) : SlBus w a (bs.take m) := by
  intro k hk
  have hk' : k < bs.length := by rw [List.length_take] at hk; omega
  have := h k hk'
  simpa using this
theorem bytes_nil (s : ByteArray) : s.toList.isEmpty = decide (s.size = 0) := by
  rw [ByteArray.toList_eq, Bool.eq_iff_iff, List.isEmpty_iff, decide_eq_true_eq]
  constructor
  · intro h
    have := congrArg List.length h
    simpa using this
  · intro h
    exact List.eq_nil_of_length_eq_zero (by simpa using h)
set_option maxHeartbeats 6400000 in
set_option maxRecDepth 100000 in
theorem rmay_c {ba ra : Option Addr} {bn bc rn rc : Nat} {t : Tb} {wl : List WR} (h : TabV w ba bn bc ra rn rc t wl) (hok : t.ok) :
    Calls Tryd.prog 22 #[.agg #[.slice ba bn bc, .slice ra rn rc]] w (BoolIs (mayT t) w) := by
  have HT := Lib.hid h
  have HOK := Lib.hid hok
  have HBL := Lib.hid h.bl
  have HRL := Lib.hid h.rl
  have hbm : bn ≤ 140737488351232 := by rw [← h.bl]; exact hok.bl
  have hbc : bn ≤ bc := h.bk
  have hrm : rn ≤ 140737488351232 := by rw [← h.rlen]; exact hok.rl
  have HB0 := Lib.hid (show busesB t.bs = false → mayT t = false from fun h => by simp [mayT, h])
  have HR0 := Lib.hid (show rowsB t = false → mayT t = false from fun h => by simp [mayT, h])
  have HE := Lib.hid (show busesB t.bs = true → rowsB t = true → mayT t = (decide (1 ≤ bn) && (decide (bn ≤ 512) && decide (rn ≤ 4096))) from fun h1 h2 => by simp [mayT, h1, h2, h.bl, h.rlen])
  have HX := Lib.hid (show ¬ (1 ≤ bn ∧ bn ≤ 512 ∧ rn ≤ 4096) → mayT t = false from fun h0 => by
    rw [← Bool.not_eq_true]
    intro h1
    simp only [mayT, Bool.and_eq_true, decide_eq_true_eq, h.bl, h.rlen] at h1
    exact h0 h1.2.2)
  clear h hok
  go_enter Tryd.func22, Tryd.ntmps22; (try simp only [List.append])
  go_upto_region 1 with (fail)
  obtain ⟨w2, hw2⟩ : ∃ W, W = w.alloc (.cells #[.slice ba bn bc, .slice ra rn rc] 42) := ⟨_, rfl⟩
  obtain ⟨p, hp⟩ : ∃ q, q = w.heap.size := ⟨_, rfl⟩
  have K2 := Lib.hid (show Kept [] w w2 from by rw [hw2]; exact (Kept.refl [] w).alloc _)
  have C0 := Lib.hid (show w2.cell? ⟨p, 0, none⟩ = some (.slice ba bn bc) ∧ w2.cell? ⟨p, 1, none⟩ = some (.slice ra rn rc) from by
    rw [hw2, hp]
    exact ⟨blk_cell (heap_alloc_new w _) 0, blk_cell (heap_alloc_new w _) 1⟩)
  try rw [← hw2, ← hp]
  clear hw2 hp
  have c0 := C0.out.1
  have c1 := C0.out.2
  by_cases h1 : 1 ≤ bn
  rotate_left
  · have HR := Lib.hid (HX.out (fun h => h1 h.1))
    go_wp2_with fail
    go_ret
    exact ⟨by rw [HR.out]; rfl, K2.out⟩
  by_cases h2 : bn ≤ 512
  rotate_left
  · have HR := Lib.hid (HX.out (fun h => h2 h.2.1))
    go_wp2_with fail
    go_ret
    exact ⟨by rw [HR.out]; rfl, K2.out⟩
  by_cases h3 : rn ≤ 4096
  rotate_left
  · have HR := Lib.hid (HX.out (fun h => h3 h.2.2))
    go_wp2_with fail
    go_ret
    exact ⟨by rw [HR.out]; rfl, K2.out⟩
  go_wp2_with fail
  go_loopw [3] (fun i wr => ∃ (k : Nat), k ≤ bn ∧ i = .int .i64 k ∧ busesTo t.bs k = true ∧ Kept [] w2 wr) (fun i _ => bn - (intOf i).toNat)
  case atStart => exact ⟨0, Nat.zero_le _, rfl, rfl, .refl _ _⟩
  case round =>
    obtain ⟨k, hk, rfl, hb, hkr⟩ := hrel
    have HB := Lib.hid hb
    have KW := Lib.hid (K2.out.trans hkr)
    have KR := Lib.hid hkr
    have d0 := hkr.cell c0 (by simp)
    have d1 := hkr.cell c1 (by simp)
    clear hb hkr
    by_cases hlt : k < bn
    · have hkl : k < t.bs.length := by rw [HBL.out]; exact hlt
      have HSB := Lib.hid ((HT.out.bs.kept0 KW.out).take k)
      obtain ⟨gb, go_, rfl, x0, x1⟩ := (HT.out.bs.kept0 KW.out) k hkl
      have HAT := Lib.hid (show t.bs[k]? = some t.bs[k] from List.getElem?_eq_getElem hkl)
      have HSZ := Lib.hid (HOK.out.bn _ (List.getElem_mem hkl))
      have HLK := Lib.hid (show (t.bs.take k).length = k from by rw [List.length_take]; omega)
      generalize t.bs[k] = b at *
      obtain ⟨nm, x⟩ := b
      simp only at x0 x1
      go_upto_region 7 with (fail)
      obtain ⟨w5, hw5⟩ : ∃ W, W = wr.alloc (.cells #[.string nm, .int .i64 x] 85) := ⟨_, rfl⟩
      have K5 := Lib.hid (show Kept [] wr w5 from by rw [hw5]; exact (Kept.refl [] wr).alloc _)
      obtain ⟨pb, hpb⟩ : ∃ q, q = wr.heap.size := ⟨_, rfl⟩
      have E5 := Lib.hid (show w5.cell? ⟨pb, 0, none⟩ = some (.string nm) ∧ w5.cell? ⟨pb, 1, none⟩ = some (.int .i64 x) from by
        rw [hw5, hpb]
        exact ⟨blk_cell (heap_alloc_new wr _) 0, blk_cell (heap_alloc_new wr _) 1⟩)
      try rw [← hpb]
      try rw [← hw5]
      clear hpb hw5
      have e0 := E5.out.1
      have e1 := E5.out.2
      have f0 := K5.out.cell d0 (by simp)
      have HN := Lib.hid (fun (W : World) => rletters_c nm HSZ.out.1 W)
      have HF := Lib.hid (fun (W : World) => rfits_c x 0 HSZ.out.2.1 HSZ.out.2.2 (by omega) W)
      have HH := Lib.hid (fun (n : Nat) => rhas_c (c := bc) nm (w5.drewN n) HLK.out (by omega) ((HSB.out.kept0 K5.out).kept0 ((Kept.refl [] w5).drewN n)))
      clear d0 d1 x0 x1
      have hkc : k ≤ bc := by omega
      have hn0 := bytes_nil nm
      by_cases hz : nm.size = 0
      · have HR := Lib.hid (HB0.out (busesTo_no HAT.out (by simp [busB, namedB, hz])))
        rw [decide_eq_true hz] at hn0
        clear hz HN HF HH
        go_quiet (fail)
        go_wp2_with fail
        go_ret
        exact ⟨by rw [HR.out]; rfl, (KW.out.trans K5.out).drewN _⟩
      rw [decide_eq_false hz] at hn0
      cases hn : lettersB nm && decide (nm.size ≤ 33) with
      | false =>
        have HR := Lib.hid (HB0.out (busesTo_no HAT.out (by
          have : namedB nm = false := by
            unfold namedB
            rw [← Bool.not_eq_true]
            intro h
            simp only [Bool.and_eq_true, decide_eq_true_eq] at h
            simp [h] at hn
          simp [busB, this])))
        rw [hn] at HN
        clear hn HF HH hz
        go_quiet ((go_at_call 47; with_reducible exact q_same (HN.out _)))
        go_wp2_with fail
        go_ret
        exact ⟨by rw [HR.out]; rfl, (KW.out.trans K5.out).drewN _⟩
      | true =>
        rw [hn] at HN
        cases ha : (t.bs.take k).any (fun y => decide (y.1 = nm)) with
        | true =>
          have HR := Lib.hid (HB0.out (busesTo_no HAT.out (by simp [busB, ha])))
          rw [ha] at HH
          clear hn ha HF hz
          go_quiet (first | (go_at_call 47; with_reducible exact q_same (HN.out _)) | (go_at_call 48; with_reducible exact q_same (HH.out _)))
          go_wp2_with fail
          go_ret
          exact ⟨by rw [HR.out]; rfl, (KW.out.trans K5.out).drewN _⟩
        | false =>
          rw [ha] at HH
          cases hf : fitsB x 0 with
          | false =>
            have HR := Lib.hid (HB0.out (busesTo_no HAT.out (by simp [busB, hf])))
            rw [hf] at HF
            clear hn ha hf hz
            go_quiet (first | (go_at_call 47; with_reducible exact q_same (HN.out _)) | (go_at_call 48; with_reducible exact q_same (HH.out _)) | (go_at_call 49; with_reducible exact q_same (HF.out _)))
            go_wp2_with fail
            go_ret
            exact ⟨by rw [HR.out]; rfl, (KW.out.trans K5.out).drewN _⟩
          | true =>
            have HB1 := Lib.hid (show busesTo t.bs (k + 1) = true from by
              rw [busesTo_succ HAT.out, HB.out]
              simp only [Bool.and_eq_true, decide_eq_true_eq] at hn
              have : namedB nm = true := by
                unfold namedB
                simp only [Bool.and_eq_true, decide_eq_true_eq]
                exact ⟨hn.1, by omega, hn.2⟩
              simp [busB, this, ha, hf])
            rw [hf] at HF
            clear hn ha hf hz
            go_quiet (first | (go_at_call 47; with_reducible exact q_same (HN.out _)) | (go_at_call 48; with_reducible exact q_same (HH.out _)) | (go_at_call 49; with_reducible exact q_same (HF.out _)))
            go_wp2_with fail
            go_roundw
            case rel => exact ⟨k + 1, by omega, by go_num, HB1.out, (KR.out.trans K5.out).drewN _⟩
            case measure => simp [intOf]; omega
    · obtain rfl : bn = k := by omega
      have HBS := Lib.hid (show busesB t.bs = true from by unfold busesB; rw [HBL.out]; exact HB.out)
      clear HB c0 c1
      obtain ⟨wA, rfl⟩ : ∃ v : World, v = wr := ⟨_, rfl⟩
      have D0 := Lib.hid d0
      have D1 := Lib.hid d1
      go_wp2_with fail
      clear d0 d1
      go_loopw [5] (fun i wq => ∃ (j : Nat), j ≤ rn ∧ i = .int .i64 j ∧ (t.rs.take j).all (rowB t.bs) = true ∧ Kept [] wA wq) (fun i _ => rn - (intOf i).toNat)
      case atStart => exact ⟨0, Nat.zero_le _, rfl, rfl, .refl _ _⟩
      case round =>
        obtain ⟨j, hj, rfl, hall, hkq⟩ := hrel
        have HALL := Lib.hid hall
        have KQ := Lib.hid hkq
        have KWQ := Lib.hid (KW.out.trans hkq)
        have d0 := hkq.cell D0.out (by simp)
        have d1 := hkq.cell D1.out (by simp)
        clear hall hkq
        by_cases hlt : j < rn
        · have hjl : j < wl.length := by rw [HRL.out]; exact hlt
          obtain ⟨gr, gro, rfl, x0, x1⟩ := (HT.out.rs.kept0 KWQ.out) j hjl
          have HRW := Lib.hid (HT.out.row j hjl)
          have hjr : j < t.rs.length := by rw [HT.out.rlen]; exact hlt
          have HRJ := Lib.hid (show t.rs[j] = wl[j].l from by have := HRW.out; rw [List.getElem?_eq_getElem hjr] at this; exact Option.some.inj this)
          have HWW := Lib.hid (HOK.out.rw _ (List.getElem_mem hjr))
          rw [HRJ.out] at HWW
          have HX := Lib.hid x1
          have HX0 := Lib.hid x0
          have HNO := Lib.hid (fun (h : rowB t.bs wl[j].l = false) => HR0.out (rowsB_no hjr (by rw [HRJ.out]; exact h)))
          have HYS := Lib.hid (fun (h : rowB t.bs wl[j].l = true) => show (t.rs.take (j + 1)).all (rowB t.bs) = true from by rw [all_take_succ hjr, HALL.out, HRJ.out, h]; rfl)
          clear x1 HRJ HRW
          generalize wl[j] = rj at *
          obtain ⟨l, la, lc⟩ := rj
          simp only at x0 HX0
          obtain ⟨ln, hln⟩ : ∃ q, q = l.length := ⟨_, rfl⟩
          rw [← hln] at x0 HX0
          have HLN := Lib.hid hln
          have hlm : ln ≤ 140737488351232 := by rw [hln]; exact HWW.out.2
          clear hln
          by_cases hle : ln = bn
          · obtain rfl : bn = ln := hle.symm
            have hne : ((bn : Int) != (bn : Int)) = false := by simp
            clear hle
            obtain ⟨wB, rfl⟩ : ∃ v : World, v = wr := ⟨_, rfl⟩
            have D0B := Lib.hid d0
            have D1B := Lib.hid d1
            go_wp2_with fail
            go_quiet (fail)
            go_wp2_with fail
            clear d0 d1 x0
            go_loopw [6] (fun i wq => ∃ (q : Nat), q ≤ bn ∧ i = .int .i64 q ∧ rowTo t.bs l q = true ∧ Kept [] wB wq) (fun i _ => bn - (intOf i).toNat)
            case atStart => exact ⟨0, Nat.zero_le _, rfl, rfl, (Kept.refl _ _).drewN _⟩
            case round =>
              obtain ⟨q, hq, rfl, hrow, hkb⟩ := hrel
              have HROW := Lib.hid hrow
              have KB := Lib.hid hkb
              have KWB := Lib.hid (KWQ.out.trans hkb)
              have d0 := hkb.cell D0B.out (by simp)
              have d1 := hkb.cell D1B.out (by simp)
              have x0 := hkb.cell HX0.out (by simp)
              clear hrow hkb
              by_cases hlt : q < bn
              · have hqb : q < t.bs.length := by rw [HBL.out]; exact hlt
                have hql : q < l.length := by rw [← HLN.out]; exact hlt
                obtain ⟨gb, gbo, rfl, y0, y1⟩ := (HT.out.bs.kept0 KWB.out) q hqb
                obtain ⟨ad, rfl, y2⟩ := (HX.out.kept0 KB.out) q hql
                have HSU := Lib.hid (rowTo_succ t.bs l q)
                have HROWN := Lib.hid (fun h => rowTo_no (bs := t.bs) hql h)
                rw [show t.bs[q]? = some t.bs[q] from List.getElem?_eq_getElem hqb, show l.getD q 0 = l[q] from by rw [List.getD_eq_getElem?_getD, List.getElem?_eq_getElem hql]; rfl] at HSU HROWN
                have hxw := HWW.out.1 _ (List.getElem_mem hql)
                have HSZ := Lib.hid (HOK.out.bn _ (List.getElem_mem hqb))
                generalize t.bs[q] = b at *
                generalize l[q] = x at *
                obtain ⟨nm, xw⟩ := b
                simp only at y0 y1
                simp only [Option.map_some, Option.getD_some] at HSU HROWN
                have HF := Lib.hid (fun (W : World) => rfits_c xw x HSZ.out.2.1 HSZ.out.2.2 hxw W)
                cases hf : fitsB xw x with
                | false =>
                  rw [hf] at HF
                  have HR := Lib.hid (HNO.out (HROWN.out hf))
                  clear hf
                  go_wp2_with fail
                  go_quiet ((go_at_call 49; with_reducible exact q_same (HF.out _)))
                  go_wp2_with fail
                  go_ret
                  exact ⟨by rw [HR.out]; rfl, KWB.out.drewN _⟩
                | true =>
                  rw [hf] at HF
                  have HR := Lib.hid (show rowTo t.bs l (q + 1) = true from by rw [HSU.out, HROW.out, hf]; rfl)
                  clear hf
                  go_wp2_with fail
                  go_quiet ((go_at_call 49; with_reducible exact q_same (HF.out _)))
                  go_wp2_with fail
                  go_roundw
                  case rel => exact ⟨q + 1, by omega, by go_num, HR.out, KB.out.drewN _⟩
                  case measure => simp [intOf]; omega
              · obtain rfl : bn = q := by omega
                have HR := Lib.hid (HYS.out (by unfold rowB; rw [← HLN.out, HBL.out, HROW.out]; simp))
                go_wp2_with fail
                go_roundw
                case rel => exact ⟨j + 1, by omega, by go_num, HR.out, KQ.out.trans KB.out⟩
                case measure => simp [intOf]; omega
          · have HR := Lib.hid (HNO.out (by unfold rowB; rw [← HLN.out, HBL.out]; simp [hle]))
            have hne : ((ln : Int) != (bn : Int)) = true := by rw [bne_iff_ne]; omega
            go_wp2_with fail
            go_quiet (fail)
            go_wp2_with fail
            go_ret
            exact ⟨by rw [HR.out]; rfl, KWQ.out.drewN _⟩
        · obtain rfl : j = rn := by omega
          have HRS := Lib.hid (show rowsB t = true from by
            have := HALL.out
            unfold rowsB
            rwa [List.take_of_length_le (by rw [HT.out.rlen]; exact Nat.le_refl _)] at this)
          have HR := Lib.hid (HE.out HBS.out HRS.out)
          go_wp2_with fail
          go_ret
          exact ⟨by rw [HR.out]; simp [h1, h2, h3], KWQ.out⟩
end Go.Proofs.YtjgcfncganleoaaDoor
