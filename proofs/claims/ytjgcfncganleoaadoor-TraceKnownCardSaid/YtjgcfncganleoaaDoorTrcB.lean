/-
  Package trace: May.
-/
import Derived.Test.YtjgcfncganleoaaDoorTrcA
namespace Go.Proofs.YtjgcfncganleoaaDoor
open Go.ChangeShapes Go.WideShapes Go.ChangeAt Go.RowKit
open Go.Maps (Keyed)
open Go.WideMaps
set_option linter.unusedVariables false
set_option linter.unusedSimpArgs false

variable {w w' : World}
theorem str_law : Keyed Tryd.prog 9 := Keyed.of_law (string_law Tryd.underlying9)
theorem str_key (s : ByteArray) (h : s.size ≤ 140737488351232) : ∃ kl, keyOf Tryd.prog 9 (.string s) = some kl := ⟨_, keyOf_string_mk Tryd.underlying9 (by unfold maxLen; omega)⟩
theorem int_zero2 (w : World) : (zeroValue 3).run Tryd.prog w = .ok (.int .i64 0) w := by kernel_rfl
/-- names that were seen -/
def Seen (f : Value → Option Value) (bs : List (ByteArray × Int)) : Prop := ∀ s : ByteArray, f (.string s) = if bs.any (fun x => decide (x.1 = s)) = true then some (.int .i64 1) else none
theorem Seen.nil : Seen (fun _ => none) [] := fun s => by simp
theorem Seen.snoc {f : Value → Option Value} {bs : List (ByteArray × Int)} {b : ByteArray × Int} (h : Seen f bs) : Seen (upd f (.string b.1) (.int .i64 1)) (bs ++ [b]) := by
  intro s
  by_cases hs : b.1 = s
  · subst hs
    rw [upd_same]
    simp
  · rw [upd_other _ (fun e => hs (by injection e with e; exact e.symm)), h s, List.any_append]
    congr 1
    simp [hs]
set_option maxHeartbeats 3200000 in
set_option maxRecDepth 100000 in
theorem may_c {ba ra : Option Addr} {bn bc rn rc : Nat} {t : Tb} {wl : List WR} (h : TabV w ba bn bc ra rn rc t wl) (hok : t.ok) :
    Calls Tryd.prog 10 #[.agg #[.slice ba bn bc, .slice ra rn rc]] w (BoolIs (mayT t) w) := by
  have HT := Lib.hid h
  have HOK := Lib.hid hok
  have HBL := Lib.hid h.bl
  have HRL := Lib.hid h.rl
  have hbm : bn ≤ 140737488351232 := by rw [← h.bl]; exact hok.bl
  have hrm : rn ≤ 140737488351232 := by rw [← h.rlen]; exact hok.rl
  have HB0 := Lib.hid (show busesB t.bs = false → mayT t = false from fun h => by simp [mayT, h])
  have HR0 := Lib.hid (show rowsB t = false → mayT t = false from fun h => by simp [mayT, h])
  have HE := Lib.hid (show busesB t.bs = true → rowsB t = true → mayT t = (decide (1 ≤ bn) && (decide (bn ≤ 512) && decide (rn ≤ 4096))) from fun h1 h2 => by simp [mayT, h1, h2, h.bl, h.rlen])
  clear h hok
  have hmk := @run_makeMap Tryd.prog
  go_enter Tryd.func10, Tryd.ntmps10; (try simp only [List.append])
  go_wp2_with fail
  obtain ⟨mm, hmm⟩ : ∃ q, q = w.heap.size + 1 := ⟨_, rfl⟩
  obtain ⟨w2, hw2⟩ : ∃ W, W = (w.alloc (.cells #[.slice ba bn bc, .slice ra rn rc] 25)).alloc (.map #[] 0) := ⟨_, rfl⟩
  obtain ⟨p, hp⟩ : ∃ q, q = w.heap.size := ⟨_, rfl⟩
  have HM2 := Lib.hid (show MapV w2 Tryd.prog 9 mm (fun _ => none) from by
    rw [hw2, hmm]
    have := MapV.new (w.alloc (.cells #[.slice ba bn bc, .slice ra rn rc] 25)) Tryd.prog 9
    simpa using this)
  have K2 := Lib.hid (show Kept [] w w2 from by rw [hw2]; exact ((Kept.refl [] w).alloc _).alloc _)
  have C0 := Lib.hid (show w2.cell? ⟨p, 0, none⟩ = some (.slice ba bn bc) ∧ w2.cell? ⟨p, 1, none⟩ = some (.slice ra rn rc) from by
    rw [hw2, hp]
    exact ⟨cell_alloc (blk_cell (heap_alloc_new w _) 0) _, cell_alloc (blk_cell (heap_alloc_new w _) 1) _⟩)
  have HPM := Lib.hid (show p ≠ mm ∧ w.heap.size ≤ mm ∧ p < w2.heap.size ∧ mm < w2.heap.size from by
    have z : w2.heap.size = w.heap.size + 2 := by rw [hw2]; simp
    refine ⟨?_, ?_, ?_, ?_⟩ <;> omega)
  have hpm : p ∉ [mm] := by have := HPM.out.1; simpa using this
  try rw [← hmm, ← hw2, ← hp]
  clear hmm hw2 hp hmk
  have c0 := C0.out.1
  have c1 := C0.out.2
  go_wp2_with fail
  go_loopw [14] (fun i wr => ∃ (k : Nat) (f : Value → Option Value), k ≤ bn ∧ i = .int .i64 k ∧ MapV wr Tryd.prog 9 mm f ∧ Seen f (t.bs.take k) ∧ busesTo t.bs k = true ∧ Kept [mm] w2 wr) (fun i _ => bn - (intOf i).toNat)
  case atStart => exact ⟨0, _, Nat.zero_le _, rfl, HM2.out, Seen.nil, rfl, .refl _ _⟩
  case round =>
    obtain ⟨k, f, hk, rfl, hm, hs, hb, hkr⟩ := hrel
    have HM := Lib.hid hm
    have HS := Lib.hid hs
    have HB := Lib.hid hb
    have KR := Lib.hid hkr
    have KW := Lib.hid (show Kept [] w wr from kept_up K2.out hkr (fun b hb => by rw [List.mem_singleton.1 hb]; exact HPM.out.2.1))
    clear hm hs hb hkr
    have d0 := KR.out.cell c0 hpm
    have d1 := KR.out.cell c1 hpm
    by_cases hlt : k < bn
    · have hkl : k < t.bs.length := by rw [HBL.out]; exact hlt
      obtain ⟨gb, go_, rfl, x0, x1⟩ := (HT.out.bs.kept0 KW.out) k hkl
      have HAT := Lib.hid (show t.bs[k]? = some t.bs[k] from List.getElem?_eq_getElem hkl)
      have HSZ := Lib.hid (HOK.out.bn _ (List.getElem_mem hkl))
      have HTK := Lib.hid (show t.bs.take (k + 1) = t.bs.take k ++ [t.bs[k]] from take_snoc _ _ hkl)
      generalize t.bs[k] = b at *
      obtain ⟨nm, x⟩ := b
      simp only at x0 x1
      obtain ⟨w5, hw5⟩ : ∃ W, W = wr.alloc (.cells #[.string nm, .int .i64 x] 35) := ⟨_, rfl⟩
      have K5 := Lib.hid (show Kept [] wr w5 from by rw [hw5]; exact (Kept.refl [] wr).alloc _)
      obtain ⟨pb, hpb⟩ : ∃ q, q = wr.heap.size := ⟨_, rfl⟩
      have E5 := Lib.hid (show w5.cell? ⟨pb, 0, none⟩ = some (.string nm) ∧ w5.cell? ⟨pb, 1, none⟩ = some (.int .i64 x) from by
        rw [hw5, hpb]
        exact ⟨blk_cell (heap_alloc_new wr _) 0, blk_cell (heap_alloc_new wr _) 1⟩)
      have HN := Lib.hid (named_c nm HSZ.out.1 w5)
      have HF := Lib.hid (tfits_c (.string nm) x 0 (by omega) w5)
      have HLK := Lib.hid (show (Instr.lookup 79 (.map (some mm)) (.string nm) false).run Tryd.prog w5 = .ok (if (t.bs.take k).any (fun y => decide (y.1 = nm)) = true then .int .i64 1 else .int .i64 0) w5 from by
        obtain ⟨kl, hkl⟩ := str_key nm HSZ.out.1
        have h2 := (HM.out.kept K5.out (by simp)).look false str_law Tryd.underlying79 (int_zero2 _) hkl
        rw [HS.out nm] at h2
        rw [h2]
        by_cases hs : (t.bs.take k).any (fun y => decide (y.1 = nm)) = true
        · rw [if_pos hs, if_pos hs]; rfl
        · rw [if_neg hs, if_neg hs]; rfl)
      go_wp2_with fail
      try rw [← hpb]
      try rw [← hw5]
      clear hpb hw5
      have e0 := E5.out.1
      have e1 := E5.out.2
      cases hn : namedB nm with
      | false =>
        rw [hn] at HN
        have HR := Lib.hid (HB0.out (busesTo_no HAT.out (by simp [busB, hn])))
        clear hn HLK HF
        refine HN.out.mono ?_
        rintro e w6 ⟨rfl, rfl⟩
        go_wp2_with fail
        go_ret
        exact ⟨by rw [HR.out]; rfl, KW.out.trans K5.out⟩
      | true =>
        rw [hn] at HN
        cases ha : (t.bs.take k).any (fun y => decide (y.1 = nm)) with
        | true =>
          have hlk := HLK.out
          rw [ha, if_pos rfl] at hlk
          have HR := Lib.hid (HB0.out (busesTo_no HAT.out (by simp [busB, ha])))
          clear hn ha HLK HF
          refine HN.out.mono ?_
          rintro e w6 ⟨rfl, rfl⟩
          go_wp2_with fail
          go_ret
          exact ⟨by rw [HR.out]; rfl, KW.out.trans K5.out⟩
        | false =>
          have hlk := HLK.out
          rw [ha, if_neg (by simp)] at hlk
          cases hf : fitsB x 0 with
          | false =>
            rw [hf] at HF
            have HR := Lib.hid (HB0.out (busesTo_no HAT.out (by simp [busB, hf])))
            clear hn ha hf HLK
            refine HN.out.mono ?_
            rintro e w6 ⟨rfl, rfl⟩
            go_wp2_with fail
            refine HF.out.mono ?_
            rintro e w7 ⟨rfl, k7⟩
            have K7 := Lib.hid k7
            clear k7
            go_wp2_with fail
            go_ret
            exact ⟨by rw [HR.out]; rfl, (KW.out.trans K5.out).trans K7.out⟩
          | true =>
            rw [hf] at HF
            have HB1 := Lib.hid (show busesTo t.bs (k + 1) = true from by rw [busesTo_succ HAT.out, HB.out]; simp [busB, hn, ha, hf])
            clear hn ha hf HLK
            refine HN.out.mono ?_
            rintro e w6 ⟨rfl, rfl⟩
            go_wp2_with fail
            refine HF.out.mono ?_
            rintro e w7 ⟨rfl, k7⟩
            have K7 := Lib.hid (K5.out.trans k7)
            have f0 := k7.cell e0 (by simp)
            have HM7 := Lib.hid (HM.out.kept K7.out (by simp))
            clear k7 hlk e0 e1 x0 x1 d0 d1
            go_wp2_with (at_mapUpdate; refine wpList_upd (key := .string nm) (val := .int .i64 1) rfl rfl str_law Tryd.underlying79 rfl rfl rfl HM7.out (str_key nm HSZ.out.1) ?_; intro w8 hm8 hk8)
            go_roundw
            case rel => exact ⟨k + 1, _, by omega, by go_num, hm8, by rw [HTK.out]; exact HS.out.snoc (b := (nm, x)), HB1.out, (KR.out.trans (K7.out.more (by simp))).trans hk8⟩
            case measure => simp [intOf]; omega
    · obtain rfl : bn = k := by omega
      have HBS := Lib.hid (show busesB t.bs = true from by unfold busesB; rw [HBL.out]; exact HB.out)
      have d0' := d0
      have d1' := d1
      clear HM HS HB HM2 hpm c0 c1 d0 d1
      obtain ⟨wA, rfl⟩ : ∃ v : World, v = wr := ⟨_, rfl⟩
      have D0 := Lib.hid d0'
      have D1 := Lib.hid d1'
      go_wp2_with fail
      clear d0' d1'
      go_loopw [41] (fun i wq => ∃ (j : Nat), j ≤ rn ∧ i = .int .i64 j ∧ (t.rs.take j).all (rowB t.bs) = true ∧ Kept [] wA wq) (fun i _ => rn - (intOf i).toNat)
      case atStart => exact ⟨0, Nat.zero_le _, rfl, rfl, .refl _ _⟩
      case round =>
        obtain ⟨j, hj, rfl, hall, hkq⟩ := hrel
        have HALL := Lib.hid hall
        have KQ := Lib.hid hkq
        have KWQ := Lib.hid (KW.out.trans hkq)
        have d0 := hkq.cell D0.out (by simp)
        have d1 := hkq.cell D1.out (by simp)
        clear hall hkq
        by_cases hlt : j < rn
        · have hjl : j < wl.length := by rw [HRL.out]; exact hlt
          obtain ⟨gr, gro, rfl, x0, x1⟩ := (HT.out.rs.kept0 KWQ.out) j hjl
          have HRW := Lib.hid (HT.out.row j hjl)
          have hjr : j < t.rs.length := by rw [HT.out.rlen]; exact hlt
          have HRJ := Lib.hid (show t.rs[j] = wl[j].l from by have := HRW.out; rw [List.getElem?_eq_getElem hjr] at this; exact Option.some.inj this)
          have HWW := Lib.hid (HOK.out.rw _ (List.getElem_mem hjr))
          rw [HRJ.out] at HWW
          have HX := Lib.hid x1
          have HNO := Lib.hid (fun (h : rowB t.bs wl[j].l = false) => HR0.out (rowsB_no hjr (by rw [HRJ.out]; exact h)))
          have HYS := Lib.hid (fun (h : rowB t.bs wl[j].l = true) => show (t.rs.take (j + 1)).all (rowB t.bs) = true from by rw [all_take_succ hjr, HALL.out, HRJ.out, h]; rfl)
          clear x1 HRJ HRW
          generalize wl[j] = rj at *
          obtain ⟨l, la, lc⟩ := rj
          simp only at x0
          obtain ⟨ln, hln⟩ : ∃ q, q = l.length := ⟨_, rfl⟩
          rw [← hln] at x0
          have HLN := Lib.hid hln
          have hlm : ln ≤ 140737488351232 := by rw [hln]; exact HWW.out.2
          clear hln
          by_cases hle : ln = bn
          · obtain rfl : bn = ln := hle.symm
            have hne : ((bn : Int) != (bn : Int)) = false := by simp
            clear hle
            obtain ⟨wB, rfl⟩ : ∃ v : World, v = wr := ⟨_, rfl⟩
            have D0B := Lib.hid d0
            have D1B := Lib.hid d1
            go_wp2_with fail
            clear d0 d1 x0
            go_loopw [53] (fun i wq => ∃ (q : Nat), q ≤ bn ∧ i = .int .i64 q ∧ rowTo t.bs l q = true ∧ Kept [] wB wq) (fun i _ => bn - (intOf i).toNat)
            case atStart => exact ⟨0, Nat.zero_le _, rfl, rfl, .refl _ _⟩
            case round =>
              obtain ⟨q, hq, rfl, hrow, hkb⟩ := hrel
              have HROW := Lib.hid hrow
              have KB := Lib.hid hkb
              have KWB := Lib.hid (KWQ.out.trans hkb)
              have d0 := hkb.cell D0B.out (by simp)
              clear hrow hkb
              by_cases hlt : q < bn
              · have hqb : q < t.bs.length := by rw [HBL.out]; exact hlt
                have hql : q < l.length := by rw [← HLN.out]; exact hlt
                obtain ⟨gb, gbo, rfl, y0, y1⟩ := (HT.out.bs.kept0 KWB.out) q hqb
                obtain ⟨ad, rfl, y2⟩ := (HX.out.kept0 KB.out) q hql
                have HSU := Lib.hid (rowTo_succ t.bs l q)
                have HROWN := Lib.hid (fun h => rowTo_no (bs := t.bs) hql h)
                rw [show t.bs[q]? = some t.bs[q] from List.getElem?_eq_getElem hqb, show l.getD q 0 = l[q] from by rw [List.getD_eq_getElem?_getD, List.getElem?_eq_getElem hql]; rfl] at HSU HROWN
                have hxw := HWW.out.1 _ (List.getElem_mem hql)
                generalize t.bs[q] = b at *
                generalize l[q] = x at *
                obtain ⟨nm, xw⟩ := b
                simp only at y0 y1
                simp only [Option.map_some, Option.getD_some] at HSU HROWN
                have HF := Lib.hid (fun (W : World) => tfits_c (.string nm) xw x hxw W)
                cases hf : fitsB xw x with
                | false =>
                  rw [hf] at HF
                  have HR := Lib.hid (HNO.out (HROWN.out hf))
                  clear hf
                  go_wp2_with fail
                  refine (HF.out _).mono ?_
                  rintro e w7 ⟨rfl, k7⟩
                  have K7 := Lib.hid k7
                  clear k7
                  go_wp2_with fail
                  go_ret
                  exact ⟨by rw [HR.out]; rfl, KWB.out.trans K7.out⟩
                | true =>
                  rw [hf] at HF
                  have HR := Lib.hid (show rowTo t.bs l (q + 1) = true from by rw [HSU.out, HROW.out, hf]; rfl)
                  clear hf
                  go_wp2_with fail
                  refine (HF.out _).mono ?_
                  rintro e w7 ⟨rfl, k7⟩
                  have K7 := Lib.hid k7
                  clear k7
                  go_wp2_with fail
                  go_roundw
                  case rel => exact ⟨q + 1, by omega, by go_num, HR.out, KB.out.trans K7.out⟩
                  case measure => simp [intOf]; omega
              · obtain rfl : bn = q := by omega
                have HR := Lib.hid (HYS.out (by unfold rowB; rw [← HLN.out, HBL.out, HROW.out]; simp))
                go_wp2_with fail
                go_roundw
                case rel => exact ⟨j + 1, by omega, by go_num, HR.out, KQ.out.trans KB.out⟩
                case measure => simp [intOf]; omega
          · have HR := Lib.hid (HNO.out (by unfold rowB; rw [← HLN.out, HBL.out]; simp [hle]))
            have hne : ((ln : Int) != (bn : Int)) = true := by rw [bne_iff_ne]; omega
            go_wp2_with fail
            go_ret
            exact ⟨by rw [HR.out]; rfl, KWQ.out⟩
        · obtain rfl : j = rn := by omega
          have HRS := Lib.hid (show rowsB t = true from by
            have := HALL.out
            unfold rowsB
            rwa [List.take_of_length_le (by rw [HT.out.rlen]; exact Nat.le_refl _)] at this)
          have HR := Lib.hid (HE.out HBS.out HRS.out)
          by_cases h1 : 1 ≤ bn
          · by_cases h2 : bn ≤ 512
            · by_cases h3 : j ≤ 4096
              · go_wp2_with fail
                go_ret
                exact ⟨by rw [HR.out]; simp [h1, h2, h3] <;> omega, KWQ.out⟩
              · go_wp2_with fail
                go_ret
                exact ⟨by rw [HR.out]; simp [h1, h2, h3] <;> omega, KWQ.out⟩
            · go_wp2_with fail
              go_ret
              exact ⟨by rw [HR.out]; simp [h1, h2] <;> omega, KWQ.out⟩
          · go_wp2_with fail
            go_ret
            exact ⟨by rw [HR.out]; simp [h1] <;> omega, KWQ.out⟩
end Go.Proofs.YtjgcfncganleoaaDoor
