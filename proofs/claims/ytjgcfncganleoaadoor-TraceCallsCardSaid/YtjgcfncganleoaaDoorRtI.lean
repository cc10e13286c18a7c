/-
  Law 09's document: a bus's numbers.
-/
import Derived.Test.YtjgcfncganleoaaDoorRtG
namespace Go.Proofs.YtjgcfncganleoaaDoor
open Go.ChangeShapes Go.WideShapes Go.ChangeAt Go.RowKit
open Go.Maps (Keyed)
open Go.WideMaps
set_option linter.unusedVariables false
set_option linter.unusedSimpArgs false

variable {w w' : World} {S : List Nat}
set_option maxHeartbeats 1600000 in
set_option maxRecDepth 100000 in
theorem rcolumn_c {ba ra : Option Addr} {bn bc rn rc : Nat} {t : Tb} {wl : List WR} (nm : ByteArray) (h : TabV w ba bn bc ra rn rc t wl) (hok : t.ok) :
    Calls Tryd.prog 18 #[.agg #[.slice ba bn bc, .slice ra rn rc], .string nm] w (ColPost (columnT t nm) w) := by
  have HT := Lib.hid h
  have HOK := Lib.hid hok
  have hbm : bn ≤ 140737488351232 := by rw [← h.bl]; exact hok.bl
  have hrm : rn ≤ 140737488351232 := by rw [← h.rlen]; exact hok.rl
  have HM := Lib.hid (fun (W : World) (hW : Kept [] w W) => rmay_c (h.kept0 hW) hok)
  clear h hok
  go_enter Tryd.func18, Tryd.ntmps18; (try simp only [List.append])
  go_upto_region 1 with (fail)
  obtain ⟨w2, hw2⟩ : ∃ W, W = w.alloc (.cells #[.slice ba bn bc, .slice ra rn rc] 42) := ⟨_, rfl⟩
  obtain ⟨p, hp⟩ : ∃ q, q = w.heap.size := ⟨_, rfl⟩
  have K2 := Lib.hid (show Kept [] w w2 from by rw [hw2]; exact (Kept.refl [] w).alloc _)
  have C0 := Lib.hid (show w2.cell? ⟨p, 0, none⟩ = some (.slice ba bn bc) ∧ w2.cell? ⟨p, 1, none⟩ = some (.slice ra rn rc) from by
    rw [hw2, hp]
    exact ⟨blk_cell (heap_alloc_new w _) 0, blk_cell (heap_alloc_new w _) 1⟩)
  try rw [← hw2, ← hp]
  clear hw2 hp
  have c0 := C0.out.1
  have c1 := C0.out.2
  cases hm : mayT t with
  | false =>
    rw [hm] at HM
    have HR := Lib.hid (show columnT t nm = ([], false) from by unfold columnT; rw [hm]; rfl)
    clear hm
    go_wp2_with fail
    refine (HM.out _ K2.out).mono ?_
    rintro e w4 ⟨rfl, k4⟩
    have K4 := Lib.hid (K2.out.trans k4)
    clear k4
    go_wp2_with fail
    go_ret2
    rw [HR.out]
    exact ⟨none, 0, 0, rfl, Own.nil _ _, K4.out, by simp [ft]⟩
  | true =>
    rw [hm] at HM
    have Hm := Lib.hid hm
    have hr4 : rn ≤ 4096 := by rw [← HT.out.rlen]; exact (mayT_parts hm).2.2.2.2
    clear hm
    go_wp2_with fail
    refine (HM.out _ K2.out).mono ?_
    rintro e w3 ⟨rfl, k4⟩
    have K4 := Lib.hid (K2.out.trans k4)
    have d0 := k4.cell c0 (by simp)
    have d1 := k4.cell c1 (by simp)
    clear k4 c0 c1 HM
    have D := Lib.hid (And.intro d0 d1)
    go_wp2_with fail
    clear d0 d1
    go_loopw [6] (fun i wr => ∃ k : Nat, k ≤ bn ∧ i = .int .i64 k ∧ wr = w3 ∧ ∀ j, j < k → ∃ h : j < t.bs.length, decide (t.bs[j].1 = nm) = false) (fun i _ => bn - (intOf i).toNat)
    case atStart => exact ⟨0, Nat.zero_le _, rfl, rfl, fun j hj => by omega⟩
    case round =>
      obtain ⟨k, hk, rfl, rfl, hall⟩ := hrel
      obtain ⟨w3, rfl⟩ : ∃ v : World, v = wr := ⟨_, rfl⟩
      obtain ⟨d0, d1⟩ := D.out
      have HALL := Lib.hid hall
      clear hall
      by_cases hlt : k < bn
      · have hkl : k < t.bs.length := by rw [HT.out.bl]; exact hlt
        obtain ⟨gb, go_, rfl, x0, xx⟩ := (HT.out.bs.kept0 K4.out) k hkl
        clear xx
        obtain ⟨s, hsn⟩ : ∃ s, s = t.bs[k].1 := ⟨_, rfl⟩
        rw [← hsn] at x0
        by_cases he : s = nm
        · have HR := Lib.hid (show columnT t nm = (t.rs.map fun r => r.getD k 0, true) from by
            unfold columnT
            rw [if_pos Hm.out, findIdx_some hkl (by rw [← hsn]; exact decide_eq_true he) HALL.out])
          have hbq : (s.toList == nm.toList) = true := by rw [he]; simp
          have HK := Lib.hid hlt
          have hsn2 : s.toList = nm.toList := by rw [he]
          clear he hsn
          go_wp2_with fail
          clear x0 hbq hsn2 d0
          go_loopw [7, 8] (fun v i wr => ∃ (j : Nat) (a : Option Addr) (c : Nat), j ≤ rn ∧ i = .int .i64 j ∧ v = .slice a j c ∧ Own wr 27 a j c (nats .u64 ((t.rs.take j).map fun r => r.getD k 0)) ∧ Stepped w3 wr [] (ft a)) (fun _ i _ => rn - (intOf i).toNat)
          case atStart => exact ⟨0, none, 0, Nat.zero_le _, rfl, rfl, by simpa [nats] using Own.nil _ _, .refl _ _⟩
          case round =>
            obtain ⟨j, a, c, hj, rfl, rfl, hown, hst⟩ := hrel
            have d1 := hst.kept.cell D.out.2 (by simp)
            by_cases hlt : j < rn
            · have hjl : j < wl.length := by rw [HT.out.rl]; exact hlt
              obtain ⟨gr, gro, rfl, x0, x1⟩ := ((HT.out.rs.kept0 K4.out).kept0 hst.kept) j hjl
              have HRW := Lib.hid (HT.out.row j hjl)
              have hjr : j < t.rs.length := by rw [HT.out.rlen]; exact hlt
              have HLN := Lib.hid (show wl[j].l.length = bn from by rw [mayT_row Hm.out _ (List.mem_of_getElem? HRW.out), HT.out.bl])
              have HTK := Lib.hid (show (t.rs.take (j + 1)).map (fun r => r.getD k 0) = (t.rs.take j).map (fun r => r.getD k 0) ++ [wl[j].l.getD k 0] from by
                rw [take_snoc _ _ hjr, List.map_append]
                have := HRW.out
                rw [List.getElem?_eq_getElem hjr] at this
                rw [Option.some.inj this]
                rfl)
              generalize wl[j] = u at *
              obtain ⟨l, la, lc⟩ := u
              simp only at x0 x1 HLN HTK
              have hkl : k < l.length := by rw [HLN.out]; exact HK.out
              obtain ⟨ad, rfl, y⟩ := x1 k hkl
              rw [show l.getD k 0 = l[k] from by rw [List.getD_eq_getElem?_getD, List.getElem?_eq_getElem hkl]; rfl] at HTK
              rw [HLN.out] at x0
              have hkb := HK.out
              generalize l[k] = z at *
              clear x1
              go_wp2_with (at_builtin; refine wpList_push rfl rfl Tryd.underlying33 u64_info rfl rfl rfl hown rfl (by unfold maxLen; omega) (by omega) ?_; intro a1 c1 w5 hown5 hst5)
              go_roundw
              case rel => exact ⟨j + 1, a1, c1, by omega, by go_num, rfl, by rw [HTK.out, ← nats_append]; exact hown5, hst.trans hst5⟩
              case measure => simp [intOf]; omega
            · obtain rfl : rn = j := by omega
              have HTA := Lib.hid (show t.rs.take rn = t.rs from List.take_of_length_le (by rw [HT.out.rlen]; exact Nat.le_refl _))
              rw [HTA.out] at hown
              go_wp2_with fail
              go_ret2
              rw [HR.out]
              exact ⟨a, rn, c, rfl, hown, K4.out.trans hst.kept, fun b hb => (hst.fresh b hb).elim (fun h => by simp at h) (fun h => Nat.le_trans K4.out.size h)⟩
        · have hbq : (s.toList == nm.toList) = false := by rw [bytes_beq]; exact decide_eq_false he
          have hbq2 : ¬ s.toList = nm.toList := by simpa using hbq
          have HN := Lib.hid (show ∀ j, j < k + 1 → ∃ h : j < t.bs.length, decide (t.bs[j].1 = nm) = false from fun j hj => by
            by_cases h : j < k
            · exact HALL.out j h
            · obtain rfl : j = k := by omega
              exact ⟨hkl, by rw [← hsn]; exact decide_eq_false he⟩)
          clear he hsn hkl
          go_wp2_with fail
          go_roundw
          case rel => exact ⟨k + 1, by omega, by go_num, by first | rfl | trivial, HN.out⟩
          case measure => simp [intOf]; omega
      · obtain rfl : bn = k := by omega
        have HR := Lib.hid (show columnT t nm = ([], false) from by
          unfold columnT
          rw [if_pos Hm.out, findIdx_none (fun j hj => HALL.out j (by rw [← HT.out.bl]; exact hj))])
        go_wp2_with fail
        go_ret2
        rw [HR.out]
        exact ⟨none, 0, 0, rfl, Own.nil _ _, K4.out, by simp [ft]⟩
end Go.Proofs.YtjgcfncganleoaaDoor
