/-
  Package trace: Put, the walk.
-/
import Derived.Test.YtjgcfncganleoaaDoorTrcL
namespace Go.Proofs.YtjgcfncganleoaaDoor
open Go.ChangeShapes Go.WideShapes Go.ChangeAt Go.RowKit
set_option linter.unusedVariables false
set_option linter.unusedSimpArgs false

variable {w w' w1 W : World} {B pb n : Nat} {L L' : List UInt8} {v : Value}
set_option maxHeartbeats 6400000 in
set_option maxRecDepth 100000 in
theorem put_c {ba ra : Option Addr} {bn bc rn rc : Nat} {t : Tb} {wl : List WR} (w : World) (h : TabV w ba bn bc ra rn rc t wl) (hok : t.ok) (hg : w.cell? ⟨3, 15, none⟩ = some (.int .u8 4)) :
    Calls Tryd.prog 16 #[.agg #[.slice ba bn bc, .slice ra rn rc]] w (PutPost t w) := by
  have HT := Lib.hid h
  have HOK := Lib.hid hok
  have HG := Lib.hid hg
  have hbm : bn ≤ 140737488351232 := by rw [← h.bl]; exact hok.bl
  have hrm : rn ≤ 140737488351232 := by rw [← h.rlen]; exact hok.rl
  have HM := Lib.hid (fun (W : World) (hW : Kept [] w W) => may_c (h.kept0 hW) hok)
  have hmf : ∀ (fn : Fn) (first cap : Array Value) (w : World), (Instr.makeFunc fn first cap).run Tryd.prog w = .ok (.func fn first cap) w := fun _ _ _ _ => rfl
  clear h hok hg
  go_enter Tryd.func16, Tryd.ntmps16; (try simp only [List.append])
  go_upto_region 1 with (fail)
  obtain ⟨tb, hp⟩ : ∃ q, q = w.heap.size := ⟨_, rfl⟩
  obtain ⟨w2, hw2⟩ : ∃ W, W = w.alloc (.cells #[.slice ba bn bc, .slice ra rn rc] 25) := ⟨_, rfl⟩
  have K2 := Lib.hid (show Kept [] w w2 from by rw [hw2]; exact (Kept.refl [] w).alloc _)
  have C0 := Lib.hid (show (w2.cell? ⟨tb, 0, none⟩ = some (.slice ba bn bc) ∧ w2.cell? ⟨tb, 1, none⟩ = some (.slice ra rn rc)) from by
    rw [hw2, hp]
    exact ⟨blk_cell (heap_alloc_new w _) 0, blk_cell (heap_alloc_new w _) 1⟩)
  try rw [← hp]
  try rw [← hw2]
  clear hp hw2
  have c0 := C0.out.1
  have c1 := C0.out.2
  go_wp2_with fail
  refine (HM.out w2 K2.out).mono ?_
  rintro e w3 ⟨rfl, k3⟩
  have K3 := Lib.hid (K2.out.trans k3)
  have d0 := k3.cell c0 (by simp)
  have d1 := k3.cell c1 (by simp)
  clear k3 c0 c1
  cases hm : mayT t with
  | false =>
    have HMM := Lib.hid hm
    clear hm
    go_wp2_with fail
    go_ret2
    exact .inl ⟨HMM.out, rfl, K3.out⟩
  | true =>
    have HMM := Lib.hid hm
    clear hm
    go_upto_region 4 with (fail)
    obtain ⟨pb, hpb⟩ : ∃ q, q = w3.heap.size := ⟨_, rfl⟩
    obtain ⟨w4, hw4⟩ : ∃ W, W = w3.alloc (.cells #[.slice none 0 0] 44) := ⟨_, rfl⟩
    have HB4 := Lib.hid (show BufAt pb w4 pb [] ∧ Below pb w3 w4 ∧ Kept [] w3 w4 ∧ w3.heap.size ≤ pb ∧ w4.heap.size = pb + 1 from by
      rw [hw4, hpb]
      exact ⟨⟨Nat.le_refl _, _, heap_alloc_new w3 _, by simp [Lib.byteCells], .inl ⟨rfl, rfl⟩⟩, (Below.refl _ w3).alloc (Nat.le_refl _) _, (Kept.refl [] w3).alloc _, Nat.le_refl _, by simp⟩)
    try rw [← hpb]
    try rw [← hw4]
    clear hpb hw4
    have HT3 := Lib.hid (HT.out.kept0 K3.out)
    have HALL := Lib.hid (fun (V : World) (hV : BufK pb pb w4 V) => cells_below (HB4.out.2.1.trans hV.below) HB4.out.2.2.2.1)
    have HH := Lib.hid (head_c HMM.out HB4.out.2.2.2.1 HB4.out.2.1 HT3.out.bs HT3.out.bl d0 HB4.out.1 (by simp))
    have e0 := HB4.out.2.2.1.cell d0 (by simp)
    have D1 := Lib.hid d1
    have D0 := Lib.hid d0
    clear d0 d1
    go_wp2_with fail
    refine HH.out.mono ?_
    rintro e w5 ⟨rfl, hb5, hk5⟩
    have HB5 := Lib.hid hb5
    have HK5 := Lib.hid hk5
    have e1 := HALL.out w5 hk5 _ _ D1.out
    clear hb5 hk5 e0
    go_wp2_with fail
    go_loopw [21] (fun i wr => ∃ k : Nat, k ≤ rn ∧ i = .int .i64 k ∧ BufAt pb wr pb (putTo t k) ∧ BufK pb pb w4 wr) (fun i _ => rn - (intOf i).toNat)
    case atStart => exact ⟨0, Nat.zero_le _, rfl, by simpa [putTo] using HB5.out, HK5.out⟩
    case round =>
      obtain ⟨k, hk, rfl, hb, hkr⟩ := hrel
      have HB := Lib.hid hb
      have KR := Lib.hid hkr
      clear hb hkr
      by_cases hlt : k < rn
      · have hkl : k < wl.length := by have := HT.out.rl; omega
        have hkt : k < t.rs.length := by have := HT.out.rlen; omega
        have hrow : t.rs[k] = wl[k].l := by
          have h := HT.out.row k hkl
          rw [List.getElem?_eq_getElem hkt] at h
          exact Option.some.inj h
        obtain ⟨xb, xo, rfl, x0, x1⟩ := HT3.out.rs k hkl
        have y0 := HALL.out wr KR.out _ _ x0
        have HPN := Lib.hid (putTo_succ t (List.getElem?_eq_getElem hkt))
        have HFR := Lib.hid (And.intro x1 (And.intro (show Words wl[k].l from hrow ▸ (HOK.out.rw _ (List.getElem_mem hkt)).1) (And.intro (show wl[k].l.length ≤ 512 from by rw [← hrow, may_row HMM.out k hkt]; exact (may_len HMM.out).1) hrow)))
        have HLN := Lib.hid (putTo_len HMM.out HOK.out k (by omega))
        have HRT := Lib.hid (show rn ≤ 4096 from by have h1 := HT.out.rlen; have h2 := (may_len HMM.out).2; omega)
        clear x0 x1 hrow
        generalize wl[k] = r at *
        obtain ⟨xn, hxn⟩ : ∃ q, q = r.l.length := ⟨_, rfl⟩
        rw [← hxn] at y0
        have HXN := Lib.hid hxn
        clear hxn
        go_upto_region 9 with (fail)
        obtain ⟨rb, hrb⟩ : ∃ q, q = wr.heap.size := ⟨_, rfl⟩
        obtain ⟨w6, hw6⟩ : ∃ W, W = wr.alloc (.cells #[.slice r.a xn r.c] 33) := ⟨_, rfl⟩
        have H6 := Lib.hid (show Kept [] wr w6 ∧ w6.heap[rb]? = some (.cells #[.slice r.a xn r.c] 33 (0, 0)) ∧ pb ≠ rb from by
          rw [hw6, hrb]
          exact ⟨(Kept.refl [] wr).alloc _, heap_alloc_new wr _, fun e => by have := HB.out.lt; omega⟩)
        try rw [← hrb]
        try rw [← hw6]
        clear hrb hw6
        have K6 := Lib.hid (KR.out.kept H6.out.1 HB.out.low)
        have z0 : w6.cell? ⟨rb, 0, none⟩ = some (.slice r.a xn r.c) := by rw [blk_cell H6.out.2.1 0]; rfl
        have e6 := HALL.out w6 K6.out _ _ D1.out
        have HR := Lib.hid (row_c HB4.out.2.2.2.1 (HB4.out.2.1.trans K6.out.below) HFR.out.1 HFR.out.2.1 HXN.out.symm (by have h1 := HFR.out.2.2.1; have h2 := HXN.out; omega) H6.out.2.1 (fun e => H6.out.2.2 e.symm) (K3.out.cell HG.out (by simp)) (HB.out.keep H6.out.1) (by have := HLN.out; have := HRT.out; omega))
        clear y0 e1
        go_wp2_with fail
        refine HR.out.mono ?_
        rintro e w7 ⟨rfl, hb7, hk7⟩
        have H7 := Lib.hid (And.intro hb7 (K6.out.trans hk7))
        clear hb7 hk7 z0 e6
        go_wp2_with fail
        go_roundw
        case rel =>
          refine ⟨k + 1, by omega, rfl, ?_, H7.out.2⟩
          rw [HPN.out, HFR.out.2.2.2]
          exact H7.out.1
        case measure => simp [intOf]; omega
      · have hkm : k = rn := by omega
        subst hkm
        obtain ⟨hBp, v, b1, b2⟩ := HB.out
        have c1 : wr.cell? ⟨pb, 0, none⟩ = some v := by rw [blk_cell b1 0]; rfl
        have HOW := Lib.hid b2
        clear b1 b2
        go_wp2_with fail
        go_ret2
        have hK := HB4.out.2.2.2.1
        have hW := K3.out.size
        refine .inr ⟨HMM.out, v, rfl, ?_, ?_⟩
        · have h := own_mono (B' := w.heap.size) HOW.out (by omega)
          rw [putTx, HT.out.rlen]
          exact h
        · exact ((below_of_kept K3.out).trans (below_mono HB4.out.2.1 (by omega))).trans (below_mono KR.out.below (by omega))
end Go.Proofs.YtjgcfncganleoaaDoor
