/-
  Package trace: the reader's first line.
-/
import Derived.Test.YtjgcfncganleoaaDoorTrcW
namespace Go.Proofs.YtjgcfncganleoaaDoor
open Go.ChangeShapes Go.WideShapes Go.ChangeAt Go.RowKit
set_option linter.unusedVariables false
set_option linter.unusedSimpArgs false

variable {w w' w1 W : World}
section
variable {f k n : Nat} {bs : List (ByteArray × Int)} {S l l2 l3 l4 nm : List UInt8} {x more : Bool}
theorem hd_e1 (h1 : nameT S = .error k) : headT (f + 1) bs S = .error k := by simp [headT, busRd, bd, h1]
theorem hd_e2 (h1 : nameT S = .ok ([], l)) : headT (f + 1) bs S = .error 5 := by simp [headT, busRd, bd, h1]
theorem hd_e3 (h1 : nameT S = .ok (nm, l)) (h2 : nm ≠ []) (h3 : oneT 58 58 l = .error k) : headT (f + 1) bs S = .error k := by simp [headT, busRd, bd, h1, h2, h3]
theorem hd_e4 (h1 : nameT S = .ok (nm, l)) (h2 : nm ≠ []) (h3 : oneT 58 58 l = .ok (x, l2)) (h4 : hasB bs nm = true) : headT (f + 1) bs S = .error 5 := by simp [headT, busRd, bd, h1, h2, h3, h4]
theorem hd_e5 (h1 : nameT S = .ok (nm, l)) (h2 : nm ≠ []) (h3 : oneT 58 58 l = .ok (x, l2)) (h4 : hasB bs nm = false) (h5 : numT 10 1 64 l2 = .error k) : headT (f + 1) bs S = .error k := by simp [headT, busRd, bd, h1, h2, h3, h4, h5]
theorem hd_e6 (h1 : nameT S = .ok (nm, l)) (h2 : nm ≠ []) (h3 : oneT 58 58 l = .ok (x, l2)) (h4 : hasB bs nm = false) (h5 : numT 10 1 64 l2 = .ok (n, l3)) (h6 : oneT 32 10 l3 = .error k) : headT (f + 1) bs S = .error k := by simp [headT, busRd, bd, h1, h2, h3, h4, h5, h6]
theorem hd_e7 (h1 : nameT S = .ok (nm, l)) (h2 : nm ≠ []) (h3 : oneT 58 58 l = .ok (x, l2)) (h4 : hasB bs nm = false) (h5 : numT 10 1 64 l2 = .ok (n, l3)) (h6 : oneT 32 10 l3 = .ok (more, l4)) : headT (f + 1) bs S = if more = true then headT f (bs ++ [(⟨nm.toArray⟩, (n : Int))]) l4 else .ok (bs ++ [(⟨nm.toArray⟩, (n : Int))], l4) := by simp [headT, busRd, bd, h1, h2, h3, h4, h5, h6]
end
/-- what head ends in -/
def HeadPost (q : Nat) (a : Option Addr) (c : Nat) (s : List UInt8) (r : PR (List (ByteArray × Int))) (w : World) (e : Ending) (w' : World) : Prop := match r with
  | .error k => Dies k [q] w e w'
  | .ok (bs, l) => ∃ pos' ba bc, e = .returned (.slice ba bs.length bc) ∧ s.drop pos' = l ∧ RdAt w' q a c s pos' ∧ Own2 w' 35 ba bs.length bc (busCells bs) ∧ Kept [q] w w' ∧ (∀ b ∈ ft ba, w.heap.size ≤ b)
def sLen : Value → Nat
  | .slice _ n _ => n
  | _ => 0
theorem numT_le {base first most n : Nat} {s l : List UInt8} (hb : base = 10 ∨ base = 16) (hf : first ≤ 1) (h : numT base first most s = .ok (n, l)) : n ≤ most := by
  rcases hb with rfl | rfl
  · exact (numT_inv dec_dig hf h).2.1
  · exact (numT_inv hex_dig hf h).2.1
set_option maxHeartbeats 3200000 in
set_option maxRecDepth 100000 in
theorem headr_c {q c p0 : Nat} {a : Option Addr} {s : List UInt8} (w : World) (h : RdAt w q a c s p0) :
    Calls Tryd.prog 76 #[.pointer (some ⟨q, 0, none⟩)] w (HeadPost q a c s (headT 512 [] (s.drop p0)) w) := by
  have HH := Lib.hid h
  have hql := blk_lt h.blk
  have HQ := Lib.hid hql
  clear h
  go_enter Tryd.func76, Tryd.ntmps76
  go_wp2_with fail
  go_loopw [3, 4] (fun lv mv wr => ∃ (bs : List (ByteArray × Int)) (pos f bc : Nat) (ba : Option Addr) (more : Bool), lv = .slice ba bs.length bc ∧ mv = .bool more ∧ bs.length + f = 512 ∧ headT 512 [] (s.drop p0) = (if more = true then headT f bs (s.drop pos) else .ok (bs, s.drop pos)) ∧ RdAt wr q a c s pos ∧ Own2 wr 35 ba bs.length bc (busCells bs) ∧ Kept [q] w wr ∧ (∀ b ∈ ft ba, w.heap.size ≤ b)) (fun lv _ _ => 512 - sLen lv)
  case atStart => exact ⟨[], p0, 512, 0, none, true, rfl, rfl, rfl, rfl, HH.out, World.ownsRow_nil _ _ _ _, .refl _ _, by simp [ft]⟩
  case round =>
    obtain ⟨bs, pos, f, bc, ba, more, rfl, rfl, hf, hrun, hr, ho, hk, hfr⟩ := hrel
    have HR := Lib.hid hr
    have HO := Lib.hid ho
    have KR := Lib.hid hk
    have HF := Lib.hid hf
    have HFR := Lib.hid hfr
    have HRUN := Lib.hid hrun
    have hbl : bs.length ≤ 512 := by omega
    clear hr ho hk hfr hrun
    cases more with
    | false =>
      clear hf
      generalize hn : bs.length = n at *
      have HN := Lib.hid hn
      clear hn
      go_wp2_with fail
      go_ret
      rw [HRUN.out]
      exact ⟨pos, ba, bc, by rw [HN.out]; rfl, rfl, HR.out, by rw [HN.out]; exact HO.out, KR.out, HFR.out⟩
    | true =>
      have HRUN := Lib.hid (show headT 512 [] (s.drop p0) = headT f bs (s.drop pos) from by rw [HRUN.out]; rfl)
      by_cases hz : f = 0
      · have HD := Lib.hid (show headT 512 [] (s.drop p0) = .error 5 from by rw [HRUN.out, hz]; rfl)
        have hb512 : ((bs.length : Int) == 512) = true := beq_iff_eq.2 (by omega)
        clear hf hz
        generalize bs.length = n at *
        go_wp2_with fail
        refine ⟨rfl, ?_⟩
        rw [HD.out]
        exact ⟨rfl, KR.out⟩
      · have hb512 : ((bs.length : Int) == 512) = false := beq_eq_false_iff_ne.2 (by omega)
        obtain ⟨g, hg⟩ : ∃ g, f = g + 1 := ⟨f - 1, by omega⟩
        have HG := Lib.hid hg
        have hn512 : bs.length < 512 := by omega
        have hlong : LongAt wr.heap.size 0 (wr.alloc (.cells #[.int .i64 0] 3)) := ⟨heap_new wr _, by omega⟩
        have HNM := Lib.hid (name_any (lb := wr.heap.size) (wr.alloc (.cells #[.int .i64 0] 3)) (HR.out.kept ((Kept.refl [] wr).alloc _)) hlong (by have := KR.out.size; omega) (fun hs hm => by have := HR.out.al hs _ hm; omega))
        have HB := Lib.hid (own2_bus HO.out)
        obtain ⟨n, hn⟩ : ∃ n, n = bs.length := ⟨_, rfl⟩
        have HN := Lib.hid hn
        rw [← hn] at hb512 hn512 hbl ⊢
        clear hf hz hg hlong hn
        go_wp2_with fail
        refine HNM.out.mono ?_
        intro e w1 hp
        rcases e1 : nameT (s.drop pos) with k | ⟨nm, l⟩
        · have HD := Lib.hid (show headT 512 [] (s.drop p0) = .error k from by rw [HRUN.out, HG.out]; exact hd_e1 e1)
          rw [e1] at hp
          obtain ⟨rfl, k1⟩ := hp
          have K1 := Lib.hid (kept_mix (KR.out.alloc _) k1 (by have := KR.out.size; simp; omega) : Kept [q] w w1)
          clear k1 e1
          go_wp2_with fail
          refine ⟨rfl, ?_⟩
          rw [HD.out]
          exact ⟨rfl, K1.out⟩
        rw [e1] at hp
        obtain ⟨p1, rfl, hd1, hr1, k1⟩ := hp
        have K1 := Lib.hid (kept_mix (((Kept.refl [] wr).alloc _).more (by simp)) k1 (by simp) : Kept [q] wr w1)
        have HR1 := Lib.hid hr1
        have HD1 := Lib.hid hd1
        have E1 := Lib.hid e1
        clear k1 hr1 hd1 e1
        by_cases hnm : nm = []
        · have HD := Lib.hid (show headT 512 [] (s.drop p0) = .error 5 from by rw [HRUN.out, HG.out]; exact hd_e2 (hnm ▸ E1.out))
          subst hnm
          go_wp2_with fail
          refine ⟨rfl, ?_⟩
          rw [HD.out]
          exact ⟨rfl, (KR.out.trans K1.out).alloc _⟩
        have hie : nm.isEmpty = false := by cases nm <;> simp_all
        have HNN := Lib.hid hnm
        clear hnm
        obtain ⟨w2, hw2⟩ : ∃ w2, w2 = w1.alloc (.cells #[.string ⟨nm.toArray⟩] 9) := ⟨_, rfl⟩
        have HONE := Lib.hid (one_any (xa := 58) (xb := 58) _ (HR1.out.kept ((Kept.refl [] w1).alloc (.cells #[.string ⟨nm.toArray⟩] 9))))
        have HCN := Lib.hid (show (w1.alloc (.cells #[.string ⟨nm.toArray⟩] 9)).cell? ⟨w1.heap.size, 0, none⟩ = some (.string ⟨nm.toArray⟩) from blk_cell (heap_new _ _) 0)
        have K2 := Lib.hid (show Kept [q] wr (w1.alloc (.cells #[.string ⟨nm.toArray⟩] 9)) from K1.out.alloc _)
        clear hw2 w2
        go_wp2_with fail
        refine HONE.out.mono ?_
        intro e w3 hp
        rcases e2 : oneT 58 58 (s.drop p1) with k | ⟨x, l2⟩
        · have HD := Lib.hid (show headT 512 [] (s.drop p0) = .error k from by rw [HRUN.out, HG.out]; exact hd_e3 E1.out HNN.out (HD1.out ▸ e2))
          rw [e2] at hp
          obtain ⟨rfl, k3⟩ := hp
          have K3 := Lib.hid (K2.out.trans k3)
          clear k3 e2
          go_wp2_with fail
          refine ⟨rfl, ?_⟩
          rw [HD.out]
          exact ⟨rfl, KR.out.trans K3.out⟩
        rw [e2] at hp
        obtain ⟨p2, rfl, hd2, hr2, k3⟩ := hp
        have hnq : w1.heap.size ≠ q := by have := blk_lt HR1.out.blk; omega
        have HCN3 := Lib.hid (k3.cell HCN.out (by simpa using hnq))
        have K3 := Lib.hid (K2.out.trans k3)
        have HR2 := Lib.hid hr2
        have HD2 := Lib.hid hd2
        have E2 := Lib.hid (show oneT 58 58 l = .ok (x, l2) from HD1.out ▸ e2)
        have hqba : ∀ b ∈ ft ba, b ∉ [q] := fun b hb => by have := HFR.out b hb; have := HQ.out; simp; omega
        have HQBA := Lib.hid hqba
        have HO3 := Lib.hid (HO.out.kept K3.out hqba)
        have HHAS := Lib.hid (has_c (bs := bs) (len := n) (c := bc) nm w3 HN.out.symm (by omega) (own2_bus HO3.out) HCN3.out)
        clear k3 hr2 hd2 e2 hnq hqba
        go_wp2_with fail
        refine HHAS.out.mono ?_
        rintro e w4 ⟨rfl, k4⟩
        have K4 := Lib.hid (K3.out.trans (k4.more (by simp)))
        have HR4 := Lib.hid (HR2.out.kept k4)
        have HCN4 := Lib.hid (k4.cell HCN3.out (by simp))
        have HO4 := Lib.hid (HO3.out.kept k4 (by simp))
        clear k4
        by_cases hhas : hasB bs nm = true
        · have HD := Lib.hid (show headT 512 [] (s.drop p0) = .error 5 from by rw [HRUN.out, HG.out]; exact hd_e4 E1.out HNN.out E2.out hhas)
          rw [hhas]
          clear hhas
          go_wp2_with fail
          refine ⟨rfl, ?_⟩
          rw [HD.out]
          exact ⟨rfl, KR.out.trans K4.out⟩
        have hhas : hasB bs nm = false := by simpa using hhas
        have E3 := Lib.hid hhas
        rw [hhas]
        have HNU := Lib.hid (number_c 10 1 64 (.inl rfl) (by omega) w4 HR4.out)
        clear hhas
        go_wp2_with fail
        refine HNU.out.mono ?_
        intro e w5 hp
        rcases e4 : numT 10 1 64 (s.drop p2) with k | ⟨wd, l3⟩
        · have HD := Lib.hid (show headT 512 [] (s.drop p0) = .error k from by rw [HRUN.out, HG.out]; exact hd_e5 E1.out HNN.out E2.out E3.out (HD2.out ▸ e4))
          rw [e4] at hp
          obtain ⟨rfl, k5⟩ := hp
          have K5 := Lib.hid (K4.out.trans k5)
          clear k5 e4
          go_wp2_with fail
          refine ⟨rfl, ?_⟩
          rw [HD.out]
          exact ⟨rfl, KR.out.trans K5.out⟩
        rw [e4] at hp
        obtain ⟨p3, rfl, hd3, hr3, k5⟩ := hp
        have hwd : wd ≤ 64 := numT_le (.inl rfl) (by omega) e4
        have hnq : w1.heap.size ≠ q := by have := blk_lt HR1.out.blk; omega
        have c5 := k5.cell HCN4.out (by simpa using hnq)
        have HO5 := Lib.hid (HO4.out.kept k5 HQBA.out)
        have K5 := Lib.hid (K4.out.trans k5)
        have HR5 := Lib.hid hr3
        have HD3 := Lib.hid hd3
        have E4 := Lib.hid (show numT 10 1 64 l2 = .ok (wd, l3) from HD2.out ▸ e4)
        have hown5 : w5.ownsRow 0 35 2 (.slice ba n bc) n (busCells bs) := HN.out.symm ▸ HO5.out
        have HOW5 := Lib.hid hown5
        clear k5 hr3 hd3 e4 hnq hown5
        go_wp2_with (at_builtin; refine wpList_push2 (w := w5) (news := [.string ⟨nm.toArray⟩, .int .i64 (wd : Int)]) rfl rfl Tryd.underlying22 bus_info rfl (by omega) rfl rfl rfl HOW5.out rfl (by simp [Value.oneCell']) (by unfold maxLen; omega) (by omega) rfl ?_; intro a6 c6 w6 hown6 hst6)
        have HOW6 := Lib.hid hown6
        have HST6 := Lib.hid hst6
        have HQ6 := Lib.hid (show Kept [q] w w6 from kept_mix (KR.out.trans K5.out) hst6.kept (fun b hb => .inr (HFR.out b hb)))
        have HR6 := Lib.hid (show RdAt w6 q a c s p3 from by
          have h1 := HR5.out
          have hqa : q ∉ ft ba := fun hm => by have := HFR.out _ hm; have := HQ.out; omega
          have haa : s ≠ [] → ∀ b ∈ ft a, b ∉ ft ba := fun hs b hb hm => by
            have := HFR.out _ hm
            have := HH.out.al hs b hb
            omega
          exact ⟨hst6.kept.heap h1.blk hqa, fun j hj => by
            obtain ⟨ad, rfl, x0⟩ := h1.txt j hj
            exact ⟨ad, rfl, hst6.kept.cell x0 (by rw [add_block]; exact haa (ne_of_lt hj) _ (by simp [ft]))⟩, h1.len, h1.pos, h1.ap, h1.cp⟩)
        have HONE := Lib.hid (one_any (xa := 32) (xb := 10) w6 HR6.out)
        clear hown6 hst6
        go_wp2_with fail
        refine HONE.out.mono ?_
        intro e w7 hp
        rcases e5 : oneT 32 10 (s.drop p3) with k | ⟨more, l4⟩
        · have HD := Lib.hid (show headT 512 [] (s.drop p0) = .error k from by rw [HRUN.out, HG.out]; exact hd_e6 E1.out HNN.out E2.out E3.out E4.out (HD3.out ▸ e5))
          rw [e5] at hp
          obtain ⟨rfl, k7⟩ := hp
          have K7 := Lib.hid k7
          clear k7 e5
          go_wp2_with fail
          refine ⟨rfl, ?_⟩
          rw [HD.out]
          exact ⟨rfl, HQ6.out.trans K7.out⟩
        rw [e5] at hp
        obtain ⟨p4, rfl, hd4, hr4, k7⟩ := hp
        have HR7 := Lib.hid hr4
        have HD4 := Lib.hid hd4
        have K7 := Lib.hid k7
        have E5 := Lib.hid (show oneT 32 10 l3 = .ok (more, l4) from HD3.out ▸ e5)
        clear k7 hr4 hd4 e5
        go_wp2_with fail
        go_roundw
        case rel =>
          have hfr6 : ∀ b ∈ ft a6, w.heap.size ≤ b := fun b hb => by
            rcases HST6.out.fresh b hb with h1 | h1
            · exact HFR.out b h1
            · have := (KR.out.trans K5.out).size; omega
          refine ⟨bs ++ [(⟨nm.toArray⟩, (wd : Int))], p4, f - 1, c6, a6, more, by rw [HN.out]; simp, rfl, ?_, ?_, HR7.out, ?_, HQ6.out.trans K7.out, hfr6⟩
          · have := HF.out; have := HG.out; simp; omega
          · rw [HRUN.out, HG.out, hd_e7 E1.out HNN.out E2.out E3.out E4.out E5.out, HD4.out]
            rfl
          · have h6 : Own2 w6 35 a6 (n + 1) c6 (busCells bs ++ [.string ⟨nm.toArray⟩, .int .i64 (wd : Int)]) := HOW6.out
            have h7 := h6.kept K7.out (fun b hb => by have := hfr6 b hb; have := HQ.out; simp; omega)
            rw [busCells_snoc bs (⟨nm.toArray⟩, (wd : Int))] at h7
            rw [List.length_append, List.length_singleton, ← HN.out]
            exact h7
        case measure =>
          simp [sLen]
          omega
end Go.Proofs.YtjgcfncganleoaaDoor
