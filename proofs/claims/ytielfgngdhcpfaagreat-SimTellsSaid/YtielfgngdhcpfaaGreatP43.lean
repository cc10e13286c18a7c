/-
  The document's simulation: a literal's word; words in part; Step refuses rows that do not fit.
  The document's simulation in memory; New.
  The document's simulation: Reset, New.
-/
import Derived.Test.YtielfgngdhcpfaaGreatP42
import Derived.Test.YtielfgngdhcpfaaGreatP34
import Derived.Test.YtielfgngdhcpfaaGreatP35
namespace Go.Proofs.YtielfgngdhcpfaaGreat
open Go.ChangeShapes Go.WideShapes Go.ChangeAt Go.RowKit
open Go.Maps (Keyed)
open Go.WideMaps
set_option linter.unusedVariables false
set_option linter.unusedSimpArgs false

variable {w w' : World} {p n k q v : Nat} {F R S NF NR : List Nat} {g : Gr} {N : Nt}
def rsCells (n : Nat) (ra : Option Addr) (m rc : Nat) (wv cy : Value) : Array Value := #[.pointer (some ⟨n, 0, none⟩), .slice ra m rc, wv, cy]
theorem reset_snoc (N : Nt) (k : Nat) (h : k < N.regs.length) : (resetN N).take (k + 1) = (resetN N).take k ++ [if N.regs[k].init then 18446744073709551615 else 0] := by
  have h2 : k < (resetN N).length := by simpa [resetN] using h
  rw [List.take_succ_eq_append_getElem h2, reset_get h h2]
theorem kept_upS {w wr w2 : World} {S T : List Nat} (h : Kept T w wr) (hk : Kept S wr w2) (hS : ∀ b ∈ S, w.heap.size ≤ b) : Kept T w w2 :=
  ⟨hk.os.trans h.os, hk.tape.trans h.tape, hk.output.trans h.output, Nat.le_trans h.size hk.size, fun b hb hn => (hk.block b (Nat.lt_of_lt_of_le hb h.size) (fun hm => by have := hS b hm; omega)).trans (h.block b hb hn)⟩
def RReset (v n : Nat) (N : Nt) (w : World) (w' : World) : Prop :=
  ∃ ra rc, w'.heap[v]? = some (.cells (rsCells n ra N.regs.length rc (.slice none 0 0) (.int .i64 0)) 85 (0, 0)) ∧ Own w' 34 ra N.regs.length rc (nats .u64 (resetN N)) ∧ Kept [v] w w' ∧ ∀ b ∈ ft ra, w.heap.size ≤ b
set_option maxHeartbeats 6400000 in
set_option maxRecDepth 100000 in
theorem reset08 {v1 v2 v3 : Value} (hb : w.heap[v]? = some (.cells #[.pointer (some ⟨n, 0, none⟩), v1, v2, v3] 85 (0, 0))) (hn : RNetAt w n NF NR N) (hnr : N.regs.length ≤ 100000) (hs : v ∉ NF) :
    Calls Tryz.prog 29 #[.pointer (some ⟨v, 0, none⟩)] w fun e w' => (∃ u, e = .returned u) ∧ RReset v n N w w' := by
  obtain ⟨p, G, ia, ic, ra, rc, oa, oc, ri, ro, rfl, rfl, hc⟩ := hn
  obtain ⟨nr, hnr'⟩ : ∃ k, k = N.regs.length := ⟨_, rfl⟩
  have HSR := Lib.hid (rregs_sl hnr'.symm (by rw [hnr']; exact hc.rb))
  have n3 := hc.c3
  have hvn : v ≠ n := fun h => hs (by rw [h]; simp)
  have hvr : v ∉ ft ra := fun h => hs (by simp [h])
  have HVR := Lib.hid hvr
  have HVN := Lib.hid hvn
  have HNR := Lib.hid hnr'
  rw [← hnr'] at n3 hnr
  have N3 := Lib.hid n3
  have c0 := blk_cell hb 0
  have c1 := blk_cell hb 1
  have c2 := blk_cell hb 2
  have c3 := blk_cell hb 3
  have f1 := blk_free hb 1
  have f2 := blk_free hb 2
  have f3 := blk_free hb 3
  have HB := Lib.hid hb
  have hvlt := blk_lt hb
  have RS := Lib.hid (fun k (h : k < N.regs.length) => reset_snoc N k h)
  clear hc hs hb hnr' hvn hvr n3
  go_enter Tryz.func29, Tryz.ntmps29
  go_wp2_with fail
  obtain ⟨w2, hw2⟩ : ∃ W, W = (((w.setCell ⟨v, 1, none⟩ (.slice none 0 0)).setCell ⟨v, 2, none⟩ (.slice none 0 0)).setCell ⟨v, 3, none⟩ (.int .i64 0)) := ⟨_, rfl⟩
  rw [← hw2]
  have K2 := Lib.hid (show Kept [v] w w2 from by rw [hw2]; exact (((Kept.refl [v] w).setCell (.inl (by simp)) _).setCell (.inl (by simp)) _).setCell (.inl (by simp)) _)
  have B2 := Lib.hid (show w2.heap[v]? = some (.cells (rsCells n none 0 0 (.slice none 0 0) (.int .i64 0)) 85 (0, 0)) from by
    rw [hw2]
    exact blk_set (blk_set (blk_set HB.out 1 _) 2 _) 3 _)
  clear hw2 c0 c1 c2 c3 f1 f2 f3 HB
  go_loopw [2] (fun i wr => ∃ (k : Nat) (a : Option Addr) (c : Nat), k ≤ nr ∧ i = .int .i64 k ∧ wr.heap[v]? = some (.cells (rsCells n a k c (.slice none 0 0) (.int .i64 0)) 85 (0, 0)) ∧ Own wr 34 a k c (nats .u64 ((resetN N).take k)) ∧ Kept [v] w wr ∧ ∀ b ∈ ft a, w.heap.size ≤ b) (fun i _ => nr - (intOf i).toNat)
  case atStart => exact ⟨0, none, 0, Nat.zero_le _, rfl, B2.out, by simpa [nats] using Own.nil _ _, K2.out, by simp [ft]⟩
  case round =>
    obtain ⟨k, a, c, hk, rfl, hbr, hor, hkr, hfa⟩ := hrel
    have BR := Lib.hid hbr
    have HOR := Lib.hid hor
    have KR := Lib.hid hkr
    have HFA := Lib.hid hfa
    have hva : v ∉ ft a := blk_apart hbr hor (by decide)
    have HVA := Lib.hid hva
    clear hbr hor hkr hfa hva
    have c0 : wr.cell? ⟨v, 0, none⟩ = some (.pointer (some ⟨n, 0, none⟩)) := blk_cell BR.out 0
    have n3 : wr.cell? ⟨n, 3, none⟩ = some (.slice ra nr rc) := KR.out.cell N3.out (by simp; exact fun h => HVN.out h.symm)
    by_cases hlt : k < nr
    · have hkl : k < N.regs.length := by rw [← HNR.out]; exact hlt
      obtain ⟨b, hbb, h0, h1, h2, h3⟩ := (HSR.out.kept KR.out (fun b hb hx => by simp at hx; subst hx; exact HVR.out hb)) k hkl
      subst hbb
      have c1 : wr.cell? ⟨v, 1, none⟩ = some (.slice a k c) := blk_cell BR.out 1
      have H1 := Lib.hid (RS.out k hkl)
      clear h0 h1 h2
      generalize N.regs[k].init = x4 at *
      have hown := HOR.out
      cases x4 with
      | true =>
        go_wp2_with (at_builtin; refine wpList_push (u := .int .u64 18446744073709551615) rfl rfl Tryz.underlying35 u64_info rfl rfl rfl hown rfl (by unfold maxLen; omega) (by omega) ?_; intro a1 c5 w5 hown5 hst5; have B5 := Lib.hid (hst5.kept.heap BR.out HVA.out); have c15 : w5.cell? ⟨v, 1, none⟩ = some (.slice a k c) := blk_cell B5.out 1; have f15 := blk_free B5.out 1)
        go_roundw
        case rel =>
          refine ⟨k + 1, a1, c5, by omega, by go_num, blk_set B5.out 1 _, ?_, ?_, fun b hb => (hst5.fresh b hb).elim (HFA.out b) (fun h => Nat.le_trans KR.out.size h)⟩
          · have hva1 : v ∉ ft a1 := blk_apart B5.out hown5 (by decide)
            rw [H1.out]
            have h := hown5.kept ((Kept.refl [v] w5).setCell (p := ⟨v, 1, none⟩) (.inl (by simp)) (.slice a1 (k + 1) c5)) (fun b hb hx => by simp at hx; subst hx; exact hva1 hb)
            first | (rw [if_pos rfl, ← nats_append]; exact h) | (rw [if_neg (by simp), ← nats_append]; exact h)
          · exact (kept_upS KR.out hst5.kept HFA.out).setCell (.inl (by simp)) _
        case measure => simp [intOf]; omega
      | false =>
        go_wp2_with (at_builtin; refine wpList_push (u := .int .u64 0) rfl rfl Tryz.underlying35 u64_info rfl rfl rfl hown rfl (by unfold maxLen; omega) (by omega) ?_; intro a1 c5 w5 hown5 hst5; have B5 := Lib.hid (hst5.kept.heap BR.out HVA.out); have c15 : w5.cell? ⟨v, 1, none⟩ = some (.slice a k c) := blk_cell B5.out 1; have f15 := blk_free B5.out 1)
        go_roundw
        case rel =>
          refine ⟨k + 1, a1, c5, by omega, by go_num, blk_set B5.out 1 _, ?_, ?_, fun b hb => (hst5.fresh b hb).elim (HFA.out b) (fun h => Nat.le_trans KR.out.size h)⟩
          · have hva1 : v ∉ ft a1 := blk_apart B5.out hown5 (by decide)
            rw [H1.out]
            have h := hown5.kept ((Kept.refl [v] w5).setCell (p := ⟨v, 1, none⟩) (.inl (by simp)) (.slice a1 (k + 1) c5)) (fun b hb hx => by simp at hx; subst hx; exact hva1 hb)
            first | (rw [if_pos rfl, ← nats_append]; exact h) | (rw [if_neg (by simp), ← nats_append]; exact h)
          · exact (kept_upS KR.out hst5.kept HFA.out).setCell (.inl (by simp)) _
        case measure => simp [intOf]; omega
    · obtain rfl : k = nr := by omega
      have HF := Lib.hid (show (resetN N).take k = resetN N from List.take_of_length_le (by rw [HNR.out]; simp [resetN]))
      go_wp2_with fail
      refine bodyPost_end (v := .tuple #[]) (by simp [results, Tryz.results29, go_sem]) rfl ?_
      exact ⟨⟨_, rfl⟩, a, c, by rw [← HNR.out]; exact BR.out, by rw [← HNR.out, ← HF.out]; exact HOR.out, KR.out, HFA.out⟩
end Go.Proofs.YtielfgngdhcpfaaGreat

namespace Go.Proofs.YtielfgngdhcpfaaGreat
open Go.ChangeShapes Go.WideShapes Go.ChangeAt Go.RowKit
open Go.Maps (Keyed)
open Go.WideMaps
set_option linter.unusedVariables false
set_option linter.unusedSimpArgs false

variable {w w' : World} {p n k q v : Nat} {F R S NF NR : List Nat} {g : Gr} {N : Nt} {σ : Sm}
structure RSimC (w : World) (v n : Nat) (NF NR : List Nat) (ra : Option Addr) (rc : Nat) (wa : Option Addr) (wc : Nat) (σ : Sm) : Prop where
  blk : w.heap[v]? = some (.cells (rsCells n ra σ.regs.length rc (.slice wa σ.ws.length wc) (.int .i64 (σ.cy : Int))) 85 (0, 0))
  net : RNetAt w n NF NR σ.N
  rg : Own w 34 ra σ.regs.length rc (nats .u64 σ.regs)
  wd : Own w 34 wa σ.ws.length wc (nats .u64 σ.ws)
  ap : v ∉ NF ++ NR
/-- v alone is written, R is read alone -/
def RSimAt (w : World) (v : Nat) (R : List Nat) (σ : Sm) : Prop := ∃ n NF NR ra rc wa wc, R = ft ra ++ (ft wa ++ (NF ++ NR)) ∧ RSimC w v n NF NR ra rc wa wc σ
theorem RSimC.kept {ra wa : Option Addr} {rc wc : Nat} (h : RSimC w v n NF NR ra rc wa wc σ) (hk : Kept S w w') (h1 : v ∉ S) (h2 : ∀ b ∈ ft ra ++ (ft wa ++ (NF ++ NR)), b ∉ S) : RSimC w' v n NF NR ra rc wa wc σ :=
  ⟨hk.heap h.blk h1, h.net.kept hk (fun b hb => h2 b (by simp [hb])) (fun b hb => h2 b (by simp [hb])), h.rg.kept hk (fun b hb => h2 b (by simp [hb])), h.wd.kept hk (fun b hb => h2 b (by simp [hb])), h.ap⟩
theorem RSimAt.kept (h : RSimAt w v R σ) (hk : Kept S w w') (h1 : v ∉ S) (h2 : ∀ b ∈ R, b ∉ S) : RSimAt w' v R σ := by
  obtain ⟨n, NF, NR, ra, rc, wa, wc, rfl, hc⟩ := h
  exact ⟨n, NF, NR, ra, rc, wa, wc, rfl, hc.kept hk h1 h2⟩
theorem RSimAt.kept0 (h : RSimAt w v R σ) (hk : Kept [] w w') : RSimAt w' v R σ := h.kept hk (by simp) (by simp)
theorem RSimAt.lt (h : RSimAt w v R σ) : v < w.heap.size ∧ ∀ b ∈ R, b < w.heap.size := by
  obtain ⟨n, NF, NR, ra, rc, wa, wc, rfl, hc⟩ := h
  refine ⟨blk_lt hc.blk, fun b hb => ?_⟩
  simp only [List.mem_append] at hb
  rcases hb with hb | hb | hb | hb
  · exact hc.rg.lt b hb
  · exact hc.wd.lt b hb
  · exact hc.net.lt.1 b hb
  · exact hc.net.lt.2 b hb
theorem RSimAt.apart (h : RSimAt w v R σ) : v ∉ R := by
  obtain ⟨n, NF, NR, ra, rc, wa, wc, rfl, hc⟩ := h
  intro hb
  rcases List.mem_append.1 hb with hb | hb
  · exact blk_apart hc.blk hc.rg (by decide) hb
  rcases List.mem_append.1 hb with hb | hb
  · exact blk_apart hc.blk hc.wd (by decide) hb
  · exact hc.ap hb
def RSimNew (N : Nt) (NF NR : List Nat) (w : World) (e : Ending) (w' : World) : Prop :=
  ∃ v R, e = .returned (.tuple #[.pointer (some ⟨v, 0, none⟩), .int .i64 0]) ∧ RSimAt w' v R (newS N) ∧ Kept [] w w' ∧ w.heap.size ≤ v ∧ ∀ b ∈ R, b ∈ NF ++ NR ∨ w.heap.size ≤ b
set_option maxHeartbeats 1600000 in
set_option maxRecDepth 100000 in
theorem new08 {kk : Nat} (hn : RNetAt w n NF NR N) (hf : NtFine kk N) (hk : kk ≤ 700) (hz : checkN N = 0) : Calls Tryz.prog 26 #[.pointer (some ⟨n, 0, none⟩)] w (RSimNew N NF NR w) := by
  have HC := Lib.hid (check06 hn hf hk hz)
  have HN := Lib.hid hn
  have l3 := hf.ok.rk
  clear hn hf hz
  go_enter Tryz.func26, Tryz.ntmps26
  go_wp2_with fail
  refine HC.out.mono ?_
  rintro e w1 ⟨rfl, k1⟩
  have K1 := Lib.hid k1
  clear k1
  obtain ⟨v, hv⟩ : ∃ v, v = w1.heap.size := ⟨_, rfl⟩
  obtain ⟨w2, hw2⟩ : ∃ W, W = w1.alloc (.cells #[.pointer (some ⟨n, 0, none⟩), .slice none 0 0, .slice none 0 0, .int .i64 0] 85) := ⟨_, rfl⟩
  have K2 := Lib.hid (show Kept [] w w2 from by rw [hw2]; exact K1.out.alloc _)
  have hb : w2.heap[v]? = some (.cells #[.pointer (some ⟨n, 0, none⟩), .slice none 0 0, .slice none 0 0, .int .i64 0] 85 (0, 0)) := by rw [hw2, hv]; exact heap_alloc_new w1 _
  have hvn : v ∉ NF ++ NR := fun hx => by
    have h1 := (HN.out.kept0 K1.out).lt
    rcases List.mem_append.1 hx with hx | hx
    · have := h1.1 v hx; omega
    · have := h1.2 v hx; omega
  have HVN := Lib.hid hvn
  have hvs : w.heap.size ≤ v := by have := K1.out.size; omega
  have HRS := Lib.hid (reset08 hb (HN.out.kept0 K2.out) (by omega) (fun hx => hvn (by simp [hx])))
  clear hb hvn
  go_wp2_with fail
  rw [← hw2, ← hv]
  clear hw2 hv
  refine HRS.out.mono ?_
  rintro e w3 ⟨⟨u, rfl⟩, ra, rc, hb, ho, hk3, hfr⟩
  have HB := Lib.hid hb
  have HO := Lib.hid ho
  have K3 := Lib.hid hk3
  have HFR := Lib.hid hfr
  clear hb ho hk3 hfr
  go_wp2_with fail
  go_ret2
  have z2 := K2.out.size
  have hl : (resetN N).length = N.regs.length := by simp [resetN]
  refine ⟨v, ft ra ++ (ft none ++ (NF ++ NR)), rfl, ⟨n, NF, NR, ra, rc, none, 0, rfl, ?_, ?_, ?_, ?_, HVN.out⟩, kept_up K2.out K3.out (by simp; exact hvs), hvs, fun b hb => ?_⟩
  · simp only [newS, hl]
    exact HB.out
  · exact (HN.out.kept0 K2.out).kept K3.out (fun b hb hx => by simp at hx; subst hx; exact HVN.out (by simp [hb])) (fun b hb hx => by simp at hx; subst hx; exact HVN.out (by simp [hb]))
  · simp only [newS, hl]
    exact HO.out
  · exact Own.nil _ _
  · simp only [ft, List.nil_append, List.mem_append] at hb
    rcases hb with hb | hb
    · exact .inr (Nat.le_trans z2 (HFR.out b hb))
    · exact .inl (by simpa using hb)
end Go.Proofs.YtielfgngdhcpfaaGreat

namespace Go.Proofs.YtielfgngdhcpfaaGreat
open Go.ChangeShapes Go.WideShapes Go.ChangeAt Go.RowKit
open Go.Maps (Keyed)
open Go.WideMaps
set_option linter.unusedVariables false
set_option linter.unusedSimpArgs false

variable {w w' : World} {p n k q v : Nat} {F R S NF NR : List Nat} {g : Gr} {N : Nt} {σ : Sm}
theorem word02 (l : Nat) (a : Option Addr) (c n : Nat) (ws : List Nat) (w : World) (hn : ws.length = n) (hl : l < 4294967296) (hs : SlN w .u64 a ws) (hw : Words ws) :
    Calls Tryz.prog 62 #[.int .u32 l, .slice a n c] w fun e w' => e = .returned (.int .u64 (wd ws l : Nat)) ∧ w = w' := by
  subst hn
  have hm := nodeW_lt hw (l / 2)
  have hk : l % 2 = 1 ∨ l % 2 = 0 := by omega
  rcases hk with hk | hk
  · have k : ((l : Int) % 2 == 1) = true := by simp; omega
    have HF := Lib.hid (show ((wd ws l : Nat) : Int) = 18446744073709551615 - ((nodeW ws (l / 2) : Nat) : Int) by unfold wd noW; rw [if_pos hk]; omega)
    clear hk
    by_cases h0 : l / 2 = 0
    · have k0 : ((l : Int) / 2 != 0) = false := by simp; omega
      have HQ := Lib.hid (show nodeW ws (l / 2) = 0 by simp [nodeW, h0])
      go_enter Tryz.func62, Tryz.ntmps62
      go_wp2
      go_ret
      exact ⟨by rw [HF.out, HQ.out]; rfl, rfl⟩
    · have k0 : ((l : Int) / 2 != 0) = true := by simp; omega
      by_cases h1 : l / 2 < ws.length
      · obtain ⟨ad, rfl, hc⟩ := hs _ h1
        have hv := hw _ (List.getElem_mem h1)
        have HQ := Lib.hid (show nodeW ws (l / 2) = ws[l / 2] by simp [nodeW, h0, h1])
        go_enter Tryz.func62, Tryz.ntmps62
        go_wp2
        go_ret
        exact ⟨by rw [HF.out, HQ.out]; rfl, rfl⟩
      · have HQ := Lib.hid (show nodeW ws (l / 2) = 0 by simp [nodeW, h1])
        go_enter Tryz.func62, Tryz.ntmps62
        go_wp2
        go_ret
        exact ⟨by rw [HF.out, HQ.out]; rfl, rfl⟩
  · have k : ((l : Int) % 2 == 1) = false := by simp; omega
    have HF := Lib.hid (show wd ws l = nodeW ws (l / 2) by unfold wd; rw [if_neg (by omega)])
    clear hk
    by_cases h0 : l / 2 = 0
    · have k0 : ((l : Int) / 2 != 0) = false := by simp; omega
      have HQ := Lib.hid (show nodeW ws (l / 2) = 0 by simp [nodeW, h0])
      go_enter Tryz.func62, Tryz.ntmps62
      go_wp2
      go_ret
      exact ⟨by rw [HF.out, HQ.out]; rfl, rfl⟩
    · have k0 : ((l : Int) / 2 != 0) = true := by simp; omega
      by_cases h1 : l / 2 < ws.length
      · obtain ⟨ad, rfl, hc⟩ := hs _ h1
        have HQ := Lib.hid (show nodeW ws (l / 2) = ws[l / 2] by simp [nodeW, h0, h1])
        go_enter Tryz.func62, Tryz.ntmps62
        go_wp2
        go_ret
        exact ⟨by rw [HF.out, HQ.out]; rfl, rfl⟩
      · have HQ := Lib.hid (show nodeW ws (l / 2) = 0 by simp [nodeW, h1])
        go_enter Tryz.func62, Tryz.ntmps62
        go_wp2
        go_ret
        exact ⟨by rw [HF.out, HQ.out]; rfl, rfl⟩
/-- the words of the first i nodes, 0 behind -/
def partW (WS : List Nat) (i : Nat) : List Nat := WS.take i ++ List.replicate (WS.length - i) 0
theorem partW_length (WS : List Nat) {i : Nat} (h : i ≤ WS.length) : (partW WS i).length = WS.length := by simp [partW]; omega
theorem partW_all (WS : List Nat) : partW WS WS.length = WS := by simp [partW]
theorem partW_set {WS : List Nat} {i : Nat} (h : i < WS.length) : (partW WS i).set i WS[i] = partW WS (i + 1) := by
  unfold partW
  have e : WS.length - i = (WS.length - (i + 1)) + 1 := by omega
  rw [e, List.replicate_succ, List.set_append, if_neg (by simp; omega)]
  have hl : (WS.take i).length = i := by simp; omega
  rw [hl, Nat.sub_self, List.set_cons_zero, List.take_succ_eq_append_getElem h, List.append_assoc]
  rfl
theorem partW_one {WS : List Nat} (h : 0 < WS.length) (h0 : WS[0] = 0) : partW WS 1 = List.replicate WS.length 0 := by
  have e := partW_set h
  rw [h0] at e
  rw [← e]
  simp [partW]
theorem partW_wd {WS : List Nat} {i a : Nat} (hi : i ≤ WS.length) (ha : a / 2 < i) : wd (partW WS i) a = wd WS a := by
  have h : nodeW (partW WS i) (a / 2) = nodeW WS (a / 2) := by
    refine nodeW_eq fun _ => ?_
    unfold partW
    rw [List.getElem?_append_left (by simp; omega), List.getElem?_take, if_pos ha]
  unfold wd
  rw [h]
theorem partW_words {WS : List Nat} (h : Words WS) (i : Nat) : Words (partW WS i) := by
  intro x hx
  rcases List.mem_append.1 hx with hx | hx
  · exact h x (List.mem_of_mem_take hx)
  · rw [List.eq_of_mem_replicate hx]; omega
set_option maxRecDepth 100000 in
theorem step08_bad (a : Option Addr) (m c : Nat) (h : RSimAt w v R σ) (hm : m ≠ σ.N.inb.length) (hmm : m ≤ 1000000) (hi : σ.N.inb.length ≤ 1000000) : Calls Tryz.prog 30 #[.pointer (some ⟨v, 0, none⟩), .slice a m c] w fun e w' => e = .returned (.tuple #[.slice none 0 0, .int .i64 1]) ∧ w = w' := by
  obtain ⟨n, NF, NR, ra, rc, wa, wc, rfl, hc⟩ := h
  have c0 : w.cell? ⟨v, 0, none⟩ = some (.pointer (some ⟨n, 0, none⟩)) := blk_cell hc.blk 0
  obtain ⟨pp, ia, ic, rra, rrc, oa, oc, ri, ro, hp⟩ := rnet_parts hc.net
  have c2 := hp.c2
  have e1 : ((m : Int) != (σ.N.inb.length : Int)) = true := by simp; omega
  clear hp hc
  generalize σ.N.inb.length = nI at *
  go_enter Tryz.func30, Tryz.ntmps30
  go_wp2_with fail
  go_ret2
  exact ⟨rfl, rfl⟩
end Go.Proofs.YtielfgngdhcpfaaGreat
