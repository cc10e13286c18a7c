/-
  Package net: SetReg, AddOut.
-/
import Derived.Test.YtdmcdhkkbkgnbaaP17
namespace Go.Proofs.Ytdmcdhkkbkgnbaa
open Go.ChangeShapes Go.WideShapes Go.ChangeAt Go.RowKit
open Go.Maps (Keyed)
open Go.WideMaps
set_option linter.unusedVariables false
set_option linter.unusedSimpArgs false

variable {w w' : World} {p n : Nat} {F R S : List Nat} {g : Gr} {N : Nt}
theorem q_is (r : Rg) (q b : Nat) (hq : w.cell? ⟨b, 0, none⟩ = some (.int .u32 (q : Int))) : Calls Try.prog 37 #[.agg #[.int .u32 (r.q : Int), .int .u32 (r.d : Int), .int .u32 (r.en : Int), .bool r.init], .pointer (some ⟨b, 0, none⟩)] w (BoolIs (decide (r.q = q)) w) := by
  have hq1 : ∀ o, (w.alloc o).cell? ⟨b, 0, none⟩ = some (.int .u32 (q : Int)) := fun o => cell_alloc hq o
  have HE := Lib.hid (show ((r.q : Int) == (q : Int)) = decide (r.q = q) from by rw [Bool.eq_iff_iff]; simp; omega)
  obtain ⟨x, y, z, i⟩ := r
  simp only at HE ⊢
  go_enter Try.func37, Try.ntmps37
  go_wp2
  go_ret
  exact ⟨by rw [← HE.out]; rfl, (Kept.refl [] w).alloc _⟩
def SlR (w : World) (a : Option Addr) (l : List Rg) : Prop := ∀ i (h : i < l.length), ∃ b, a = some ⟨b, 0, none⟩ ∧ w.cell? ⟨b, i * 4, none⟩ = some (.int .u32 (l[i].q : Int)) ∧ w.cell? ⟨b, i * 4 + 1, none⟩ = some (.int .u32 (l[i].d : Int)) ∧ w.cell? ⟨b, i * 4 + 2, none⟩ = some (.int .u32 (l[i].en : Int)) ∧ w.cell? ⟨b, i * 4 + 3, none⟩ = some (.bool l[i].init)
theorem SlR.kept {a : Option Addr} {l : List Rg} (h : SlR w a l) (hk : Kept S w w') (hd : ∀ b ∈ ft a, b ∉ S) : SlR w' a l := fun i hi => by
  obtain ⟨b, h1, h2, h3, h4, h5⟩ := h i hi
  have hb := hd b (by rw [h1]; simp [ft])
  exact ⟨b, h1, hk.cell h2 hb, hk.cell h3 hb, hk.cell h4 hb, hk.cell h5 hb⟩
theorem SlR.kept0 {a : Option Addr} {l : List Rg} (h : SlR w a l) (hk : Kept [] w w') : SlR w' a l := h.kept hk (by simp)
theorem regs_sl {a : Option Addr} {c m : Nat} {l : List Rg} (hl : l.length = m) (h : w.ownsRow 0 55 4 (.slice a m c) m (rgCells l)) : SlR w a l := fun i hi => by
  rcases h.2 with ⟨hv, h0⟩ | ⟨gb, cap', cur, hv, _⟩
  · omega
  · injection hv with hv
    subst hv
    have hg := rgCells_get l i l[i] (List.getElem?_eq_getElem hi)
    have hc : ∀ j, j < 4 * m → w.cell? ⟨gb, j, none⟩ = (rgCells l)[j]? := fun j hj => World.ownsRow.cellAt h j (by omega)
    exact ⟨gb, rfl, by rw [hc _ (by omega), ← hg.1, Nat.mul_comm], by rw [hc _ (by omega), ← hg.2.1, Nat.mul_comm], by rw [hc _ (by omega), ← hg.2.2.1, Nat.mul_comm], by rw [hc _ (by omega), ← hg.2.2.2, Nat.mul_comm]⟩
set_option maxHeartbeats 800000 in
set_option maxRecDepth 100000 in
theorem index_reg (q bq : Nat) (a : Option Addr) (c len : Nat) (l : List Rg) (hl : l.length = len) (hm : len ≤ 1000000) (hs : SlR w a l) (hq : w.cell? ⟨bq, 0, none⟩ = some (.int .u32 (q : Int))) :
    Calls Try.prog 36 #[.slice a len c, .func (.func 37) #[] #[.pointer (some ⟨bq, 0, none⟩)]] w (IdxIs (findR l q) w) := by
  have HL := Lib.hid hl
  have HS := Lib.hid hs
  have HF := Lib.hid (fun (W : World) (hk : Kept [] w W) (r : Rg) => q_is r q bq (w := W) (hk.cell hq (by simp)))
  clear hl hs hq
  go_enter Try.func36, Try.ntmps36
  go_wp2_with fail
  go_loopw [8] (fun i wr => ∃ k : Nat, k ≤ len ∧ i = .int .i64 k ∧ Kept [] w wr ∧ ∀ j (h : j < l.length), j < k → l[j].q ≠ q) (fun i _ => len - (intOf i).toNat)
  case atStart => exact ⟨0, Nat.zero_le _, rfl, .refl _ _, fun j h h2 => by omega⟩
  case round =>
    obtain ⟨k, hk, rfl, hkr, hall⟩ := hrel
    have KR := Lib.hid hkr
    have HA := Lib.hid hall
    clear hkr hall
    by_cases hlt : k < len
    · have hkl : k < l.length := by rw [HL.out]; exact hlt
      obtain ⟨b, rfl, h1, h2, h3, h4⟩ := (HS.out.kept0 KR.out) k hkl
      have HR := Lib.hid (fun (hn : l[k].q = q) => show findR l q = some k from by
        unfold findR
        rw [List.findIdx?_eq_some_iff_getElem]
        exact ⟨hkl, by simpa using hn, fun j hj => by simpa using HA.out j (by omega) hj⟩)
      have HN := Lib.hid (fun (hn : l[k].q ≠ q) => show ∀ j (h : j < l.length), j < k + 1 → l[j].q ≠ q from fun j h hj => by
        rcases Nat.lt_or_ge j k with h3 | h3
        · exact HA.out j h h3
        · have : j = k := by omega
          subst this; exact hn)
      have HF2 := Lib.hid (HF.out wr KR.out l[k])
      generalize l[k] = r at *
      obtain ⟨x, y, z, i⟩ := r
      simp only at h1 h2 h3 h4 HR HN HF2
      by_cases hn : x = q
      · have HR2 := Lib.hid (HR.out hn)
        rw [decide_eq_true hn] at HF2
        clear hn HR HN
        go_wp2_with fail
        refine HF2.out.mono ?_
        rintro e w1 ⟨rfl, hk1⟩
        have K1 := Lib.hid (KR.out.trans hk1)
        clear hk1
        go_wp2_with fail
        go_ret
        exact ⟨by rw [HR2.out]; rfl, K1.out⟩
      · have HN2 := Lib.hid (HN.out hn)
        rw [decide_eq_false hn] at HF2
        clear hn HR HN
        go_wp2_with fail
        refine HF2.out.mono ?_
        rintro e w1 ⟨rfl, hk1⟩
        have K1 := Lib.hid (KR.out.trans hk1)
        clear hk1
        go_wp2_with fail
        go_roundw
        case rel => exact ⟨k + 1, by omega, by go_num, K1.out, HN2.out⟩
        case measure => simp [intOf]; omega
    · obtain rfl : k = len := by omega
      have HR := Lib.hid (show findR l q = none from by
        unfold findR
        rw [List.findIdx?_eq_none_iff]
        intro x hx
        obtain ⟨j, hj, rfl⟩ := List.getElem_of_mem hx
        simpa using HA.out j hj (by have := HL.out; omega))
      go_wp2_with fail
      go_ret
      exact ⟨by rw [HR.out]; rfl, KR.out⟩
theorem rgCells_put (l : List Rg) (k d en : Nat) (hk : k < l.length) : rgCells (putR l k d en) = ((rgCells l).set (k * 4 + 1) (.int .u32 (d : Int))).set (k * 4 + 2) (.int .u32 (en : Int)) := by
  induction l generalizing k with
  | nil => simp at hk
  | cons r l ih =>
    cases k with
    | zero => simp [putR, rgCells]
    | succ k =>
      have h := ih k (by simpa using hk)
      have e1 : (k + 1) * 4 + 1 = k * 4 + 1 + 1 + 1 + 1 + 1 := by omega
      have e2 : (k + 1) * 4 + 2 = k * 4 + 2 + 1 + 1 + 1 + 1 := by omega
      rw [e1, e2]
      simp only [putR, List.modify_succ_cons] at h ⊢
      simp only [rgCells, List.flatMap_cons] at h ⊢
      rw [h]
      rfl
theorem cell_far {w : World} {b i c k : Nat} {v u : Value} (hne : b ≠ c) (h : w.cell? ⟨b, i, none⟩ = some v) : (w.setCell ⟨c, k, none⟩ u).cell? ⟨b, i, none⟩ = some v :=
  (World.cell?_setCell_other w ⟨c, k, none⟩ ⟨b, i, none⟩ u (fun e => hne (by injection e with e _ _; exact e.symm))).trans h
section
variable {G : List Nat} {ia oa : Option Addr} {ic rc oc gr : Nat} {ri ro : List BR}
theorem NetC.setRegs {l' : List Rg} {W : World} (h : NetC w n N p G ia ic (some ⟨gr, 0, none⟩) rc oa oc ri ro) (hk : Kept [gr] w W) (hl : l'.length = N.regs.length) (hown : W.ownsRow 0 55 4 (.slice (some ⟨gr, 0, none⟩) N.regs.length rc) N.regs.length (rgCells l')) :
    NetC W n { N with regs := l' } p G ia ic (some ⟨gr, 0, none⟩) rc oa oc ri ro := by
  obtain ⟨a1, a2, a3, a4, a5, a6, a7, a8, a9⟩ := h.apart
  have fr := h.fr
  simp only [List.mem_cons, List.mem_append, not_or] at fr
  have one : ∀ b, b ∈ ft (some (⟨gr, 0, none⟩ : Addr)) ↔ b = gr := fun b => mem_ft
  have nn : n ∉ [gr] := by simp; exact fun e => a3 ((one n).2 e)
  refine ⟨?_, h.gr.kept hk (fun b hb hx => by simp at hx; exact a6 b ((one b).2 hx) hb), h.ib.kept hk (fun b hb hx => by simp at hx; exact a8 b ((one b).2 hx) hb) (fun b hb hx => by simp at hx; exact (fr b (.inl hb)).2.2.2.1 ((one b).2 hx)), ?_, h.ob.kept hk (fun b hb hx => by simp at hx; exact a9 b ((one b).2 hx) hb) (fun b hb hx => by simp at hx; exact (fr b (.inr hb)).2.2.2.1 ((one b).2 hx)), h.io, h.fr⟩
  · have := hk.heap h.blk nn
    rw [this]
    simp only [nCells, hl]
  · show W.ownsRow 0 55 4 (.slice (some ⟨gr, 0, none⟩) l'.length rc) l'.length (rgCells l')
    rw [hl]
    exact hown
theorem putR_length (l : List Rg) (k d en : Nat) : (putR l k d en).length = l.length := by simp [putR]
theorem set_regs1 (h : NetC w n N p G ia ic (some ⟨gr, 0, none⟩) rc oa oc ri ro) {k d en : Nat} (hk : k < N.regs.length) :
    NetC ((w.setCell ⟨gr, k * 4 + 1, none⟩ (.int .u32 (d : Int))).setCell ⟨gr, k * 4 + 2, none⟩ (.int .u32 (en : Int))) n { N with regs := putR N.regs k d en } p G ia ic (some ⟨gr, 0, none⟩) rc oa oc ri ro ∧
    Kept [gr] w ((w.setCell ⟨gr, k * 4 + 1, none⟩ (.int .u32 (d : Int))).setCell ⟨gr, k * 4 + 2, none⟩ (.int .u32 (en : Int))) := by
  have hkp : Kept [gr] w ((w.setCell ⟨gr, k * 4 + 1, none⟩ (.int .u32 (d : Int))).setCell ⟨gr, k * 4 + 2, none⟩ (.int .u32 (en : Int))) := ((Kept.refl [gr] w).setCell (p := ⟨gr, k * 4 + 1, none⟩) (.inl (by simp)) _).setCell (p := ⟨gr, k * 4 + 2, none⟩) (.inl (by simp)) _
  have lc := rgCells_length N.regs
  have h1 := (World.ownsRow.stored h.rb (k * 4 + 1) (.int .u32 (d : Int))).1
  have h2 := (World.ownsRow.stored h1 (k * 4 + 2) (.int .u32 (en : Int))).1
  rw [← rgCells_put _ _ _ _ hk] at h2
  exact ⟨h.setRegs hkp (putR_length _ _ _ _) h2, hkp⟩
theorem set_regs2 (h : NetC w n N p G ia ic (some ⟨gr, 0, none⟩) rc oa oc ri ro) {k d en : Nat} (hk : k < N.regs.length) :
    NetC ((w.setCell ⟨gr, k * 4 + 2, none⟩ (.int .u32 (en : Int))).setCell ⟨gr, k * 4 + 1, none⟩ (.int .u32 (d : Int))) n { N with regs := putR N.regs k d en } p G ia ic (some ⟨gr, 0, none⟩) rc oa oc ri ro ∧
    Kept [gr] w ((w.setCell ⟨gr, k * 4 + 2, none⟩ (.int .u32 (en : Int))).setCell ⟨gr, k * 4 + 1, none⟩ (.int .u32 (d : Int))) := by
  have hkp : Kept [gr] w ((w.setCell ⟨gr, k * 4 + 2, none⟩ (.int .u32 (en : Int))).setCell ⟨gr, k * 4 + 1, none⟩ (.int .u32 (d : Int))) := ((Kept.refl [gr] w).setCell (p := ⟨gr, k * 4 + 2, none⟩) (.inl (by simp)) _).setCell (p := ⟨gr, k * 4 + 1, none⟩) (.inl (by simp)) _
  have lc := rgCells_length N.regs
  have h1 := (World.ownsRow.stored h.rb (k * 4 + 2) (.int .u32 (en : Int))).1
  have h2 := (World.ownsRow.stored h1 (k * 4 + 1) (.int .u32 (d : Int))).1
  rw [List.set_comm _ _ (by omega), ← rgCells_put _ _ _ _ hk] at h2
  exact ⟨h.setRegs hkp (putR_length _ _ _ _) h2, hkp⟩
end
def SetPost (r : Nt × Nat) (w : World) (n : Nat) (F R : List Nat) (e : Ending) (w' : World) : Prop :=
  ∃ F' R', e = .returned (.int .i64 (r.2 : Nat)) ∧ NetAt w' n F' R' r.1 ∧ NStep w w' F R F' R'
theorem SetPost.no {k : Nat} {W : World} (h : NetAt w n F R N) (hk : Kept [] w W) : SetPost (N, k) w n F R (.returned (.int .i64 (k : Nat))) W :=
  ⟨F, R, rfl, h.kept0 hk, (NStep.refl w F R).keep hk⟩
set_option maxHeartbeats 3200000 in
set_option maxRecDepth 100000 in
theorem setreg_c (h : NetAt w n F R N) (hok : N.g.nodes.length ≤ 100000 ∧ N.regs.length ≤ 10000) (q d en : Nat) (hq : q < 4294967296) (hd : d < 4294967296) (he : en < 4294967296) :
    Calls Try.prog 11 #[.pointer (some ⟨n, 0, none⟩), .int .u32 q, .int .u32 d, .int .u32 en] w (SetPost (setReg N q d en) w n F R) := by
  have HNO := Lib.hid (net_none (h.kept0 ((Kept.refl [] w).alloc (.cells #[.int .u32 (q : Int)] 41))) (show N.g.nodes.length ≤ 1000000 by omega))
  have HTH := Lib.hid (fun (W : World) (hk : Kept [] w W) => there_c (h.kept0 (hk.alloc (.cells #[.int .u32 (d : Int), .int .u32 (en : Int)] 41))) (show N.g.nodes.length ≤ 200000 by omega) (some ⟨W.heap.size, 0, none⟩) 2 2 [d, en] rfl (by omega) (sln_new W .u32 [d, en] 41) (by intro x hx; simp at hx; omega))
  have HNA := Lib.hid h
  obtain ⟨p, G, ia, ic, ra, rc, oa, oc, ri, ro, rfl, rfl, hc⟩ := h
  have HC := Lib.hid hc
  have lenR := hok.2
  have HIX := Lib.hid (index_reg (w := w.alloc (.cells #[.int .u32 (q : Int)] 41)) q w.heap.size ra rc N.regs.length N.regs rfl (by omega) ((regs_sl rfl hc.rb).kept0 ((Kept.refl [] w).alloc _)) (by simp [World.cell?_alloc_new]))
  obtain ⟨nR, hnR⟩ : ∃ k, k = N.regs.length := ⟨_, rfl⟩
  have HNR := Lib.hid hnR
  have c3 : (w.alloc (.cells #[.int .u32 (q : Int)] 41)).cell? ⟨n, 3, none⟩ = some (.slice ra N.regs.length rc) := cell_alloc hc.c3 _
  rw [← hnR] at lenR c3 HIX
  clear hc hok hnR
  cases hf : findR N.regs q with
  | none =>
    rw [hf] at HIX
    have HPO := Lib.hid (fun (W : World) (hk : Kept [] w W) => SetPost.no (k := 1) HNA.out hk)
    rw [show setReg N q d en = (N, 1) from by unfold setReg; rw [hf]]
    generalize ((N, 1) : Nt × Nat) = res at *
    clear hf HTH
    go_enter Try.func11, Try.ntmps11; (try simp only [List.append])
    go_wp2_with fail
    refine HNO.out.mono ?_
    rintro e w' ⟨rfl, rfl⟩
    go_wp2_with fail
    refine HIX.out.mono ?_
    rintro e w2 ⟨rfl, hk2⟩
    have K2 := Lib.hid (((Kept.refl [] w).alloc (.cells #[.int .u32 (q : Int)] 41)).trans hk2)
    clear hk2 c3
    go_wp2_with fail
    go_ret
    exact HPO.out _ K2.out
  | some k =>
    have HIX2 := Lib.hid (show Calls Try.prog 36 #[.slice ra nR rc, .func (.func 37) #[] #[.pointer (some ⟨w.heap.size, 0, none⟩)]] (w.alloc (.cells #[.int .u32 (q : Int)] 41)) (IntIs (k : Int) (w.alloc (.cells #[.int .u32 (q : Int)] 41))) from by
      have h := HIX.out
      rw [hf] at h
      exact h)
    clear HIX
    have hkR : k < nR := by
      have := (List.findIdx?_eq_some_iff_getElem.1 hf).1
      rw [HNR.out]; exact this
    cases hg : gone N.g [d, en] with
    | true =>
      rw [hg] at HTH
      have HPO := Lib.hid (fun (W : World) (hk : Kept [] w W) => SetPost.no (k := 1) HNA.out hk)
      rw [show setReg N q d en = (N, 1) from by unfold setReg; rw [hf]; simp [hg]]
      generalize ((N, 1) : Nt × Nat) = res at *
      clear hg hf
      go_enter Try.func11, Try.ntmps11; (try simp only [List.append])
      go_wp2_with fail
      refine HNO.out.mono ?_
      rintro e w' ⟨rfl, rfl⟩
      go_wp2_with fail
      refine HIX2.out.mono ?_
      rintro e w2 ⟨rfl, hk2⟩
      have K2 := Lib.hid (((Kept.refl [] w).alloc (.cells #[.int .u32 (q : Int)] 41)).trans hk2)
      clear hk2 c3
      go_wp2_with fail
      refine (HTH.out _ K2.out).mono ?_
      rintro e w3 ⟨rfl, hk3⟩
      have K3 := Lib.hid ((K2.out.alloc _).trans hk3)
      clear hk3
      go_wp2_with fail
      go_ret
      exact HPO.out _ K3.out
    | false =>
      rw [hg] at HTH
      rw [show setReg N q d en = ({ N with regs := putR N.regs k d en }, 0) from by unfold setReg; rw [hf]; simp [hg]]
      clear hg hf
      go_enter Try.func11, Try.ntmps11; (try simp only [List.append])
      go_wp2_with fail
      refine HNO.out.mono ?_
      rintro e w' ⟨rfl, rfl⟩
      go_wp2_with fail
      refine HIX2.out.mono ?_
      rintro e w2 ⟨rfl, hk2⟩
      have K2 := Lib.hid (((Kept.refl [] w).alloc (.cells #[.int .u32 (q : Int)] 41)).trans hk2)
      clear hk2 c3
      go_wp2_with fail
      refine (HTH.out _ K2.out).mono ?_
      rintro e w3 ⟨rfl, hk3⟩
      have K3 := Lib.hid ((K2.out.alloc _).trans hk3)
      clear hk3
      have HC3 := Lib.hid (HC.out.kept K3.out (by simp) (by simp))
      have c3 : w3.cell? ⟨n, 3, none⟩ = some (.slice ra nR rc) := by rw [HNR.out]; exact HC3.out.c3
      obtain ⟨gr, rfl, e0, e1, e2, e3⟩ := regs_sl (l := N.regs) rfl HC3.out.rb k (by rw [← HNR.out]; exact hkR)
      have hrb := HC3.out.rb
      have f1 : w3.frozen? ⟨gr, k * 4 + 1, none⟩ = false := World.ownsRow.frozenAt hrb _
      have f2 : w3.frozen? ⟨gr, k * 4 + 2, none⟩ = false := World.ownsRow.frozenAt hrb _
      clear hrb
      have hne : n ≠ gr := fun h => HC3.out.apart.2.2.1 (by simp [ft, h])
      have hkI : (k : Int) < (nR : Int) := by omega
      have hk0 : (0 : Int) ≤ (k : Int) := by omega
      go_wp2_with fail
      go_region_held3 (fun w' => w'.cell? ⟨n, 3, none⟩ = some (.slice (some ⟨gr, 0, none⟩) nR rc)) (first | exact cell_far hne c3 | exact cell_far hne (cell_far hne c3) | go_keep) (fail)
      go_wp2
      go_ret
      have s1 := set_regs1 HC3.out (d := d) (en := en) (by rw [← HNR.out]; exact hkR)
      have hF : ∀ b ∈ [gr], b ∈ n :: (G ++ (ft ia ++ (ft (some (⟨gr, 0, none⟩ : Addr)) ++ ft oa))) := by intro b hb; simp at hb; subst hb; simp [ft]
      exact ⟨_, _, rfl, ⟨p, G, ia, ic, some ⟨gr, 0, none⟩, rc, oa, oc, ri, ro, rfl, rfl, s1.1.kept ((Kept.refl [] _).drew) (by simp) (by simp)⟩, ⟨⟨((K3.out.more (by simp)).trans (s1.2.more hF)).drew, fun b hb => .inl hb⟩, fun b hb => .inl hb⟩⟩
end Go.Proofs.Ytdmcdhkkbkgnbaa
