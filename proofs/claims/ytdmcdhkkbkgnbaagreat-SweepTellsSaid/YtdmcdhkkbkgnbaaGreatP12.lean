/-
  Package net: AddOut.
  Package net: SetReg, AddOut.
-/
import Derived.Test.YtdmcdhkkbkgnbaaGreatP11
namespace Go.Proofs.YtdmcdhkkbkgnbaaGreat
open Go.ChangeShapes Go.WideShapes Go.ChangeAt Go.RowKit
open Go.Maps (Keyed)
open Go.WideMaps
set_option linter.unusedVariables false
set_option linter.unusedSimpArgs false

variable {w w' : World} {p n : Nat} {F R S : List Nat} {g : Gr} {N : Nt}
theorem q_is (r : Rg) (q b : Nat) (hq : w.cell? ⟨b, 0, none⟩ = some (.int .u32 (q : Int))) : Calls Tryz.prog 127 #[.agg #[.int .u32 (r.q : Int), .int .u32 (r.d : Int), .int .u32 (r.en : Int), .bool r.init], .pointer (some ⟨b, 0, none⟩)] w (BoolIs (decide (r.q = q)) w) := by
  have hq1 : ∀ o, (w.alloc o).cell? ⟨b, 0, none⟩ = some (.int .u32 (q : Int)) := fun o => cell_alloc hq o
  have HE := Lib.hid (show ((r.q : Int) == (q : Int)) = decide (r.q = q) from by rw [Bool.eq_iff_iff]; simp; omega)
  obtain ⟨x, y, z, i⟩ := r
  simp only at HE ⊢
  go_enter Tryz.func127, Tryz.ntmps127
  go_wp2
  go_ret
  exact ⟨by rw [← HE.out]; rfl, (Kept.refl [] w).alloc _⟩
def SlR (w : World) (a : Option Addr) (l : List Rg) : Prop := ∀ i (h : i < l.length), ∃ b, a = some ⟨b, 0, none⟩ ∧ w.cell? ⟨b, i * 4, none⟩ = some (.int .u32 (l[i].q : Int)) ∧ w.cell? ⟨b, i * 4 + 1, none⟩ = some (.int .u32 (l[i].d : Int)) ∧ w.cell? ⟨b, i * 4 + 2, none⟩ = some (.int .u32 (l[i].en : Int)) ∧ w.cell? ⟨b, i * 4 + 3, none⟩ = some (.bool l[i].init)
theorem SlR.kept {a : Option Addr} {l : List Rg} (h : SlR w a l) (hk : Kept S w w') (hd : ∀ b ∈ ft a, b ∉ S) : SlR w' a l := fun i hi => by
  obtain ⟨b, h1, h2, h3, h4, h5⟩ := h i hi
  have hb := hd b (by rw [h1]; simp [ft])
  exact ⟨b, h1, hk.cell h2 hb, hk.cell h3 hb, hk.cell h4 hb, hk.cell h5 hb⟩
theorem SlR.kept0 {a : Option Addr} {l : List Rg} (h : SlR w a l) (hk : Kept [] w w') : SlR w' a l := h.kept hk (by simp)
theorem regs_sl {a : Option Addr} {c m : Nat} {l : List Rg} (hl : l.length = m) (h : w.ownsRow 0 63 4 (.slice a m c) m (rgCells l)) : SlR w a l := fun i hi => by
  rcases h.2 with ⟨hv, h0⟩ | ⟨gb, cap', cur, hv, _⟩
  · omega
  · injection hv with hv
    subst hv
    have hg := rgCells_get l i l[i] (List.getElem?_eq_getElem hi)
    have hc : ∀ j, j < 4 * m → w.cell? ⟨gb, j, none⟩ = (rgCells l)[j]? := fun j hj => World.ownsRow.cellAt h j (by omega)
    exact ⟨gb, rfl, by rw [hc _ (by omega), ← hg.1, Nat.mul_comm], by rw [hc _ (by omega), ← hg.2.1, Nat.mul_comm], by rw [hc _ (by omega), ← hg.2.2.1, Nat.mul_comm], by rw [hc _ (by omega), ← hg.2.2.2, Nat.mul_comm]⟩
set_option maxHeartbeats 800000 in
set_option maxRecDepth 100000 in
theorem index_reg (q bq : Nat) (a : Option Addr) (c len : Nat) (l : List Rg) (hl : l.length = len) (hm : len ≤ 1000000) (hs : SlR w a l) (hq : w.cell? ⟨bq, 0, none⟩ = some (.int .u32 (q : Int))) :
    Calls Tryz.prog 107 #[.slice a len c, .func (.func 127) #[] #[.pointer (some ⟨bq, 0, none⟩)]] w (IdxIs (findR l q) w) := by
  have HL := Lib.hid hl
  have HS := Lib.hid hs
  have HF := Lib.hid (fun (W : World) (hk : Kept [] w W) (r : Rg) => q_is r q bq (w := W) (hk.cell hq (by simp)))
  clear hl hs hq
  go_enter Tryz.func107, Tryz.ntmps107
  go_wp2_with fail
  go_loopw [8] (fun i wr => ∃ k : Nat, k ≤ len ∧ i = .int .i64 k ∧ Kept [] w wr ∧ ∀ j (h : j < l.length), j < k → l[j].q ≠ q) (fun i _ => len - (intOf i).toNat)
  case atStart => exact ⟨0, Nat.zero_le _, rfl, .refl _ _, fun j h h2 => by omega⟩
  case round =>
    obtain ⟨k, hk, rfl, hkr, hall⟩ := hrel
    have KR := Lib.hid hkr
    have HA := Lib.hid hall
    clear hkr hall
    by_cases hlt : k < len
    · have hkl : k < l.length := by rw [HL.out]; exact hlt
      obtain ⟨b, rfl, h1, h2, h3, h4⟩ := (HS.out.kept0 KR.out) k hkl
      have HR := Lib.hid (fun (hn : l[k].q = q) => show findR l q = some k from by
        unfold findR
        rw [List.findIdx?_eq_some_iff_getElem]
        exact ⟨hkl, by simpa using hn, fun j hj => by simpa using HA.out j (by omega) hj⟩)
      have HN := Lib.hid (fun (hn : l[k].q ≠ q) => show ∀ j (h : j < l.length), j < k + 1 → l[j].q ≠ q from fun j h hj => by
        rcases Nat.lt_or_ge j k with h3 | h3
        · exact HA.out j h h3
        · have : j = k := by omega
          subst this; exact hn)
      have HF2 := Lib.hid (HF.out wr KR.out l[k])
      generalize l[k] = r at *
      obtain ⟨x, y, z, i⟩ := r
      simp only at h1 h2 h3 h4 HR HN HF2
      by_cases hn : x = q
      · have HR2 := Lib.hid (HR.out hn)
        rw [decide_eq_true hn] at HF2
        clear hn HR HN
        go_wp2_with fail
        refine HF2.out.mono ?_
        rintro e w1 ⟨rfl, hk1⟩
        have K1 := Lib.hid (KR.out.trans hk1)
        clear hk1
        go_wp2_with fail
        go_ret
        exact ⟨by rw [HR2.out]; rfl, K1.out⟩
      · have HN2 := Lib.hid (HN.out hn)
        rw [decide_eq_false hn] at HF2
        clear hn HR HN
        go_wp2_with fail
        refine HF2.out.mono ?_
        rintro e w1 ⟨rfl, hk1⟩
        have K1 := Lib.hid (KR.out.trans hk1)
        clear hk1
        go_wp2_with fail
        go_roundw
        case rel => exact ⟨k + 1, by omega, by go_num, K1.out, HN2.out⟩
        case measure => simp [intOf]; omega
    · obtain rfl : k = len := by omega
      have HR := Lib.hid (show findR l q = none from by
        unfold findR
        rw [List.findIdx?_eq_none_iff]
        intro x hx
        obtain ⟨j, hj, rfl⟩ := List.getElem_of_mem hx
        simpa using HA.out j hj (by have := HL.out; omega))
      go_wp2_with fail
      go_ret
      exact ⟨by rw [HR.out]; rfl, KR.out⟩
theorem rgCells_put (l : List Rg) (k d en : Nat) (hk : k < l.length) : rgCells (putR l k d en) = ((rgCells l).set (k * 4 + 1) (.int .u32 (d : Int))).set (k * 4 + 2) (.int .u32 (en : Int)) := by
  induction l generalizing k with
  | nil => simp at hk
  | cons r l ih =>
    cases k with
    | zero => simp [putR, rgCells]
    | succ k =>
      have h := ih k (by simpa using hk)
      have e1 : (k + 1) * 4 + 1 = k * 4 + 1 + 1 + 1 + 1 + 1 := by omega
      have e2 : (k + 1) * 4 + 2 = k * 4 + 2 + 1 + 1 + 1 + 1 := by omega
      rw [e1, e2]
      simp only [putR, List.modify_succ_cons] at h ⊢
      simp only [rgCells, List.flatMap_cons] at h ⊢
      rw [h]
      rfl
theorem cell_far {w : World} {b i c k : Nat} {v u : Value} (hne : b ≠ c) (h : w.cell? ⟨b, i, none⟩ = some v) : (w.setCell ⟨c, k, none⟩ u).cell? ⟨b, i, none⟩ = some v :=
  (World.cell?_setCell_other w ⟨c, k, none⟩ ⟨b, i, none⟩ u (fun e => hne (by injection e with e _ _; exact e.symm))).trans h
section
variable {G : List Nat} {ia oa : Option Addr} {ic rc oc gr : Nat} {ri ro : List BR}
theorem NetC.setRegs {l' : List Rg} {W : World} (h : NetC w n N p G ia ic (some ⟨gr, 0, none⟩) rc oa oc ri ro) (hk : Kept [gr] w W) (hl : l'.length = N.regs.length) (hown : W.ownsRow 0 63 4 (.slice (some ⟨gr, 0, none⟩) N.regs.length rc) N.regs.length (rgCells l')) :
    NetC W n { N with regs := l' } p G ia ic (some ⟨gr, 0, none⟩) rc oa oc ri ro := by
  obtain ⟨a1, a2, a3, a4, a5, a6, a7, a8, a9⟩ := h.apart
  have fr := h.fr
  simp only [List.mem_cons, List.mem_append, not_or] at fr
  have one : ∀ b, b ∈ ft (some (⟨gr, 0, none⟩ : Addr)) ↔ b = gr := fun b => mem_ft
  have nn : n ∉ [gr] := by simp; exact fun e => a3 ((one n).2 e)
  refine ⟨?_, h.gr.kept hk (fun b hb hx => by simp at hx; exact a6 b ((one b).2 hx) hb), h.ib.kept hk (fun b hb hx => by simp at hx; exact a8 b ((one b).2 hx) hb) (fun b hb hx => by simp at hx; exact (fr b (.inl hb)).2.2.2.1 ((one b).2 hx)), ?_, h.ob.kept hk (fun b hb hx => by simp at hx; exact a9 b ((one b).2 hx) hb) (fun b hb hx => by simp at hx; exact (fr b (.inr hb)).2.2.2.1 ((one b).2 hx)), h.io, h.fr⟩
  · have := hk.heap h.blk nn
    rw [this]
    simp only [nCells, hl]
  · show W.ownsRow 0 63 4 (.slice (some ⟨gr, 0, none⟩) l'.length rc) l'.length (rgCells l')
    rw [hl]
    exact hown
theorem putR_length (l : List Rg) (k d en : Nat) : (putR l k d en).length = l.length := by simp [putR]
theorem set_regs1 (h : NetC w n N p G ia ic (some ⟨gr, 0, none⟩) rc oa oc ri ro) {k d en : Nat} (hk : k < N.regs.length) :
    NetC ((w.setCell ⟨gr, k * 4 + 1, none⟩ (.int .u32 (d : Int))).setCell ⟨gr, k * 4 + 2, none⟩ (.int .u32 (en : Int))) n { N with regs := putR N.regs k d en } p G ia ic (some ⟨gr, 0, none⟩) rc oa oc ri ro ∧
    Kept [gr] w ((w.setCell ⟨gr, k * 4 + 1, none⟩ (.int .u32 (d : Int))).setCell ⟨gr, k * 4 + 2, none⟩ (.int .u32 (en : Int))) := by
  have hkp : Kept [gr] w ((w.setCell ⟨gr, k * 4 + 1, none⟩ (.int .u32 (d : Int))).setCell ⟨gr, k * 4 + 2, none⟩ (.int .u32 (en : Int))) := ((Kept.refl [gr] w).setCell (p := ⟨gr, k * 4 + 1, none⟩) (.inl (by simp)) _).setCell (p := ⟨gr, k * 4 + 2, none⟩) (.inl (by simp)) _
  have lc := rgCells_length N.regs
  have h1 := (World.ownsRow.stored h.rb (k * 4 + 1) (.int .u32 (d : Int))).1
  have h2 := (World.ownsRow.stored h1 (k * 4 + 2) (.int .u32 (en : Int))).1
  rw [← rgCells_put _ _ _ _ hk] at h2
  exact ⟨h.setRegs hkp (putR_length _ _ _ _) h2, hkp⟩
theorem set_regs2 (h : NetC w n N p G ia ic (some ⟨gr, 0, none⟩) rc oa oc ri ro) {k d en : Nat} (hk : k < N.regs.length) :
    NetC ((w.setCell ⟨gr, k * 4 + 2, none⟩ (.int .u32 (en : Int))).setCell ⟨gr, k * 4 + 1, none⟩ (.int .u32 (d : Int))) n { N with regs := putR N.regs k d en } p G ia ic (some ⟨gr, 0, none⟩) rc oa oc ri ro ∧
    Kept [gr] w ((w.setCell ⟨gr, k * 4 + 2, none⟩ (.int .u32 (en : Int))).setCell ⟨gr, k * 4 + 1, none⟩ (.int .u32 (d : Int))) := by
  have hkp : Kept [gr] w ((w.setCell ⟨gr, k * 4 + 2, none⟩ (.int .u32 (en : Int))).setCell ⟨gr, k * 4 + 1, none⟩ (.int .u32 (d : Int))) := ((Kept.refl [gr] w).setCell (p := ⟨gr, k * 4 + 2, none⟩) (.inl (by simp)) _).setCell (p := ⟨gr, k * 4 + 1, none⟩) (.inl (by simp)) _
  have lc := rgCells_length N.regs
  have h1 := (World.ownsRow.stored h.rb (k * 4 + 2) (.int .u32 (en : Int))).1
  have h2 := (World.ownsRow.stored h1 (k * 4 + 1) (.int .u32 (d : Int))).1
  rw [List.set_comm _ _ (by omega), ← rgCells_put _ _ _ _ hk] at h2
  exact ⟨h.setRegs hkp (putR_length _ _ _ _) h2, hkp⟩
end
def SetPost (r : Nt × Nat) (w : World) (n : Nat) (F R : List Nat) (e : Ending) (w' : World) : Prop :=
  ∃ F' R', e = .returned (.int .i64 (r.2 : Nat)) ∧ NetAt w' n F' R' r.1 ∧ NStep w w' F R F' R'
theorem SetPost.no {k : Nat} {W : World} (h : NetAt w n F R N) (hk : Kept [] w W) : SetPost (N, k) w n F R (.returned (.int .i64 (k : Nat))) W :=
  ⟨F, R, rfl, h.kept0 hk, (NStep.refl w F R).keep hk⟩
set_option maxHeartbeats 3200000 in
set_option maxRecDepth 100000 in
theorem setreg_c (h : NetAt w n F R N) (hok : N.g.nodes.length ≤ 100000 ∧ N.regs.length ≤ 10000) (q d en : Nat) (hq : q < 4294967296) (hd : d < 4294967296) (he : en < 4294967296) :
    Calls Tryz.prog 93 #[.pointer (some ⟨n, 0, none⟩), .int .u32 q, .int .u32 d, .int .u32 en] w (SetPost (setReg N q d en) w n F R) := by
  have HNO := Lib.hid (net_none (h.kept0 ((Kept.refl [] w).alloc (.cells #[.int .u32 (q : Int)] 61))) (show N.g.nodes.length ≤ 1000000 by omega))
  have HTH := Lib.hid (fun (W : World) (hk : Kept [] w W) => there_c (h.kept0 (hk.alloc (.cells #[.int .u32 (d : Int), .int .u32 (en : Int)] 61))) (show N.g.nodes.length ≤ 200000 by omega) (some ⟨W.heap.size, 0, none⟩) 2 2 [d, en] rfl (by omega) (sln_new W .u32 [d, en] 61) (by intro x hx; simp at hx; omega))
  have HNA := Lib.hid h
  obtain ⟨p, G, ia, ic, ra, rc, oa, oc, ri, ro, rfl, rfl, hc⟩ := h
  have HC := Lib.hid hc
  have lenR := hok.2
  have HIX := Lib.hid (index_reg (w := w.alloc (.cells #[.int .u32 (q : Int)] 61)) q w.heap.size ra rc N.regs.length N.regs rfl (by omega) ((regs_sl rfl hc.rb).kept0 ((Kept.refl [] w).alloc _)) (by simp [World.cell?_alloc_new]))
  obtain ⟨nR, hnR⟩ : ∃ k, k = N.regs.length := ⟨_, rfl⟩
  have HNR := Lib.hid hnR
  have c3 : (w.alloc (.cells #[.int .u32 (q : Int)] 61)).cell? ⟨n, 3, none⟩ = some (.slice ra N.regs.length rc) := cell_alloc hc.c3 _
  rw [← hnR] at lenR c3 HIX
  clear hc hok hnR
  cases hf : findR N.regs q with
  | none =>
    rw [hf] at HIX
    have HPO := Lib.hid (fun (W : World) (hk : Kept [] w W) => SetPost.no (k := 1) HNA.out hk)
    rw [show setReg N q d en = (N, 1) from by unfold setReg; rw [hf]]
    generalize ((N, 1) : Nt × Nat) = res at *
    clear hf HTH
    go_enter Tryz.func93, Tryz.ntmps93; (try simp only [List.append])
    go_wp2_with fail
    refine HNO.out.mono ?_
    rintro e w' ⟨rfl, rfl⟩
    go_wp2_with fail
    refine HIX.out.mono ?_
    rintro e w2 ⟨rfl, hk2⟩
    have K2 := Lib.hid (((Kept.refl [] w).alloc (.cells #[.int .u32 (q : Int)] 61)).trans hk2)
    clear hk2 c3
    go_wp2_with fail
    go_ret
    exact HPO.out _ K2.out
  | some k =>
    have HIX2 := Lib.hid (show Calls Tryz.prog 107 #[.slice ra nR rc, .func (.func 127) #[] #[.pointer (some ⟨w.heap.size, 0, none⟩)]] (w.alloc (.cells #[.int .u32 (q : Int)] 61)) (IntIs (k : Int) (w.alloc (.cells #[.int .u32 (q : Int)] 61))) from by
      have h := HIX.out
      rw [hf] at h
      exact h)
    clear HIX
    have hkR : k < nR := by
      have := (List.findIdx?_eq_some_iff_getElem.1 hf).1
      rw [HNR.out]; exact this
    cases hg : gone N.g [d, en] with
    | true =>
      rw [hg] at HTH
      have HPO := Lib.hid (fun (W : World) (hk : Kept [] w W) => SetPost.no (k := 1) HNA.out hk)
      rw [show setReg N q d en = (N, 1) from by unfold setReg; rw [hf]; simp [hg]]
      generalize ((N, 1) : Nt × Nat) = res at *
      clear hg hf
      go_enter Tryz.func93, Tryz.ntmps93; (try simp only [List.append])
      go_wp2_with fail
      refine HNO.out.mono ?_
      rintro e w' ⟨rfl, rfl⟩
      go_wp2_with fail
      refine HIX2.out.mono ?_
      rintro e w2 ⟨rfl, hk2⟩
      have K2 := Lib.hid (((Kept.refl [] w).alloc (.cells #[.int .u32 (q : Int)] 61)).trans hk2)
      clear hk2 c3
      go_wp2_with fail
      refine (HTH.out _ K2.out).mono ?_
      rintro e w3 ⟨rfl, hk3⟩
      have K3 := Lib.hid ((K2.out.alloc _).trans hk3)
      clear hk3
      go_wp2_with fail
      go_ret
      exact HPO.out _ K3.out
    | false =>
      rw [hg] at HTH
      rw [show setReg N q d en = ({ N with regs := putR N.regs k d en }, 0) from by unfold setReg; rw [hf]; simp [hg]]
      clear hg hf
      go_enter Tryz.func93, Tryz.ntmps93; (try simp only [List.append])
      go_wp2_with fail
      refine HNO.out.mono ?_
      rintro e w' ⟨rfl, rfl⟩
      go_wp2_with fail
      refine HIX2.out.mono ?_
      rintro e w2 ⟨rfl, hk2⟩
      have K2 := Lib.hid (((Kept.refl [] w).alloc (.cells #[.int .u32 (q : Int)] 61)).trans hk2)
      clear hk2 c3
      go_wp2_with fail
      refine (HTH.out _ K2.out).mono ?_
      rintro e w3 ⟨rfl, hk3⟩
      have K3 := Lib.hid ((K2.out.alloc _).trans hk3)
      clear hk3
      have HC3 := Lib.hid (HC.out.kept K3.out (by simp) (by simp))
      have c3 : w3.cell? ⟨n, 3, none⟩ = some (.slice ra nR rc) := by rw [HNR.out]; exact HC3.out.c3
      obtain ⟨gr, rfl, e0, e1, e2, e3⟩ := regs_sl (l := N.regs) rfl HC3.out.rb k (by rw [← HNR.out]; exact hkR)
      have hrb := HC3.out.rb
      have f1 : w3.frozen? ⟨gr, k * 4 + 1, none⟩ = false := World.ownsRow.frozenAt hrb _
      have f2 : w3.frozen? ⟨gr, k * 4 + 2, none⟩ = false := World.ownsRow.frozenAt hrb _
      clear hrb
      have hne : n ≠ gr := fun h => HC3.out.apart.2.2.1 (by simp [ft, h])
      have hkI : (k : Int) < (nR : Int) := by omega
      have hk0 : (0 : Int) ≤ (k : Int) := by omega
      go_wp2_with fail
      go_region_held3 (fun w' => w'.cell? ⟨n, 3, none⟩ = some (.slice (some ⟨gr, 0, none⟩) nR rc)) (first | exact cell_far hne c3 | exact cell_far hne (cell_far hne c3) | go_keep) (fail)
      go_wp2
      go_ret
      have s1 := set_regs1 HC3.out (d := d) (en := en) (by rw [← HNR.out]; exact hkR)
      have hF : ∀ b ∈ [gr], b ∈ n :: (G ++ (ft ia ++ (ft (some (⟨gr, 0, none⟩ : Addr)) ++ ft oa))) := by intro b hb; simp at hb; subst hb; simp [ft]
      exact ⟨_, _, rfl, ⟨p, G, ia, ic, some ⟨gr, 0, none⟩, rc, oa, oc, ri, ro, rfl, rfl, s1.1.kept ((Kept.refl [] _).drew) (by simp) (by simp)⟩, ⟨⟨((K3.out.more (by simp)).trans (s1.2.more hF)).drew, fun b hb => .inl hb⟩, fun b hb => .inl hb⟩⟩
end Go.Proofs.YtdmcdhkkbkgnbaaGreat

namespace Go.Proofs.YtdmcdhkkbkgnbaaGreat
open Go.ChangeShapes Go.WideShapes Go.ChangeAt Go.RowKit
open Go.Maps (Keyed)
open Go.WideMaps
set_option linter.unusedVariables false
set_option linter.unusedSimpArgs false

variable {w w' : World} {p n : Nat} {F R S : List Nat} {g : Gr} {N : Nt}
set_option maxHeartbeats 3200000 in
set_option maxRecDepth 100000 in
theorem addout_good (h : NetAt w n F R N) (hok : N.g.nodes.length ≤ 100000 ∧ N.outb.length ≤ 100000) (s : ByteArray) (hs : s.size ≤ 140737488351232) (a : Option Addr) (c m : Nat) (l : List Nat) (hl : l.length = m) (h1 : 1 ≤ m) (h2 : m ≤ 64) (hsl : SlN w .u32 a l) (hlt : ∀ x ∈ l, x < 4294967296) (hm : mayB s = true) (hg : gone N.g l = false) (hf : findB N.outb s = none) :
    Calls Tryz.prog 94 #[.pointer (some ⟨n, 0, none⟩), .string s, .slice a m c] w (SetPost ({ N with outb := N.outb ++ [⟨s, l⟩] }, 0) w n F R) := by
  have HNO := Lib.hid (net_none h (show N.g.nodes.length ≤ 1000000 by omega))
  have HM := Lib.hid (fun (W : World) => mayname_c s W hs)
  rw [hm] at HM
  have HTH := Lib.hid (fun (W : World) (hk : Kept [] w W) => there_c (h.kept0 hk) (show N.g.nodes.length ≤ 200000 by omega) a c m l hl (by omega) (hsl.kept0 hk) hlt)
  rw [hg] at HTH
  obtain ⟨p, G, ia, ic, ra, rc, oa, oc, ri, ro, rfl, rfl, hc⟩ := h
  have HC := Lib.hid hc
  have HF := Lib.hid (fun (W : World) (hk : Kept [] w W) => find_c s oa oc N.outb.length ro (w := W) (by rw [← hc.ob.is]; simp) (by omega) (hc.ob.slb.kept0 hk))
  rw [findP_eq, hc.ob.is, hf] at HF
  have hane : a = none → m = 0 := fun e => by
    subst e
    obtain ⟨ad, h3, _⟩ := hsl 0 (by omega)
    cases h3
  have HCL := Lib.hid (fun (W : World) (hk : Kept [] w W) => clone_lits a c m l W hl (hsl.kept0 hk) (by omega) hane)
  have lenO := hok.2
  obtain ⟨nO, hnO⟩ : ∃ k, k = N.outb.length := ⟨_, rfl⟩
  have HNO2 := Lib.hid hnO
  rw [← hnO] at lenO HF
  have HL := Lib.hid hl
  clear hc hok hnO hm hg hf hl hlt hsl hane
  go_enter Tryz.func94, Tryz.ntmps94; (try simp only [List.append])
  go_wp2_with fail
  refine HNO.out.mono ?_
  rintro e w' ⟨rfl, rfl⟩
  go_wp2_with fail
  refine (HM.out _).mono ?_
  rintro e w1 ⟨rfl, hk1⟩
  have K1 := Lib.hid hk1
  clear hk1
  go_wp2_with fail
  refine (HTH.out _ K1.out).mono ?_
  rintro e w2 ⟨rfl, hk2⟩
  have K2 := Lib.hid (K1.out.trans hk2)
  clear hk2 K1
  have c4a : w2.cell? ⟨n, 4, none⟩ = some (.slice oa nO oc) := by rw [HNO2.out]; exact (HC.out.kept K2.out (by simp) (by simp)).c4
  go_wp2_with fail
  refine (HF.out _ K2.out).mono ?_
  rintro e w3 ⟨rfl, hk3⟩
  have K3 := Lib.hid (K2.out.trans hk3)
  clear hk3 K2 c4a
  have HC3 := Lib.hid (HC.out.kept K3.out (by simp) (by simp))
  have c4 : w3.cell? ⟨n, 4, none⟩ = some (.slice oa nO oc) := by rw [HNO2.out]; exact HC3.out.c4
  have f4 : w3.frozen? ⟨n, 4, none⟩ = false := blk_free HC3.out.blk 4
  have hob := HC3.out.ob.own
  rw [← HNO2.out] at hob
  have hnoa := HC3.out.apart.2.2.2.1
  have hnlt := blk_lt HC3.out.blk
  go_wp2_with fail
  go_region_law ((first
    | (refine step_push (news := [.string s, .slice a7 m c7]) (by rfl) (by rfl) Tryz.underlying54 bus_info rfl (by omega) (by rfl) (by rfl) (own_kept (F := []) (w := w3) hob (by (repeat (first | with_reducible exact Kept.refl _ _ | with_reducible apply Kept.drew | with_reducible apply Kept.drewN | with_reducible apply Kept.alloc | refine Kept.trans ?_ hk7))) (by simp)) rfl (news_blk (t := 60) (Mine.heap (F := []) (by (repeat (first | (with_reducible refine Mine.new ?_ (by simp); focus (first | rfl | (simp; done))) | with_reducible apply Mine.drew | with_reducible apply Mine.alloc))))) (by simp [Value.oneCell']) (by unfold maxLen; omega) (by omega) ?_; intro a5 c5 w5 hown5 hst5; have cw4 : w5.cell? ⟨n, 4, none⟩ = some (.slice oa nO oc) := hst5.kept.cell (Kept.cell (F := []) (w := w3) (by (repeat (first | with_reducible exact Kept.refl _ _ | with_reducible apply Kept.drew | with_reducible apply Kept.drewN | with_reducible apply Kept.alloc | refine Kept.trans ?_ hk7))) c4 (by simp)) hnoa; have fw4 : w5.frozen? ⟨n, 4, none⟩ = false := (hst5.kept.frozen (Nat.lt_of_lt_of_le hnlt (Kept.size (F := []) (by (repeat (first | with_reducible exact Kept.refl _ _ | with_reducible apply Kept.drew | with_reducible apply Kept.drewN | with_reducible apply Kept.alloc | refine Kept.trans ?_ hk7))))) hnoa).trans ((Kept.frozen (F := []) (w := w3) (by (repeat (first | with_reducible exact Kept.refl _ _ | with_reducible apply Kept.drew | with_reducible apply Kept.drewN | with_reducible apply Kept.alloc | refine Kept.trans ?_ hk7))) hnlt (by simp)).trans f4))
    | (rw [if_pos (by simp [Region.wanted])]; go_simp; (with_reducible refine (HCL.out _ (K3.out.trans ?kk)).mono ?_); (case kk => ((repeat (first | with_reducible exact Kept.refl _ _ | with_reducible apply Kept.drew | with_reducible apply Kept.drewN | with_reducible apply Kept.alloc)))); rintro e w4 ⟨a7, c7, rfl, ho7, hst7⟩; have hk7 := hst7.kept; have c4b : w4.cell? ⟨n, 4, none⟩ = some (.slice oa nO oc) := Kept.cell (F := []) (w := w3) (by (repeat (first | with_reducible exact Kept.refl _ _ | with_reducible apply Kept.drew | with_reducible apply Kept.drewN | with_reducible apply Kept.alloc | refine Kept.trans ?_ hk7))) c4 (by simp); have c4c : ∀ o, (w4.alloc o).cell? ⟨n, 4, none⟩ = some (.slice oa nO oc) := (fun o => cell_alloc c4b o); go_simp)))
  all_goals
    have fr7 : ∀ b ∈ ft a7, w3.heap.size ≤ b := fun b hb => by
      rcases hst7.fresh b hb with h | h
      · simp at h
      · exact h
    have lt3 := HC3.out.lt.1
    have HR := NetC.addOut (s := s) (l := l) (a := a7) (c := c7) (HC3.out.kept (((Kept.refl [] w3).drew.trans hk7).alloc (.cells #[.string s, .slice a7 m c7] 60)) (by simp) (by simp)) (by rw [← HNO2.out, HL.out]; exact hown5) hst5 (ho7.sln.kept0 ((Kept.refl [] w4).alloc _)) (fun b hb => ⟨by have := ho7.lt b hb; simp; omega, fun hx => by have := lt3 b hx; have := fr7 b hb; omega⟩)
    rw [← HNO2.out] at HR
    have HRR := Lib.hid HR
    have SK := Lib.hid ((K3.out.trans ((Kept.refl [] w3).drew.trans hk7)).alloc (.cells #[.string s, .slice a7 m c7] 60))
    have FR7 := Lib.hid (show ∀ b ∈ ft a7, w.heap.size ≤ b from fun b hb => Nat.le_trans K3.out.size (fr7 b hb))
    clear HR fr7 lt3 hown5 hst5 cw4 fw4 c4b c4c ho7 hst7 hk7
    go_wp2
    go_ret
    exact ⟨_, _, rfl, ⟨p, G, ia, ic, ra, rc, a5, c5, ri, _, rfl, rfl, HRR.out.1⟩, ⟨(⟨SK.out.more (by simp), fun b hb => .inl hb⟩ : Stepped _ _ _ _).trans HRR.out.2, fun b hb => by
      rcases rows_out b hb with h | h
      · exact .inl h
      · exact .inr (FR7.out b h)⟩⟩
set_option maxHeartbeats 3200000 in
set_option maxRecDepth 100000 in
theorem addout_bad (h : NetAt w n F R N) (hok : N.g.nodes.length ≤ 100000) (s : ByteArray) (hs : s.size ≤ 140737488351232) (a : Option Addr) (c m : Nat) (l : List Nat) (hl : l.length = m) (hm0 : m ≤ 140737488351232) (hsl : SlN w .u32 a l) (hlt : ∀ x ∈ l, x < 4294967296)
    (hbad : ((!mayB s) || decide (l.length < 1) || decide (64 < l.length) || gone N.g l) = true) :
    Calls Tryz.prog 94 #[.pointer (some ⟨n, 0, none⟩), .string s, .slice a m c] w (SetPost (N, 1) w n F R) := by
  have HNO := Lib.hid (net_none h (show N.g.nodes.length ≤ 1000000 by omega))
  have HM := Lib.hid (fun (W : World) => mayname_c s W hs)
  have HTH := Lib.hid (fun (W : World) (hk : Kept [] w W) => there_c (h.kept0 hk) (show N.g.nodes.length ≤ 200000 by omega) a c m l hl (by omega) (hsl.kept0 hk) hlt)
  have HPO := Lib.hid (fun (W : World) (hk : Kept [] w W) => SetPost.no (k := 1) h hk)
  have hc : mayB s = false ∨ (mayB s = true ∧ m < 1) ∨ (mayB s = true ∧ ¬ m < 1 ∧ 64 < m) ∨ (mayB s = true ∧ ¬ m < 1 ∧ ¬ 64 < m ∧ gone N.g l = true) := by
    rw [hl] at hbad
    cases hm : mayB s
    · exact .inl rfl
    · rw [hm] at hbad
      by_cases h1 : m < 1
      · exact .inr (.inl ⟨rfl, h1⟩)
      · by_cases h2 : 64 < m
        · exact .inr (.inr (.inl ⟨rfl, h1, h2⟩))
        · refine .inr (.inr (.inr ⟨rfl, h1, h2, ?_⟩))
          simpa [h1, h2] using hbad
  generalize ((N, 1) : Nt × Nat) = res at *
  clear h hbad hl hsl hlt
  rcases hc with hm | ⟨hm, h1⟩ | ⟨hm, h1, h2⟩ | ⟨hm, h1, h2, hg⟩
  rotate_left 3
  · rw [hm] at HM
    rw [hg] at HTH
    clear hm hg
    go_enter Tryz.func94, Tryz.ntmps94; (try simp only [List.append])
    go_wp2_with fail
    refine HNO.out.mono ?_
    rintro e w' ⟨rfl, rfl⟩
    go_wp2_with fail
    refine (HM.out _).mono ?_
    rintro e w1 ⟨rfl, hk1⟩
    have K1 := Lib.hid hk1
    clear hk1
    go_wp2_with fail
    refine (HTH.out _ K1.out).mono ?_
    rintro e w2 ⟨rfl, hk2⟩
    have K2 := Lib.hid (K1.out.trans hk2)
    clear hk2
    go_wp2_with fail
    go_ret
    exact HPO.out _ K2.out
  all_goals
    rw [hm] at HM
    clear hm HTH
    go_enter Tryz.func94, Tryz.ntmps94; (try simp only [List.append])
    go_wp2_with fail
    refine HNO.out.mono ?_
    rintro e w' ⟨rfl, rfl⟩
    go_wp2_with fail
    refine (HM.out _).mono ?_
    rintro e w1 ⟨rfl, hk1⟩
    have K1 := Lib.hid hk1
    clear hk1
    go_wp2_with fail
    go_ret
    exact HPO.out _ K1.out
set_option maxHeartbeats 3200000 in
set_option maxRecDepth 100000 in
theorem addout_there (h : NetAt w n F R N) (hok : N.g.nodes.length ≤ 100000 ∧ N.outb.length ≤ 100000) (s : ByteArray) (hs : s.size ≤ 140737488351232) (a : Option Addr) (c m : Nat) (l : List Nat) (hl : l.length = m) (h1 : 1 ≤ m) (h2 : m ≤ 64) (hsl : SlN w .u32 a l) (hlt : ∀ x ∈ l, x < 4294967296) (hm : mayB s = true) (hg : gone N.g l = false) (k : Nat) (hf : findB N.outb s = some k) :
    Calls Tryz.prog 94 #[.pointer (some ⟨n, 0, none⟩), .string s, .slice a m c] w (SetPost (N, 9) w n F R) := by
  have HNO := Lib.hid (net_none h (show N.g.nodes.length ≤ 1000000 by omega))
  have HM := Lib.hid (fun (W : World) => mayname_c s W hs)
  rw [hm] at HM
  have HTH := Lib.hid (fun (W : World) (hk : Kept [] w W) => there_c (h.kept0 hk) (show N.g.nodes.length ≤ 200000 by omega) a c m l hl (by omega) (hsl.kept0 hk) hlt)
  rw [hg] at HTH
  have HPO := Lib.hid (fun (W : World) (hk : Kept [] w W) => SetPost.no (k := 9) h hk)
  generalize ((N, 9) : Nt × Nat) = res at *
  obtain ⟨p, G, ia, ic, ra, rc, oa, oc, ri, ro, rfl, rfl, hc⟩ := h
  have c4 := hc.c4
  have HF := Lib.hid (fun (W : World) (hk : Kept [] w W) => find_c s oa oc N.outb.length ro (w := W) (by rw [← hc.ob.is]; simp) (by omega) (hc.ob.slb.kept0 hk))
  rw [findP_eq, hc.ob.is, hf] at HF
  have C4 := Lib.hid (fun (W : World) (hk : Kept [] w W) => hk.cell c4 (by simp))
  clear hc hm hf c4 hg hl hsl hlt
  go_enter Tryz.func94, Tryz.ntmps94; (try simp only [List.append])
  go_wp2_with fail
  refine HNO.out.mono ?_
  rintro e w' ⟨rfl, rfl⟩
  go_wp2_with fail
  refine (HM.out _).mono ?_
  rintro e w1 ⟨rfl, hk1⟩
  have K1 := Lib.hid hk1
  clear hk1
  go_wp2_with fail
  refine (HTH.out _ K1.out).mono ?_
  rintro e w2 ⟨rfl, hk2⟩
  have K2 := Lib.hid (K1.out.trans hk2)
  have c4 := C4.out _ K2.out
  clear hk2
  go_wp2_with fail
  refine (HF.out _ K2.out).mono ?_
  rintro e w3 ⟨rfl, hk3⟩
  have K3 := Lib.hid (K2.out.trans hk3)
  clear hk3 c4
  go_wp2_with fail
  go_ret
  exact HPO.out _ K3.out
theorem addout_c (h : NetAt w n F R N) (hok : N.g.nodes.length ≤ 100000 ∧ N.outb.length ≤ 100000) (s : ByteArray) (hs : s.size ≤ 140737488351232) (a : Option Addr) (c m : Nat) (l : List Nat) (hl : l.length = m) (hm0 : m ≤ 140737488351232) (hsl : SlN w .u32 a l) (hlt : ∀ x ∈ l, x < 4294967296) :
    Calls Tryz.prog 94 #[.pointer (some ⟨n, 0, none⟩), .string s, .slice a m c] w (SetPost (addOut N s l) w n F R) := by
  unfold addOut
  by_cases hbad : ((!mayB s) || decide (l.length < 1) || decide (64 < l.length) || gone N.g l) = true
  · rw [if_pos hbad]
    exact addout_bad h hok.1 s hs a c m l hl hm0 hsl hlt hbad
  · rw [if_neg hbad]
    simp only [Bool.or_eq_true, decide_eq_true_eq, not_or, Bool.not_eq_true', Bool.not_eq_false, Bool.not_eq_true] at hbad
    cases hf : findB N.outb s with
    | some k =>
      simp only [Option.isSome_some, if_true]
      exact addout_there h hok s hs a c m l hl (by omega) (by omega) hsl hlt hbad.1.1.1 hbad.2 k hf
    | none =>
      simp only [Option.isSome_none, Bool.false_eq_true, if_false]
      exact addout_good h hok s hs a c m l hl (by omega) (by omega) hsl hlt hbad.1.1.1 hbad.2 hf
end Go.Proofs.YtdmcdhkkbkgnbaaGreat
