/-
  The document's Copy, walked.
-/
import Derived.Test.YtdmcdhkkbkgnbaaGreatQRefA
import Derived.Test.YtdmcdhkkbkgnbaaGreatQRSwM
import Derived.Test.YtdmcdhkkbkgnbaaGreatP31
namespace Go.Proofs.YtdmcdhkkbkgnbaaGreat
open Go.ChangeShapes Go.WideShapes Go.ChangeAt Go.RowKit
open Go.Maps (Keyed)
open Go.WideMaps
set_option linter.unusedVariables false
set_option linter.unusedSimpArgs false

variable {w w' : World} {p n k q v : Nat} {F R S NF NR : List Nat} {g g2 : Gr} {N : Nt}
set_option maxHeartbeats 1600000 in
theorem many_twoc (op : Int) (two : Gr → Nat → Nat → Gr × Nat) (x y : Nat) (hop : op = 1 ∨ op = 3) (hg : RefAt w q R g) (hm : g.nodes.length ≤ 70000) (b c : Nat) (hs : SlN w .u32 (some ⟨b, 0, none⟩) [x, y]) (hx : x < 4294967296) (hy : y < 4294967296)
    (h2 : ∀ W, RefAt W q R g → g.ok x → g.ok y → Calls Tryz.prog 132 #[.pointer (some ⟨q, 0, none⟩), .int .i64 op, .int .u32 (x : Int), .int .u32 (y : Int)] W (RefPost (two g x y) W q R)) :
    Calls Tryz.prog 99 #[.pointer (some ⟨q, 0, none⟩), .int .i64 op, .slice (some ⟨b, 0, none⟩) 2 c] w (TwoPost g (two g x y) (gone g [x, y]) w q R) := by
  have HT := Lib.hid (there03 hg (by omega) (some ⟨b, 0, none⟩) c 2 [x, y] rfl (by omega) hs (by intro z hz; simp at hz; omega))
  have HG := Lib.hid hg
  have H2 := Lib.hid h2
  have c0 : w.cell? ⟨b, 0, none⟩ = some (.int .u32 (x : Int)) := by obtain ⟨ad, h1, h2⟩ := hs 0 (by simp); injection h1 with h1; subst h1; simpa [add_at] using h2
  have c1 : w.cell? ⟨b, 1, none⟩ = some (.int .u32 (y : Int)) := by obtain ⟨ad, h1, h2⟩ := hs 1 (by simp); injection h1 with h1; subst h1; simpa [add_at] using h2
  clear hg h2 hs
  cases hgn : gone g [x, y] with
  | true =>
    rw [hgn] at HT
    clear hgn c0 c1
    rcases hop with rfl | rfl
    all_goals
      go_enter Tryz.func99, Tryz.ntmps99
      go_wp2_with fail
      refine HT.out.mono ?_
      rintro e w1 ⟨rfl, m, hm1⟩
      have K := Lib.hid (show Kept [] w w1 from by rw [hm1]; exact (Kept.refl [] w).drewN m)
      clear hm1
      go_wp2_with fail
      go_ret2
      exact by unfold TwoPost; rw [if_pos rfl]; exact ⟨rfl, K.out⟩
  | false =>
    rw [hgn] at HT
    have hok := gone_false.1 hgn
    have HOK := Lib.hid (And.intro (hok x (by simp)) (hok y (by simp)))
    clear hgn hok
    generalize two g x y = r at *
    rcases hop with rfl | rfl
    all_goals
      go_enter Tryz.func99, Tryz.ntmps99
      go_wp2_with fail
      refine HT.out.mono ?_
      rintro e w1 ⟨rfl, m, hm1⟩
      have K := Lib.hid (show Kept [] w w1 from by rw [hm1]; exact (Kept.refl [] w).drewN m)
      have d0 := K.out.cell c0 (by simp)
      have d1 := K.out.cell c1 (by simp)
      clear hm1 c0 c1
      go_wp2_with fail
      go_loopw [8, 9] (fun v i wr => (i = .int .i64 1 ∧ v = .int .u32 (x : Int) ∧ wr = w1) ∨ (i = .int .i64 2 ∧ v = .int .u32 ((r.2 : Nat) : Int) ∧ ∃ R', RefAt wr q R' r.1 ∧ Stepped w wr R R')) (fun _ i _ => 2 - (intOf i).toNat)
      case atStart => exact .inl ⟨rfl, rfl, rfl⟩
      case round =>
        rcases hrel with ⟨rfl, rfl, rfl⟩ | ⟨rfl, rfl, R', h1, h2⟩
        · go_wp2_with fail
          refine (H2.out _ (HG.out.kept0 K.out) HOK.out.1 HOK.out.2).mono ?_
          rintro e w3 ⟨R3, rfl, hr3, hs3⟩
          have HR3 := Lib.hid hr3
          have HS3 := Lib.hid (((Stepped.refl w R).keep0 K.out).trans hs3)
          clear hr3 hs3
          go_wp2_with fail
          go_roundw
          case rel => exact .inr ⟨rfl, rfl, R3, HR3.out, HS3.out⟩
          case measure => simp [intOf]
        · have HR3 := Lib.hid h1
          have HS3 := Lib.hid h2
          clear h1 h2
          go_wp2_with fail
          go_ret2
          exact by unfold TwoPost; rw [if_neg (by simp)]; exact ⟨R', rfl, HR3.out, HS3.out⟩
def RCopyRow (r : Gr × List Nat) (row : List Nat) (w : World) (p : Nat) (F : List Nat) (e : Ending) (w' : World) : Prop := ∃ F' a c, e = .returned (.tuple #[.slice a row.length c, .int .i64 0]) ∧ RefAt w' p F' r.1 ∧ Own w' 46 a row.length c (nats .u32 (row.map (overL r.2))) ∧ Stepped w w' F F' ∧ ∀ b ∈ ft a, w.heap.size ≤ b ∧ b ∉ F'
theorem kept_upS2 {w wr w2 : World} {S T : List Nat} (h : Kept T w wr) (hk : Kept S wr w2) (hS : ∀ b ∈ S, w.heap.size ≤ b) : Kept T w w2 :=
  ⟨hk.os.trans h.os, hk.tape.trans h.tape, hk.output.trans h.output, Nat.le_trans h.size hk.size, fun b hb hn => (hk.block b (Nat.lt_of_lt_of_le hb h.size) (fun hm => by have := hS b hm; omega)).trans (h.block b hb hn)⟩
theorem ins_one (ns : List (Nat × Nat)) : 0 = (ins (ns.take 1)).length := by
  cases ns with
  | nil => rfl
  | cons x t => simp [ins, insFrom]
theorem docS_end {bys l : List Nat} {n : Nat} (h : n = g2.nodes.length) : partL (docS g g2 bys l n).2 n = (copyG g g2 bys l).2 ∧ docS g g2 bys l n = copyG g g2 bys l := by
  subst h
  refine ⟨?_, rfl⟩
  have h := partL_all (docS g g2 bys l g2.nodes.length).2
  rw [docS_len] at h
  exact h
theorem docS_head {bys l : List Nat} (h0 : 0 < g2.nodes.length) (k : Nat) : (docS g g2 bys l k).2.getD 0 0 = 0 := by
  unfold docS
  rw [copyTo_zero]
  exact byTo_zero h0 (ins_pos _) (Nat.le_refl _)
theorem partL_mem {l : List Nat} {k : Nat} {P : Nat → Prop} (h0 : P 0) (h : ∀ x ∈ l, P x) : ∀ x ∈ partL l k, P x := fun x hx => by
  unfold partL at hx
  rcases List.mem_append.1 hx with hx | hx
  · exact h x (List.mem_of_mem_take hx)
  · rw [(List.mem_replicate.1 hx).2]; exact h0
theorem rnode_row : (Tryz.prog.info? 124).map (fun i => (i.zero, i.size, i.bytes)) = some (some (.agg #[.bool false, .int .u32 0, .int .u32 0]), 3, 12) := by kernel_rfl
set_option maxHeartbeats 16000000 in
set_option maxRecDepth 100000 in
theorem rcopy_c (hg : RefAt w p F g) (hf : RefAt w q R g2) (hd : ∀ x ∈ R, x ∉ F) (hm : g.nodes.length ≤ 30000) (hm2 : g2.nodes.length ≤ 30000) (ab : Option Addr) (cb nb : Nat) (bys : List Nat) (hbl : bys.length = nb) (hbn : nb = (ins g2.nodes).length) (hbs : SlN w .u32 ab bys) (hbo : ∀ x ∈ bys, g.ok x) (hbd : ∀ x ∈ ft ab, x ∉ F)
    (a : Option Addr) (c len : Nat) (l : List Nat) (hl : l.length = len) (hlm : len ≤ 1000000) (hs : SlN w .u32 a l) (hok : ∀ x ∈ l, g2.ok x) (had : ∀ x ∈ ft a, x ∉ F) :
    Calls Tryz.prog 46 #[.pointer (some ⟨p, 0, none⟩), .pointer (some ⟨q, 0, none⟩), .slice ab nb cb, .slice a len c] w (RCopyRow (copyG g g2 bys l) l w p F) := by
  have hp := hf.wf.pos
  have hile : nb ≤ g2.nodes.length := by rw [hbn]; have := insFrom_length 0 g2.nodes; unfold ins; omega
  have HF := Lib.hid hf
  have HG := Lib.hid hg
  have HD := Lib.hid hd
  have HBL := Lib.hid hbl
  have HBN := Lib.hid hbn
  have HBS := Lib.hid hbs
  have HBO := Lib.hid hbo
  have HBD := Lib.hid hbd
  have HL := Lib.hid hl
  have HS := Lib.hid hs
  have HOK := Lib.hid hok
  have HAD := Lib.hid had
  have HGA := Lib.hid (fun (V : World) (hV : Kept [] w V) => ref_gates (hf.kept0 hV) (by omega))
  have HT1 := Lib.hid (fun (V : World) (hV : Kept [] w V) => ref_there (hf.kept0 hV) (by omega) a c len l hl hlm (hs.kept0 hV) hok)
  have HT2 := Lib.hid (fun (V : World) (hV : Kept [] w V) => ref_there (hg.kept0 hV) (by omega) ab cb nb bys hbl (by omega) (hbs.kept0 hV) hbo)
  have HRC := Lib.hid (fun (V : World) (hV : Kept [] w V) => rreach_c (hf.kept0 hV) (by omega) a c len l hl hlm (hs.kept0 hV) hok)
  obtain ⟨rb0, cn0, hc2, hx9⟩ := ref_tri hf
  clear hx9
  have HDO := Lib.hid (fun k => docS_ok (g2 := g2) (l := l) hg.wf hbo k)
  have HDN := Lib.hid (fun k => docS_len (g := g) (g2 := g2) (bys := bys) (l := l) k)
  have HWF := Lib.hid hf.wf
  obtain ⟨n, hn⟩ : ∃ n, n = g2.nodes.length := ⟨_, rfl⟩
  obtain ⟨gn, hgn⟩ : ∃ x, x = gatesN g2 := ⟨_, rfl⟩
  have HN := Lib.hid hn
  have hw1 : IntKind.i64.wrap ((n : Int) - 1) = (n : Int) - 1 := IntWalk.i64_in _ (by omega)
  have hw2 : IntKind.i64.wrap ((n : Int) - 1 - gn) = (nb : Int) := by
    rw [hgn, gatesN, ← hn, ← hbn, IntWalk.i64_in _ (by omega)]; omega
  rw [← hgn] at HGA
  rw [← hn] at hc2 hm2 hp hile
  have HC2 := Lib.hid (fun (V : World) (hV : Kept [] w V) => hV.cell hc2 (by simp))
  have HSM := Lib.hid hm
  clear hgn hn hc2 hg hf hd hbl hbn hbs hbo hbd hl hs hok had
  go_enter Tryz.func46, Tryz.ntmps46; (try simp only [List.append])
  go_upto_region 1 with (fail)
  refine wp_region_keptW (by kernel_rfl) ?_
  (go_big_quiet_want; apply Exists.intro; refine ⟨fun V hV => ?_, ?_⟩; rotate_left; go_big_quiet_on; (try simp only [Act.put, List.setIfInBounds_toArray, List.set_cons_zero, List.set_cons_succ]); rotate_right)
  · go_simp
    exact rfl
  try (rename_i Kq hq; clear hq Kq)
  (go_big_quiet_want; apply Exists.intro; refine ⟨fun V hV => ?_, ?_⟩; rotate_left; go_big_quiet_on; (try simp only [Act.put, List.setIfInBounds_toArray, List.set_cons_zero, List.set_cons_succ]); rotate_right)
  · go_simp
    exact rfl
  try (rename_i Kq hq; clear hq Kq)
  (go_big_quiet_want; apply Exists.intro; refine ⟨fun V hV => ?_, ?_⟩; rotate_left; go_big_quiet_on; (try simp only [Act.put, List.setIfInBounds_toArray, List.set_cons_zero, List.set_cons_succ]); rotate_right)
  · go_simp
    exact rfl
  try (rename_i Kq hq; clear hq Kq)
  (go_big_quiet_want; apply Exists.intro; refine ⟨fun V hV => ?_, ?_⟩; rotate_left; go_big_quiet_on; (try simp only [Act.put, List.setIfInBounds_toArray, List.set_cons_zero, List.set_cons_succ]); rotate_right)
  · have e2 := HC2.out V hV
    go_simp
    exact rfl
  try (rename_i Kq hq; clear hq Kq)
  (go_big_quiet_want; apply Exists.intro; refine ⟨fun V hV => ?_, ?_⟩; rotate_left; go_big_quiet_on; (try simp only [Act.put, List.setIfInBounds_toArray, List.set_cons_zero, List.set_cons_succ]); rotate_right)
  · go_simp
    exact rfl
  try (rename_i Kq hq; clear hq Kq)
  (go_big_quiet_want; apply Exists.intro; refine ⟨fun V hV => ?_, ?_⟩; rotate_left; go_big_quiet_on; (try simp only [Act.put, List.setIfInBounds_toArray, List.set_cons_zero, List.set_cons_succ]); rotate_right)
  · go_simp
    exact rfl
  try (rename_i Kq hq; clear hq Kq)
  (go_big_quiet_want; apply Exists.intro; refine ⟨fun V hV => ?_, ?_⟩; rotate_left; go_big_quiet_on; (try simp only [Act.put, List.setIfInBounds_toArray, List.set_cons_zero, List.set_cons_succ]); rotate_right)
  · go_simp
    exact rfl
  try (rename_i Kq hq; clear hq Kq)
  (go_big_quiet_want; apply Exists.intro; refine ⟨fun V hV => ?_, ?_⟩; rotate_left; go_big_quiet_on; (try simp only [Act.put, List.setIfInBounds_toArray, List.set_cons_zero, List.set_cons_succ]); rotate_right)
  · go_simp
    exact (HGA.out V hV).mono fun e V' h => ⟨h.1, by obtain ⟨_, j, rfl⟩ := h; exact hV.drewN j⟩
  try (rename_i Kq hq; clear hq Kq)
  (go_big_quiet_want; apply Exists.intro; refine ⟨fun V hV => ?_, ?_⟩; rotate_left; go_big_quiet_on; (try simp only [Act.put, List.setIfInBounds_toArray, List.set_cons_zero, List.set_cons_succ]); rotate_right)
  · go_simp
    exact rfl
  try (rename_i Kq hq; clear hq Kq)
  (go_big_quiet_want; apply Exists.intro; refine ⟨fun V hV => ?_, ?_⟩; rotate_left; go_big_quiet_on; (try simp only [Act.put, List.setIfInBounds_toArray, List.set_cons_zero, List.set_cons_succ]); rotate_right)
  · go_simp
    exact rfl
  try (rename_i Kq hq; clear hq Kq)
  refine wpQuiet_nil ?_
  intro w1 k1
  have K1 := Lib.hid k1
  clear k1
  go_wp2_with fail
  refine (HT1.out _ K1.out).mono ?_
  rintro e w2 ⟨rfl, d2, h2⟩
  have K2 := Lib.hid (show Kept [] w w2 from by rw [h2]; exact K1.out.drewN d2)
  clear h2
  go_wp2_with fail
  refine (HT2.out _ K2.out).mono ?_
  rintro e w3 ⟨rfl, d3, h3⟩
  have K3 := Lib.hid (show Kept [] w w3 from by rw [h3]; exact K2.out.drewN d3)
  clear h3
  have e2 := HC2.out _ K3.out
  go_wp2_with (at_make; refine wpList_mk (n := n) rfl rfl Tryz.underlying87 u32_info rfl rfl rfl (by omega) (by unfold maxLen; omega) ?_; intro w4 hown4 hst4; rw [nats_replicate] at hown4)
  obtain ⟨gb, hgb⟩ : ∃ gb, gb = w3.heap.size := ⟨_, rfl⟩
  rw [← hgb] at hown4 hst4 ⊢
  have hgw : w.heap.size ≤ gb := by rw [hgb]; exact K3.out.size
  have O4 := Lib.hid hown4
  have K4 := Lib.hid (K3.out.trans hst4.kept)
  clear hgb hown4 hst4 e2 hw1 hw2
  refine (HRC.out _ K4.out).mono ?_
  rintro e w5 ⟨na, nc, nn, rfl, hown5, k5, hf5⟩
  have hnn : (reachL g2.nodes l).length = nn := by have := hown5.len; simpa [nats] using this
  have hnl : nn ≤ n := by rw [← hnn, HN.out]; exact pick_length _ _
  have HRM := Lib.hid (fun (k : Nat) (hk : k < g2.nodes.length) => reach_mem (l := l) hk)
  generalize reachL g2.nodes l = rl at *
  have HNN := Lib.hid hnn
  have N5 := Lib.hid hown5
  have K5 := Lib.hid (K4.out.trans k5)
  have O5 := Lib.hid (O4.out.kept0 k5)
  have NG := Lib.hid (show ∀ b ∈ ft na, w.heap.size ≤ b ∧ b ≠ gb from fun b hb => by
    have h1 := hf5 b hb
    have h2 := O4.out.lt gb (by simp [ft])
    have h3 := K4.out.size
    omega)
  clear hnn hown5 k5 hf5 K1 K2 K3 HGA HT1 HT2 HRC HC2
  go_wp2_with fail
  go_loopw [12, 15] (fun at' i wr => ∃ (k m : Nat) (F' : List Nat), 1 ≤ k ∧ k ≤ n ∧ i = .int .i64 k ∧ at' = .int .i64 m ∧ Hid (m = (ins (g2.nodes.take k)).length) ∧ RefAt wr p F' (docS g g2 bys l k).1 ∧ Own wr 46 (some ⟨gb, 0, none⟩) n n (nats .u32 (partL (docS g g2 bys l k).2 k)) ∧ gb ∉ F' ∧ Stepped w wr F F' ∧ Own wr 3 na nn nc (nats .i64 rl) ∧ ∀ b ∈ ft na, b ∉ F') (fun _ i _ => n - (intOf i).toNat)
  case atStart => exact ⟨1, 0, F, Nat.le_refl _, by omega, rfl, rfl, Lib.hid (ins_one _), by rw [docS_zero HWF.out]; exact HG.out.kept0 K5.out, by rw [docS_one HWF.out (by rw [← HN.out]; exact hp), ← HN.out]; exact O5.out, fun h => by have := HG.out.lt _ h; omega, (Stepped.refl w F).keep0 K5.out, N5.out, fun b hb h => by have := HG.out.lt _ h; have := NG.out b hb; omega⟩
  case round =>
    obtain ⟨k, m, F', hk1, hk, rfl, rfl, hmi, hgr, hown, hgf, hst, hneed, hnf⟩ := hrel
    obtain ⟨wa, rfl⟩ : ∃ v : World, v = wr := ⟨_, rfl⟩
    have HM := Lib.hid hmi.out
    have GR := Lib.hid hgr
    have OW := Lib.hid hown
    have GF := Lib.hid hgf
    have ST := Lib.hid hst
    have ND := Lib.hid hneed
    have NF := Lib.hid hnf
    have RF := Lib.hid (HF.out.kept hst.kept (fun b hb => HD.out b hb))
    clear hmi hgr hown hgf hst hneed hnf
    obtain ⟨rb, cn, e2, hnd⟩ := ref_tri RF.out
    rw [← HN.out] at e2
    by_cases hlt : k < n
    · have hkn : k < g2.nodes.length := by rw [← HN.out]; exact hlt
      have hat : g2.nodes[k]? = some (gA g2.nodes k, gB g2.nodes k) := by
        rw [List.getElem?_eq_getElem hkn]
        unfold gA gB
        rw [List.getD_eq_getElem?_getD, List.getElem?_eq_getElem hkn]
        rfl
      have HNK := Lib.hid (hnd k _ _ hat)
      have HIT := Lib.hid (ins_take hat (show k ≠ 0 by omega))
      have hg1 : gAt g2.nodes k = decide (gA g2.nodes k / 2 ≠ k) := by
        unfold gAt gA
        simp [show 1 ≤ k by omega, hkn]
      have k0 : (0 : Int) ≤ (k : Int) := by omega
      have k1 : (k : Int) < (n : Int) := by omega
      clear hat hnd
      by_cases hx2 : gA g2.nodes k / 2 = k
      · have hgf : gAt g2.nodes k = false := by rw [hg1]; simp [hx2]
        obtain ⟨hs1, hs2⟩ := docS_in (g := g) (bys := bys) (l := l) hkn hk1 hgf
        obtain ⟨c0, c1, c2⟩ := HNK.out.1 hx2
        rw [show decide (k ≠ 0) = true from by simp; omega] at c0
        rw [← HM.out] at hs2
        have hmb : m < nb := by
          have h1 := ins_at (ns := g2.nodes) (k := k) (a := gA g2.nodes k) (b := gB g2.nodes k) (by
            rw [List.getElem?_eq_getElem hkn]; unfold gA gB; rw [List.getD_eq_getElem?_getD, List.getElem?_eq_getElem hkn]; rfl) hx2 (by omega)
          rw [← HM.out] at h1
          have := (List.getElem?_eq_some_iff.1 h1).1
          rw [HBN.out]; exact this
        have hml : m < bys.length := by rw [HBL.out]; exact hmb
        obtain ⟨ad, hab, hcx⟩ := (HBS.out.kept ST.out.kept (fun b hb => HBD.out b hb)) m hml
        rw [show bys.getD m 0 = bys[m] from by rw [List.getD_eq_getElem?_getD, List.getElem?_eq_getElem hml]; rfl] at hs2
        have HS1 := Lib.hid hs1
        have HS2 := Lib.hid (show (docS g g2 bys l k).2.getD k 0 = bys[m] from hs2)
        have HI1 := Lib.hid (show (ins (g2.nodes.take (k + 1))).length = m + 1 from by rw [HIT.out, if_pos hx2, ← HM.out])
        generalize bys[m] = bv at *
        subst hab
        have m0 : (0 : Int) ≤ (m : Int) := by omega
        have m1 : (m : Int) < (nb : Int) := by omega
        clear hkn hml hgf hs1 hs2 hg1 hx2
        go_upto_region 11 with (fail)
        obtain ⟨wB, hwB⟩ : ∃ v, v = wa.alloc (.cells #[.bool true, .int .u32 0, .int .u32 0] 124) := ⟨_, rfl⟩
        obtain ⟨bx, hbx⟩ : ∃ v, v = wa.heap.size := ⟨_, rfl⟩
        have KB := Lib.hid (show Kept [] wa wB from by rw [hwB]; exact (Kept.refl [] wa).alloc _)
        have hbl : wB.heap[bx]? = some (.cells #[.bool true, .int .u32 0, .int .u32 0] 124 (0, 0)) := by rw [hwB, hbx]; exact heap_alloc_new wa _
        rw [← hwB, ← hbx]
        clear hwB hbx c0 c1 c2 e2
        have f0 : wB.cell? ⟨bx, 0, none⟩ = some (.bool true) := blk_cell hbl 0
        have f1 := KB.out.cell hcx (by simp)
        have OB := Lib.hid (OW.out.kept0 KB.out)
        obtain ⟨⟨v0, q3⟩, q4, q5⟩ := OB.out.store (j := k) hlt
        have HQ := Lib.hid (q5 (.int .u32 (bv : Int)))
        clear hcx q5 hbl
        go_wp2_with fail
        have hfin : Kept [gb] wB (wB.setCell ⟨gb, k, none⟩ (.int .u32 (bv : Int))) := (Kept.refl [gb] wB).setCell (p := ⟨gb, k, none⟩) (.inl (by simp)) _
        have HFN := Lib.hid hfin
        clear hfin q3 q4 f0 f1
        go_roundw
        case rel => exact ⟨k + 1, m + 1, F', by omega, by omega, by go_num, by go_num, Lib.hid HI1.out.symm, by rw [HS1.out]; exact (GR.out.kept0 KB.out).kept HFN.out (fun b hb hx => GF.out (by rw [List.mem_singleton] at hx; rw [← hx]; exact hb)), by rw [HS1.out, ← partL_put (by rw [HDN.out, ← HN.out]; exact hlt), HS2.out, ← nats_set]; exact HQ.out, GF.out, ⟨kept_upS2 (ST.out.keep0 KB.out).kept HFN.out (fun b hb => by rw [List.mem_singleton] at hb; rw [hb]; exact hgw), ST.out.fresh⟩, (ND.out.kept0 KB.out).kept HFN.out (fun b hb hx => (NG.out b hb).2 (by simpa using hx)), NF.out⟩
        case measure => simp [intOf]; omega
      · have hgt : gAt g2.nodes k = true := by rw [hg1]; simp [hx2]
        obtain ⟨c0, c1, c2⟩ := HNK.out.2 hx2
        obtain ⟨ga1, ga2, _, _⟩ := gAt_lt HWF.out hgt
        have HGN := Lib.hid (fun (h : (marksL g2.nodes l).getD k false = false) => docS_not (g := g) (bys := bys) hkn hgt h)
        have HGG := Lib.hid (fun (h : (marksL g2.nodes l).getD k false = true) => docS_gate (g := g) (bys := bys) hkn hgt h)
        have HG0 := Lib.hid (docS_gate0 (g := g) (bys := bys) (l := l) hkn hgt)
        have HMK := Lib.hid (HRM.out k hkn)
        have HI1 := Lib.hid (show (ins (g2.nodes.take (k + 1))).length = m from by rw [HIT.out, if_neg hx2, ← HM.out]; rfl)
        have hok2 := HDO.out k
        have HEX := Lib.hid hok2.ext.le
        have HOV := Lib.hid (fun x => overL_ok hok2.wf hok2.ok x)
        have HLS := Lib.hid (HDN.out k)
        have hA := partL_over (l := (docS g g2 bys l k).2) (k := k) (x := gA g2.nodes k) (by rw [HDN.out, ← HN.out]; omega) ga1
        have hB := partL_over (l := (docS g g2 bys l k).2) (k := k) (x := gB g2.nodes k) (by rw [HDN.out, ← HN.out]; omega) ga2
        have HOA := Lib.hid hA
        have HOB := Lib.hid hB
        clear hkn hg1 hx2 hgt hok2 hA hB
        generalize gA g2.nodes k = xa at *
        generalize gB g2.nodes k = xb at *
        go_upto_region 11 with (fail)
        obtain ⟨wB, hwB⟩ : ∃ v, v = wa.alloc (.cells #[.bool false, .int .u32 (xa : Int), .int .u32 (xb : Int)] 124) := ⟨_, rfl⟩
        obtain ⟨bx, hbx⟩ : ∃ v, v = wa.heap.size := ⟨_, rfl⟩
        have KB := Lib.hid (show Kept [] wa wB from by rw [hwB]; exact (Kept.refl [] wa).alloc _)
        have hbl : wB.heap[bx]? = some (.cells #[.bool false, .int .u32 (xa : Int), .int .u32 (xb : Int)] 124 (0, 0)) := by rw [hwB, hbx]; exact heap_alloc_new wa _
        rw [← hwB, ← hbx]
        clear hwB hbx c0 c1 c2 e2
        have HBX := Lib.hid hbl
        have f0 : wB.cell? ⟨bx, 0, none⟩ = some (.bool false) := blk_cell hbl 0
        have OB := Lib.hid (OW.out.kept0 KB.out)
        have NB := Lib.hid (ND.out.kept0 KB.out)
        have GB := Lib.hid (GR.out.kept0 KB.out)
        have SB := Lib.hid (ST.out.keep0 KB.out)
        clear hbl
        go_wp2_with fail
        clear f0
        go_loopw [17, 18] (fun v i wr => ∃ (j : Nat) (b : Bool), j ≤ nn ∧ i = .int .i64 j ∧ v = .bool b ∧ Hid (b = decide (k ∈ rl.take j)) ∧ wB = wr) (fun _ i _ => nn - (intOf i).toNat)
        case atStart => exact ⟨0, false, Nat.zero_le _, rfl, rfl, Lib.hid (by simp), rfl⟩
        case round =>
          obtain ⟨j, b, hj, rfl, rfl, hb, rfl⟩ := hrel
          have HB := Lib.hid hb.out
          clear hb
          by_cases hlj : j < nn
          · have hjl : j < rl.length := by rw [HNN.out]; exact hlj
            obtain ⟨ad, rfl, hcx⟩ := NB.out.sln j hjl
            have HTK := Lib.hid (show decide (k ∈ rl.take (j + 1)) = (decide (k ∈ rl.take j) || decide (rl[j] = k)) from by
              have h9 : k ∈ rl.take (j + 1) ↔ k ∈ rl.take j ∨ rl[j] = k := by
                rw [List.take_succ_eq_append_getElem hjl, List.mem_append, List.mem_singleton]
                exact ⟨fun h => h.imp id Eq.symm, fun h => h.imp id Eq.symm⟩
              rw [Bool.eq_iff_iff]
              simp only [decide_eq_true_eq, Bool.or_eq_true]
              exact h9)
            generalize rl[j] = y at *
            have j0 : (0 : Int) ≤ (j : Int) := by omega
            have j1 : (j : Int) < (nn : Int) := by omega
            by_cases hyk : y = k
            · have t1 : ((y : Int) == (k : Int)) = true := by simp; omega
              have HNB := Lib.hid (show true = decide (k ∈ rl.take (j + 1)) from by rw [HTK.out]; simp [hyk])
              clear hyk hjl
              go_wp2_with fail
              go_roundw
              case rel => exact ⟨j + 1, true, by omega, by go_num, by first | rfl | trivial, Lib.hid HNB.out, by first | rfl | trivial⟩
              case measure => simp [intOf]; omega
            · have t1 : ((y : Int) == (k : Int)) = false := by simp; omega
              have HNB := Lib.hid (show b = decide (k ∈ rl.take (j + 1)) from by rw [HTK.out, HB.out]; simp [hyk])
              clear hyk hjl
              go_wp2_with fail
              go_roundw
              case rel => exact ⟨j + 1, b, by omega, by go_num, by first | rfl | trivial, Lib.hid HNB.out, by first | rfl | trivial⟩
              case measure => simp [intOf]; omega
          · have hE : rl.take j = rl := List.take_of_length_le (by rw [HNN.out]; omega)
            have HBK := Lib.hid (show b = (marksL g2.nodes l).getD k false from by
              rw [HB.out, hE, Bool.eq_iff_iff, decide_eq_true_eq]
              exact HMK.out)
            clear hE
            cases b
            · have hs1 := HGN.out HBK.out.symm
              have HS1 := Lib.hid hs1
              clear hs1
              go_wp2_with fail
              go_roundw
              case rel => exact ⟨k + 1, m, F', by omega, by omega, by go_num, rfl, Lib.hid HI1.out.symm, by rw [HS1.out]; exact GB.out, by rw [HS1.out, ← partL_skip (by rw [HLS.out, ← HN.out]; exact hlt) HG0.out]; exact OB.out, GF.out, SB.out, NB.out, NF.out⟩
              case measure => simp [intOf]; omega
            · have hs1 := HGG.out HBK.out.symm
              have HS1 := Lib.hid hs1
              have f1 : wB.cell? ⟨bx, 1, none⟩ = some (.int .u32 (xa : Int)) := blk_cell HBX.out 1
              have f2 : wB.cell? ⟨bx, 2, none⟩ = some (.int .u32 (xb : Int)) := blk_cell HBX.out 2
              clear hs1
              have HLT := Lib.hid (show ∀ x ∈ partL (docS g g2 bys l k).2 k, x < 4294967296 from partL_mem (by omega) (fun x hx => by
                have h1 := (HDO.out k).ok x hx
                have h2 := HEX.out
                unfold Gr.ok at h1
                omega))
              have HHD := Lib.hid (show (partL (docS g g2 bys l k).2 k).getD 0 0 = 0 from by rw [partL_get _ (by rw [HLS.out, ← HN.out]; omega), if_pos (by omega)]; exact docS_head (by rw [← HN.out]; exact hp) k)
              have HPL := Lib.hid (show (partL (docS g g2 bys l k).2 k).length = n from by rw [partL_length _ (by rw [HLS.out, ← HN.out]; omega), HLS.out, HN.out])
              have HVA := Lib.hid (HOV.out xa)
              have HVB := Lib.hid (HOV.out xb)
              go_wp2_with fail
              refine (rover_c (some ⟨wB.heap.size, 0, none⟩) 2 2 [xa, xb] (some ⟨gb, 0, none⟩) n n (partL (docS g g2 bys l k).2 k) _ rfl HPL.out (by omega) (by omega) hp HHD.out (sln_new wB .u32 [xa, xb] 46) ((OB.out.kept0 ((Kept.refl [] wB).alloc _)).sln) (by simp; omega) HLT.out).mono ?_
              rintro e w6 ⟨oa, oc, rfl, hown6, k6, hf6⟩
              have K6 := Lib.hid (show Kept [] wB w6 from ((Kept.refl [] wB).alloc _).trans k6)
              simp only [List.map_cons, List.map_nil, List.length_cons, List.length_nil] at hown6 ⊢
              rw [HOA.out, HOB.out] at hown6
              generalize overL (docS g g2 bys l k).2 xa = v1 at *
              generalize overL (docS g g2 bys l k).2 xb = v2 at *
              have hv1 : v1 < 4294967296 := by have h1 := HVA.out; have h2 := HEX.out; unfold Gr.ok at h1; omega
              have hv2 : v2 < 4294967296 := by have h1 := HVB.out; have h2 := HEX.out; unfold Gr.ok at h1; omega
              obtain ⟨ob, rfl⟩ := hown6.form (by omega)
              have HSL := Lib.hid hown6.sln
              have HMN := Lib.hid (many_twoc 1 andG v1 v2 (.inl rfl) (GB.out.kept0 K6.out) (by have := HEX.out; omega) ob oc HSL.out hv1 hv2 (fun W hW h1 h2 => ref_two1 hW (by have := HEX.out; omega) h1 h2))
              rw [show gone (docS g g2 bys l k).1 [v1, v2] = false from gone_false.2 (by
                intro x hx
                simp only [List.mem_cons, List.not_mem_nil, or_false] at hx
                rcases hx with rfl | rfl
                · exact HVA.out
                · exact HVB.out)] at HMN
              generalize andG (docS g g2 bys l k).1 v1 v2 = r at *
              have GB6 := Lib.hid (GB.out.kept0 K6.out)
              clear hown6 k6 hf6 f1 f2
              go_wp2_with fail
              refine HMN.out.mono ?_
              intro e w7 hx
              unfold TwoPost at hx
              rw [if_neg (by simp)] at hx
              obtain ⟨F2, he, hgr2, hst2⟩ := hx
              subst he
              have O7 := Lib.hid ((OB.out.kept0 K6.out).kept hst2.kept (fun b hb hx => by rw [mem_ft] at hb; subst hb; exact GF.out hx))
              have N7 := Lib.hid ((NB.out.kept0 K6.out).kept hst2.kept (fun b hb hx => NF.out b hb hx))
              have S7 := Lib.hid ((SB.out.keep0 K6.out).trans hst2)
              have G7 := Lib.hid hgr2
              have F7 := Lib.hid (show gb ∉ F2 from fun hx => (hst2.fresh gb hx).elim GF.out (fun h => by have h1 := OB.out.lt gb (by simp [ft]); have h2 := K6.out.size; omega))
              have M7 := Lib.hid (show ∀ b ∈ ft na, b ∉ F2 from fun b hb hx => (hst2.fresh b hx).elim (NF.out b hb) (fun h => by have h1 := NB.out.lt b hb; have h2 := K6.out.size; omega))
              obtain ⟨⟨v0, q3⟩, q4, q5⟩ := O7.out.store (j := k) hlt
              have HQ := Lib.hid (q5 (.int .u32 (r.2 : Int)))
              clear hgr2 hst2 q5 HMN
              go_wp2_with fail
              have HFN := Lib.hid (show Kept [gb] w7 (w7.setCell ⟨gb, k, none⟩ (.int .u32 (r.2 : Int))) from (Kept.refl [gb] w7).setCell (p := ⟨gb, k, none⟩) (.inl (by simp)) _)
              clear q3 q4
              go_roundw
              case rel => exact ⟨k + 1, m, F2, by omega, by omega, by go_num, by first | rfl | trivial, Lib.hid HI1.out.symm, by rw [HS1.out]; exact G7.out.kept HFN.out (fun b hb hx => F7.out (by rw [List.mem_singleton] at hx; rw [← hx]; exact hb)), by rw [HS1.out, ← partL_set (by rw [HLS.out, ← HN.out]; exact hlt), ← nats_set]; exact HQ.out, F7.out, ⟨kept_upS2 S7.out.kept HFN.out (fun b hb => by rw [List.mem_singleton] at hb; rw [hb]; exact hgw), S7.out.fresh⟩, N7.out.kept HFN.out (fun b hb hx => (NG.out b hb).2 (by simpa using hx)), M7.out⟩
              case measure => simp [intOf]; omega
    · obtain rfl : n = k := by omega
      obtain ⟨hE1, hE2⟩ := docS_end (g := g) (bys := bys) (l := l) HN.out
      have HLT := Lib.hid (show ∀ x ∈ (copyG g g2 bys l).2, x < 4294967296 from fun x hx => by
        have h0 := HDO.out n
        rw [hE2] at h0
        have h1 := h0.ok x hx
        have h2 := h0.ext.le
        unfold Gr.ok at h1
        omega)
      have HHD := Lib.hid (show (copyG g g2 bys l).2.getD 0 0 = 0 from by rw [← hE2]; exact docS_head (by rw [← HN.out]; exact hp) n)
      have HPL := Lib.hid (show (copyG g g2 bys l).2.length = n from by rw [← hE2, HDN.out, HN.out])
      rw [hE1] at OW
      rw [hE2] at GR
      have HIN := Lib.hid (show ∀ x ∈ l, x / 2 < n from fun x hx => by have := HOK.out x hx; unfold Gr.ok at this; rw [HN.out]; exact this)
      have HSL := Lib.hid (HS.out.kept ST.out.kept (fun b hb => HAD.out b hb))
      clear hE1 hE2
      go_wp2_with fail
      refine (rover_c a c len l (some ⟨gb, 0, none⟩) n n (copyG g g2 bys l).2 _ HL.out HPL.out hlm (by omega) hp HHD.out HSL.out OW.out.sln HIN.out HLT.out).mono ?_
      rintro e w6 ⟨oa, oc, rfl, hown6, k6, hf6⟩
      have O6 := Lib.hid hown6
      have K6 := Lib.hid k6
      have HLM := Lib.hid (show (l.map (overL (copyG g g2 bys l).2)).length = len from by rw [List.length_map]; exact HL.out)
      have F6 := Lib.hid hf6
      clear hown6 k6 hf6
      rw [HLM.out] at O6 ⊢
      go_wp2_with fail
      go_ret2
      refine ⟨F', oa, oc, by rw [HL.out]; rfl, GR.out.kept0 K6.out, by rw [HL.out]; exact O6.out, ST.out.keep0 K6.out, fun b hb => ⟨Nat.le_trans ST.out.kept.size (F6.out b hb), fun hx => by have h1 := GR.out.lt b hx; have h2 := F6.out b hb; omega⟩⟩
end Go.Proofs.YtdmcdhkkbkgnbaaGreat
