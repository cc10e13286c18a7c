/-
  Package sweep: one look for registers that are needed (the closure of Needed).
  Law 04: what literals lean on, their support; the chapter's graph and rows.
  Package cone: Copy.
-/
import Derived.Test.YtdmcdhkkbkgnbaaGreatP19
import Derived.Test.YtdmcdhkkbkgnbaaGreatP18
import Derived.Test.YtdmcdhkkbkgnbaaGreatP09
import Derived.Test.YtdmcdhkkbkgnbaaGreatP20
import Derived.StillTailTactics
namespace Go.Proofs.YtdmcdhkkbkgnbaaGreat
open Go.ChangeShapes Go.WideShapes Go.ChangeAt Go.RowKit
open Go.Maps (Keyed)
open Go.WideMaps
set_option linter.unusedVariables false
set_option linter.unusedSimpArgs false

variable {w w' : World} {p q : Nat} {F R S : List Nat} {g g2 : Gr}
theorem copy_of (l : Nat) (p : Addr) (ab : Option Addr) (nb cb : Nat) (bys : List Nat) (w : World) (hl : l < 4294967296) (hb : bys.length = nb) (hm : nb ≤ 1000000) (hp : w.cell? p = some (.slice ab nb cb)) (hs : SlN w .u32 ab bys) (hr : Lits bys) (hi : l / 2 < nb) :
    Calls Tryz.prog 133 #[.int .u32 l, .pointer (some p)] w fun e w' => e = .returned (.int .u32 (overL bys l : Nat)) ∧ ∃ m, w' = w.drewN m := by
  obtain ⟨ad, rfl, hc⟩ := hs (l / 2) (by omega)
  have hb1 := hr _ (List.getElem_mem (show l / 2 < bys.length by omega))
  have HO := Lib.hid (show overL bys l = ifL bys[l / 2] (decide (l % 2 = 1)) by simp [overL, List.getD_eq_getElem?_getD, List.getElem?_eq_getElem (show l / 2 < bys.length by omega)])
  generalize bys[l / 2] = b at *
  clear hb
  have hi' : ((l / 2 : Nat) : Int) < (nb : Int) := by omega
  go_enter Tryz.func133, Tryz.ntmps133
  go_wp2_with fail
  go_quiet (first
    | (go_at_call 27; exact q_same (lit_node _ _ hl))
    | (go_at_call 134; exact q_same (lit_turned _ _ hl))
    | (go_at_call 23; exact q_same (lit_if _ _ _ hb1)))
  go_wp2
  go_ret
  exact ⟨by rw [HO.out]; rfl, _, rfl⟩
/-- what is new may turn unseen -/
theorem Kept.dropNew {a b c : World} {F : List Nat} {x : Nat} (h : Kept [] a b) (hk : Kept (x :: F) b c) (hx : a.heap.size ≤ x) : Kept F a c :=
  ⟨hk.os.trans h.os, hk.tape.trans h.tape, hk.output.trans h.output, Nat.le_trans h.size hk.size, fun k hk' hn => (hk.block k (Nat.lt_of_lt_of_le hk' h.size) (fun hm => by
    rcases List.mem_cons.1 hm with h1 | h1
    · omega
    · exact hn h1)).trans (h.block k hk' (by simp))⟩
theorem Stepped.dropNew {a b c : World} {F F' : List Nat} {x : Nat} (h : Kept [] a b) (hk : Stepped b c (x :: F) (x :: F')) (hx : a.heap.size ≤ x) : Stepped a c F F' :=
  ⟨h.dropNew hk.kept hx, fun y hy => by
    rcases hk.fresh y (by simp [hy]) with h1 | h1
    · rcases List.mem_cons.1 h1 with h2 | h2
      · exact .inr (by omega)
      · exact .inl h2
    · exact .inr (Nat.le_trans h.size h1)⟩
theorem not_step {a b : World} {F F' : List Nat} {x : Nat} (h : Stepped a b F F') (hx : x < a.heap.size) (hn : x ∉ F) : x ∉ F' := fun hm => by
  rcases h.fresh x hm with h1 | h1
  · exact hn h1
  · omega
def CopyRow (r : Gr × List Nat) (row : List Nat) (w : World) (p : Nat) (F : List Nat) (e : Ending) (w' : World) : Prop := ∃ F' a c, e = .returned (.tuple #[.slice a row.length c, .int .i64 0]) ∧ GraphAt w' p F' r.1 ∧ Own w' 61 a row.length c (nats .u32 (row.map (overL r.2))) ∧ Stepped w w' F F'
set_option maxHeartbeats 3200000 in
set_option maxRecDepth 100000 in
theorem cone_copy (hg : GraphAt w p F g) (hf : GraphAt w q R g2) (hd : ∀ x ∈ R, x ∉ F) (hm : g.nodes.length ≤ 40000) (hm2 : g2.nodes.length ≤ 40000) (ab : Option Addr) (cb nb : Nat) (bys : List Nat) (hbl : bys.length = nb) (hbn : nb = (ins g2.nodes).length) (hbs : SlN w .u32 ab bys) (hbo : ∀ x ∈ bys, g.ok x) (hbd : ∀ x ∈ ft ab, x ∉ F)
    (a : Option Addr) (c len : Nat) (l : List Nat) (hl : l.length = len) (hlm : len ≤ 1000000) (hs : SlN w .u32 a l) (hok : ∀ x ∈ l, g2.ok x) (had : ∀ x ∈ ft a, x ∉ F) :
    Calls Tryz.prog 103 #[.pointer (some ⟨p, 0, none⟩), .pointer (some ⟨q, 0, none⟩), .slice ab nb cb, .slice a len c] w (CopyRow (copyG g g2 bys l) l w p F) := by
  have hile : (ins g2.nodes).length ≤ g2.nodes.length := insFrom_length 0 g2.nodes
  have hp2 := hf.wf.pos
  have HWF := Lib.hid hg.wf
  have HWF2 := Lib.hid hf.wf
  have HIN := Lib.hid (aig_inputs hf (show g2.nodes.length ≤ 1000000 by omega))
  have HA1 := Lib.hid (fun (W : World) (hk : Kept [] w W) => cone_asks_ok (hf.kept0 hk) (by omega) a c len l hl (by omega) (hs.kept0 hk) hok)
  have HA2 := Lib.hid (fun (W : World) (hk : Kept [] w W) => cone_asks_ok (hg.kept0 hk) (by omega) ab cb nb bys hbl (by omega) (hbs.kept0 hk) hbo)
  have HM := Lib.hid (fun (W : World) (hk : Kept [] w W) => cone_marks (hf.kept0 hk) (by omega) a c len l hl hlm (hs.kept0 hk) hok)
  have HBO := Lib.hid hbo
  have HLO := Lib.hid hok
  have HG := Lib.hid hg
  have HF := Lib.hid hf
  have HBS := Lib.hid hbs
  have HS := Lib.hid hs
  have HL := Lib.hid hl
  have HBL := Lib.hid hbl
  have HIS := Lib.hid (ins_lt g2.nodes)
  have HD := Lib.hid hd
  have HBD := Lib.hid hbd
  have HAD := Lib.hid had
  clear hg hf hd hbs hbo hbd hs hok had hl hbl
  obtain ⟨n, hn⟩ : ∃ n, n = g2.nodes.length := ⟨_, rfl⟩
  have HN := Lib.hid hn
  rw [← hn] at hp2 hm2 HM HIS hile
  clear hn
  obtain ⟨is, his⟩ : ∃ is, is = ins g2.nodes := ⟨_, rfl⟩
  rw [← his] at HIN HIS hile hbn
  have HI := Lib.hid his
  clear his
  rw [← hbn] at HIN hile
  have HNI := Lib.hid hbn.symm
  clear hbn
  go_enter Tryz.func103, Tryz.ntmps103; (try simp only [List.append])
  go_wp2_with fail
  refine HIN.out.mono ?_
  rintro e w1 ⟨ai, ci, rfl, hoi, hsi⟩
  have HOI := Lib.hid hoi
  have K1 := Lib.hid hsi.kept
  clear hoi hsi HIN
  go_wp2_with fail
  refine (HA1.out _ K1.out).mono ?_
  rintro e w2 ⟨rfl, hk2⟩
  have K2 := Lib.hid (K1.out.trans hk2)
  have HOI2 := Lib.hid (HOI.out.kept0 hk2)
  clear hk2 HA1 HOI K1
  go_wp2_with fail
  refine (HA2.out _ K2.out).mono ?_
  rintro e w3 ⟨rfl, hk3⟩
  have K3 := Lib.hid (K2.out.trans hk3)
  have HOI3 := Lib.hid (HOI2.out.kept0 hk3)
  clear hk3 HA2 HOI2 K2
  go_wp2_with fail
  refine (HM.out _ K3.out).mono ?_
  rintro e w4 ⟨gm, rfl, hom, hk4, hgm⟩
  have K4 := Lib.hid (K3.out.trans hk4)
  have HOI4 := Lib.hid (HOI3.out.kept0 hk4)
  have HOM := Lib.hid hom
  clear hk4 hom HM HOI3
  go_wp2_with (at_make; refine wpList_mk (n := n) rfl rfl Tryz.underlying58 lit_info rfl rfl rfl (by omega) (by unfold maxLen; omega) ?_; intro w5 hown5 hst5; rw [nats_replicate] at hown5)
  obtain ⟨gs, hgs⟩ : ∃ gs, gs = w4.heap.size := ⟨_, rfl⟩
  obtain ⟨b14, hb14⟩ : ∃ b, b = w5.heap.size := ⟨_, rfl⟩
  rw [← hgs] at hown5 hst5 ⊢
  obtain ⟨w6, hw6⟩ : ∃ w6, w6 = w5.alloc (.cells #[.slice (some ⟨gs, 0, none⟩) n n] 58) := ⟨_, rfl⟩
  rw [← hb14, ← hw6]
  have hk56 : Kept [] w5 w6 := by rw [hw6]; exact (Kept.refl [] w5).alloc _
  have B14 := Lib.hid (show w6.heap[b14]? = some (.cells #[.slice (some ⟨gs, 0, none⟩) n n] 58 (0, 0)) from by rw [hw6]; exact (Mine.new (F := []) hb14 (by simp)).heap)
  have HO6 := Lib.hid (show Own w6 61 (some ⟨gs, 0, none⟩) n n (nats .u32 (byTo n is bys 0)) from hown5.kept0 hk56)
  have K6 := Lib.hid ((K4.out.trans hst5.kept).trans hk56)
  have HOI6 := Lib.hid ((HOI4.out.kept0 hst5.kept).kept0 hk56)
  have HOM6 := Lib.hid ((HOM.out.kept0 hst5.kept).kept0 hk56)
  have HAI := Lib.hid (show ∀ b ∈ ft ai, b ∉ [gs] from fun b hb hx => by have := HOI4.out.lt b hb; simp at hx; omega)
  have HGM := Lib.hid (show gm ≠ gs ∧ gm ∉ F from by
    have h1 := HOM.out.lt gm (by simp [ft])
    refine ⟨by omega, fun hx => ?_⟩
    have := HG.out.lt gm hx
    have := K3.out.size
    omega)
  have HB14 := Lib.hid (show b14 ≠ gs ∧ b14 ∉ F from by
    have h1 := hown5.lt gs (by simp [ft])
    refine ⟨by omega, fun hx => ?_⟩
    have := HG.out.lt b14 hx
    have := (K4.out.trans hst5.kept).size
    omega)
  have HGS := Lib.hid (show w.heap.size ≤ gs from by rw [hgs]; exact K4.out.size)
  clear hgs hb14 hown5 hst5 hw6 hk56 HOI4 HOM K3 K4 hgm
  go_loopw [61] (fun i wr => ∃ k : Nat, k ≤ nb ∧ i = .int .i64 k ∧ Own wr 61 (some ⟨gs, 0, none⟩) n n (nats .u32 (byTo n is bys k)) ∧ Kept [gs] w6 wr) (fun i _ => nb - (intOf i).toNat)
  case atStart => exact ⟨0, Nat.zero_le _, rfl, HO6.out, Kept.refl _ _⟩
  case round =>
    obtain ⟨k, hk, rfl, hown, hkr⟩ := hrel
    have HO7 := Lib.hid hown
    have HK7 := Lib.hid hkr
    have KW := Lib.hid (kept_up K6.out hkr (fun b hb => by simp at hb; rw [hb]; exact HGS.out))
    have c14 : wr.cell? ⟨b14, 0, none⟩ = some (.slice (some ⟨gs, 0, none⟩) n n) := blk_cell (hkr.heap B14.out (by simp; exact HB14.out.1)) 0
    by_cases hlt : k < nb
    · have hki : k < is.length := by rw [HNI.out]; exact hlt
      have hkb : k < bys.length := by rw [HBL.out]; exact hlt
      obtain ⟨adi, hai, hci⟩ := (HOI6.out.kept hkr HAI.out).sln k hki
      subst hai
      obtain ⟨adb, hab, hcb⟩ := (HBS.out.kept0 KW.out) k hkb
      subst hab
      have hin := HIS.out _ (List.getElem_mem hki)
      have HS1 := Lib.hid (show byTo n is bys (k + 1) = (byTo n is bys k).set is[k] bys[k] by
        simp only [byTo, List.getD_eq_getElem?_getD, List.getElem?_eq_getElem hki, List.getElem?_eq_getElem hkb]; rfl)
      generalize is[k] = m at *
      generalize bys[k] = x at *
      obtain ⟨⟨v0, q3⟩, q4, q5⟩ := hown.store (j := m) hin
      have HQ5 := Lib.hid q5
      have i1 : (m : Int) < (n : Int) := by omega
      have i2 : (k : Int) < (nb : Int) := by omega
      clear q5 hown hkr
      go_wp2_with fail
      go_region
      go_wp2_with fail
      go_roundw
      case rel =>
        refine ⟨k + 1, by omega, by go_num, ?_, HK7.out.trans (((Kept.refl [gs] wr).setCell (p := ⟨gs, m, none⟩) (.inl (by simp)) _).drew)⟩
        have h := HQ5.out (.int .u32 (x : Int))
        rw [nats_set, ← HS1.out] at h
        exact h.drew
      case measure => simp [intOf]; omega
    · obtain rfl : k = nb := by omega
      obtain ⟨w7, rfl⟩ : ∃ w7 : World, w7 = wr := ⟨_, rfl⟩
      have HOM7 := Lib.hid (HOM6.out.kept hkr (fun b hb => by rw [mem_ft] at hb; subst hb; simp; exact HGM.out.1))
      have B7 := Lib.hid (hkr.heap B14.out (by simp; exact HB14.out.1))
      have HG7 := Lib.hid (HG.out.kept0 KW.out)
      have HF7 := Lib.hid (HF.out.kept0 KW.out)
      have HS7 := Lib.hid (HS.out.kept0 KW.out)
      have HGF := Lib.hid (show gs ∉ F from fun hx => by have := HG.out.lt gs hx; have := HGS.out; omega)
      have HGR := Lib.hid (show gs ∉ R from fun hx => by have := HF.out.lt gs hx; have := HGS.out; omega)
      have HSL := Lib.hid (fun (W : World) (hk : Kept (gs :: F) w7 W) => (fun k hk' => by
        obtain ⟨ad, ha, hc⟩ := HS.out k hk'
        subst ha
        obtain ⟨ad', ha', hc'⟩ := HS7.out k hk'
        injection ha' with ha'
        subst ha'
        have h1 := World.block_lt_of_cell? w _ hc
        refine ⟨ad, rfl, hk.cell hc' (fun hx => ?_)⟩
        rcases List.mem_cons.1 hx with h | h
        · have := HGS.out; omega
        · rw [block_add] at h; exact HAD.out _ (mem_ft.2 rfl) h : SlN W .u32 a l))
      clear hown hkr c14 HK7 HOI6 HOM6 B14 HO6 HAI K6
      obtain ⟨M, hM⟩ : ∃ M, M = marksL g2.nodes l := ⟨_, rfl⟩
      have HMM := Lib.hid hM
      have HML := Lib.hid (show M.length = n by rw [hM, HN.out]; exact marksL_length _ _)
      rw [← hM] at HOM7
      clear hM
      go_wp2_with fail
      obtain ⟨s0, hs0⟩ : ∃ s0 : Gr × List Nat, s0 = (g, byTo n is bys k) := ⟨_, rfl⟩
      have HCG := Lib.hid (show copyTo g2.nodes M s0 n = copyG g g2 bys l by rw [HMM.out, hs0, ← HNI.out, HI.out, HN.out]; rfl)
      have HC0 := Lib.hid (show CpOk 0 g n s0 by rw [hs0]; exact start_ok HWF.out HBO.out n is k)
      have HZ0 := Lib.hid (show s0.2.getD 0 0 = 0 by rw [hs0]; exact byTo_zero hp2 (by rw [HI.out]; exact ins_pos _) (by rw [HNI.out]; exact Nat.le_refl _))
      have HO8 := Lib.hid (show Own w7 61 (some ⟨gs, 0, none⟩) n n (nats .u32 (copyTo g2.nodes M s0 0).2) by rw [hs0]; exact HO7.out)
      have HG8 := Lib.hid (show GraphAt w7 p F (copyTo g2.nodes M s0 0).1 by rw [hs0]; exact HG7.out)
      clear hs0 HO7 HG7 HG HMM HI HNI HBO HBL HBS HBD
      go_loopw [77] (fun i wr => ∃ (j : Nat) (F' : List Nat), j ≤ n ∧ i = .int .i64 j ∧ GraphAt wr p F' (copyTo g2.nodes M s0 j).1 ∧ Own wr 61 (some ⟨gs, 0, none⟩) n n (nats .u32 (copyTo g2.nodes M s0 j).2) ∧ Stepped w7 wr (gs :: F) (gs :: F') ∧ gs ∉ F') (fun i _ => n - (intOf i).toNat)
      case atStart => exact ⟨0, F, Nat.zero_le _, rfl, HG8.out, HO8.out, .refl _ _, HGF.out⟩
      case round =>
        clear HG8 HO8
        obtain ⟨j, F', hj, rfl, hgr, hown, hst, hnf⟩ := hrel
        have HGR9 := Lib.hid hgr
        have HO9 := Lib.hid hown
        have HS9 := Lib.hid hst
        have HNF := Lib.hid hnf
        have hcp := copyTo_ok HC0.out g2.nodes M j
        have hle := hcp.ext.le
        have hlen := hcp.len
        have HCP := Lib.hid hcp
        have HSUC := Lib.hid (show copyTo g2.nodes M s0 (j + 1) = copyAt g2.nodes M (copyTo g2.nodes M s0 j) j from rfl)
        have HZJ := Lib.hid (show (copyTo g2.nodes M s0 j).2.getD 0 0 = 0 by rw [copyTo_zero]; exact HZ0.out)
        have HB9 := Lib.hid (fun (W : World) (Fx : List Nat) (h : Stepped w7 W (gs :: F) Fx) => h.kept.heap B7.out (fun hx => by
          rcases List.mem_cons.1 hx with h | h
          · exact HB14.out.1 h
          · exact HB14.out.2 h))
        have HEND := Lib.hid (fun (h : j = n) => (by rw [← HCG.out, ← h] : copyG g g2 bys l = copyTo g2.nodes M s0 j))
        clear hgr hown hst hnf hcp
        obtain ⟨⟨gj, sj⟩, hsj⟩ : ∃ s, s = copyTo g2.nodes M s0 j := ⟨_, rfl⟩
        rw [← hsj] at HGR9 HO9 HCP HSUC HZJ hle hlen HEND
        clear hsj
        dsimp only at HGR9 HO9 hle hlen HZJ
        by_cases hjn : j < n
        · have HGT := Lib.hid (aig_gateOf (HF7.out.kept HS9.out.kept (fun b hb hx => by
            rcases List.mem_cons.1 hx with h | h
            · exact HGR.out (h ▸ hb)
            · exact HD.out b hb h)) (show g2.nodes.length ≤ 1000000 by rw [← HN.out]; omega) (j : Int) (by omega) (by omega))
          rw [gateA_nat] at HGT
          obtain ⟨gk, hgk⟩ : ∃ b, b = gAt g2.nodes j := ⟨_, rfl⟩
          obtain ⟨mk, hmk⟩ : ∃ b, b = M.getD j false := ⟨_, rfl⟩
          rw [← hgk] at HGT
          have HMA := Lib.hid (show copyAt g2.nodes M (gj, sj) j = if gk && mk then ((andG gj (overL sj (gA g2.nodes j)) (overL sj (gB g2.nodes j))).1, sj.set j (andG gj (overL sj (gA g2.nodes j)) (overL sj (gB g2.nodes j))).2) else (gj, sj) by rw [hgk, hmk]; rfl)
          have HGL := Lib.hid (fun (h : gk = true) => gAt_lt HWF2.out (k := j) (by rw [← hgk]; exact h))
          have HCK := Lib.hid (fun (W : World) (hk' : Kept [] wr W) => (by
            have h := own_cell_b ((HOM7.out.kept HS9.out.kept (fun b hb hx => by
              rw [mem_ft] at hb; subst hb
              rcases List.mem_cons.1 hx with h | h
              · exact HGM.out.1 h
              · exact HGM.out.2 h)).kept0 hk') j (by rw [HML.out]; exact hjn)
            rw [← hmk] at h; exact h : W.cell? ⟨gm, j, none⟩ = some (.bool mk)))
          clear hgk hmk
          have k1 : (j : Int) < (n : Int) := by omega
          have hcase : (gk = true ∧ mk = true) ∨ (gk && mk) = false := by cases gk <;> cases mk <;> simp
          rcases hcase with ⟨rfl, rfl⟩ | hno
          · obtain ⟨ha, hb, _, _⟩ := HGL.out rfl
            simp only [if_true] at HGT
            simp only [Bool.and_true, if_true] at HMA
            generalize gA g2.nodes j = x at *
            generalize gB g2.nodes j = y at *
            have x32 : x < 4294967296 := by omega
            have y32 : y < 4294967296 := by omega
            have HLT := Lib.hid (show Lits sj from fun z hz => ok32 (HCP.out.ok z hz) (by dsimp only; omega))
            have HLN := Lib.hid hlen
            have OX := Lib.hid (overL_ok HCP.out.wf HCP.out.ok x)
            have OY := Lib.hid (overL_ok HCP.out.wf HCP.out.ok y)
            dsimp only at OX OY
            have HOF := Lib.hid (fun (W : World) (hk' : Kept [] wr W) (z : Nat) (hz : z < 4294967296) (hz2 : z / 2 < n) => copy_of z ⟨b14, 0, none⟩ (some ⟨gs, 0, none⟩) n n sj W hz HLN.out (by omega) (blk_cell (HB9.out W _ (HS9.out.keep0' hk')) 0) ((HO9.out.kept0 hk').sln) HLT.out hz2)
            clear hlen
            go_wp2_with fail
            refine HGT.out.mono ?_
            rintro e v1 ⟨rfl, hk1⟩
            have K1 := Lib.hid hk1
            have ck := HCK.out v1 hk1
            clear hk1
            go_wp2_with fail
            refine (HOF.out _ K1.out x x32 (by omega)).mono ?_
            rintro e v' ⟨rfl, m1, rfl⟩
            go_wp2_with fail
            refine (HOF.out _ (K1.out.drewN m1) y y32 (by omega)).mono ?_
            rintro e v2 ⟨rfl, m2, hv2⟩
            have K2 := Lib.hid (show Kept [] wr v2 from by rw [hv2]; exact (K1.out.drewN m1).drewN m2)
            clear hv2 ck
            generalize overL sj x = ox at *
            generalize overL sj y = oy at *
            go_wp2_with fail
            refine (b_and (HGR9.out.kept0 K2.out) (by omega) OX.out OY.out).mono ?_
            rintro e v3 ⟨F3, rfl, hg3, hst3⟩
            have G3 := Lib.hid hg3
            have S3 := Lib.hid (((Stepped.refl wr F').keep0' K2.out).trans hst3)
            have O3 := Lib.hid ((HO9.out.kept0 K2.out).kept hst3.kept (fun b hb hx => by rw [mem_ft] at hb; subst hb; exact HNF.out hx))
            have N3 := Lib.hid (not_step hst3 ((HO9.out.kept0 K2.out).lt gs (by simp [ft])) HNF.out)
            clear hg3 hst3
            have S4 := Lib.hid (HS9.out.trans (S3.out.behind [gs]))
            have c14 : v3.cell? ⟨b14, 0, none⟩ = some (.slice (some ⟨gs, 0, none⟩) n n) := blk_cell (HB9.out v3 _ S4.out) 0
            obtain ⟨⟨v0, q3⟩, q4, q5⟩ := O3.out.store (j := j) hjn
            have HQ5 := Lib.hid q5
            clear q5
            go_wp2_with fail
            go_roundw
            case rel =>
              refine ⟨j + 1, F3, by omega, by go_num, ?_, ?_, S4.out.setCell (p := ⟨gs, j, none⟩) (by simp) _, N3.out⟩
              · rw [HSUC.out, HMA.out]
                exact G3.out.kept ((Kept.refl [gs] v3).setCell (p := ⟨gs, j, none⟩) (.inl (by simp)) _) (fun b hb hx => by simp at hx; exact N3.out (hx ▸ hb))
              · rw [HSUC.out, HMA.out, ← nats_set]
                exact HQ5.out _
            case measure => simp [intOf]; omega
          · rw [hno] at HMA
            simp only [Bool.false_eq_true, if_false] at HMA
            clear hlen
            cases gk
            · simp only [Bool.false_eq_true, if_false] at HGT
              clear hno
              go_wp2_with fail
              refine HGT.out.mono ?_
              rintro e v1 ⟨rfl, hk1⟩
              have K1 := Lib.hid hk1
              clear hk1
              go_wp2_with fail
              go_roundw
              case rel => exact ⟨j + 1, F', by omega, by go_num, by rw [HSUC.out, HMA.out]; exact HGR9.out.kept0 K1.out, by rw [HSUC.out, HMA.out]; exact HO9.out.kept0 K1.out, HS9.out.keep0' K1.out, HNF.out⟩
              case measure => simp [intOf]; omega
            · have hmf : mk = false := by simpa using hno
              subst hmf
              simp only [if_true] at HGT
              clear hno
              go_wp2_with fail
              refine HGT.out.mono ?_
              rintro e v1 ⟨rfl, hk1⟩
              have K1 := Lib.hid hk1
              have ck := HCK.out v1 hk1
              clear hk1
              go_wp2_with fail
              go_roundw
              case rel => exact ⟨j + 1, F', by omega, by go_num, by rw [HSUC.out, HMA.out]; exact HGR9.out.kept0 K1.out, by rw [HSUC.out, HMA.out]; exact HO9.out.kept0 K1.out, HS9.out.keep0' K1.out, HNF.out⟩
              case measure => simp [intOf]; omega
        · have hje : j = n := by omega
          have HEQ := Lib.hid (HEND.out hje)
          have c14 : wr.cell? ⟨b14, 0, none⟩ = some (.slice (some ⟨gs, 0, none⟩) n n) := blk_cell (HB9.out wr _ HS9.out) 0
          have HOV := Lib.hid (lit_over a c len l (some ⟨gs, 0, none⟩) n n sj wr HL.out hlm (HSL.out wr HS9.out.kept) (fun z hz => ok32 (HLO.out z hz) (by rw [← HN.out]; omega)) hlen (by omega) HO9.out.sln (fun z hz => ok32 (HCP.out.ok z hz) (by dsimp only; omega)) (fun z hz => by have := HLO.out z hz; unfold Gr.ok at this; rw [← HN.out] at this; exact this) (head_of (by rw [hlen]; exact hp2) HZJ.out))
          clear hlen hje HEND
          go_wp2_with fail
          refine HOV.out.mono ?_
          rintro e v9 ⟨a9, c9, rfl, ho9, hs9⟩
          have O10 := Lib.hid ho9
          have S10 := Lib.hid hs9
          clear ho9 hs9
          go_wp2_with fail
          go_ret2
          rw [HEQ.out]
          have hll := HL.out
          subst hll
          exact ⟨F', a9, c9, rfl, HGR9.out.kept0 S10.out.kept, O10.out, Stepped.dropNew KW.out (HS9.out.keep0' S10.out.kept) HGS.out⟩
end Go.Proofs.YtdmcdhkkbkgnbaaGreat

namespace Go.Proofs.YtdmcdhkkbkgnbaaGreat
open Go.ChangeShapes Go.WideShapes Go.ChangeAt Go.RowKit
open Go.Maps (Keyed)
open Go.WideMaps
set_option linter.unusedVariables false
set_option linter.unusedSimpArgs false

variable {w w' : World} {p q : Nat} {F R S : List Nat} {g g2 : Gr}
theorem cone_reach (hg : GraphAt w p F g) (hm : g.nodes.length ≤ 200000) (a : Option Addr) (c len : Nat) (l : List Nat) (hl : l.length = len) (hlm : len ≤ 1000000) (hs : SlN w .u32 a l) (hok : ∀ x ∈ l, g.ok x) :
    Calls Tryz.prog 24 #[.pointer (some ⟨p, 0, none⟩), .slice a len c] w (IntsPost (reachL g.nodes l) w) := by
  have H := Lib.hid (nodes_reach hg hm a c len l hl hlm hs hok)
  clear hg hl hs hok
  go_enter Tryz.func24, Tryz.ntmps24
  go_wp2_with fail
  refine H.out.mono ?_
  rintro e w1 ⟨a1, c1, n1, rfl, ho, hk⟩
  go_wp2_with fail
  go_ret2
  exact ⟨a1, c1, n1, rfl, ho, hk⟩
theorem cone_support (hg : GraphAt w p F g) (hm : g.nodes.length ≤ 200000) (a : Option Addr) (c len : Nat) (l : List Nat) (hl : l.length = len) (hlm : len ≤ 1000000) (hs : SlN w .u32 a l) (hok : ∀ x ∈ l, g.ok x) :
    Calls Tryz.prog 38 #[.pointer (some ⟨p, 0, none⟩), .slice a len c] w (IntsPost (supportL g.nodes l) w) := by
  have hk := (Kept.refl [] w).alloc (.cells #[.pointer (some ⟨p, 0, none⟩)] 53)
  have H := Lib.hid (nodes_support (hg.kept0 hk) hm a c len l hl hlm (hs.kept0 hk) hok w.heap.size (by simp [World.cell?_alloc_new]))
  clear hg hl hs hok hk
  go_enter Tryz.func38, Tryz.ntmps38
  go_wp2_with fail
  refine H.out.mono ?_
  rintro e w1 ⟨a1, c1, n1, rfl, ho, hk⟩
  have HK := Lib.hid (((Kept.refl [] w).alloc _).trans hk)
  clear hk
  go_wp2_with fail
  go_ret2
  exact ⟨a1, c1, n1, rfl, ho, HK.out⟩
def plainSteps : List Stp := [(0, 0, 0), (0, 0, 0), (0, 0, 0), (1, 2, 4), (1, 9, 6)]
def plainG : Gr := buildTo false false plainSteps 60
def GraphPost (g : Gr) (w : World) (e : Ending) (w' : World) : Prop := ∃ p F, e = .returned (.pointer (some ⟨p, 0, none⟩)) ∧ GraphAt w' p F g ∧ Stepped w w' [] F
def stepCells : Array Value := #[.int .i64 0, .int .u32 0, .int .u32 0, .int .i64 0, .int .u32 0, .int .u32 0, .int .i64 0, .int .u32 0, .int .u32 0, .int .i64 1, .int .u32 2, .int .u32 4, .int .i64 1, .int .u32 9, .int .u32 6]
theorem Both.stepped {w0 : World} (h : Both w0 w p F q R g) : Stepped w0 w [] F := ⟨h.kept, fun x hx => .inr (h.newF x hx)⟩
def toG : Gr := { fold := true, hash := false, nodes := [(0, 0), (2, 2), (4, 4), (6, 6)] }
set_option maxRecDepth 100000 in
theorem plain_facts : plainG.nodes.length ≤ 1000 ∧ reachL plainG.nodes [8] = [1, 2, 4] ∧ supportL plainG.nodes [10] = [1, 2, 3] ∧ mostD (dpL plainG.nodes) [10] = 2 ∧ (ins plainG.nodes).length = 3 ∧ (∀ x ∈ [8, 10], x / 2 < plainG.nodes.length) := by
  refine ⟨by decide, by kernel_rfl, by kernel_rfl, by kernel_rfl, by kernel_rfl, by decide⟩
set_option maxRecDepth 100000 in
theorem copy_facts : [10].map (overL (copyG toG plainG [1, 4, 6] [10]).2) = [8] ∧ gateA (copyG toG plainG [1, 4, 6] [10]).1 4 = (6, 5, true) ∧ (copyG toG plainG [1, 4, 6] [10]).1.nodes.length ≤ 1000 := by
  refine ⟨by kernel_rfl, by kernel_rfl, by decide⟩
end Go.Proofs.YtdmcdhkkbkgnbaaGreat

namespace Go.Proofs.YtdmcdhkkbkgnbaaGreat
open Go.ChangeShapes Go.WideShapes Go.ChangeAt Go.RowKit
open Go.Maps (Keyed)
open Go.WideMaps
set_option linter.unusedVariables false
set_option linter.unusedSimpArgs false

variable {w w' W w0 : World} {p n k m bn bt bp bd mp gd : Nat} {F R S : List Nat} {g : Gr} {N : Nt} {nd : List Bool} {todo : List Nat}
/-- a map from nodes to numbers -/
def intF (φ : Nat → Option Nat) : Value → Option Value
  | .int .i64 z => if 0 ≤ z then (φ z.toNat).map (fun x => Value.int .i64 (x : Nat)) else none
  | _ => none
theorem intF_get (φ : Nat → Option Nat) (x : Nat) : intF φ (.int .i64 (x : Int)) = (φ x).map (fun y => Value.int .i64 (y : Nat)) := by simp [intF]
theorem intF_none : (fun _ => none : Value → Option Value) = intF (fun _ => none) := by
  funext v
  unfold intF
  split
  · split <;> rfl
  · rfl
theorem intF_upd (φ : Nat → Option Nat) (x z : Nat) : upd (intF φ) (.int .i64 (x : Int)) (.int .i64 (z : Nat)) = intF (fun y => if y = x then some z else φ y) := by
  funext v
  unfold upd
  by_cases h : v = .int .i64 (x : Int)
  · subst h
    rw [if_pos rfl, intF_get]
    simp
  · rw [if_neg h]
    unfold intF
    split
    · rename_i y
      split
      · rename_i hy
        show _ = Option.map _ (if y.toNat = x then some z else φ y.toNat)
        rw [if_neg]
        intro e
        apply h
        congr 1
        omega
      · rfl
    · rfl
theorem i64_law : Keyed Tryz.prog 3 := Go.Maps.int_keyed Tryz.underlying3
theorem i64_key (x : Nat) (h : x < 4294967296) : ∃ kl, keyOf Tryz.prog 3 (.int .i64 (x : Int)) = some kl :=
  ⟨_, Go.Maps.keyOf_int_mk Tryz.underlying3 (by simp [Lit.wf, IntKind.min, IntKind.max, IntKind.signed, IntKind.bits]; omega)⟩
def PlMap (w : World) (m : Nat) (φ : Nat → Option Nat) : Prop := MapV w Tryz.prog 3 m (intF φ)
theorem PlMap.look {φ : Nat → Option Nat} (h : PlMap w m φ) (x : Nat) (hx : x < 4294967296) : (Instr.lookup 71 (.map (some m)) (.int .i64 (x : Int)) true).run Tryz.prog w = .ok (.tuple #[.int .i64 ((φ x).getD 0 : Nat), .bool (φ x).isSome]) w := by
  obtain ⟨kl, hkl⟩ := i64_key x hx
  have h2 := MapV.look h true i64_law Tryz.underlying71 (int_zero' _) hkl
  rw [intF_get] at h2
  cases hφ : φ x <;> rw [hφ] at h2 <;> simpa using h2
/-- the closure's boxes -/
structure MoreAt (w0 w : World) (n bn bt bp bd mp gd : Nat) (N : Nt) (nd : List Bool) (todo : List Nat) : Prop where
  cn : w.heap[bn]? = some (.cells #[.pointer (some ⟨n, 0, none⟩)] 25 (0, 0))
  cp : w.heap[bp]? = some (.cells #[.map (some mp)] 71 (0, 0))
  cd : w.heap[bd]? = some (.cells #[.slice (some ⟨gd, 0, none⟩) N.regs.length N.regs.length] 29 (0, 0))
  ct : ∃ a c, w.heap[bt]? = some (.cells #[.slice a todo.length c] 58 (0, 0)) ∧ Own w 61 a todo.length c (nats .u32 todo) ∧ ∀ b ∈ ft a, w0.heap.size ≤ b
  pm : PlMap w mp (placeR N.regs)
  own : Own w 4 (some ⟨gd, 0, none⟩) N.regs.length N.regs.length (bls nd)
  kept : Kept [] w0 w
  new : ∀ b ∈ [bn, bt, bp, bd, mp, gd], w0.heap.size ≤ b
theorem MoreAt.kept0 (h : MoreAt w0 w n bn bt bp bd mp gd N nd todo) (hk : Kept [] w w') : MoreAt w0 w' n bn bt bp bd mp gd N nd todo := by
  obtain ⟨a, c, h1, h2, h3⟩ := h.ct
  exact ⟨hk.heap h.cn (by simp), hk.heap h.cp (by simp), hk.heap h.cd (by simp), ⟨a, c, hk.heap h1 (by simp), h2.kept0 hk, h3⟩, MapV.kept h.pm hk (by simp), h.own.kept0 hk, h.kept.trans hk, h.new⟩
theorem blk_ne {b c : Nat} {cs ds : Array Value} {t u : TypeId} (h1 : w.heap[b]? = some (.cells cs t (0, 0))) (h2 : w.heap[c]? = some (.cells ds u (0, 0))) (h : t ≠ u) : b ≠ c := by
  rintro rfl
  rw [h1] at h2
  injection h2 with h2
  injection h2 with _ h3
  exact h h3
theorem MoreAt.gdb (h : MoreAt w0 w n bn bt bp bd mp gd N nd todo) : ∃ cs, w.heap[gd]? = some (.cells cs 4 (0, 0)) := by
  obtain ⟨cur, hc⟩ := h.own.apart (b := gd) (by simp [ft])
  exact ⟨cur, hc⟩
/-- todo, another -/
theorem MoreAt.setTodo (h : MoreAt w0 w n bn bt bp bd mp gd N nd todo) {a : Option Addr} {c : Nat} {l : List Nat} (ho : Own w 61 a l.length c (nats .u32 l)) (hf : ∀ b ∈ ft a, w0.heap.size ≤ b) :
    MoreAt w0 (w.setCell ⟨bt, 0, none⟩ (.slice a l.length c)) n bn bt bp bd mp gd N nd l := by
  obtain ⟨a0, c0, h1, h2, h3⟩ := h.ct
  obtain ⟨cg, hg⟩ := h.gdb
  have hk : Kept [bt] w (w.setCell ⟨bt, 0, none⟩ (.slice a l.length c)) := (Kept.refl [bt] w).setCell (p := ⟨bt, 0, none⟩) (.inl (by simp)) _
  have n1 := blk_ne h.cn h1 (by decide)
  have n2 := blk_ne h.cp h1 (by decide)
  have n3 := blk_ne h.cd h1 (by decide)
  have n4 := blk_ne hg h1 (by decide)
  have n5 : mp ≠ bt := fun e => h.pm.nocell h1 e.symm
  refine ⟨hk.heap h.cn (by simpa using n1), hk.heap h.cp (by simpa using n2), hk.heap h.cd (by simpa using n3), ⟨a, c, ?_, ho.kept hk (fun b hb hx => ?_), hf⟩, MapV.kept h.pm hk (by simpa using n5), h.own.kept hk (fun b hb hx => ?_), kept_up h.kept hk (fun b hb => by simp at hb; subst hb; exact h.new _ (by simp)), h.new⟩
  · rw [blk_set h1 0]
    rfl
  · simp at hx
    subst hx
    exact blk_apart h1 ho (by decide) hb
  · simp at hx
    subst hx
    simp [ft] at hb
    exact n4 hb.symm
/-- one more that is needed -/
theorem MoreAt.setNeed (h : MoreAt w0 w n bn bt bp bd mp gd N nd todo) {j : Nat} (hj : j < N.regs.length) :
    MoreAt w0 (w.setCell ⟨gd, j, none⟩ (.bool true)) n bn bt bp bd mp gd N (nd.set j true) todo ∧ Kept [gd] w (w.setCell ⟨gd, j, none⟩ (.bool true)) := by
  obtain ⟨a0, c0, h1, h2, h3⟩ := h.ct
  obtain ⟨cg, hg⟩ := h.gdb
  have hk : Kept [gd] w (w.setCell ⟨gd, j, none⟩ (.bool true)) := (Kept.refl [gd] w).setCell (p := ⟨gd, j, none⟩) (.inl (by simp)) _
  have n1 := blk_ne h.cn hg (by decide)
  have n2 := blk_ne h.cp hg (by decide)
  have n3 := blk_ne h.cd hg (by decide)
  have n4 := blk_ne h1 hg (by decide)
  have n5 : mp ≠ gd := fun e => h.pm.nocell hg e.symm
  have ho := (h.own.store hj).2.2 (.bool true)
  rw [bls_set] at ho
  refine ⟨⟨hk.heap h.cn (by simpa using n1), hk.heap h.cp (by simpa using n2), hk.heap h.cd (by simpa using n3), ⟨a0, c0, hk.heap h1 (by simpa using n4), h2.kept hk (fun b hb hx => ?_), h3⟩, MapV.kept h.pm hk (by simpa using n5), ho, kept_up h.kept hk (fun b hb => by simp at hb; subst hb; exact h.new _ (by simp)), h.new⟩, hk⟩
  simp at hx
  subst hx
  exact blk_apart hg h2 (by decide) hb
end Go.Proofs.YtdmcdhkkbkgnbaaGreat
