/-
  The document's Needed, walked.
-/
import Derived.Test.YtdmcdhkkbkgnbaaGreatQRSwD
import Derived.Test.YtdmcdhkkbkgnbaaGreatQRSwN
import Derived.Test.YtdmcdhkkbkgnbaaGreatQRSimA
import Derived.Test.YtdmcdhkkbkgnbaaGreatP14
import Derived.StillTailTactics
import Derived.Deep.RegionHeld3
import Derived.Test.YtdmcdhkkbkgnbaaGreatP09
namespace Go.Proofs.YtdmcdhkkbkgnbaaGreat
open Go.ChangeShapes Go.WideShapes Go.ChangeAt Go.RowKit
open Go.Maps (Keyed)
open Go.WideMaps
set_option linter.unusedVariables false
set_option linter.unusedSimpArgs false

variable {w w' : World} {p n k q v : Nat} {F R S NF NR : List Nat} {g g2 : Gr} {N : Nt}
/-- booleans, new -/
def RBools (l : List Bool) (w : World) (e : Ending) (w' : World) : Prop := ∃ gb, e = .returned (.slice (some ⟨gb, 0, none⟩) l.length l.length) ∧ Own w' 4 (some ⟨gb, 0, none⟩) l.length l.length (bls l) ∧ Kept [] w w' ∧ w.heap.size ≤ gb
theorem st_drew_alloc {we w4 : World} {o : Obj} {S S' : List Nat} (h : Stepped (we.drew.alloc o) w4 S S') : Stepped we w4 S S' :=
  (⟨((Kept.refl [] we).drew.alloc _).more (by simp), fun b hb => .inl hb⟩ : Stepped we _ S S).trans h
theorem news_of {W : World} {ad : Addr} {l : List Nat} (h : SlN W .u32 (some ad) l) : ∀ j u, (nats .u32 l)[j]? = some u → W.cell? (ad.add j) = some u := fun j u hu => by
  have hj : j < l.length := by
    have := (List.getElem?_eq_some_iff.1 hu).1
    rwa [nats_length] at this
  obtain ⟨ad2, h1, h2⟩ := h j hj
  injection h1 with h1
  subst h1
  have e : u = .int .u32 (l[j] : Nat) := by
    have := (List.getElem?_eq_some_iff.1 hu).2
    rw [← this]
    simp [nats]
  rw [e]
  exact h2
set_option maxHeartbeats 6400000 in
set_option maxRecDepth 100000 in
theorem rneeded_c (h : RNetAt w n F R N) (hf : NtFine k N) (hk : k ≤ 700) : Calls Tryz.prog 19 #[.pointer (some ⟨n, 0, none⟩)] w (RBools (neededN N) w) := by
  obtain ⟨p, ia, ic, ra, rc, oa, oc, ri, ro, hp⟩ := rnet_parts h
  have HP := Lib.hid hp
  have HF := Lib.hid hf
  have c3 := hp.c3
  obtain ⟨nR, hnR⟩ : ∃ m, m = N.regs.length := ⟨_, rfl⟩
  obtain ⟨nO, hnO⟩ : ∃ m, m = N.outb.length := ⟨_, rfl⟩
  have HNR := Lib.hid hnR
  have HNO := Lib.hid hnO
  rw [← hnR] at c3
  have hnr : nR ≤ 700 := by rw [hnR]; have := hf.ok.rk; omega
  have hno : nO ≤ 700 := by rw [hnO]; have := hf.ok.ok; omega
  have HGL := Lib.hid (show N.g.nodes.length ≤ 90000 from by have := hf.ok.len; omega)
  have HRL := Lib.hid (show ro.length = nO from by rw [hnO, ← hp.om]; simp)
  have HOT := Lib.hid (outsTo_all N)
  have HC := Lib.hid (fun (V : World) (hV : Kept [] w V) => show V.cell? ⟨n, 3, none⟩ = some (.slice ra nR rc) ∧ V.cell? ⟨n, 4, none⟩ = some (.slice oa nO oc) ∧ V.cell? ⟨n, 0, none⟩ = some (.pointer (some ⟨p, 0, none⟩)) from by
    have h3 := hp.c3
    have h4 := hp.c4
    rw [← hnR] at h3
    rw [← hnO] at h4
    exact ⟨hV.cell h3 (by simp), hV.cell h4 (by simp), hV.cell hp.c0 (by simp)⟩)
  clear hp hf hnR hnO h
  go_enter Tryz.func19, Tryz.ntmps19; (try simp only [List.append])
  go_wp2_with (at_make; refine wpList_mk (n := nR) rfl rfl Tryz.underlying29 bool_info rfl rfl rfl (by omega) (by unfold maxLen; omega) ?_; intro w2 hown2 hst2; rw [bls_replicate] at hown2)
  obtain ⟨gb, hgb⟩ : ∃ gb, gb = w.heap.size := ⟨_, rfl⟩
  rw [← hgb] at hown2 hst2 ⊢
  have hgw : w.heap.size ≤ gb := by omega
  have O2 := Lib.hid hown2
  have K2 := Lib.hid hst2.kept
  clear hgb hown2 hst2 c3
  go_loopw [4, 5] (fun v i wr => ∃ (m : Nat) (a : Option Addr) (c : Nat), m ≤ nO ∧ i = .int .i64 m ∧ v = .slice a (outsTo N m).length c ∧ Own wr 46 a (outsTo N m).length c (nats .u32 (outsTo N m)) ∧ Stepped w2 wr [] (ft a)) (fun _ i _ => nO - (intOf i).toNat)
  case atStart => exact ⟨0, none, 0, Nat.zero_le _, rfl, rfl, Own.nil _ _, .refl _ _⟩
  case round =>
    obtain ⟨m, a, c, hm, rfl, rfl, ho, hst⟩ := hrel
    obtain ⟨wa, rfl⟩ : ∃ v : World, v = wr := ⟨_, rfl⟩
    have HO := Lib.hid ho
    have ST := Lib.hid hst
    have KR := Lib.hid (K2.out.trans hst.kept)
    clear ho hst
    obtain ⟨g3, g4, g0⟩ := HC.out _ KR.out
    by_cases hlt : m < nO
    · have hml : m < ro.length := by rw [HRL.out]; exact hlt
      obtain ⟨ob, rfl, x0, x1⟩ := (HP.out.ob.kept0 KR.out) m hml
      have hrow := (HP.out.or _ (List.getElem_mem hml)).kept0 KR.out
      have hbo : N.outb[m]? = some ro[m].b := by rw [← HP.out.om, List.getElem?_map, List.getElem?_eq_getElem hml]; rfl
      have hT := outsTo_succ hbo
      have hol := HF.out.ok.ol _ (List.mem_of_getElem? hbo)
      have hl64 := hol.2.1
      have hl1 := hol.1
      have hlen := outsTo_len HF.out m
      clear hbo hol
      generalize ro[m] = r at *
      obtain ⟨⟨nm, lits⟩, ra2, rc2⟩ := r
      simp only at x0 x1 hrow hT hl64 hl1
      obtain ⟨ad, had⟩ : ∃ ad, ra2 = some ad := by
        obtain ⟨ad, h, _⟩ := hrow 0 hl1
        exact ⟨ad, h⟩
      subst had
      obtain ⟨ln, hln⟩ : ∃ ln, ln = lits.length := ⟨_, rfl⟩
      obtain ⟨ol, hol⟩ : ∃ ol, ol = (outsTo N m).length := ⟨_, rfl⟩
      have HLN := Lib.hid hln
      have HOL := Lib.hid hol
      rw [← hln] at x1 hl64
      rw [← hol] at hlen
      have ho2 := HO.out
      rw [← hol] at ho2
      have HCL := Lib.hid (show ∀ j u, (nats .u32 lits)[j]? = some u → wa.cell? (ad.add j) = some u from fun j u hu => by
        have hj : j < lits.length := by
          have := (List.getElem?_eq_some_iff.1 hu).1
          rwa [nats_length] at this
        obtain ⟨ad2, h1, h2⟩ := hrow j hj
        injection h1 with h1
        subst h1
        have e : u = .int .u32 (lits[j] : Nat) := by
          have := (List.getElem?_eq_some_iff.1 hu).2
          rw [← this]
          simp [nats]
        rw [e]
        exact h2)
      have HT := Lib.hid hT
      have m0 : (0 : Int) ≤ (m : Int) := by omega
      have m1 : (m : Int) < (nO : Int) := by omega
      rw [← hol]
      clear hrow hT hln hol hl1 x0
      go_wp2_with (at_builtin; refine wpList_cat (news := nats .u32 lits) rfl rfl Tryz.underlying87 u32_info rfl (by omega) rfl rfl ho2 (by rw [nats_length, HLN.out, Nat.mul_one]) HCL.out (by intro u hu; simp [nats] at hu; obtain ⟨_, _, rfl⟩ := hu; rfl) (by unfold maxLen; omega) (by omega) ?_; intro a5 c5 w5 hown5 hst5)
      have hlen2 : (outsTo N (m + 1)).length = ol + ln := by rw [HT.out, List.length_append, ← HOL.out, ← HLN.out]
      have HL2 := Lib.hid hlen2
      clear hlen2 ho2
      go_roundw
      case rel => exact ⟨m + 1, a5, c5, by omega, by go_num, by rw [HL2.out], by rw [HL2.out, HT.out, show nats .u32 (outsTo N m ++ lits) = nats .u32 (outsTo N m) ++ nats .u32 lits from by simp [nats]]; exact hown5, ST.out.trans hst5⟩
      case measure => simp [intOf]; omega
    · obtain rfl : nO = m := by omega
      have hE : outsTo N nO = outsN N := by rw [HNO.out]; exact HOT.out
      have hE' := Lib.hid hE
      rw [hE] at HO ⊢
      clear hE
      go_wp2_with fail
      clear g3 g4 g0
      have HAN := Lib.hid (show ∀ x ∈ ft a, w.heap.size ≤ x ∧ x ≠ gb from fun x hx => (ST.out.fresh x hx).elim (by simp) (fun h => by
        have h1 := O2.out.lt gb (by simp [ft])
        have h2 := K2.out.size
        omega))
      have OB := Lib.hid (O2.out.kept0 ST.out.kept)
      have HDS := Lib.hid (doc_start HF.out)
      have HFN := Lib.hid (falses_new N.regs.length)
      rw [← HNR.out] at HDS HFN
      have HOS := Lib.hid (show (outsN N).length ≤ 64 * 700 from by have h1 := outsTo_len HF.out nO; rw [hE'.out] at h1; omega)
      clear ST
      go_loopg [4, 6] (nR + 2) (fun gf v bb wr => ∃ (nd : List Bool) (todo : List Nat) (tl : Nat) (a' : Option Addr) (c' : Nat) (b : Bool), v = .slice a' tl c' ∧ bb = .bool b ∧ Hid (todo.length = tl) ∧ Own wr 46 a' tl c' (nats .u32 todo) ∧ Own wr 4 (some ⟨gb, 0, none⟩) nR nR (bls nd) ∧ Hid (DocOk N nd todo) ∧ Hid (b = false → ∀ j, j < N.regs.length → (N.regs.getD j ⟨0, 0, 0, false⟩).q / 2 ∈ supportL N.g.nodes todo → nd.getD j false = true) ∧ Hid ((if b then falses nd + 1 else 0) < gf) ∧ Kept [] w wr ∧ ∀ x ∈ ft a', w.heap.size ≤ x ∧ x ≠ gb)
      case atStart => exact ⟨List.replicate nR false, outsN N, (outsN N).length, a, c, true, rfl, rfl, Lib.hid rfl, HO.out, OB.out, Lib.hid HDS.out, Lib.hid (fun h => by cases h), Lib.hid (by rw [HFN.out]; simp), KR.out, HAN.out⟩
      case round =>
        obtain ⟨nd, todo, tl, a', c', b, rfl, rfl, htl, hot, hob, hdo, hcl, hgf, hkr, han⟩ := hrel
        obtain ⟨wb, rfl⟩ : ∃ v : World, v = wr := ⟨_, rfl⟩
        have OT := Lib.hid hot
        have OBB := Lib.hid hob
        have KB := Lib.hid hkr
        have AN := Lib.hid han
        clear hot hob hkr han HAN OB HO HDS
        cases b
        · have hE2 := doc_end HF.out hdo.out (hcl.out rfl)
          have HE2 := Lib.hid hE2
          have HNL := Lib.hid (show (neededN N).length = nR from by rw [needed_length HF.out, HNR.out])
          clear hE2
          go_wp2_with fail
          go_ret
          unfold RBools
          rw [HNL.out]
          exact ⟨gb, rfl, by rw [← HE2.out]; exact OBB.out, KB.out, hgw⟩
        · obtain ⟨G, hgr⟩ := (HP.out.kept0 KB.out).gr
          obtain ⟨g3, g4, g0⟩ := HC.out _ KB.out
          have hsz := hdo.out.size
          rw [← HNR.out] at hsz
          have HTL := Lib.hid htl.out
          have hb1 : tl ≤ 100000 := by have h1 := htl.out; have h2 := HOS.out; omega
          have HDD := Lib.hid hdo.out
          have HGF := Lib.hid (show falses nd + 1 < gk from by have h := hgf.out; simpa using h)
          have HSC := Lib.hid (rsupport_c hgr (by have := HGL.out; omega) a' c' tl todo htl.out (by omega) OT.out.sln (fun x hx => (hdo.out.std x hx).2))
          clear hgr htl hdo hcl hgf hsz
          go_wp2_with fail
          clear g3 g4 g0
          refine HSC.out.mono ?_
          rintro e w5 ⟨la, lc, ln, rfl, hown5, k5, hf5⟩
          have hll : (supportL N.g.nodes todo).length = ln := by have := hown5.len; simpa [nats] using this
          have LN := Lib.hid hll
          have hlnb : ln ≤ 90000 := by rw [← hll]; exact Nat.le_trans (pick_length _ _) HGL.out
          have LO := Lib.hid hown5
          have LF := Lib.hid hf5
          have K5 := Lib.hid (KB.out.trans k5)
          have OT5 := Lib.hid (OT.out.kept0 k5)
          have OB5 := Lib.hid (OBB.out.kept0 k5)
          have LG := Lib.hid (show ∀ x ∈ ft la, x ≠ gb ∧ x ∉ ft a' from fun x hx => by
            have h1 := hf5 x hx
            exact ⟨fun e => by have h2 := OBB.out.lt gb (by simp [ft]); omega, fun e => by have h2 := OT.out.lt x e; omega⟩)
          clear hll hown5 hf5 k5 HSC OT OBB KB
          go_wp2_with fail
          go_loopw [4, 6, 9] (fun v bb iv wr => ∃ (i : Nat) (nd1 : List Bool) (todo1 : List Nat) (tl1 : Nat) (a1 : Option Addr) (c1 : Nat) (b1 : Bool), i ≤ nR ∧ iv = .int .i64 i ∧ v = .slice a1 tl1 c1 ∧ bb = .bool b1 ∧ Hid (todo1.length = tl1) ∧ Own wr 46 a1 tl1 c1 (nats .u32 todo1) ∧ Own wr 4 (some ⟨gb, 0, none⟩) nR nR (bls nd1) ∧ Hid (DocOk N nd1 todo1) ∧ Hid (∀ x ∈ todo, x ∈ todo1) ∧ Hid (if b1 then falses nd1 < falses nd else nd1 = nd ∧ todo1 = todo) ∧ Hid (∀ j, j < i → (N.regs.getD j ⟨0, 0, 0, false⟩).q / 2 ∈ supportL N.g.nodes todo → nd1.getD j false = true) ∧ Kept [] w wr ∧ Own wr 3 la ln lc (nats .i64 (supportL N.g.nodes todo)) ∧ ∀ x ∈ ft a1, w.heap.size ≤ x ∧ x ≠ gb ∧ x ∉ ft la) (fun _ _ iv _ => nR - (intOf iv).toNat)
          case atStart => exact ⟨0, nd, todo, tl, a', c', false, Nat.zero_le _, rfl, rfl, rfl, Lib.hid HTL.out, OT5.out, OB5.out, Lib.hid HDD.out, Lib.hid (fun x hx => hx), Lib.hid ⟨rfl, rfl⟩, Lib.hid (fun j hj => by omega), K5.out, LO.out, fun x hx => ⟨(AN.out x hx).1, (AN.out x hx).2, fun hy => (LG.out x hy).2 hx⟩⟩
          case round =>
            obtain ⟨i, nd1, todo1, tl1, a1, c1, b1, hi, rfl, rfl, rfl, htl1, hot, hob, hdo, hmr, hch, hcl, hkr, hlo, han⟩ := hrel
            obtain ⟨wc, rfl⟩ : ∃ v : World, v = wr := ⟨_, rfl⟩
            have OT1 := Lib.hid hot
            have OB1 := Lib.hid hob
            have KC := Lib.hid hkr
            have LC := Lib.hid hlo
            have AN1 := Lib.hid han
            have TL1 := Lib.hid htl1.out
            have DO1 := Lib.hid hdo.out
            have MR1 := Lib.hid hmr.out
            have CH1 := Lib.hid hch.out
            have CL1 := Lib.hid hcl.out
            clear hot hob hkr hlo han htl1 hdo hmr hch hcl
            obtain ⟨g3, g4, g0⟩ := HC.out _ KC.out
            by_cases hir : i < nR
            · have hil : i < N.regs.length := by rw [← HNR.out]; exact hir
              have hrg : N.regs.getD i ⟨0, 0, 0, false⟩ = N.regs[i] := by rw [List.getD_eq_getElem?_getD, List.getElem?_eq_getElem hil]; rfl
              have HRG := Lib.hid hrg
              have hrl := HF.out.ok.rl _ (List.getElem_mem hil)
              obtain ⟨rb, hra, r0, r1, r2, r3⟩ := HP.out.rb i hil
              have HQB := Lib.hid (show N.regs[i].q < 4294967296 from by have h1 := hrl.1; have h2 := HGL.out; unfold Gr.ok at h1; omega)
              have HREG := Lib.hid (fun (V : World) (hV : Kept [] w V) => show V.cell? ⟨rb, i * 4, none⟩ = _ ∧ V.cell? ⟨rb, i * 4 + 1, none⟩ = _ ∧ V.cell? ⟨rb, i * 4 + 2, none⟩ = _ from ⟨hV.cell r0 (by simp), hV.cell r1 (by simp), hV.cell r2 (by simp)⟩)
              subst hra
              have i0 : (0 : Int) ≤ (i : Int) := by omega
              have i1 : (i : Int) < (nR : Int) := by omega
              have HDV := Lib.hid (show N.regs[i].d < 4294967296 ∧ N.regs[i].en < 4294967296 from by have h1 := hrl.2.1; have h2 := hrl.2.2; have h3 := HGL.out; unfold Gr.ok at h1 h2; omega)
              clear r0 r1 r2 r3 hrl hrg
              go_wp2_with fail
              clear g3 g4 g0
              go_loopw [4, 6, 10] (fun v bb kv wr => ∃ (kk : Nat) (nd2 : List Bool) (todo2 : List Nat) (tl2 : Nat) (a2 : Option Addr) (c2 : Nat) (b2 : Bool), kk ≤ ln ∧ kv = .int .i64 kk ∧ v = .slice a2 tl2 c2 ∧ bb = .bool b2 ∧ Hid (todo2.length = tl2) ∧ Own wr 46 a2 tl2 c2 (nats .u32 todo2) ∧ Own wr 4 (some ⟨gb, 0, none⟩) nR nR (bls nd2) ∧ Hid ((nd2 = nd1 ∧ todo2 = todo1 ∧ b2 = b1 ∧ (nd1.getD i false = true ∨ N.regs[i].q / 2 ∉ (supportL N.g.nodes todo).take kk)) ∨ (nd2 = nd1.set i true ∧ todo2 = todo1 ++ [N.regs[i].d, N.regs[i].en] ∧ b2 = true ∧ nd1.getD i false = false ∧ N.regs[i].q / 2 ∈ supportL N.g.nodes todo)) ∧ Kept [] w wr ∧ Own wr 3 la ln lc (nats .i64 (supportL N.g.nodes todo)) ∧ ∀ x ∈ ft a2, w.heap.size ≤ x ∧ x ≠ gb ∧ x ∉ ft la) (fun _ _ kv _ => ln - (intOf kv).toNat)
              case atStart => exact ⟨0, nd1, todo1, tl1, a1, c1, b1, Nat.zero_le _, rfl, rfl, rfl, Lib.hid TL1.out, OT1.out, OB1.out, Lib.hid (.inl ⟨rfl, rfl, rfl, .inr (by simp)⟩), KC.out, LC.out, AN1.out⟩
              case round =>
                obtain ⟨kk, nd2, todo2, tl2, a2, c2, b2, hkk, rfl, rfl, rfl, htl2, hot, hob, halt, hkr, hlo, han⟩ := hrel
                obtain ⟨wd, rfl⟩ : ∃ v : World, v = wr := ⟨_, rfl⟩
                have OT2 := Lib.hid hot
                have OB2 := Lib.hid hob
                have KD := Lib.hid hkr
                have LD := Lib.hid hlo
                have AN2 := Lib.hid han
                have TL2 := Lib.hid htl2.out
                have ALT := Lib.hid halt.out
                clear hot hob hkr hlo han htl2 halt
                by_cases hkl : kk < ln
                · have hkll : kk < (supportL N.g.nodes todo).length := by rw [LN.out]; exact hkl
                  obtain ⟨ad, hla, hcx⟩ := LD.out.sln kk hkll
                  subst hla
                  have hnl : nd2.length = nR := by
                    rcases ALT.out with ⟨e1, _⟩ | ⟨e1, _⟩
                    · rw [e1, DO1.out.len, HNR.out]
                    · rw [e1, List.length_set, DO1.out.len, HNR.out]
                  obtain ⟨t, ht⟩ : ∃ t, t = nd2.getD i false := ⟨_, rfl⟩
                  have ck : wd.cell? ⟨gb, i, none⟩ = some (.bool t) := by rw [ht]; exact own_cell_b OB2.out i (by rw [hnl]; exact hir)
                  have HT := Lib.hid ht
                  have HTK := Lib.hid (show ∀ z, z ∈ (supportL N.g.nodes todo).take (kk + 1) ↔ z ∈ (supportL N.g.nodes todo).take kk ∨ z = (supportL N.g.nodes todo)[kk] from fun z => by
                    rw [List.take_succ_eq_append_getElem hkll, List.mem_append, List.mem_singleton])
                  have HMY := Lib.hid (show (supportL N.g.nodes todo)[kk] ∈ supportL N.g.nodes todo from List.getElem_mem hkll)
                  have hyb : (supportL N.g.nodes todo)[kk] ≤ 1000000 := by
                    have h1 := (List.mem_filter.1 HMY.out).1
                    have h2 := List.mem_range.1 h1
                    have h3 := HGL.out
                    omega
                  have hq32 := HQB.out
                  have hil3 : i < nd1.length := by rw [DO1.out.len, ← HNR.out]; exact hir
                  have HIL := Lib.hid hil3
                  obtain ⟨r0, _, _⟩ := HREG.out _ KD.out
                  obtain ⟨g3, g4, g0⟩ := HC.out _ KD.out
                  have hdv1 := HDV.out.1
                  have hdv2 := HDV.out.2
                  generalize hyy : (supportL N.g.nodes todo)[kk] = y at *
                  generalize hxx : N.regs[i].q = x at *
                  generalize N.regs[i].d = dv at *
                  generalize N.regs[i].en = ev at *
                  have HXX := Lib.hid hxx
                  have x4 : IntKind.i64.wrap ((x : Int) / 2) = (x : Int) / 2 := IntWalk.i64_in _ (by omega)
                  have k0 : (0 : Int) ≤ (kk : Int) := by omega
                  have k1 : (kk : Int) < (ln : Int) := by omega
                  clear ht hnl hkll hil3 hyy hxx
                  by_cases hxy : x / 2 = y
                  · have t1 : ((x : Int) / 2 == (y : Int)) = true := by simp; omega
                    have HXY := Lib.hid hxy
                    clear hxy
                    cases t
                    · go_wp2_with fail
                      go_quiet (fail)
                      have k3 := Lib.hid (show Kept [] wd (wd.drewN nq) from (Kept.refl [] wd).drewN nq)
                      have OB3 := Lib.hid (OB2.out.kept0 k3.out)
                      have HPUT := Lib.hid (own_put OB3.out (KD.out.trans k3.out) hgw hir true)
                      obtain ⟨⟨v0, q3⟩, q4, _⟩ := OB3.out.store (j := i) hir
                      go_upto_region 20 with (fail)
                      obtain ⟨we, hwe⟩ : ∃ v, v = (wd.drewN nq).setCell ⟨gb, i, none⟩ (.bool true) := ⟨_, rfl⟩
                      have hk6 : Kept [gb] (wd.drewN nq) we := by rw [hwe]; exact (Kept.refl [gb] (wd.drewN nq)).setCell (p := ⟨gb, i, none⟩) (.inl (by simp)) _
                      rw [← hwe] at HPUT
                      rw [← hwe]
                      have K6 := Lib.hid hk6
                      clear hwe hk6 q3 q4 r0 g3 g4 g0 ck hcx
                      obtain ⟨_, r1', r2'⟩ := HREG.out _ HPUT.out.2
                      obtain ⟨g3, _, _⟩ := HC.out _ HPUT.out.2
                      have OT6 := Lib.hid ((OT2.out.kept0 k3.out).kept K6.out (fun b hb => by simpa using (AN2.out b hb).2.1))
                      have LD6 := Lib.hid ((LD.out.kept0 k3.out).kept K6.out (fun b hb => by simpa using (LG.out b hb).1))
                      have KW := Lib.hid HPUT.out.2
                      have FA := Lib.hid (show ∀ b ∈ ft a2, w.heap.size ≤ b from fun b hb => (AN2.out b hb).1)
                      have SF := Lib.hid (fun (V : World) (hV : Kept [] w V) => show V.cell? ⟨n, 3, none⟩ = some (.slice (some ⟨rb, 0, none⟩) nR rc) ∧ V.cell? ⟨rb, i * 4 + 1, none⟩ = some (.int .u32 (dv : Int)) ∧ V.cell? ⟨rb, i * 4 + 2, none⟩ = some (.int .u32 (ev : Int)) from ⟨(HC.out V hV).1, (HREG.out V hV).2.1, (HREG.out V hV).2.2⟩)
                      have htlb : tl2 ≤ 1000000 := by
                        have h1 := TL2.out
                        have h2 := HOS.out
                        have h3 := DO1.out.size
                        rw [← HNR.out] at h3
                        rcases ALT.out with ⟨_, e2, _⟩ | ⟨_, e2, _⟩
                        · rw [e2] at h1; omega
                        · rw [e2, List.length_append] at h1; simp only [List.length_cons, List.length_nil] at h1; omega
                      go_region_held3 (fun V => V.cell? ⟨n, 3, none⟩ = some (.slice (some ⟨rb, 0, none⟩) nR rc) ∧ V.cell? ⟨rb, i * 4 + 1, none⟩ = some (.int .u32 (dv : Int)) ∧ V.cell? ⟨rb, i * 4 + 2, none⟩ = some (.int .u32 (ev : Int)))
                        (first | exact SF.out _ (by (repeat (first | with_reducible exact KW.out | with_reducible apply Kept.drew | with_reducible apply Kept.alloc | refine kept_up ?_ hst4.kept FA.out))) | go_keep)
                        (first | (refine step_cat (news := nats .u32 [dv, ev]) (by rfl) (by rfl) Tryz.underlying87 u32_info rfl (by omega) (by rfl) (by rfl) (OT6.out.kept0 (by (repeat (first | with_reducible exact Kept.refl _ _ | with_reducible apply Kept.drew | with_reducible apply Kept.alloc)))) (by rw [nats_length]; rfl) (news_of (sln_new _ .u32 [dv, ev] 46)) (nats_one _ _) (by unfold maxLen; omega) (by omega) ?_; intro a4 c4 w4 hown4 hst4))
                      have hs4 := st_drew_alloc hst4
                      have HS4 := Lib.hid hs4
                      have HO4 := Lib.hid hown4
                      have HLF := Lib.hid (show nd2 = nd1 ∧ todo2 = todo1 ∧ nd1.getD i false = false from by
                        rcases ALT.out with ⟨e1, e2, _, _⟩ | ⟨e1, _⟩
                        · exact ⟨e1, e2, by rw [← e1, ← HT.out]⟩
                        · exfalso
                          have h1 := HT.out
                          rw [e1, getBs HIL.out, if_pos rfl] at h1
                          cases h1)
                      clear hst4 hown4 hs4 r1' r2' g3
                      go_wp2_with fail
                      go_roundw
                      case measure => simp [intOf]; omega
                      case rel => exact ⟨kk + 1, nd2.set i true, todo2 ++ [dv, ev], tl2 + 2, a4, c4, true, by omega, by go_num, rfl, rfl, Lib.hid (by rw [List.length_append, TL2.out]; rfl), by rw [show nats .u32 (todo2 ++ [dv, ev]) = nats .u32 todo2 ++ nats .u32 [dv, ev] from by simp [nats]]; exact HO4.out, HPUT.out.1.kept HS4.out.kept (fun b hb => by
                          rw [mem_ft] at hb
                          subst hb
                          exact fun hx => (AN2.out _ hx).2.1 rfl), Lib.hid (.inr ⟨by rw [HLF.out.1], by rw [HLF.out.2.1], rfl, HLF.out.2.2, by rw [HXY.out]; exact HMY.out⟩), kept_up KW.out HS4.out.kept FA.out, LD6.out.kept HS4.out.kept (fun b hb hx => (AN2.out b hx).2.2 hb), fun x hx => by
                          rcases HS4.out.fresh x hx with h1 | h1
                          · exact AN2.out x h1
                          · refine ⟨Nat.le_trans KW.out.size h1, fun e => ?_, fun e => ?_⟩
                            · have h2 := HPUT.out.1.lt gb (by simp [ft])
                              omega
                            · have h2 := LD6.out.lt x e
                              omega⟩
                    · go_wp2_with fail
                      go_quiet (fail)
                      have k3 := Lib.hid (show Kept [] wd (wd.drewN nq) from (Kept.refl [] wd).drewN nq)
                      go_wp2_with fail
                      go_roundw
                      case measure => simp [intOf]; omega
                      case rel => exact ⟨kk + 1, nd2, todo2, tl2, a2, c2, b2, by omega, by go_num, rfl, rfl, Lib.hid TL2.out, OT2.out.kept0 k3.out, OB2.out.kept0 k3.out, Lib.hid (by
                        rcases ALT.out with ⟨e1, e2, e3, h4⟩ | h
                        · exact .inl ⟨e1, e2, e3, .inl (by rw [← e1, ← HT.out])⟩
                        · exact .inr h), KD.out.trans k3.out, LD.out.kept0 k3.out, AN2.out⟩
                  · have t1 : ((x : Int) / 2 == (y : Int)) = false := by simp; omega
                    have HXY := Lib.hid hxy
                    clear hxy
                    go_wp2_with fail
                    go_quiet (fail)
                    have k3 := Lib.hid (show Kept [] wd (wd.drewN nq) from (Kept.refl [] wd).drewN nq)
                    go_wp2_with fail
                    go_roundw
                    case measure => simp [intOf]; omega
                    case rel => exact ⟨kk + 1, nd2, todo2, tl2, a2, c2, b2, by omega, by go_num, rfl, rfl, Lib.hid TL2.out, OT2.out.kept0 k3.out, OB2.out.kept0 k3.out, Lib.hid (by
                      rcases ALT.out with ⟨e1, e2, e3, h4⟩ | h
                      · exact .inl ⟨e1, e2, e3, h4.imp id (fun h hm => ((HTK.out _).1 hm).elim h HXY.out)⟩
                      · exact .inr h), KD.out.trans k3.out, LD.out.kept0 k3.out, AN2.out⟩
                · have hE : (supportL N.g.nodes todo).take kk = supportL N.g.nodes todo := List.take_of_length_le (by rw [LN.out]; omega)
                  rw [hE] at ALT
                  have hil2 : i < nd1.length := by rw [DO1.out.len, ← HNR.out]; exact hir
                  have HIL := Lib.hid hil2
                  have HIR := Lib.hid (show i < N.regs.length from by rw [← HNR.out]; exact hir)
                  have hup : ∀ x ∈ supportL N.g.nodes todo, x ∈ supportL N.g.nodes todo1 := sup_more HF.out (fun x hx => (HDD.out.std x hx).2) (fun x hx => (DO1.out.std x hx).2) MR1.out
                  have HUP := Lib.hid hup
                  clear hE hil2 hup
                  go_wp2_with fail
                  go_roundw
                  case measure => simp [intOf]; omega
                  case rel =>
                    rcases ALT.out with ⟨e1, e2, e3, h4⟩ | ⟨e1, e2, e3, h4, h5⟩
                    · subst e1 e2 e3
                      exact ⟨i + 1, nd2, todo2, tl2, a2, c2, b2, by omega, by go_num, rfl, rfl, Lib.hid TL2.out, OT2.out, OB2.out, Lib.hid DO1.out, Lib.hid MR1.out, Lib.hid CH1.out, Lib.hid (fun j hj hs => by
                        by_cases hji : j = i
                        · subst hji
                          rcases h4 with h4 | h4
                          · exact h4
                          · rw [HRG.out] at hs; exact absurd hs h4
                        · exact CL1.out j (by omega) hs), KD.out, LD.out, AN2.out⟩
                    · subst e1 e2 e3
                      have hput := DO1.out.put HF.out HIR.out h4 (by rw [HRG.out]; exact HUP.out _ h5)
                      rw [HRG.out] at hput
                      have hfs := falses_set HIL.out h4
                      refine ⟨i + 1, nd1.set i true, _, tl2, a2, c2, true, by omega, by go_num, rfl, rfl, Lib.hid TL2.out, OT2.out, OB2.out, Lib.hid hput, Lib.hid (fun x hx => List.mem_append_left _ (MR1.out x hx)), Lib.hid (by
                        have h1 := CH1.out
                        simp only [if_true]
                        cases b1
                        · simp only [Bool.false_eq_true, if_false] at h1
                          rw [← h1.1]; omega
                        · simp only [if_true] at h1; omega), Lib.hid (fun j hj hs => by
                        rw [getBs HIL.out]
                        split
                        · rfl
                        · exact CL1.out j (by omega) hs), KD.out, LD.out, AN2.out⟩
            · obtain rfl : nR = i := by omega
              obtain ⟨g', rfl⟩ : ∃ g', gk = g' + 1 := ⟨gk - 1, by have := HGF.out; omega⟩
              go_wp2_with fail
              clear g3 g4 g0
              go_roundg g'
              case measure => omega
              case rel => exact ⟨nd1, todo1, tl1, a1, c1, b1, rfl, rfl, Lib.hid TL1.out, OT1.out, OB1.out, Lib.hid DO1.out, Lib.hid (fun hb j hj hs => by
                  have h1 := CH1.out
                  subst hb
                  simp only [Bool.false_eq_true, if_false] at h1
                  exact CL1.out j (by rw [HNR.out]; exact hj) (by rw [← h1.2]; exact hs)), Lib.hid (by
                  have h1 := CH1.out
                  have h2 := HGF.out
                  cases b1
                  · simp; omega
                  · simp only [if_true] at h1 ⊢; omega), KC.out, fun x hx => ⟨(AN1.out x hx).1, (AN1.out x hx).2.1⟩⟩
end Go.Proofs.YtdmcdhkkbkgnbaaGreat
