/-
  The document's simulation: the word of an input's node.
  Law SimSolves, parts: one literal's word; a netlist's parts.
-/
import Derived.Test.YtielfgngdhcpfaaGreatP41
namespace Go.Proofs.YtielfgngdhcpfaaGreat
open Go.ChangeShapes Go.WideShapes Go.ChangeAt Go.RowKit
open Go.Maps (Keyed)
open Go.WideMaps
set_option linter.unusedVariables false
set_option linter.unusedSimpArgs false

variable {w w' w1 : World} {s p n k : Nat} {F R F' R' S : List Nat} {g : Gr} {N : Nt} {σ : Sm}
theorem sln_one (w : World) (x : Nat) (t : TypeId) : SlN (w.alloc (.cells #[.int .u32 (x : Int)] t)) .u32 (some ⟨w.heap.size, 0, none⟩) [x] := sln_new w .u32 [x] t
set_option maxRecDepth 100000 in
theorem word_c {kk : Nat} (x bs : Nat) (h : SimAt w s F R σ) (hok : SmOk kk σ) (hcy : σ.cy ≠ 0) (hx : σ.N.g.ok x) (hq : w.cell? ⟨bs, 0, none⟩ = some (.pointer (some ⟨s, 0, none⟩))) :
    Calls Tryz.prog 20 #[.int .u32 (x : Int), .pointer (some ⟨bs, 0, none⟩)] w fun e w' => e = .returned (.int .u64 ((wd σ.ws x : Nat) : Int)) ∧ Kept [] w w' := by
  have h1 := hok.fine.ok.len
  have h2 := hok.k7
  have hx1 : x / 2 < σ.N.g.nodes.length := hx
  have hx2 : x < 4294967296 := by omega
  have HA := Lib.hid (show askS σ [x] = 0 from by
    unfold askS
    rw [if_neg (by simp; omega), if_neg hcy])
  have HW := Lib.hid (fun (W : World) (hk : Kept [] w W) (a : Option Addr) (hs : SlN W .u32 a [x]) => sim_words (h.kept0 hk) (by omega) hok.ww a 1 1 [x] rfl (by omega) hs (by intro y hy; simp at hy; omega))
  clear h1 h2 hx1 hx2 h hok hcy hx
  go_enter Tryz.func20, Tryz.ntmps20
  go_wp2_with fail
  refine (HW.out _ ((Kept.refl [] w).alloc _) _ (sln_one w x _)).mono ?_
  rintro e w1 ⟨a, m, c, rfl, hk, hall⟩
  obtain ⟨rfl, hown, hfr⟩ := hall HA.out
  rw [HA.out]
  obtain ⟨gb, rfl⟩ := hown.form (by omega)
  obtain ⟨ad, had, hc⟩ := hown.cell (k := 0) (by simp [nats])
  injection had with had
  subst had
  have hc' : w1.cell? ⟨gb, 0, none⟩ = some (.int .u64 ((wd σ.ws x : Nat) : Int)) := by
    have he : ((⟨gb, 0, none⟩ : Addr).add 0) = ⟨gb, 0, none⟩ := by unfold Addr.add; split <;> simp_all
    rw [he] at hc
    rw [hc]; simp [nats]
  have K1 := Lib.hid (((Kept.refl [] w).alloc (.cells #[.int .u32 (x : Int)] 59)).trans hk)
  clear hc hk hfr hown
  obtain ⟨v, hv⟩ : ∃ v, v = wd σ.ws x := ⟨_, rfl⟩
  rw [← hv] at hc'
  have HV := Lib.hid hv
  clear hv
  go_wp2_with fail
  go_ret
  exact ⟨by rw [← HV.out]; rfl, K1.out⟩
/-- a netlist's parts, where they lie -/
structure NetP (w : World) (n : Nat) (N : Nt) (p : Nat) (ia : Option Addr) (ic : Nat) (ra : Option Addr) (rc : Nat) (oa : Option Addr) (oc : Nat) (ri ro : List BR) : Prop where
  c0 : w.cell? ⟨n, 0, none⟩ = some (.pointer (some ⟨p, 0, none⟩))
  c2 : w.cell? ⟨n, 2, none⟩ = some (.slice ia N.inb.length ic)
  c3 : w.cell? ⟨n, 3, none⟩ = some (.slice ra N.regs.length rc)
  c4 : w.cell? ⟨n, 4, none⟩ = some (.slice oa N.outb.length oc)
  gr : ∃ G, GraphAt w p G N.g
  ib : SlB w ia ri
  im : ri.map (·.b) = N.inb
  ir : ∀ r ∈ ri, SlN w .u32 r.a r.b.lits
  rb : SlR w ra N.regs
  ob : SlB w oa ro
  om : ro.map (·.b) = N.outb
  or : ∀ r ∈ ro, SlN w .u32 r.a r.b.lits
theorem net_parts {NF NR : List Nat} (h : NetAt w n NF NR N) : ∃ p ia ic ra rc oa oc ri ro, NetP w n N p ia ic ra rc oa oc ri ro := by
  obtain ⟨p, G, ia, ic, ra, rc, oa, oc, ri, ro, rfl, rfl, hn⟩ := h
  exact ⟨p, ia, ic, ra, rc, oa, oc, ri, ro, hn.c0, hn.c2, hn.c3, hn.c4, ⟨G, hn.gr⟩, hn.ib.slb, hn.ib.is, fun r hr => (hn.ib.rows r hr).1, regs_sl rfl hn.rb, hn.ob.slb, hn.ob.is, fun r hr => (hn.ob.rows r hr).1⟩
theorem NetP.kept0 {ia ra oa : Option Addr} {ic rc oc : Nat} {ri ro : List BR} (h : NetP w n N p ia ic ra rc oa oc ri ro) (hk : Kept [] w w') : NetP w' n N p ia ic ra rc oa oc ri ro := by
  obtain ⟨G, hg⟩ := h.gr
  exact ⟨hk.cell h.c0 (by simp), hk.cell h.c2 (by simp), hk.cell h.c3 (by simp), hk.cell h.c4 (by simp), ⟨G, hg.kept hk (by simp)⟩, h.ib.kept0 hk, h.im, fun r hr => (h.ir r hr).kept0 hk, h.rb.kept0 hk, h.ob.kept0 hk, h.om, fun r hr => (h.or r hr).kept0 hk⟩
theorem WRows.spot {a : Option Addr} {m c : Nat} {rs : List WR} (h : WRows w a m c rs) (q : Nat) (hq : q < rs.length) : ∃ b ra rc, a = some ⟨b, 0, none⟩ ∧ w.cell? ⟨b, q, none⟩ = some (.slice ra rs[q].l.length rc) ∧ SlN w .u64 ra rs[q].l := by
  obtain ⟨b, h1, h2⟩ := h.cell q hq
  exact ⟨b, _, _, h1, h2, (h.rows _ (List.getElem_mem hq)).1⟩
theorem in_rows {kk : Nat} {grs : List WR} {ri : List BR} {inp : List (List Nat)} {regs ws : List Nat} (hws : ws = wordsN N inp regs) (hfine : NtFine kk N) (hf : fitB N.inb inp = true) (hr : regs.length = N.regs.length) (hg : grs.map (·.l) = inp) (hri : ri.map (·.b) = N.inb) {q : Nat} (h1 : q < ri.length) (h2 : q < grs.length) :
    grs[q].l.length = ri[q].b.lits.length ∧ ∀ j (h3 : j < ri[q].b.lits.length) (h4 : j < grs[q].l.length), wd ws ri[q].b.lits[j] = grs[q].l[j] := by
  have e1 : N.inb[q]? = some ri[q].b := by rw [← hri]; simp [h1]
  have e2 : inp[q]? = some grs[q].l := by rw [← hg]; simp [h2]
  subst hws
  exact ⟨fitB_at hf e1 e2, fun j h3 h4 => driven_val hfine hf hr (pairsN_bus hf e1 e2 (List.getElem?_eq_getElem h3) (List.getElem?_eq_getElem h4))⟩
theorem out_rows {xrs : List WR} {ro : List BR} {ws : List Nat} (hx : xrs.map (·.l) = outN N ws) (hro : ro.map (·.b) = N.outb) {q : Nat} (h1 : q < ro.length) (h2 : q < xrs.length) :
    xrs[q].l.length = ro[q].b.lits.length ∧ ∀ j (h3 : j < ro[q].b.lits.length) (h4 : j < xrs[q].l.length), wd ws ro[q].b.lits[j] = xrs[q].l[j] := by
  have e1 : (outN N ws)[q]? = some (ro[q].b.lits.map (wd ws)) := by unfold outN; rw [← hro]; simp [h1]
  have e2 : (outN N ws)[q]? = some xrs[q].l := by rw [← hx]; simp [h2]
  have e : ro[q].b.lits.map (wd ws) = xrs[q].l := by rw [e1] at e2; simpa using e2
  refine ⟨by rw [← e]; simp, fun j h3 h4 => ?_⟩
  have := List.getElem_of_eq e (i := j) (by simpa using h3)
  simpa using this
end Go.Proofs.YtielfgngdhcpfaaGreat

namespace Go.Proofs.YtielfgngdhcpfaaGreat
open Go.ChangeShapes Go.WideShapes Go.ChangeAt Go.RowKit
open Go.Maps (Keyed)
open Go.WideMaps
set_option linter.unusedVariables false
set_option linter.unusedSimpArgs false

variable {w w' : World} {p n k q : Nat} {F R S : List Nat} {g : Gr} {N : Nt}
theorem even_of {kk : Nat} (hf : NtFine kk N) {x node : Nat} (hx : x ∈ drivenN N) (h : x / 2 = node) : x = 2 * node := by
  obtain ⟨i, _, rfl⟩ := hf.di x hx
  omega
set_option maxHeartbeats 6400000 in
set_option maxRecDepth 100000 in
theorem input08 {kk : Nat} {v rc gc m : Nat} {ra ga : Option Addr} {regs : List Nat} {inp : List (List Nat)} {grs : List WR} {node : Nat} (h0 : w.cell? ⟨v, 0, none⟩ = some (.pointer (some ⟨n, 0, none⟩))) (h1 : w.cell? ⟨v, 1, none⟩ = some (.slice ra regs.length rc))
    (hn : RNetAt w n F R N) (hs : SlN w .u64 ra regs) (hf : NtFine kk N) (hk : kk ≤ 700) (hfit : fitB N.inb inp = true) (hrl : regs.length = N.regs.length) (hw : WRows w ga m gc grs) (hg : grs.map (·.l) = inp) (hd : 2 * node ∈ drivenN N) :
    Calls Tryz.prog 61 #[.pointer (some ⟨v, 0, none⟩), .int .i64 (node : Int), .slice ga m gc] w fun e w' => e = .returned (.int .u64 ((wd (wordsN N inp regs) (2 * node) : Nat) : Int)) ∧ w = w' := by
  obtain ⟨pp, ia, ic, rra, rrc, oa, oc, ri, ro, hp⟩ := rnet_parts hn
  have l2 := hf.ok.ik
  have l3 := hf.ok.rk
  have HP := Lib.hid hp
  have HF := Lib.hid hf
  have HS := Lib.hid hs
  have HD := Lib.hid hd
  have hgl : grs.length = N.inb.length := by have h2 := fitB_len hfit; rw [← hg] at h2; simpa using h2
  have hmm : m = N.inb.length := by have := hw.len; omega
  subst hmm
  have HW := Lib.hid hw
  have HGL := Lib.hid hgl
  have HIR := Lib.hid (fun (q : Nat) (h3 : q < ri.length) (h4 : q < grs.length) => in_rows (ri := ri) (grs := grs) (q := q) (rfl : wordsN N inp regs = _) hf hfit hrl hg hp.im h3 h4)
  have HRV := Lib.hid (fun (q : Nat) (h3 : q < N.regs.length) (h4 : q < regs.length) => reg_val (q := q) hf hfit hrl h3 h4)
  have HRL := Lib.hid hrl
  obtain ⟨VS, hVS⟩ : ∃ VS, VS = wordsN N inp regs := ⟨_, rfl⟩
  rw [← hVS] at HIR HRV ⊢
  have c2 := hp.c2
  have c3 := hp.c3
  obtain ⟨nr, hnr⟩ : ∃ nr, nr = regs.length := ⟨_, rfl⟩
  rw [← hnr] at h1
  have HNR := Lib.hid hnr
  clear hp hf hw hs hd hgl hrl hVS hn hfit hg hnr
  go_enter Tryz.func61, Tryz.ntmps61
  go_wp2_with fail
  go_loop [7, 8] (fun i _ => ∃ k : Nat, k ≤ N.inb.length ∧ i = .int .i64 k ∧ ∀ b ∈ N.inb.take k, ∀ x ∈ b.lits, x / 2 ≠ node) (fun i _ => N.inb.length - (intOf i).toNat)
  case atStart => exact ⟨0, Nat.zero_le _, rfl, by simp⟩
  case round =>
    obtain ⟨k, hk, rfl, hno⟩ := hrel
    have HNO := Lib.hid hno
    clear hno
    by_cases hlt : k < N.inb.length
    · have hkr : k < ri.length := by have := congrArg List.length HP.out.im; simp at this; omega
      have hkg : k < grs.length := by rw [HGL.out]; exact hlt
      obtain ⟨hgl, hbv⟩ := HIR.out k hkr hkg
      have hbk : N.inb[k] = ri[k].b := by
        have := List.getElem_of_eq HP.out.im.symm (i := k) hlt
        rw [this]; simp
      have HNS := Lib.hid (show (∀ x ∈ ri[k].b.lits, x / 2 ≠ node) → ∀ b ∈ N.inb.take (k + 1), ∀ x ∈ b.lits, x / 2 ≠ node from fun hx b hb => by
        rw [List.take_succ_eq_append_getElem hlt] at hb
        rcases List.mem_append.1 hb with hb | hb
        · exact HNO.out b hb
        · rw [List.mem_singleton] at hb
          rw [hb, hbk]
          exact hx)
      have HDR := Lib.hid (show ∀ x ∈ ri[k].b.lits, x ∈ drivenN N from fun x hx => by
        unfold drivenN
        refine List.mem_append_left _ (List.mem_flatMap.2 ⟨ri[k].b, ?_, hx⟩)
        rw [← HP.out.im]
        exact List.mem_map_of_mem (List.getElem_mem hkr))
      have hok := HF.out.ok.il _ (List.getElem_mem hlt)
      rw [hbk] at hok
      have HXO := Lib.hid hok.2.2.2
      have hl64 := hok.2.1
      obtain ⟨bb, rfl, b0, b1⟩ := HP.out.ib k hkr
      have HLS := Lib.hid (HP.out.ir _ (List.getElem_mem hkr))
      obtain ⟨bg, gra, grc, rfl, g1, g2⟩ := HW.out.spot k hkg
      have HBV := Lib.hid hbv
      have HG2 := Lib.hid g2
      rw [hgl] at g1
      have HGE := Lib.hid hgl
      clear hbv g2 hgl hbk hok b0
      have l1 := HF.out.ok.len
      generalize ri[k].a = ba at *
      generalize ri[k].c = bc at *
      generalize ri[k].b.lits = L at *
      generalize grs[k].l = gl at *
      obtain ⟨ln, hln⟩ : ∃ ln, ln = L.length := ⟨_, rfl⟩
      rw [← hln] at b1 g1 hl64 HGE
      have HLN := Lib.hid hln
      clear hln
      go_wp2_with fail
      go_loop [8] (fun i => ∃ j : Nat, j ≤ ln ∧ i = .int .i64 j ∧ ∀ x ∈ L.take j, x / 2 ≠ node) (fun i => ln - (intOf i).toNat)
      case atStart => exact ⟨0, Nat.zero_le _, rfl, by simp⟩
      case round =>
        obtain ⟨j, hj, rfl, hnj⟩ := hrel
        have HNJ := Lib.hid hnj
        clear hnj
        by_cases hjl : j < ln
        · have hj1 : j < L.length := by rw [← HLN.out]; exact hjl
          have hj2 : j < gl.length := by rw [HGE.out]; exact hjl
          obtain ⟨ad, rfl, lx⟩ := HLS.out j hj1
          obtain ⟨ag, rfl, gx⟩ := HG2.out j hj2
          have hv := HBV.out j hj1 hj2
          have hxo : L[j] / 2 < N.g.nodes.length := HXO.out _ (List.getElem_mem hj1)
          have hev := fun h => even_of HF.out (HDR.out _ (List.getElem_mem hj1)) (node := node) h
          have HTS := Lib.hid (show L[j] / 2 ≠ node → ∀ x ∈ L.take (j + 1), x / 2 ≠ node from fun hx y hy => by
            rw [List.take_succ_eq_append_getElem hj1] at hy
            rcases List.mem_append.1 hy with hy | hy
            · exact HNJ.out y hy
            · rw [List.mem_singleton] at hy
              rw [hy]; exact hx)
          generalize L[j] = x at *
          generalize gl[j] = u at *
          by_cases hx : x / 2 = node
          · have HV := Lib.hid (show wd VS (2 * node) = u from by rw [← hev hx]; exact hv)
            have e1 : ((x : Int) / 2 == (node : Int)) = true := by simp; omega
            clear hev hv hx HTS
            go_wp2_with fail
            go_ret
            exact ⟨by rw [HV.out]; rfl, rfl⟩
          · have hnn := HTS.out hx
            have HNN := Lib.hid hnn
            have e1 : ((x : Int) / 2 == (node : Int)) = false := by simp; omega
            clear hev hv hx HTS hnn
            go_wp2_with fail
            go_round
            case rel => exact ⟨j + 1, by omega, by go_num, HNN.out⟩
            case measure => simp [intOf]; omega
        · obtain rfl : j = ln := by omega
          have HALL := Lib.hid (HNS.out (by have h := HNJ.out; rw [List.take_of_length_le (by rw [← HLN.out]; exact Nat.le_refl _)] at h; exact h))
          go_wp2_with fail
          go_round
          case rel => exact ⟨k + 1, by omega, by go_num, HALL.out⟩
          case measure => simp [intOf]; omega
    · obtain rfl : k = N.inb.length := by omega
      clear hlt
      have HNI := Lib.hid (show ∀ b ∈ N.inb, ∀ x ∈ b.lits, x / 2 ≠ node from by have h := HNO.out; rw [List.take_length] at h; exact h)
      go_wp2_with fail
      go_loop [9] (fun i => ∃ q : Nat, q ≤ N.regs.length ∧ i = .int .i64 q ∧ ∀ r ∈ N.regs.take q, r.q / 2 ≠ node) (fun i => N.regs.length - (intOf i).toNat)
      case atStart => exact ⟨0, Nat.zero_le _, rfl, by simp⟩
      case round =>
        obtain ⟨q, hq, rfl, hnq⟩ := hrel
        have HNQ := Lib.hid hnq
        clear hnq
        by_cases hql : q < N.regs.length
        · have hq2 : q < regs.length := by rw [HRL.out]; exact hql
          have hq3 : q < nr := by rw [HNR.out]; exact hq2
          obtain ⟨rb, rfl, r0, r1, r2, r3⟩ := HP.out.rb q hql
          obtain ⟨ag, rfl, gx⟩ := HS.out q hq2
          have hv := HRV.out q hql hq2
          have hdr : N.regs[q].q ∈ drivenN N := by
            unfold drivenN
            exact List.mem_append_right _ (List.mem_map.2 ⟨_, List.getElem_mem hql, rfl⟩)
          have hev := fun h => even_of HF.out hdr (node := node) h
          clear hdr
          have HTS := Lib.hid (show N.regs[q].q / 2 ≠ node → ∀ r ∈ N.regs.take (q + 1), r.q / 2 ≠ node from fun hx y hy => by
            rw [List.take_succ_eq_append_getElem hql] at hy
            rcases List.mem_append.1 hy with hy | hy
            · exact HNQ.out y hy
            · rw [List.mem_singleton] at hy
              rw [hy]; exact hx)
          have hxo : N.regs[q].q / 2 < N.g.nodes.length := (HF.out.ok.rl _ (List.getElem_mem hql)).1
          have l1 := HF.out.ok.len
          clear r1 r2 r3
          generalize N.regs[q].q = x at *
          generalize regs[q] = u at *
          by_cases hx : x / 2 = node
          · have HV := Lib.hid (show wd VS (2 * node) = u from by rw [← hev hx]; exact hv)
            have e1 : ((x : Int) / 2 == (node : Int)) = true := by simp; omega
            clear hev hv hx HTS
            go_wp2_with fail
            go_ret
            exact ⟨by rw [HV.out]; rfl, rfl⟩
          · have hnn := HTS.out hx
            have HNN := Lib.hid hnn
            have e1 : ((x : Int) / 2 == (node : Int)) = false := by simp; omega
            clear hev hv hx HTS hnn
            go_wp2_with fail
            go_round
            case rel => exact ⟨q + 1, by omega, by go_num, HNN.out⟩
            case measure => simp [intOf]; omega
        · exfalso
          obtain rfl : q = N.regs.length := by omega
          have h := HD.out
          have h2 := HNQ.out
          rw [List.take_length] at h2
          unfold drivenN at h
          rcases List.mem_append.1 h with h | h
          · obtain ⟨b, hb, hx⟩ := List.mem_flatMap.1 h
            exact HNI.out b hb _ hx (by omega)
          · obtain ⟨r, hr, hx⟩ := List.mem_map.1 h
            exact h2 r hr (by omega)
end Go.Proofs.YtielfgngdhcpfaaGreat
