/-
  Package sim: Step.
-/
import Derived.Test.YtdmcdhkkbkgnbaaGreatQSimD
import Derived.StillTailTactics
import Derived.Deep.RegionHeld3
namespace Go.Proofs.YtdmcdhkkbkgnbaaGreat
open Go.ChangeShapes Go.WideShapes Go.ChangeAt Go.RowKit
open Go.Maps (Keyed)
open Go.WideMaps
set_option linter.unusedVariables false
set_option linter.unusedSimpArgs false

variable {w w' : World} {s p n : Nat} {F R S : List Nat} {g : Gr} {N : Nt} {σ : Sm}
theorem su64_info : (Tryz.prog.info? 78).map (fun i => (i.zero, i.size, i.bytes)) = some (some (.slice none 0 0), 1, 24) := by kernel_rfl
structure SmOk (k : Nat) (σ : Sm) : Prop where
  fine : NtFine k σ.N
  k7 : k ≤ 700
  rl : σ.regs.length = σ.N.regs.length
  rw : Words σ.regs
  ww : Words σ.ws
  wl : σ.cy ≠ 0 → σ.ws.length = σ.N.g.nodes.length
def nextS (σ : Sm) (inp : List (List Nat)) : Sm := ⟨σ.N, nextN σ.N (wordsN σ.N inp σ.regs) σ.regs, wordsN σ.N inp σ.regs, σ.cy + 1⟩
theorem newS_ok {k : Nat} {N : Nt} (hf : NtFine k N) (hk : k ≤ 700) : SmOk k (newS N) := ⟨hf, hk, by simp [newS, resetN], resetN_words N, by simp [newS, Words], fun h => by simp [newS] at h⟩
theorem nextS_ok {k : Nat} (h : SmOk k σ) {inp : List (List Nat)} (hi : ∀ r ∈ inp, Words r) : SmOk k (nextS σ inp) :=
  ⟨h.fine, h.k7, by simp [nextS, nextN, h.rl], nextN_words (wordsN_words hi h.rw) h.rw, wordsN_words hi h.rw, fun _ => by simp [nextS, wordsN, evalG_length]⟩
/-- registers' words, the first k as they are behind the cycle -/
def nextTo (N : Nt) (ws regs : List Nat) (k : Nat) : List Nat := (nextN N ws regs).take k ++ regs.drop k
theorem nextTo_zero (N : Nt) (ws regs : List Nat) : nextTo N ws regs 0 = regs := by simp [nextTo]
theorem nextTo_all {N : Nt} {ws regs : List Nat} (h : regs.length = N.regs.length) : nextTo N ws regs N.regs.length = nextN N ws regs := by
  unfold nextTo
  rw [List.take_of_length_le (by rw [nextN_length h]; exact Nat.le_refl _), List.drop_eq_nil_of_le (by omega), List.append_nil]
theorem nextTo_length {N : Nt} {ws regs : List Nat} (h : regs.length = N.regs.length) (k : Nat) : (nextTo N ws regs k).length = regs.length := by
  have := nextN_length (ws := ws) h
  unfold nextTo
  rw [List.length_append, List.length_take, List.length_drop]
  omega
theorem nextTo_get {N : Nt} {ws regs : List Nat} (h : regs.length = N.regs.length) {k : Nat} (hk : k < N.regs.length) : (nextTo N ws regs k)[k]? = regs[k]? := by
  have := nextN_length (ws := ws) h
  unfold nextTo
  rw [List.getElem?_append_right (by rw [List.length_take]; omega), List.length_take, List.getElem?_drop]
  congr 1
  omega
theorem nextTo_succ {N : Nt} {ws regs : List Nat} (h : regs.length = N.regs.length) {k : Nat} {r : Rg} {v : Nat} (hr : N.regs[k]? = some r) (hv : regs[k]? = some v) : nextTo N ws regs (k + 1) = (nextTo N ws regs k).set k (nextR ws r v) := by
  have hl := nextN_length (ws := ws) h
  have hk := (List.getElem?_eq_some_iff.1 hr).1
  have hn : (nextN N ws regs)[k]? = some (nextR ws r v) := by
    unfold nextN
    rw [List.getElem?_map]
    have : (N.regs.zip regs)[k]? = some (r, v) := by rw [List.getElem?_zip_eq_some]; exact ⟨hr, hv⟩
    rw [this]
    rfl
  have ht : ((nextN N ws regs).take k).length = k := by rw [List.length_take]; omega
  unfold nextTo
  rw [List.take_add_one, hn, List.set_append_right _ _ (by omega), ht, Nat.sub_self]
  obtain ⟨h1, h2⟩ := List.getElem?_eq_some_iff.1 hv
  have hd : regs.drop k = v :: regs.drop (k + 1) := by rw [List.drop_eq_getElem_cons h1, h2]
  rw [hd, List.set_cons_zero]
  simp
def StepGood (s : Nat) (F R : List Nat) (σ : Sm) (inp : List (List Nat)) (w : World) (e : Ending) (w' : World) : Prop :=
  ∃ a c rs R', e = .returned (.tuple #[.slice a σ.N.outb.length c, .int .i64 0]) ∧ WRows w' a σ.N.outb.length c rs ∧ rs.map (·.l) = outN σ.N (wordsN σ.N inp σ.regs) ∧ SimAt w' s F R' (nextS σ inp) ∧ NStep w w' F R F R' ∧ ∀ b ∈ ft a ++ wrBlocks rs, w.heap.size ≤ b
set_option maxHeartbeats 6400000 in
set_option maxRecDepth 100000 in
theorem sim_step {kk : Nat} {a : Option Addr} {m c : Nat} {rs : List WR} (h : SimAt w s F R σ) (hok : SmOk kk σ) (hcy : σ.cy ≤ 1000000) (hm : m ≤ 1000000) (hr : WRows w a m c rs) (hrw : ∀ r ∈ rs, Words r.l) (hb : fitB σ.N.inb (rs.map (·.l)) = true) :
    Calls Tryz.prog 31 #[.pointer (some ⟨s, 0, none⟩), .slice a m c] w (StepGood s F R σ (rs.map (·.l)) w) := by
  have hlen := hok.fine.ok.len
  have hlen2 := hok.fine.ok.ik
  have hlen3 := hok.fine.ok.rk
  have hlen4 := hok.fine.ok.ok
  have hk7 := hok.k7
  have hile : (ins σ.N.g.nodes).length ≤ 1000000 := by have := insFrom_length 0 σ.N.g.nodes; unfold ins; omega
  obtain ⟨n, NF, NR, ra, rc, mm, f, wa, wc, rfl, rfl, hc⟩ := h
  have HSC := Lib.hid hc
  obtain ⟨p, G, ia, ic, xa, xc, oa, oc, ri, ro, rfl, rfl, hn⟩ := hc.net
  have HNC := Lib.hid hn
  have HN := Lib.hid (sim_none hc.c0)
  have HF := Lib.hid (fits_c hc.c0 hc.net (by omega) hm hr)
  rw [hb] at HF
  obtain ⟨inp, hinp⟩ : ∃ l, l = rs.map (·.l) := ⟨_, rfl⟩
  rw [← hinp] at hb ⊢
  obtain ⟨PS, hPS⟩ : ∃ l, l = pairsN σ.N inp σ.regs := ⟨_, rfl⟩
  have HPW := Lib.hid (show ∀ p ∈ PS, p.2 < 18446744073709551616 from by
    rw [hPS]
    exact pairs_words (fun r hr => by rw [hinp] at hr; obtain ⟨q, hq, rfl⟩ := List.mem_map.1 hr; exact hrw q hq) hok.rw)
  have HAT := Lib.hid (fun t x v (ht : PS[t]? = some (x, v)) => asg_at (inp := inp) (regs := σ.regs) hok.fine hk7 hb hok.rl (t := t) (x := x) (v := v) (by rw [← hPS]; exact ht))
  rw [← hPS] at HAT
  have HPB := Lib.hid (fun k i x v b r h1 h2 h3 h4 => hPS ▸ pairsN_bus (regs := σ.regs) hb (k := k) (i := i) (x := x) (v := v) (b := b) (r := r) h1 h2 h3 h4)
  have HPR := Lib.hid (fun k v r h1 h2 => hPS ▸ pairsN_reg (regs := σ.regs) hb (k := k) (v := v) (r := r) h1 h2)
  have HPL := Lib.hid (show PS.length = _ from hPS ▸ pairsN_len (regs := σ.regs) hb hok.rl)
  have HFA := Lib.hid (fun k b r h1 h2 => fitB_at hb (k := k) (b := b) (r := r) h1 h2)
  have HFL := Lib.hid (fitB_len hb)
  have HPS := Lib.hid hPS
  have HINP := Lib.hid hinp
  have HOK := Lib.hid hok
  have HR := Lib.hid hr
  have HRL := Lib.hid hr.len
  have c0 := hc.c0
  have c2 := hc.c2
  have n2 := hn.c2
  obtain ⟨ni, hni⟩ : ∃ k, k = (ins σ.N.g.nodes).length := ⟨_, rfl⟩
  obtain ⟨nI, hnI⟩ : ∃ k, k = σ.N.inb.length := ⟨_, rfl⟩
  obtain ⟨nR, hnR⟩ : ∃ k, k = σ.N.regs.length := ⟨_, rfl⟩
  have HNI := Lib.hid hni
  have HNB := Lib.hid hnI
  have HNR := Lib.hid hnR
  have hle1 : ni ≤ 1000000 := by omega
  have hle2 : nI ≤ 1000000 := by omega
  have hle3 : nR ≤ 1000000 := by omega
  have hLM := Lib.hid (show MapG w Tryz.prog 3 mm f ni from by rw [hni]; exact hc.mp)
  rw [← hnI] at n2
  clear hc hn hb hr hrw hok hinp hPS hni hnI hnR hile hlen hlen2 hlen3 hlen4 hk7
  go_enter Tryz.func31, Tryz.ntmps31; (try simp only [List.append])
  go_wp2_with fail
  refine HN.out.mono ?_
  rintro e w' ⟨rfl, rfl⟩
  go_wp2_with fail
  refine HF.out.mono ?_
  rintro e w2 ⟨rfl, hk2⟩
  have K2 := Lib.hid hk2
  have c02 := hk2.cell c0 (by simp)
  have c22 := hk2.cell c2 (by simp)
  have n22 := hk2.cell n2 (by simp)
  have hlen := fun ty => (hLM.out.kept hk2 (by simp)).len Tryz.underlying71 ty
  clear hk2 HF HN c0 c2 n2
  go_wp2_with (at_make; refine wpList_mk (n := ni) rfl rfl Tryz.underlying78 u64_info rfl rfl rfl (by omega) (by unfold maxLen; omega) ?_; intro w3 hown3 hst3; rw [nats_replicate] at hown3; have c03 := hst3.kept.cell c02 (by simp); have n23 := hst3.kept.cell n22 (by simp))
  have K3 := Lib.hid (K2.out.trans hst3.kept)
  have hq3 : w.heap.size ≤ w2.heap.size := K2.out.size
  obtain ⟨gq, hgq⟩ : ∃ g, g = w2.heap.size := ⟨_, rfl⟩
  rw [← hgq] at hown3 hq3
  rw [← hgq]
  have HO3 := Lib.hid (show Own w3 79 (some ⟨gq, 0, none⟩) ni ni (nats .u64 (asg (ins σ.N.g.nodes) (PS.take (offB σ.N.inb 0)))) from by
    rw [offB_zero, List.take_zero, asg_nil, ← HNI.out]
    exact hown3)
  clear hown3 hst3 hgq c02 c22 n22 hlen
  go_wp2_with fail
  go_loopw [43] (fun i wr => ∃ k : Nat, k ≤ nI ∧ i = .int .i64 k ∧ Own wr 79 (some ⟨gq, 0, none⟩) ni ni (nats .u64 (asg (ins σ.N.g.nodes) (PS.take (offB σ.N.inb k)))) ∧ Kept [] w wr) (fun i _ => nI - (intOf i).toNat)
  case atStart => exact ⟨0, Nat.zero_le _, rfl, HO3.out, K3.out⟩
  case round =>
    obtain ⟨k, hk, rfl, hor, hkr⟩ := hrel
    have HOR := Lib.hid hor
    have KR := Lib.hid hkr
    clear hor hkr c03 n23
    by_cases hlt : k < nI
    · have hkb : k < σ.N.inb.length := by rw [← HNB.out]; exact hlt
      have hkr1 : k < ri.length := by
        have := HNC.out.ib.is
        have h2 : ri.length = σ.N.inb.length := by rw [← this]; simp
        omega
      obtain ⟨bb, rfl, b0, b1⟩ := (HNC.out.ib.slb.kept0 KR.out) k hkr1
      have hrib : σ.N.inb[k]? = some ri[k].b := by
        have h1 : (ri.map (·.b))[k]? = some ri[k].b := by rw [List.getElem?_map, List.getElem?_eq_getElem hkr1]; rfl
        rw [HNC.out.ib.is] at h1
        exact h1
      have hinl : k < inp.length := by have := HFL.out; omega
      have hrl : k < rs.length := by have := HINP.out; rw [this] at hinl; simpa using hinl
      have hik : inp[k]? = some rs[k].l := by rw [HINP.out, List.getElem?_map, List.getElem?_eq_getElem hrl]; rfl
      have HLB := Lib.hid ((HNC.out.ib.rows ri[k] (List.getElem_mem hkr1)).1)
      have HVB := Lib.hid ((HR.out.rows rs[k] (List.getElem_mem hrl)).1)
      have HLL := Lib.hid (HFA.out k ri[k].b rs[k].l hrib hik)
      have HAK := Lib.hid (fun i x v (h3 : ri[k].b.lits[i]? = some x) (h4 : rs[k].l[i]? = some v) => HPB.out k i x v ri[k].b rs[k].l hrib hik h3 h4)
      have HOS := Lib.hid (offB_succ hrib)
      have hl64 : ri[k].b.lits.length ≤ 64 := (HOK.out.fine.ok.il ri[k].b (List.mem_of_getElem? hrib)).2.1
      have HCW := Lib.hid (fun (W : World) (hk : Kept [] w W) => (HR.out.kept0 hk).cell k hrl)
      clear hrib hik hinl
      generalize ri[k].b.name = nm at *
      generalize ri[k].a = ba at *
      generalize ri[k].c = bc at *
      generalize ri[k].b.lits = L at *
      generalize rs[k].a = va at *
      generalize rs[k].c = vc at *
      generalize rs[k].l = V at *
      obtain ⟨ln, hln⟩ : ∃ k, k = L.length := ⟨_, rfl⟩
      have HLN := Lib.hid hln
      rw [← hln] at b1 hl64
      clear hln
      obtain ⟨ib', rfl, _⟩ := HCW.out w (Kept.refl _ _)
      go_wp2_with fail
      go_loopw [51] (fun i wr' => ∃ j : Nat, j ≤ ln ∧ i = .int .i64 j ∧ Own wr' 79 (some ⟨gq, 0, none⟩) ni ni (nats .u64 (asg (ins σ.N.g.nodes) (PS.take (offB σ.N.inb k + j)))) ∧ Kept [] w wr') (fun i _ => ln - (intOf i).toNat)
      case atStart => exact ⟨0, Nat.zero_le _, rfl, HOR.out.alloc _, KR.out.alloc _⟩
      case round =>
        obtain ⟨j, hj, rfl, hor2, hkr2⟩ := hrel
        have HOR2 := Lib.hid hor2
        have KR2 := Lib.hid hkr2
        clear hor2 hkr2 b0 b1
        by_cases hlt2 : j < ln
        · have hjl : j < L.length := by rw [← HLN.out]; exact hlt2
          have hjv : j < V.length := by have := HLL.out; omega
          obtain ⟨ad1, rfl, x1⟩ := (HLB.out.kept0 KR2.out) j hjl
          obtain ⟨ad2, rfl, x2⟩ := (HVB.out.kept0 KR2.out) j hjv
          obtain ⟨_, ei, x3⟩ := HCW.out _ KR2.out
          obtain ⟨d, hd, hx32, hxn, hset⟩ := HAT.out _ _ _ (HAK.out j _ _ (List.getElem?_eq_getElem hjl) (List.getElem?_eq_getElem hjv))
          injection ei with ei
          injection ei with ei
          subst ei
          have hkm : k < m := by have := HRL.out; omega
          have hdn : d < ni := by have := (List.getElem?_eq_some_iff.1 hd).1; have := HNI.out; omega
          have hx31 : L[j] / 2 ≤ 1000000 := by have := HOK.out.fine.ok.len; have := HOK.out.k7; omega
          have hlk := place_look (w := wr.drew) (hLM.out.kept KR2.out.drew (by simp)) HSC.out.pl d _ hd hx31
          have c2r : wr.cell? ⟨s, 2, none⟩ = some (.map (some mm)) := KR2.out.cell HSC.out.c2 (by simp)
          have hvl : V.length = ln := by have := HLL.out; have := HLN.out; omega
          rw [hvl] at x3
          obtain ⟨⟨x0, hx0⟩, hfz, _⟩ := HOR2.out.store hdn
          have hsto := (HOR2.out.drew.store hdn).2.2
          have HSTO := Lib.hid hsto
          have HSET := Lib.hid hset
          have HND := Lib.hid (fun W => (lit_node L[j] W hx32).mono fun _ _ h => (⟨h.1, h.2.symm⟩ : _ ∧ _ = W))
          generalize L[j] / 2 = nd at *
          generalize L[j] = x at *
          generalize V[j] = v at *
          clear hd hx32 hxn hx31 hset hsto hvl
          go_wp2_with fail
          refine wp_region_still_tail 16 (by kernel_rfl) (by kernel_rfl) ?_
          simp only [List.take_succ_cons, List.take_zero, List.drop_succ_cons, List.drop_zero]
          repeat still_step
          still_call (HND.out _)
          repeat still_step
          refine wpStill_nil ?_
          change wpList _ _ _ _ _ wr.drew
          go_wp2_with fail
          go_roundw
          case rel => exact ⟨j + 1, by omega, by go_num, by rw [show offB σ.N.inb k + (j + 1) = offB σ.N.inb k + j + 1 from rfl, HSET.out, ← nats_set]; exact HSTO.out _, KR2.out.drew.setCell (.inr hq3) _⟩
          case measure => simp [intOf]; omega
        · obtain rfl : j = ln := by omega
          clear hlt2
          have HE := Lib.hid (show offB σ.N.inb (k + 1) = offB σ.N.inb k + j from by rw [HOS.out, HLN.out])
          go_wp2_with fail
          go_roundw
          case rel => exact ⟨k + 1, by omega, by go_num, by rw [HE.out]; exact HOR2.out, KR2.out⟩
          case measure => simp [intOf]; omega
    · obtain rfl : k = nI := by omega
      have n3 := KR.out.cell HNC.out.c3 (by simp)
      rw [← HNR.out] at n3
      have c0r := KR.out.cell HSC.out.c0 (by simp)
      clear hlt
      go_wp2_with fail
      go_loopw [82] (fun i wr => ∃ k' : Nat, k' ≤ nR ∧ i = .int .i64 k' ∧ Own wr 79 (some ⟨gq, 0, none⟩) ni ni (nats .u64 (asg (ins σ.N.g.nodes) (PS.take (offB σ.N.inb k + k')))) ∧ Kept [] w wr) (fun i _ => nR - (intOf i).toNat)
      case atStart => exact ⟨0, Nat.zero_le _, rfl, HOR.out, KR.out⟩
      case round =>
        obtain ⟨j, hj, rfl, hor2, hkr2⟩ := hrel
        have HOR2 := Lib.hid hor2
        have KR2 := Lib.hid hkr2
        clear hor2 hkr2 n3 c0r
        by_cases hlt2 : j < nR
        · have hjl : j < σ.N.regs.length := by rw [← HNR.out]; exact hlt2
          have hjr : j < σ.regs.length := by have := HOK.out.rl; omega
          obtain ⟨xb, rfl, q0, q1, q2, q3⟩ := (regs_sl rfl (own_kept HNC.out.rb KR2.out (by simp))) j hjl
          obtain ⟨ad2, hra, x2⟩ := (HSC.out.rg.kept0 KR2.out).sln j hjr
          obtain ⟨d, hd, hx32, hxn, hset⟩ := HAT.out _ _ _ (HPR.out j _ _ (List.getElem?_eq_getElem hjl) (List.getElem?_eq_getElem hjr))
          rw [← HNB.out] at hset
          have hdn : d < ni := by have := (List.getElem?_eq_some_iff.1 hd).1; have := HNI.out; omega
          have hx31 : σ.N.regs[j].q / 2 ≤ 1000000 := by have := HOK.out.fine.ok.len; have := HOK.out.k7; omega
          have HND := Lib.hid (fun W => (lit_node σ.N.regs[j].q W hx32).mono fun _ _ h => (⟨h.1, h.2.symm⟩ : _ ∧ _ = W))
          have HLK := Lib.hid (fun (W : World) (hk : Kept [] w W) => place_look (w := W) (hLM.out.kept hk (by simp)) HSC.out.pl d _ hd hx31)
          have HSET := Lib.hid hset
          have c1 := KR2.out.cell HSC.out.c1 (by simp)
          rw [HOK.out.rl, ← HNR.out] at c1
          subst hra
          clear hset hd hx32 hxn hx31
          generalize σ.regs[j] = v at *
          generalize σ.N.regs[j].q / 2 = nd at *
          generalize σ.N.regs[j].q = y0 at *
          generalize σ.N.regs[j].d = y1 at *
          generalize σ.N.regs[j].en = y2 at *
          generalize σ.N.regs[j].init = y3 at *
          go_wp2_with fail
          obtain ⟨qb, hqb⟩ : ∃ q, q = wr.heap.size := ⟨_, rfl⟩
          obtain ⟨w5, hw5⟩ : ∃ W, W = wr.alloc (.cells #[.int .u32 (y0 : Int), .int .u32 (y1 : Int), .int .u32 (y2 : Int), .bool y3] 63) := ⟨_, rfl⟩
          rw [← hw5, ← hqb]
          have K5 := Lib.hid (show Kept [] wr w5 from by rw [hw5]; exact (Kept.refl [] wr).alloc _)
          have d0 : w5.cell? ⟨qb, 0, none⟩ = some (.int .u32 (y0 : Int)) := by rw [hw5, hqb]; exact blk_cell (heap_alloc_new wr _) 0
          have KW5 := Lib.hid (KR2.out.trans K5.out)
          have e1 := K5.out.cell c1 (by simp)
          have e2 : w5.cell? ⟨s, 2, none⟩ = some (.map (some mm)) := KW5.out.cell HSC.out.c2 (by simp)
          have e3 := K5.out.cell x2 (by simp)
          have hlk := HLK.out w5.drew KW5.out.drew
          have HO5 := Lib.hid (HOR2.out.kept0 K5.out)
          obtain ⟨⟨x0, hx0⟩, hfz, _⟩ := HO5.out.store hdn
          have HSTO := Lib.hid (HO5.out.drew.store hdn).2.2
          clear hw5 hqb q0 q1 q2 q3 c1 x2 HLK HOR2
          refine wp_region_still_tail 17 (by kernel_rfl) (by kernel_rfl) ?_
          simp only [List.take_succ_cons, List.take_zero, List.drop_succ_cons, List.drop_zero]
          repeat still_step
          still_call (HND.out _)
          repeat still_step
          refine wpStill_nil ?_
          change wpList _ _ _ _ _ w5.drew
          go_wp2_with fail
          go_roundw
          case rel => exact ⟨j + 1, by omega, by go_num, by rw [show offB σ.N.inb k + (j + 1) = offB σ.N.inb k + j + 1 from rfl, HSET.out, ← nats_set]; exact HSTO.out _, KW5.out.drew.setCell (.inr hq3) _⟩
          case measure => simp [intOf]; omega
        · obtain rfl : j = nR := by omega
          clear hlt2
          have HALL := Lib.hid (show PS.take (offB σ.N.inb k + j) = PS from List.take_of_length_le (by have := HPL.out; rw [← HNB.out, ← HNR.out] at this; omega))
          have HOG := Lib.hid (show Own wr 79 (some ⟨gq, 0, none⟩) ni ni (nats .u64 (inpN σ.N inp σ.regs)) from by
            have := HOR2.out
            rw [HALL.out, HPS.out] at this
            exact this)
          have HIL := Lib.hid (show (inpN σ.N inp σ.regs).length = ni from by unfold inpN; rw [asg_length, HNI.out])
          have HIW := Lib.hid (show Words (inpN σ.N inp σ.regs) from asg_words (by rw [← HPS.out]; exact HPW.out))
          have HEV := Lib.hid (aig_eval (HNC.out.gr.kept0 KR2.out) (by have := HOK.out.fine.ok.len; have := HOK.out.k7; omega) (some ⟨gq, 0, none⟩) ni ni _ HIL.out HNI.out HOG.out.sln HIW.out)
          have n0 := KR2.out.cell HNC.out.c0 (by simp)
          have c0r := KR2.out.cell HSC.out.c0 (by simp)
          obtain ⟨nn, hnn⟩ : ∃ k, k = σ.N.g.nodes.length := ⟨_, rfl⟩
          have HNN := Lib.hid hnn
          rw [← hnn] at HEV
          have hWS : evalG σ.N.g (inpN σ.N inp σ.regs) = wordsN σ.N inp σ.regs := rfl
          rw [hWS] at HEV
          obtain ⟨ws, hws⟩ : ∃ ws, ws = wordsN σ.N inp σ.regs := ⟨_, rfl⟩
          rw [← hws] at HEV
          have HWSE := Lib.hid hws
          have HWL := Lib.hid (show ws.length = nn from by rw [hws, hnn]; unfold wordsN; exact evalG_length _ _)
          have HWW := Lib.hid (show Words ws from by rw [hws]; exact evalG_words _ HIW.out)
          clear hnn hws hWS
          go_wp2_with fail
          refine HEV.out.mono ?_
          rintro e w6 ⟨ea, ec, rfl, ho6, hst6⟩
          have HO6 := Lib.hid ho6
          have K6 := Lib.hid (KR2.out.trans hst6.kept)
          have FR6 := Lib.hid (show ∀ b ∈ ft ea, w.heap.size ≤ b from fun b hb => (hst6.fresh b hb).elim (by simp) (fun h => Nat.le_trans KR2.out.size h))
          have B6 := K6.out.heap HSC.out.blk (by simp)
          have B6' : ∀ o, (w6.alloc o).heap[s]? = _ := fun o => ((Kept.refl [] w6).alloc o).heap B6 (by simp)
          have cc4 : ∀ o, (w6.alloc o).cell? ⟨s, 4, none⟩ = some (.int .i64 (σ.cy : Int)) := fun o => blk_cell (B6' o) 4
          have cc3 : ∀ o, (w6.alloc o).cell? ⟨s, 3, none⟩ = some (.slice wa σ.ws.length wc) := fun o => blk_cell (B6' o) 3
          have cf4 := fun o => blk_free (B6' o) 4
          have cf3 := fun o => blk_free (B6' o) 3
          have nc0 := fun o => cell_alloc (K6.out.cell HSC.out.c0 (by simp)) o
          have nn3 := fun o => cell_alloc (K6.out.cell HNC.out.c3 (by simp)) o
          rw [← HNR.out] at nn3
          have hns : n ≠ s := fun h => HSC.out.ap s (by simp) (by simp [h])
          have hwrap : IntKind.i64.wrap ((σ.cy : Int) + 1) = (σ.cy : Int) + 1 := IntWalk.i64_in _ (by omega)
          clear ho6 hst6 HEV n0 c0r B6
          go_wp2_with fail
          obtain ⟨qw, hqw⟩ : ∃ q, q = w6.heap.size := ⟨_, rfl⟩
          obtain ⟨w7, hw7⟩ : ∃ W, W = w6.alloc (.cells #[.slice ea nn ec] 78) := ⟨_, rfl⟩
          obtain ⟨w8, hw8⟩ : ∃ W, W = (w7.setCell ⟨s, 3, none⟩ (.slice ea nn ec)).setCell ⟨s, 4, none⟩ (.int .i64 ((σ.cy : Int) + 1)) := ⟨_, rfl⟩
          rw [← hqw, ← hw7, ← hw8]
          have hslt : s < w.heap.size := HSC.out.lt.1 s (by simp)
          have hralt : ∀ b ∈ ft ra, b < w.heap.size := fun b hb => HSC.out.lt.1 b (by simp [hb])
          have K67 := Lib.hid (show Kept [] w6 w7 from by rw [hw7]; exact (Kept.refl [] w6).alloc _)
          have K78 := Lib.hid (show Kept [s] w7 w8 from by rw [hw8]; exact (((Kept.refl [s] w7).setCell (.inl (by simp)) _).setCell (.inl (by simp)) _))
          have KW7 := Lib.hid (K6.out.trans K67.out)
          have KW8 := Lib.hid (show Kept [s] w w8 from (KW7.out.more (by simp)).trans K78.out)
          have B8 := Lib.hid (show w8.heap[s]? = some (.cells #[.pointer (some ⟨n, 0, none⟩), .slice ra σ.regs.length rc, .map (some mm), .slice ea nn ec, .int .i64 ((σ.cy : Int) + 1)] 154 (0, 0)) from by
            rw [hw8]
            exact blk_set (blk_set (KW7.out.heap HSC.out.blk (by simp)) 3 _) 4 _)
          have hqs : qw ∉ [s] := by have := K6.out.size; simp; omega
          have CW8 := Lib.hid (show w8.cell? ⟨qw, 0, none⟩ = some (.slice ea nn ec) from K78.out.cell (by rw [hw7, hqw]; exact blk_cell (heap_alloc_new w6 _) 0) hqs)
          have hqra : qw ∉ ft ra := fun h => by have := hralt _ h; have := K6.out.size; omega
          have hqw0 : w.heap.size ≤ qw := by have := K6.out.size; omega
          have hqw8 : qw < w8.heap.size := by have := K78.out.size; rw [hw7] at this; simp at this; omega
          have hes : ∀ b ∈ ft ea, b ∉ s :: ft ra := fun b hb hx => by
            have h1 := FR6.out b hb
            rcases List.mem_cons.1 hx with rfl | hx
            · omega
            · have := hralt b hx; omega
          have EA8 := Lib.hid ((HO6.out.kept0 K67.out).kept K78.out (fun b hb hx => hes b hb (by simp at hx; simp [hx])))
          have RG8 := Lib.hid (show Own w8 79 ra σ.regs.length rc (nats .u64 (nextTo σ.N ws σ.regs 0)) from by
            rw [nextTo_zero]
            exact HSC.out.rg.kept KW8.out (fun b hb hx => by simp at hx; subst hx; exact HSC.out.s_ra hb))
          have HQW := Lib.hid hqw
          clear hqw hw7 hw8 hqs B6' cc4 cc3 cf4 cf3 nc0 nn3 hwrap
          go_loopw [140] (fun i wr => ∃ k' : Nat, k' ≤ j ∧ i = .int .i64 k' ∧ Own wr 79 ra σ.regs.length rc (nats .u64 (nextTo σ.N ws σ.regs k')) ∧ Kept (ft ra) w8 wr) (fun i _ => j - (intOf i).toNat)
          case atStart => exact ⟨0, Nat.zero_le _, rfl, RG8.out, .refl _ _⟩
          case round =>
            obtain ⟨t, ht, rfl, hor3, hkr3⟩ := hrel
            have HOR3 := Lib.hid hor3
            have KR3 := Lib.hid hkr3
            clear hor3 hkr3
            have B9 := KR3.out.heap B8.out HSC.out.s_ra
            have EA9 := Lib.hid (EA8.out.kept KR3.out (fun b hb hx => hes b hb (by simp [hx])))
            by_cases hlt3 : t < j
            · have htl : t < σ.N.regs.length := by rw [← HNR.out]; exact hlt3
              have htr : t < σ.regs.length := by have := HOK.out.rl; omega
              have hxs : ∀ b ∈ ft xa, b ∉ [s] := fun b hb hx => by simp at hx; subst hx; exact HSC.out.ap b (by simp) (by simp [hb])
              have hxr : ∀ b ∈ ft xa, b ∉ ft ra := fun b hb hx => HSC.out.ap b (by simp [hx]) (by simp [hb])
              obtain ⟨xb, rfl, q0, q1, q2, q3⟩ := (regs_sl rfl (own_kept (own_kept HNC.out.rb KW8.out hxs) KR3.out hxr)) t htl
              have hok3 := HOK.out.fine.ok.rl _ (List.getElem_mem htl)
              have hnx := nextTo_succ (ws := ws) HOK.out.rl (List.getElem?_eq_getElem htl) (List.getElem?_eq_getElem htr)
              have hgx := nextTo_get (ws := ws) HOK.out.rl htl
              have hlen3 := nextTo_length (ws := ws) HOK.out.rl t
              have hrw := HOK.out.rw _ (List.getElem_mem htr)
              obtain ⟨ad2, hra, x2⟩ := HOR3.out.sln t (by rw [hlen3]; exact htr)
              have hgx2 : (nextTo σ.N ws σ.regs t)[t]'(by rw [hlen3]; exact htr) = σ.regs[t] := by
                rw [List.getElem?_eq_getElem (by rw [hlen3]; exact htr), List.getElem?_eq_getElem htr] at hgx
                injection hgx
              rw [hgx2] at x2
              obtain ⟨rb, hrb⟩ := HOR3.out.form (by omega)
              rw [hrb] at hra
              injection hra with hra
              subst hra
              have hadd : ((⟨rb, 0, none⟩ : Addr).add t) = ⟨rb, t, none⟩ := by unfold Addr.add; split <;> simp_all
              rw [hadd] at x2
              clear hadd
              have c1 : wr.cell? ⟨s, 1, none⟩ = some (.slice (some ⟨rb, 0, none⟩) σ.regs.length rc) := by rw [← hrb]; exact blk_cell B9 1
              have cw := KR3.out.cell CW8.out hqra
              have hrle : σ.regs.length = j := by have := HOK.out.rl; have := HNR.out; omega
              have HOR4 := HOR3.out
              rw [hrb] at HOR4
              rw [hrle] at c1 HOR4
              have HST1 := Lib.hid (fun (b : Nat) (W : World) (hk : Kept [] wr W) (hb : W.cell? ⟨b, 0, none⟩ = some (.slice ea nn ec)) => step1_c σ.N.regs[t] σ.regs[t] b ea ec nn ws W HWL.out (EA9.out.kept0 hk).sln HWW.out (by have := Gr.ok_lt hok3.2.1 (by have := HOK.out.fine.ok.len; have := HOK.out.k7; omega); omega) (by have := Gr.ok_lt hok3.2.2 (by have := HOK.out.fine.ok.len; have := HOK.out.k7; omega); omega) hrw hb)
              have HNX := Lib.hid hnx
              have H4 := Lib.hid HOR4
              clear hnx hgx hgx2 hok3 B9 hrw HOR4 hxs hxr
              generalize nextR ws σ.N.regs[t] σ.regs[t] = res at *
              generalize σ.regs[t] = v at *
              generalize σ.N.regs[t] = rgt at *
              obtain ⟨y0, y1, y2, y3⟩ := rgt
              simp only at q0 q1 q2 q3
              go_wp2_with fail
              obtain ⟨qb, hqb⟩ : ∃ q, q = wr.heap.size := ⟨_, rfl⟩
              obtain ⟨w9, hw9⟩ : ∃ W, W = wr.alloc (.cells #[.int .u32 (y0 : Int), .int .u32 (y1 : Int), .int .u32 (y2 : Int), .bool y3] 63) := ⟨_, rfl⟩
              rw [← hw9, ← hqb]
              have K9 := Lib.hid (show Kept [] wr w9 from by rw [hw9]; exact (Kept.refl [] wr).alloc _)
              have b9 := heap_alloc_new wr (.cells #[.int .u32 (y0 : Int), .int .u32 (y1 : Int), .int .u32 (y2 : Int), .bool y3] 63)
              rw [← hw9, ← hqb] at b9
              have d0 : w9.cell? ⟨qb, 0, none⟩ = some (.int .u32 (y0 : Int)) := blk_cell b9 0
              have d1 : w9.cell? ⟨qb, 1, none⟩ = some (.int .u32 (y1 : Int)) := blk_cell b9 1
              have d2 : w9.cell? ⟨qb, 2, none⟩ = some (.int .u32 (y2 : Int)) := blk_cell b9 2
              have d3 : w9.cell? ⟨qb, 3, none⟩ = some (.bool y3) := blk_cell b9 3
              have e1 := K9.out.cell c1 (by simp)
              have e3 := K9.out.cell x2 (by simp)
              have ew := K9.out.cell cw (by simp)
              clear hw9 hqb q0 q1 q2 q3 c1 x2 b9 cw
              go_region_law (first
                | (go_simp; go_at_call 85; refine (HST1.out qw _ (K9.out.drew) ew).mono ?_; rintro e w10 ⟨rfl, hk10⟩; have K10 := Lib.hid (K9.out.drew.trans hk10); obtain ⟨⟨x0, hx0⟩, hfz, hsto⟩ := (H4.out.kept0 K10.out).store hlt3; have HSTO := Lib.hid hsto; have e10 := hk10.cell e1 (by simp); clear hk10 hsto))
              all_goals
                go_wp2_with fail
                go_roundw
                case rel => exact ⟨t + 1, by omega, by go_num, by rw [HNX.out, ← nats_set, hrb, hrle]; exact HSTO.out _, KR3.out.trans ((K10.out.more (by simp)).setCell (.inl (by rw [hrb]; simp [ft])) _)⟩
                case measure => simp [intOf]; omega
            · obtain rfl : t = j := by omega
              clear hlt3
              obtain ⟨wE, rfl⟩ : ∃ v : World, v = wr := ⟨_, rfl⟩
              have hRA := HOR3.out
              have hKW := (KW8.out.more (F' := s :: ft ra) (by simp)).trans (KR3.out.more (F' := s :: ft ra) (fun b hb => by simp [hb]))
              have KW9 := Lib.hid hKW
              have hnF : n ∉ s :: ft ra := fun h => HSC.out.ap n h (by simp)
              have c0r : wE.cell? ⟨s, 0, none⟩ = some (.pointer (some ⟨n, 0, none⟩)) := blk_cell B9 0
              have c3r : wE.cell? ⟨s, 3, none⟩ = some (.slice ea nn ec) := blk_cell B9 3
              obtain ⟨nO, hnO⟩ : ∃ k, k = σ.N.outb.length := ⟨_, rfl⟩
              have HNO := Lib.hid hnO
              have n4 := hKW.cell HNC.out.c4 hnF
              rw [← hnO] at n4
              have hle4 : nO ≤ 1000000 := by have := HOK.out.fine.ok.ok; have := HOK.out.k7; omega
              have HBO := Lib.hid (HNC.out.ob.kept hKW (fun b hb hx => HSC.out.ap b hx (by simp [hb])) (fun b hb hx => HSC.out.ap b hx (by simp [hb])))
              have HB9 := Lib.hid B9
              have HRG := Lib.hid (show Own wE 79 ra σ.regs.length rc (nats .u64 (nextN σ.N ws σ.regs)) from by
                rw [← nextTo_all HOK.out.rl, ← HNR.out]
                exact hRA)
              have HC3 := Lib.hid c3r
              have HOL := Lib.hid (fun k (h : k < σ.N.outb.length) => show (outN σ.N ws)[k]? = some (σ.N.outb[k].lits.map (wd ws)) from by simp [outN, List.getElem?_eq_getElem h])
              clear hRA hKW B9 hnO c3r HOR3 HAT HPB HPR HPL HFA HFL HPS HINP HR HRL
              go_wp2_with fail
              go_loopw [18, 170] (fun v i w' => ∃ (k' : Nat) (a' : Option Addr) (c' : Nat) (rs' : List WR), k' ≤ nO ∧ i = .int .i64 k' ∧ v = .slice a' k' c' ∧ WRows w' a' k' c' rs' ∧ rs'.map (·.l) = (outN σ.N ws).take k' ∧ Kept [] wE w' ∧ (∀ b ∈ ft a', wE.heap.size ≤ b) ∧ ∀ b ∈ wrBlocks rs', wE.heap.size ≤ b ∧ b ∉ ft a') (fun _ i _ => nO - (intOf i).toNat)
              case atStart => exact ⟨0, none, 0, [], Nat.zero_le _, rfl, rfl, WRows.nil _, by simp, .refl _ _, by simp [ft], by simp [wrBlocks]⟩
              case round =>
                obtain ⟨d, a', c', rs', hd, rfl, rfl, hwr, hmp, hkz, hfa, hfb⟩ := hrel
                have HWR := Lib.hid hwr
                have HMP := Lib.hid hmp
                have KZ := Lib.hid hkz
                have HFA' := Lib.hid hfa
                have HFB' := Lib.hid hfb
                clear hwr hmp hkz hfa hfb c0r n4
                by_cases hlt4 : d < nO
                · have hkr1 : d < ro.length := by
                    have := HBO.out.is
                    have h2 : ro.length = σ.N.outb.length := by rw [← this]; simp
                    have := HNO.out
                    omega
                  have hkb : d < σ.N.outb.length := by rw [← HNO.out]; exact hlt4
                  obtain ⟨bb, hoa, b0, b1⟩ := (HBO.out.slb.kept0 KZ.out) d hkr1
                  have hrib : σ.N.outb[d] = ro[d].b := by
                    have h1 : (ro.map (·.b))[d]? = some ro[d].b := by rw [List.getElem?_map, List.getElem?_eq_getElem hkr1]; rfl
                    rw [HBO.out.is, List.getElem?_eq_getElem hkb] at h1
                    injection h1
                  have hLB := ((HBO.out.rows ro[d] (List.getElem_mem hkr1)).1.kept0 KZ.out)
                  have hol := HOK.out.fine.ok.ol σ.N.outb[d] (List.getElem_mem hkb)
                  have hTK : (outN σ.N ws).take (d + 1) = (outN σ.N ws).take d ++ [ro[d].b.lits.map (wd ws)] := by rw [List.take_add_one, HOL.out d hkb, hrib]; rfl
                  rw [hrib] at hol
                  have HTK := Lib.hid hTK
                  have hl64 := hol.2.1
                  have hlits : Lits ro[d].b.lits := fun x hx => Gr.ok_lt (hol.2.2.2 x hx) (by have := HOK.out.fine.ok.len; have := HOK.out.k7; omega)
                  have c3z := KZ.out.cell HC3.out (by simp)
                  have EAZ := Lib.hid (EA9.out.kept0 KZ.out)
                  have HOF := Lib.hid (fun (W : World) (hk : Kept [] wr W) => simof_c (s := s) ea ec nn ws ro[d].a ro[d].c ro[d].b.lits.length ro[d].b.lits W (hk.cell c3z (by simp)) HWL.out (EAZ.out.kept0 hk).sln HWW.out rfl (by omega) (hLB.kept0 hk) hlits)
                  clear hTK hol hlits hLB hrib c3z
                  subst hoa
                  generalize ro[d].b.name = nm at *
                  generalize ro[d].a = ba at *
                  generalize ro[d].c = bc at *
                  generalize ro[d].b.lits = L at *
                  obtain ⟨ln, hln⟩ : ∃ k, k = L.length := ⟨_, rfl⟩
                  have HLN := Lib.hid hln
                  rw [← hln] at b1 hl64 HOF
                  clear hln
                  have HOWZ := Lib.hid HWR.out.own
                  go_wp2_with fail
                  refine (HOF.out _ ((Kept.refl [] wr).alloc _)).mono ?_
                  rintro e w10 ⟨a5, c5, rfl, ho5, hst5⟩
                  have HO5 := Lib.hid ho5
                  have K5 := Lib.hid (((Kept.refl [] wr).alloc (.cells #[.string nm, .slice ba ln bc] 60)).trans hst5.kept)
                  have FR5 := Lib.hid (show ∀ b ∈ ft a5, wr.heap.size ≤ b from fun b hb => (hst5.fresh b hb).elim (by simp) (fun h => by simp at h; omega))
                  have hown10 := HOWZ.out.kept0 K5.out
                  clear ho5 hst5
                  go_wp2_with (at_builtin; refine wpList_push rfl rfl Tryz.underlying74 su64_info rfl rfl rfl hown10 rfl (by unfold maxLen; omega) (by omega) ?_; intro a1 c1 w11 hown11 hst11)
                  have HSN := Lib.hid (WRows.snoc (w0 := wr) (r := ⟨L.map (wd ws), a5, c5⟩) HWR.out K5.out (by simpa [HLN.out] using hown11) hst11 HO5.out.sln (fun b hb => ⟨HO5.out.lt b hb, fun hx => by have h1 := HWR.out.lt.1 b hx; have h2 := FR5.out b hb; omega⟩) (fun b hb => (HFB'.out b hb).2))
                  have K11 := Lib.hid (show Kept [] wE w11 from kept_up (KZ.out.trans K5.out) hst11.kept HFA'.out)
                  have FA11 := Lib.hid (show ∀ b ∈ ft a1, wE.heap.size ≤ b from fun b hb => (hst11.fresh b hb).elim (HFA'.out b) (fun h => Nat.le_trans (KZ.out.trans K5.out).size h))
                  have FB11 := Lib.hid (show ∀ b ∈ wrBlocks (rs' ++ [⟨L.map (wd ws), a5, c5⟩]), wE.heap.size ≤ b from fun b hb => by
                    obtain ⟨r, hr, hb⟩ := mem_wrBlocks.1 hb
                    rcases List.mem_append.1 hr with hr | hr
                    · exact (HFB'.out b (mem_wrBlocks.2 ⟨r, hr, hb⟩)).1
                    · rw [List.mem_singleton] at hr
                      subst hr
                      have h1 := FR5.out b hb
                      have h2 := KZ.out.size
                      omega)
                  clear hown11 hst11 hown10 b0 b1
                  go_wp2_with fail
                  go_roundw
                  case rel => exact ⟨d + 1, a1, c1, rs' ++ [⟨L.map (wd ws), a5, c5⟩], by omega, by go_num, rfl, HSN.out.1, by rw [List.map_append, HMP.out, HTK.out]; rfl, K11.out, FA11.out, fun b hb => ⟨FB11.out b hb, HSN.out.2 b hb⟩⟩
                  case measure => simp [intOf]; omega
                · obtain rfl : d = nO := by omega
                  have HMM := Lib.hid (show rs'.map (·.l) = outN σ.N ws from by
                    have := HMP.out
                    rwa [List.take_of_length_le (by simp [outN, HNO.out])] at this)
                  have z1 := KW9.out.size
                  have KF := Lib.hid (KW9.out.trans (KZ.out.more (F' := s :: ft ra) (by simp)))
                  have HLZ := Lib.hid (show σ.regs.length = (nextN σ.N ws σ.regs).length from by rw [nextN_length HOK.out.rl, HOK.out.rl])
                  go_wp2_with fail
                  refine bodyPost_ret (v := .tuple #[.slice a' d c', .int .i64 0]) (by simp [results, Tryz.results31, go_sem]) rfl ?_
                  refine ⟨a', c', rs', mm :: (ft ea ++ ((n :: (G ++ (ft ia ++ (ft xa ++ ft oa)))) ++ (rowsOf ri ++ rowsOf ro))), by rw [← HNO.out], by rw [← HNO.out]; exact HWR.out, by rw [← HWSE.out]; exact HMM.out, ⟨n, _, _, ra, rc, mm, f, ea, ec, rfl, rfl, ?_⟩, ⟨⟨KF.out, fun b hb => .inl hb⟩, ?_⟩, ?_⟩
                  · have hns : nextS σ inp = ⟨σ.N, nextN σ.N ws σ.regs, ws, σ.cy + 1⟩ := by unfold nextS; rw [← HWSE.out]
                    rw [hns]
                    refine ⟨?_, ?_, ?_, ?_, HSC.out.pl, ?_, ?_, ?_⟩
                    · have h := KZ.out.heap HB9.out (by simp)
                      have hcast : ((σ.cy : Int) + 1) = ((σ.cy + 1 : Nat) : Int) := by omega
                      rw [HLZ.out, ← HWL.out, hcast] at h
                      exact h
                    · exact HSC.out.net.kept KF.out (fun b hb hx => HSC.out.ap b hx (by simp only [List.mem_cons, List.mem_append] at hb ⊢; exact .inr (.inr (.inl hb)))) (fun b hb hx => HSC.out.ap b hx (by simp only [List.mem_cons, List.mem_append] at hb ⊢; exact .inr (.inr (.inr hb))))
                    · have h := HRG.out.kept0 KZ.out
                      rw [HLZ.out] at h
                      exact h
                    · have h := hLM.out.kept KF.out (fun hx => HSC.out.ap mm hx (by simp))
                      rw [HNI.out] at h
                      exact h
                    · exact (EA9.out.kept0 KZ.out).sln
                    · exact fun b hb => (EA9.out.kept0 KZ.out).lt b hb
                    · intro b hb hx
                      rcases List.mem_cons.1 hx with rfl | hx
                      · exact HSC.out.ap b hb (by simp)
                      · rcases List.mem_append.1 hx with hx | hx
                        · exact hes b hx hb
                        · exact HSC.out.ap b hb (List.mem_cons_of_mem _ (List.mem_append_right _ hx))
                  · intro b hb
                    rcases List.mem_cons.1 hb with rfl | hb
                    · exact .inl (by simp)
                    · rcases List.mem_append.1 hb with hb | hb
                      · exact .inr (FR6.out b hb)
                      · exact .inl (List.mem_cons_of_mem _ (List.mem_append_right _ hb))
                  · intro b hb
                    rcases List.mem_append.1 hb with hb | hb
                    · exact Nat.le_trans z1 (HFA'.out b hb)
                    · exact Nat.le_trans z1 (HFB'.out b hb).1
end Go.Proofs.YtdmcdhkkbkgnbaaGreat
