/-
  The document's simulation: Step (under way).
-/
import Derived.Test.YtielfgngdhcpfaaGreatP43
import Derived.StillTailTactics
namespace Go.Proofs.YtielfgngdhcpfaaGreat
open Go.ChangeShapes Go.WideShapes Go.ChangeAt Go.RowKit
open Go.Maps (Keyed)
open Go.WideMaps
set_option linter.unusedVariables false
set_option linter.unusedSimpArgs false

variable {w w' : World} {p n k q v : Nat} {F R S NF NR : List Nat} {g : Gr} {N : Nt} {σ : Sm}
theorem ref_three (hg : RefAt w q R g) : ∃ gb cn, w.cell? ⟨q, 2, none⟩ = some (.slice (some ⟨gb, 0, none⟩) g.nodes.length cn) ∧ ∀ (k a b : Nat), g.nodes[k]? = some (a, b) →
    (a / 2 = k → w.cell? ⟨gb, k * 3, none⟩ = some (.bool (decide (k ≠ 0))) ∧ w.cell? ⟨gb, k * 3 + 1, none⟩ = some (.int .u32 0) ∧ w.cell? ⟨gb, k * 3 + 2, none⟩ = some (.int .u32 0)) ∧
    (a / 2 ≠ k → w.cell? ⟨gb, k * 3, none⟩ = some (.bool false) ∧ w.cell? ⟨gb, k * 3 + 1, none⟩ = some (.int .u32 (a : Int)) ∧ w.cell? ⟨gb, k * 3 + 2, none⟩ = some (.int .u32 (b : Int))) := by
  have hp := hg.wf.pos
  obtain ⟨an, cn, rfl, hc⟩ := hg
  have c2 := hc.c2
  obtain ⟨gb, rfl, hcell⟩ := own3_form hc.nodes (by omega)
  refine ⟨gb, cn, c2, fun k a b hk => ?_⟩
  have h0 := rcells_get hk 0 (by omega)
  have h1 := rcells_get hk 1 (by omega)
  have h2 := rcells_get hk 2 (by omega)
  rw [show 3 * k = k * 3 by omega] at h0 h1 h2
  unfold rnV at h0 h1 h2
  refine ⟨fun he => ?_, fun he => ?_⟩
  · rw [if_pos he] at h0 h1 h2
    exact ⟨hcell _ _ h0, hcell _ _ h1, hcell _ _ h2⟩
  · rw [if_neg he] at h0 h1 h2
    exact ⟨hcell _ _ h0, hcell _ _ h1, hcell _ _ h2⟩
def RStep (v : Nat) (R : List Nat) (σ : Sm) (inp : List (List Nat)) (w : World) (e : Ending) (w' : World) : Prop :=
  ∃ a c rs R', e = .returned (.tuple #[.slice a σ.N.outb.length c, .int .i64 0]) ∧ WRows w' a σ.N.outb.length c rs ∧ rs.map (·.l) = outN σ.N (wordsN σ.N inp σ.regs) ∧ RSimAt w' v R' (nextS σ inp) ∧ Kept [v] w w' ∧ (∀ b ∈ R', b ∈ R ∨ w.heap.size ≤ b) ∧ ∀ b ∈ ft a ++ wrBlocks rs, w.heap.size ≤ b
set_option maxHeartbeats 6400000 in
set_option maxRecDepth 100000 in
theorem step08 {kk : Nat} (a : Option Addr) (m c : Nat) (rs : List WR) (h : RSimAt w v R σ) (hok : SmOk kk σ) (hz : checkN σ.N = 0) (hcy : σ.cy ≤ 1000000) (hr : WRows w a m c rs) (hb : fitB σ.N.inb (rs.map (·.l)) = true) (hrw : ∀ r ∈ rs, Words r.l) :
    Calls Tryz.prog 30 #[.pointer (some ⟨v, 0, none⟩), .slice a m c] w (RStep v R σ (rs.map (·.l)) w) := by
  have l1 := hok.fine.ok.len
  have l2 := hok.fine.ok.ik
  have l3 := hok.fine.ok.rk
  have l4 := hok.fine.ok.ok
  have l7 := hok.k7
  have hm : m = σ.N.inb.length := by have h1 := hr.len; have h2 := fitB_len hb; simp at h2; omega
  subst hm
  obtain ⟨n, NF, NR, ra, rc, wa, wc, rfl, hc⟩ := h
  obtain ⟨pp, ia, ic, rra, rrc, oa, oc, ri, ro, hp⟩ := rnet_parts hc.net
  have HP := Lib.hid hp
  have HCC := Lib.hid hc
  have HR := Lib.hid hr
  have HB := Lib.hid hb
  have HOK := Lib.hid hok
  have HRW := Lib.hid hrw
  have hfull : fullB σ.N = true := by
    unfold checkN at hz
    by_cases hb : fullB σ.N = true
    · exact hb
    · rw [if_neg hb] at hz; omega
  have HFU := Lib.hid (show ∀ i ∈ ins σ.N.g.nodes, 2 * i ∈ drivenN σ.N from fun i hi => by
    unfold fullB at hfull
    rw [List.all_eq_true] at hfull
    simpa using hfull i hi)
  have c0 : w.cell? ⟨v, 0, none⟩ = some (.pointer (some ⟨n, 0, none⟩)) := blk_cell hc.blk 0
  have C0 := Lib.hid c0
  have c2 := hp.c2
  clear hp hc hr hb hok hrw hz hfull
  go_enter Tryz.func30, Tryz.ntmps30; (try simp only [List.append])
  go_wp2_with fail
  go_loopw [6] (fun i wr => ∃ k : Nat, k ≤ σ.N.inb.length ∧ i = .int .i64 k ∧ Kept [] w wr) (fun i _ => σ.N.inb.length - (intOf i).toNat)
  case atStart => exact ⟨0, Nat.zero_le _, rfl, .refl _ _⟩
  case round =>
    clear c0 c2
    obtain ⟨k, hk, rfl, hkr⟩ := hrel
    have KR := Lib.hid hkr
    clear hkr
    have c0 := KR.out.cell C0.out (by simp)
    by_cases hlt : k < σ.N.inb.length
    · have hkr : k < ri.length := by have := congrArg List.length HP.out.im; simp at this; omega
      have hkg : k < rs.length := by rw [HR.out.len]; exact hlt
      have c2 := (HP.out.kept0 KR.out).c2
      obtain ⟨bb, rfl, b0, b1⟩ := (HP.out.kept0 KR.out).ib k hkr
      obtain ⟨bg, gra, grc, rfl, g1, g2⟩ := (HR.out.kept0 KR.out).spot k hkg
      have hll : rs[k].l.length = ri[k].b.lits.length := fitB_at HB.out (k := k) (b := ri[k].b) (by rw [← HP.out.im]; simp [hkr]) (by simp [hkg])
      rw [hll] at g1
      clear b0 g2 hll
      generalize ri[k].a = ba at *
      generalize ri[k].c = bc at *
      generalize ri[k].b.lits.length = ln at *
      go_wp2_with fail
      go_quiet (fail)
      go_wp2_with fail
      go_roundw
      case rel => exact ⟨k + 1, by omega, by go_num, by first | exact KR.out.drewN _ | exact KR.out.drew⟩
      case measure => simp [intOf]; omega
    · obtain rfl : k = σ.N.inb.length := by omega
      obtain ⟨G, hg⟩ := (HP.out.kept0 KR.out).gr
      obtain ⟨gb, cn, g2, gn⟩ := ref_three hg
      have cp := (HP.out.kept0 KR.out).c0
      clear gn hg
      obtain ⟨nn, hnn⟩ : ∃ nn, nn = σ.N.g.nodes.length := ⟨_, rfl⟩
      rw [← hnn] at g2 l1
      have HNN := Lib.hid hnn
      clear hnn hlt
      go_wp2_with (at_make; refine wpList_mk (n := nn) rfl rfl Tryz.underlying35 u64_info rfl rfl rfl (by omega) (by unfold maxLen; omega) ?_; intro w1 hown1 hst1; rw [nats_replicate] at hown1)
      obtain ⟨wo, hwo⟩ : ∃ b, b = wr.heap.size := ⟨_, rfl⟩
      rw [← hwo] at hown1 hst1 ⊢
      have K1 := Lib.hid (KR.out.trans hst1.kept)
      obtain ⟨WS, hWS⟩ : ∃ WS, WS = wordsN σ.N (rs.map (·.l)) σ.regs := ⟨_, rfl⟩
      have hrwl : ∀ r ∈ rs.map (·.l), Words r := fun r hr => by obtain ⟨y, hy, rfl⟩ := List.mem_map.1 hr; exact HRW.out y hy
      have hwl : WS.length = nn := by rw [hWS, HNN.out]; simp [wordsN, evalG_length]
      have HWW := Lib.hid (show Words WS from by rw [hWS]; exact wordsN_words hrwl HOK.out.rw)
      have hposn : 0 < nn := by rw [HNN.out]; exact HOK.out.fine.ok.wf.pos
      have hw0 : WS[0]'(by omega) = 0 := by
        have hz := zero_val (inp := inpN σ.N (rs.map (·.l)) σ.regs) HOK.out.fine.ok.wf
        have e : WS = valL (inpN σ.N (rs.map (·.l)) σ.regs) σ.N.g.nodes := by rw [hWS]; exact evalG_val HOK.out.fine.ok.wf _
        rw [← e] at hz
        rw [List.getElem?_eq_getElem (by omega)] at hz
        simpa using hz
      have HO1 := Lib.hid (show Own w1 34 (some ⟨wo, 0, none⟩) nn nn (nats .u64 (partW WS 1)) from by rw [partW_one (by omega) hw0, hwl]; exact hown1)
      have HWL := Lib.hid hwl
      have HWS := Lib.hid hWS
      have hwos : w.heap.size ≤ wo := by have := KR.out.size; omega
      clear hown1 hst1 hWS hwl hw0 hrwl g2 cp hwo c0
      go_loopw [8] (fun u wr => ∃ i : Nat, 1 ≤ i ∧ i ≤ nn ∧ u = .int .i64 i ∧ Own wr 34 (some ⟨wo, 0, none⟩) nn nn (nats .u64 (partW WS i)) ∧ Kept [] w wr) (fun u _ => nn - (intOf u).toNat)
      case atStart => exact ⟨1, by omega, by omega, rfl, HO1.out, K1.out⟩
      case round =>
        clear HO1 K1 KR hposn
        obtain ⟨i, hi1, hi, rfl, hor, hkr⟩ := hrel
        have HOR := Lib.hid hor
        have KR := Lib.hid hkr
        clear hor hkr
        have c0 := KR.out.cell C0.out (by simp)
        have cp := (HP.out.kept0 KR.out).c0
        by_cases hlt : i < nn
        · have hin : i < σ.N.g.nodes.length := by rw [← HNN.out]; exact hlt
          have hiw : i < WS.length := by rw [HWL.out]; exact hlt
          obtain ⟨⟨x, y⟩, hxy⟩ : ∃ z, σ.N.g.nodes[i]? = some z := ⟨_, List.getElem?_eq_getElem hin⟩
          obtain ⟨G, hg⟩ := (HP.out.kept0 KR.out).gr
          obtain ⟨gb, cn, g2, gn⟩ := ref_three hg
          obtain ⟨gn1, gn2⟩ := gn i x y hxy
          rw [← HNN.out] at g2
          obtain ⟨⟨x0, hx0⟩, _, _⟩ := HOR.out.store hlt
          have hx0' := fun o => cell_alloc hx0 o
          have hfz := fun o => ((HOR.out.alloc o).store hlt).2.1
          have HST := Lib.hid (fun o => ((HOR.out.alloc o).store hlt).2.2)
          have HSET := Lib.hid (partW_set hiw)
          clear gn hg
          by_cases hxi : x / 2 = i
          · obtain ⟨n1, n2, n3⟩ := gn1 hxi
            have hd : decide (i ≠ 0) = true := by simp; omega
            rw [hd] at n1
            have hmem : i ∈ ins σ.N.g.nodes := by
              have h0 := insFrom_mem6 0 σ.N.g.nodes i (x, y) hxy (by simpa using hxi) (by omega)
              rw [Nat.zero_add] at h0
              exact h0
            have HIN := Lib.hid (fun (W : World) (hW : Kept [] w W) => input08 (node := i) (kk := kk) (hW.cell C0.out (by simp)) (hW.cell (show w.cell? ⟨v, 1, none⟩ = some (.slice ra σ.regs.length rc) from blk_cell HCC.out.blk 1) (by simp)) (HCC.out.net.kept0 hW) (HCC.out.rg.sln.kept0 hW) HOK.out.fine l7 HB.out HOK.out.rl (HR.out.kept0 hW) rfl (HFU.out i hmem))
            have hval : wd WS (2 * i) = WS[i] := by
              unfold wd nodeW
              rw [if_neg (by omega), show 2 * i / 2 = i by omega, if_neg (by omega), List.getD_eq_getElem?_getD, List.getElem?_eq_getElem hiw]
              rfl
            rw [← HWS.out, hval] at HIN
            generalize WS[i] = u at *
            clear gn1 gn2 hd hmem hval hxi hxy
            go_wp2_with fail
            refine (HIN.out _ (KR.out.alloc _)).mono ?_
            rintro e w5 ⟨rfl, rfl⟩
            go_wp2_with fail
            go_roundw
            case rel => exact ⟨i + 1, by omega, by omega, by go_num, by rw [← HSET.out, ← nats_set]; exact HST.out _ _, (KR.out.alloc _).setCell (.inr hwos) _⟩
            case measure => simp [intOf]; omega
          · obtain ⟨n1, n2, n3⟩ := gn2 hxi
            have hlt2 : x / 2 < i ∧ y / 2 < i := by
              rcases HOK.out.fine.ok.wf.each i x y hxy with h | h
              · omega
              · omega
            have hgw : WS[i] = wd WS x &&& wd WS y := by
              have h := gate_word HOK.out.fine.ok.wf (inpN σ.N (rs.map (·.l)) σ.regs) hi1 hxy hxi
              have e : WS = evalG σ.N.g (inpN σ.N (rs.map (·.l)) σ.regs) := HWS.out
              rw [← e] at h
              rw [← h]
              unfold wd nodeW
              rw [if_neg (by omega), show 2 * i / 2 = i by omega, if_neg (by omega), List.getD_eq_getElem?_getD, List.getElem?_eq_getElem hiw]
              rfl
            obtain ⟨vx, hvx⟩ : ∃ vx, vx = wd WS x := ⟨_, rfl⟩
            obtain ⟨vy, hvy⟩ : ∃ vy, vy = wd WS y := ⟨_, rfl⟩
            have EA : bits .and .u64 (vx : Int) (vy : Int) = ((WS[i] : Nat) : Int) := by
              rw [hgw, hvx, hvy]
              exact u64_and_nat _ _ (wd_lt HWW.out x) (wd_lt HWW.out y)
            obtain ⟨wb, hwb⟩ : ∃ W, W = wr.alloc (.cells #[.bool false, .int .u32 (x : Int), .int .u32 (y : Int)] 141) := ⟨_, rfl⟩
            obtain ⟨br, hbr⟩ : ∃ b, b = wr.heap.size := ⟨_, rfl⟩
            have hKB : Kept [] wr wb := by rw [hwb]; exact (Kept.refl [] wr).alloc _
            have hbb : wb.heap[br]? = some (.cells #[.bool false, .int .u32 (x : Int), .int .u32 (y : Int)] 141 (0, 0)) := by rw [hwb, hbr]; exact heap_alloc_new wr _
            have HOB := Lib.hid (HOR.out.kept0 hKB)
            have HWX := Lib.hid (fun (W : World) (hW : Kept [] wb W) => show Calls Tryz.prog 62 #[.int .u32 (x : Int), .slice (some ⟨wo, 0, none⟩) nn nn] W (fun e w' => e = .returned (.int .u64 (vx : Int)) ∧ W = w') from by
              have h := word02 x (some ⟨wo, 0, none⟩) nn nn (partW WS i) W (by rw [partW_length WS (by omega), HWL.out]) (by omega) (HOB.out.kept0 hW).sln (partW_words HWW.out i)
              rw [partW_wd (by omega) hlt2.1, ← hvx] at h
              exact h)
            have HWY := Lib.hid (fun (W : World) (hW : Kept [] wb W) => show Calls Tryz.prog 62 #[.int .u32 (y : Int), .slice (some ⟨wo, 0, none⟩) nn nn] W (fun e w' => e = .returned (.int .u64 (vy : Int)) ∧ W = w') from by
              have h := word02 y (some ⟨wo, 0, none⟩) nn nn (partW WS i) W (by rw [partW_length WS (by omega), HWL.out]) (by omega) (HOB.out.kept0 hW).sln (partW_words HWW.out i)
              rw [partW_wd (by omega) hlt2.2, ← hvy] at h
              exact h)
            have hbo : br ≠ wo := fun h => by have := HOR.out.lt wo (by rw [mem_ft]); omega
            have HBO := Lib.hid hbo
            have KB := Lib.hid hKB
            generalize WS[i] = u at *
            clear gn1 gn2 hgw hvx hvy hlt2 hxi hxy hx0' hfz HST hx0 hKB hbo
            go_wp2_with fail
            rw [← hwb, ← hbr]
            clear hwb hbr n1 n2 n3
            have e1 : wb.cell? ⟨br, 1, none⟩ = some (.int .u32 (x : Int)) := blk_cell hbb 1
            have e2 : wb.cell? ⟨br, 2, none⟩ = some (.int .u32 (y : Int)) := blk_cell hbb 2
            obtain ⟨⟨x1, hx1⟩, hfz, hst⟩ := HOB.out.store hlt
            have HST := Lib.hid hst
            clear hst hbb
            have KA := Kept.refl [] wb
            go_region_held3 (fun W => W.cell? ⟨br, 1, none⟩ = some (.int .u32 (x : Int)) ∧ W.cell? ⟨br, 2, none⟩ = some (.int .u32 (y : Int)))
              (first | exact ⟨(((Kept.refl [wo] wb).setCell (p := ⟨wo, i, none⟩) (.inl (by simp)) _).drew).cell e1 (by simp; exact HBO.out), (((Kept.refl [wo] wb).setCell (p := ⟨wo, i, none⟩) (.inl (by simp)) _).drew).cell e2 (by simp; exact HBO.out)⟩ | go_keep)
              (first | (go_at_call 62; (with_reducible refine (HWX.out _ ?kk).mono ?_); (case kk => (repeat (first | with_reducible exact KA | with_reducible apply Kept.drew | with_reducible apply Kept.drewN))); rintro e w5 ⟨rfl, rfl⟩) | (go_at_call 62; (with_reducible refine (HWY.out _ ?kk).mono ?_); (case kk => (repeat (first | with_reducible exact KA | with_reducible apply Kept.drew | with_reducible apply Kept.drewN))); rintro e w5 ⟨rfl, rfl⟩))
            all_goals
              go_wp2_with fail
              go_roundw
              case rel => exact ⟨i + 1, by omega, by omega, by go_num, by rw [← HSET.out, ← nats_set]; exact (HST.out _).drew, (((KR.out.trans KB.out).setCell (.inr hwos) _)).drew⟩
              case measure => simp [intOf]; omega
        · obtain rfl : i = nn := by omega
          have HWO := Lib.hid (show Own wr 34 (some ⟨wo, 0, none⟩) i i (nats .u64 WS) from by
            have h := HOR.out
            have e : partW WS i = WS := by rw [← HWL.out]; exact partW_all WS
            rw [e] at h
            exact h)
          obtain ⟨nr, hnr⟩ : ∃ nr, nr = σ.regs.length := ⟨_, rfl⟩
          have C1 := Lib.hid (show w.cell? ⟨v, 1, none⟩ = some (.slice ra nr rc) from by rw [hnr]; exact blk_cell HCC.out.blk 1)
          have hrl : nr = σ.N.regs.length := by rw [hnr]; exact HOK.out.rl
          have HRL := Lib.hid hrl
          have HNR := Lib.hid hnr
          have hnr7 : nr ≤ 700 := by omega
          have HNL := Lib.hid (show (nextN σ.N WS σ.regs).length = nr from by simp [nextN]; omega)
          clear HOR hlt hrl hnr
          go_wp2_with fail
          go_loopw [10, 11] (fun x u wr => ∃ (k : Nat) (a5 : Option Addr) (c5 : Nat), k ≤ nr ∧ u = .int .i64 k ∧ x = .slice a5 k c5 ∧ Own wr 34 a5 k c5 (nats .u64 ((nextN σ.N WS σ.regs).take k)) ∧ Own wr 34 (some ⟨wo, 0, none⟩) i i (nats .u64 WS) ∧ Kept [] w wr ∧ ∀ b ∈ ft a5, w.heap.size ≤ b ∧ b ≠ wo) (fun _ u _ => nr - (intOf u).toNat)
          case atStart => exact ⟨0, none, 0, Nat.zero_le _, rfl, rfl, by simpa [nats] using Own.nil _ _, HWO.out, KR.out, by simp [ft]⟩
          case round =>
            clear HWO KR c0 cp
            obtain ⟨k, a5, c5, hk, rfl, rfl, ho5, hwo5, hky, hf5⟩ := hrel
            have HO5 := Lib.hid ho5
            have HWO := Lib.hid hwo5
            have KY := Lib.hid hky
            have HF5 := Lib.hid hf5
            clear ho5 hwo5 hky hf5
            have c0 := KY.out.cell C0.out (by simp)
            have c1 := KY.out.cell C1.out (by simp)
            by_cases hlt3 : k < nr
            · have hkl : k < σ.N.regs.length := by rw [← HRL.out]; exact hlt3
              have hkr2 : k < σ.regs.length := by rw [← HNR.out]; exact hlt3
              have c3 := (HP.out.kept0 KY.out).c3
              rw [← HRL.out] at c3
              obtain ⟨rb, hrb, r0, r1, r2, r3⟩ := (HP.out.kept0 KY.out).rb k hkl
              subst hrb
              obtain ⟨ar, har, rv⟩ := (HCC.out.rg.sln.kept0 KY.out) k hkr2
              subst har
              have hro := HOK.out.fine.ok.rl _ (List.getElem_mem hkl)
              have hsn : (nextN σ.N WS σ.regs).take (k + 1) = (nextN σ.N WS σ.regs).take k ++ [nextR WS σ.N.regs[k] σ.regs[k]] := by
                have h2 : k < (nextN σ.N WS σ.regs).length := by rw [HNL.out]; exact hlt3
                rw [List.take_succ_eq_append_getElem h2, next_get hkl hkr2 h2]
              have hw64 : σ.regs[k] < 18446744073709551616 := HOK.out.rw _ (List.getElem_mem hkr2)
              unfold nextR at hsn
              generalize σ.regs[k] = wk at *
              generalize σ.N.regs[k].q = xq at *
              generalize σ.N.regs[k].d = xd at *
              generalize σ.N.regs[k].en = xe at *
              generalize σ.N.regs[k].init = xi at *
              have od : xd / 2 < σ.N.g.nodes.length := hro.2.1
              have oe : xe / 2 < σ.N.g.nodes.length := hro.2.2
              obtain ⟨vd, hvd⟩ : ∃ vd, vd = wd WS xd := ⟨_, rfl⟩
              obtain ⟨ve, hve⟩ : ∃ ve, ve = wd WS xe := ⟨_, rfl⟩
              have hd64 : vd < 18446744073709551616 := by rw [hvd]; exact wd_lt HWW.out xd
              have he64 : ve < 18446744073709551616 := by rw [hve]; exact wd_lt HWW.out xe
              have HWD := Lib.hid (fun (W : World) (hW : Kept [] wr W) => show Calls Tryz.prog 62 #[.int .u32 (xd : Int), .slice (some ⟨wo, 0, none⟩) i i] W (fun e w' => e = .returned (.int .u64 (vd : Int)) ∧ W = w') from by
                have h := word02 xd (some ⟨wo, 0, none⟩) i i WS W HWL.out (by have := HNN.out; omega) (HWO.out.kept0 hW).sln HWW.out
                rw [← hvd] at h
                exact h)
              have HWE := Lib.hid (fun (W : World) (hW : Kept [] wr W) => show Calls Tryz.prog 62 #[.int .u32 (xe : Int), .slice (some ⟨wo, 0, none⟩) i i] W (fun e w' => e = .returned (.int .u64 (ve : Int)) ∧ W = w') from by
                have h := word02 xe (some ⟨wo, 0, none⟩) i i WS W HWL.out (by have := HNN.out; omega) (HWO.out.kept0 hW).sln HWW.out
                rw [← hve] at h
                exact h)
              rw [← hvd, ← hve] at hsn
              obtain ⟨m1, hm1⟩ : ∃ m1, m1 = vd &&& ve := ⟨_, rfl⟩
              obtain ⟨ne, hne⟩ : ∃ ne, ne = noW ve := ⟨_, rfl⟩
              obtain ⟨m2, hm2⟩ : ∃ m2, m2 = wk &&& ne := ⟨_, rfl⟩
              obtain ⟨res, hres⟩ : ∃ res, res = m1 ||| m2 := ⟨_, rfl⟩
              have hn64 : ne < 18446744073709551616 := by rw [hne]; exact noW_lt ve
              have E1 : bits .and .u64 (vd : Int) (ve : Int) = (m1 : Int) := by rw [hm1]; exact u64_and_nat _ _ hd64 he64
              have E2 : IntKind.u64.wrap (18446744073709551615 - (ve : Int)) = (ne : Int) := by
                have e : (18446744073709551615 : Int) - (ve : Int) = (ne : Int) := by rw [hne]; unfold noW; omega
                rw [e]
                exact IntWalk.u64_in _ (by omega)
              have E3 : bits .and .u64 (wk : Int) (ne : Int) = (m2 : Int) := by rw [hm2]; exact u64_and_nat _ _ hw64 hn64
              have E4 : bits .or .u64 (m1 : Int) (m2 : Int) = (res : Int) := by rw [hres]; exact u64_or_nat _ _ (by rw [hm1]; exact and_word hd64) (by rw [hm2]; exact and_word hw64)
              have HSN := Lib.hid (show (nextN σ.N WS σ.regs).take (k + 1) = (nextN σ.N WS σ.regs).take k ++ [res] from by rw [hsn, hres, hm1, hm2, hne])
              have c0' := fun o => cell_alloc c0 o
              have c1' := fun o => cell_alloc c1 o
              have rv' := fun o => cell_alloc rv o
              clear hsn hvd hve hm1 hm2 hne hres hro od oe hd64 he64 hn64 hw64
              go_wp2_with fail
              refine (HWD.out _ ((Kept.refl [] wr).alloc _)).mono ?_
              rintro e w5 ⟨rfl, rfl⟩
              go_wp2_with fail
              refine (HWE.out _ ((Kept.refl [] wr).alloc _)).mono ?_
              rintro e w5 ⟨rfl, rfl⟩
              have hown := HO5.out.alloc (.cells #[.int .u32 (xq : Int), .int .u32 (xd : Int), .int .u32 (xe : Int), .bool xi] 134)
              go_wp2_with (at_builtin; refine wpList_push2 (g := wr.heap.size + 1) (news := [.int .u64 (res : Int)]) rfl rfl Tryz.underlying35 u64_info rfl (by omega) rfl (by simp) rfl hown rfl (by simp [Value.oneCell']) (by unfold maxLen; omega) (by omega) rfl ?_; intro a6 c6 w6 hown6 hst6)
              go_roundw
              case rel =>
                have ka : Kept [] wr (wr.alloc (.cells #[.int .u32 (xq : Int), .int .u32 (xd : Int), .int .u32 (xe : Int), .bool xi] 134)) := (Kept.refl [] wr).alloc _
                have zk := KY.out.size
                have za := ka.size
                have hwol := HWO.out.lt wo (by rw [mem_ft])
                refine ⟨k + 1, a6, c6, by omega, by go_num, rfl, by rw [HSN.out, ← nats_append]; exact hown6, (HWO.out.kept0 ka).kept hst6.kept (fun b hb hx => by rw [mem_ft] at hb; exact (HF5.out b hx).2 hb), kept_up (KY.out.trans ka) hst6.kept (fun b hb => (HF5.out b hb).1), fun b hb => ?_⟩
                rcases hst6.fresh b hb with h | h
                · exact HF5.out b h
                · exact ⟨by omega, fun e => by omega⟩
              case measure => simp [intOf]; omega
            · obtain rfl : k = nr := by omega
              have HO6 := Lib.hid (show Own wr 34 a5 k c5 (nats .u64 (nextN σ.N WS σ.regs)) from by
                have h := HO5.out
                rw [List.take_of_length_le (by rw [HNL.out]; exact Nat.le_refl _)] at h
                exact h)
              have hblk := KY.out.heap HCC.out.blk (by simp)
              have v1 : wr.cell? ⟨v, 1, none⟩ = some (.slice ra k rc) := c1
              have v2 : wr.cell? ⟨v, 2, none⟩ = some (.slice wa σ.ws.length wc) := blk_cell hblk 2
              have v3 : wr.cell? ⟨v, 3, none⟩ = some (.int .i64 (σ.cy : Int)) := blk_cell hblk 3
              have f1 := blk_free hblk 1
              have f2 := blk_free hblk 2
              have f3 := blk_free hblk 3
              have BV := Lib.hid hblk
              have hcw : IntKind.i64.wrap ((σ.cy : Int) + 1) = (σ.cy : Int) + 1 := IntWalk.i64_in _ (by omega)
              clear HO5 hblk hlt3
              go_wp2_with fail
              obtain ⟨w6, hw6⟩ : ∃ W, W = ((wr.setCell ⟨v, 1, none⟩ (.slice a5 k c5)).setCell ⟨v, 2, none⟩ (.slice (some ⟨wo, 0, none⟩) i i)).setCell ⟨v, 3, none⟩ (.int .i64 ((σ.cy : Int) + 1)) := ⟨_, rfl⟩
              rw [← hw6]
              have hk6 : Kept [v] wr w6 := by rw [hw6]; exact (((Kept.refl [v] wr).setCell (.inl (by simp)) _).setCell (.inl (by simp)) _).setCell (.inl (by simp)) _
              have K6 := Lib.hid (show Kept [v] w w6 from (KY.out.more (by simp)).trans hk6)
              have hvlt := blk_lt HCC.out.blk
              have hrl' : (nextN σ.N WS σ.regs).length = k := HNL.out
              have hwl' : WS.length = i := HWL.out
              have RS6 := Lib.hid (show RSimAt w6 v (ft a5 ++ (ft (some ⟨wo, 0, none⟩) ++ (NF ++ NR))) (nextS σ (rs.map (·.l))) from by
                have e1 : (nextS σ (rs.map (·.l))).regs = nextN σ.N WS σ.regs := by rw [HWS.out]; rfl
                have e2 : (nextS σ (rs.map (·.l))).ws = WS := HWS.out.symm
                refine ⟨n, NF, NR, a5, c5, some ⟨wo, 0, none⟩, i, rfl, ?_, ?_, ?_, ?_, HCC.out.ap⟩
                · rw [e1, e2, hrl', hwl', hw6]
                  exact blk_set (blk_set (blk_set BV.out 1 _) 2 _) 3 _
                · exact HCC.out.net.kept K6.out (fun b hb hx => by simp at hx; subst hx; exact HCC.out.ap (by simp [hb])) (fun b hb hx => by simp at hx; subst hx; exact HCC.out.ap (by simp [hb]))
                · rw [e1, hrl']
                  exact HO6.out.kept hk6 (fun b hb hx => by simp at hx; have := (HF5.out b hb).1; omega)
                · rw [e2, hwl']
                  exact HWO.out.kept hk6 (fun b hb hx => by rw [mem_ft] at hb; simp at hx hb; omega))
              have HW6 := Lib.hid (show Own w6 34 (some ⟨wo, 0, none⟩) i i (nats .u64 WS) from HWO.out.kept hk6 (fun b hb hx => by rw [mem_ft] at hb; simp at hx hb; omega))
              have P6 := Lib.hid (rnet_parts (HCC.out.net.kept K6.out (fun b hb hx => by simp at hx; subst hx; exact HCC.out.ap (by simp [hb])) (fun b hb hx => by simp at hx; subst hx; exact HCC.out.ap (by simp [hb]))))
              have C06 := Lib.hid (show w6.cell? ⟨v, 0, none⟩ = some (.pointer (some ⟨n, 0, none⟩)) from by
                rw [hw6]
                exact blk_cell (blk_set (blk_set (blk_set BV.out 1 _) 2 _) 3 _) 0)
              clear v1 v2 v3 f1 f2 f3 BV hcw hw6 hk6 hrl' hwl' c0 c1
              obtain ⟨pp6, ia6, ic6, rra6, rrc6, oa6, oc6, ri6, ro6, hp6⟩ := P6.out
              have HP6 := Lib.hid hp6
              clear hp6 P6
              go_loopw [15, 16] (fun x u wr => ∃ (q : Nat) (a7 : Option Addr) (c7 : Nat) (rs7 : List WR), q ≤ σ.N.outb.length ∧ u = .int .i64 q ∧ x = .slice a7 q c7 ∧ WRows wr a7 q c7 rs7 ∧ rs7.map (·.l) = (outN σ.N WS).take q ∧ Kept [] w6 wr ∧ (∀ b ∈ ft a7, w6.heap.size ≤ b) ∧ ∀ b ∈ wrBlocks rs7, w6.heap.size ≤ b ∧ b ∉ ft a7) (fun _ u _ => σ.N.outb.length - (intOf u).toNat)
              case atStart => exact ⟨0, none, 0, [], Nat.zero_le _, rfl, rfl, WRows.nil _, by simp, .refl _ _, by simp [ft], by simp [wrBlocks]⟩
              case round =>
                obtain ⟨q, a7, c7, rs7, hq, rfl, rfl, hwr, hmp, hkz, hfa, hfb⟩ := hrel
                have HWR := Lib.hid hwr
                have HMP := Lib.hid hmp
                have KZ := Lib.hid hkz
                have HFA := Lib.hid hfa
                have HFB := Lib.hid hfb
                clear hwr hmp hkz hfa hfb
                obtain ⟨wA, rfl⟩ : ∃ v : World, v = wr := ⟨_, rfl⟩
                have c0 := KZ.out.cell C06.out (by simp)
                have c4 := (HP6.out.kept0 KZ.out).c4
                by_cases hq4 : q < σ.N.outb.length
                · have hqr : q < ro6.length := by have := congrArg List.length HP6.out.om; simp at this; omega
                  have hbq : σ.N.outb[q] = ro6[q].b := by
                    have := List.getElem_of_eq HP6.out.om.symm (i := q) hq4
                    rw [this]; simp
                  have hok := HOK.out.fine.ok.ol _ (List.getElem_mem hq4)
                  rw [hbq] at hok
                  have HGT := Lib.hid (show (outN σ.N WS).take (q + 1) = (outN σ.N WS).take q ++ [ro6[q].b.lits.map (wd WS)] from by
                    have h2 : q < (outN σ.N WS).length := by simp [outN]; exact hq4
                    have h3 : (outN σ.N WS)[q] = ro6[q].b.lits.map (wd WS) := by simp [outN, hbq]
                    rw [List.take_succ_eq_append_getElem h2, h3])
                  obtain ⟨bb, hbb6, b0, b1⟩ := HP6.out.ob q hqr
                  subst hbb6
                  have HLS := Lib.hid (HP6.out.or _ (List.getElem_mem hqr))
                  have HXO := Lib.hid hok.2.2.2
                  have hl64 := hok.2.1
                  clear hbq hok b0
                  generalize ro6[q].a = ba at *
                  generalize ro6[q].c = bc at *
                  generalize ro6[q].b.lits = L at *
                  obtain ⟨ln, hln⟩ : ∃ ln, ln = L.length := ⟨_, rfl⟩
                  rw [← hln] at b1 hl64
                  have HLN := Lib.hid hln
                  have B1 := Lib.hid b1
                  clear hln b1
                  go_wp2_with fail
                  go_loopw [17, 18] (fun y u wr => ∃ (j : Nat) (a8 : Option Addr) (c8 : Nat), j ≤ ln ∧ u = .int .i64 j ∧ y = .slice a8 j c8 ∧ Own wr 34 a8 j c8 (nats .u64 ((L.take j).map (wd WS))) ∧ Stepped wA wr [] (ft a8)) (fun _ u _ => ln - (intOf u).toNat)
                  case atStart => exact ⟨0, none, 0, Nat.zero_le _, rfl, rfl, by simpa [nats] using Own.nil _ _, .refl _ _⟩
                  case round =>
                    clear c0 c4
                    obtain ⟨j, a8, c8, hj, rfl, rfl, ho8, hst8⟩ := hrel
                    have HO8 := Lib.hid ho8
                    have HST8 := Lib.hid hst8
                    clear ho8 hst8
                    have KX := Lib.hid (KZ.out.trans HST8.out.kept)
                    have c0 := KX.out.cell C06.out (by simp)
                    have c4 := (HP6.out.kept0 KX.out).c4
                    have b1 := KX.out.cell B1.out (by simp)
                    by_cases hjl : j < ln
                    · have hj1 : j < L.length := by rw [← HLN.out]; exact hjl
                      obtain ⟨ad, had, lx⟩ := (HLS.out.kept0 KX.out) j hj1
                      subst had
                      have hxo : L[j] / 2 < σ.N.g.nodes.length := HXO.out _ (List.getElem_mem hj1)
                      have HTS := Lib.hid (show (L.take (j + 1)).map (wd WS) = (L.take j).map (wd WS) ++ [wd WS L[j]] from by rw [List.take_succ_eq_append_getElem hj1, List.map_append]; rfl)
                      generalize L[j] = x at *
                      have HWX := Lib.hid (word02 x (some ⟨wo, 0, none⟩) i i WS wr HWL.out (by have := HNN.out; omega) (HW6.out.kept0 KX.out).sln HWW.out)
                      obtain ⟨vx, hvx⟩ : ∃ vx, vx = wd WS x := ⟨_, rfl⟩
                      rw [← hvx] at HWX HTS
                      clear hvx hxo
                      go_wp2_with fail
                      refine HWX.out.mono ?_
                      rintro e w9 ⟨rfl, rfl⟩
                      have hown := HO8.out
                      go_wp2_with (at_builtin; refine wpList_push (u := .int .u64 (vx : Int)) rfl rfl Tryz.underlying35 u64_info rfl rfl rfl hown rfl (by unfold maxLen; omega) (by omega) ?_; intro a9 c9 w9 hown9 hst9)
                      go_roundw
                      case rel => exact ⟨j + 1, a9, c9, by omega, by go_num, rfl, by rw [HTS.out, ← nats_append]; exact hown9, HST8.out.trans hst9⟩
                      case measure => simp [intOf]; omega
                    · obtain rfl : j = ln := by omega
                      have HO9 := Lib.hid (show Own wr 34 a8 j c8 (nats .u64 (L.map (wd WS))) from by
                        have h := HO8.out
                        rw [List.take_of_length_le (by rw [← HLN.out]; exact Nat.le_refl _)] at h
                        exact h)
                      have K5 := Lib.hid HST8.out.kept
                      have FR5 := Lib.hid (show ∀ b ∈ ft a8, wA.heap.size ≤ b from fun b hb => (HST8.out.fresh b hb).elim (by simp) id)
                      have hown10 := HWR.out.own.kept0 K5.out
                      have HL5 := Lib.hid (show (L.map (wd WS)).length = j from by rw [List.length_map]; exact HLN.out.symm)
                      go_wp2_with (at_builtin; refine wpList_push rfl rfl Tryz.underlying25 su64_info rfl rfl rfl hown10 rfl (by unfold maxLen; omega) (by omega) ?_; intro a1 c1 w11 hown11 hst11)
                      have HSN := Lib.hid (WRows.snoc (w0 := wA) (r := ⟨L.map (wd WS), a8, c8⟩) HWR.out K5.out (by show Own _ _ _ _ _ (wrCells rs7 ++ [.slice a8 (L.map (wd WS)).length c8]); rw [HL5.out]; exact hown11) hst11 HO9.out.sln (fun b hb => ⟨HO9.out.lt b hb, fun hx => by have h1 := HWR.out.lt.1 b hx; have h2 := FR5.out b hb; omega⟩) (fun b hb => (HFB.out b hb).2))
                      have K11 := Lib.hid (show Kept [] w6 w11 from kept_up (KZ.out.trans K5.out) hst11.kept HFA.out)
                      have FA11 := Lib.hid (show ∀ b ∈ ft a1, w6.heap.size ≤ b from fun b hb => (hst11.fresh b hb).elim (HFA.out b) (fun h => Nat.le_trans (KZ.out.trans K5.out).size h))
                      have FB11 := Lib.hid (show ∀ b ∈ wrBlocks (rs7 ++ [⟨L.map (wd WS), a8, c8⟩]), w6.heap.size ≤ b from fun b hb => by
                        obtain ⟨r, hr, hb⟩ := mem_wrBlocks.1 hb
                        rcases List.mem_append.1 hr with hr | hr
                        · exact (HFB.out b (mem_wrBlocks.2 ⟨r, hr, hb⟩)).1
                        · rw [List.mem_singleton] at hr
                          subst hr
                          have h1 := FR5.out b hb
                          have h2 := KZ.out.size
                          omega)
                      clear hown11 hst11 hown10
                      go_roundw
                      case rel => exact ⟨q + 1, a1, c1, rs7 ++ [⟨L.map (wd WS), a8, c8⟩], by omega, by go_num, rfl, HSN.out.1, by rw [List.map_append, HMP.out, HGT.out]; rfl, K11.out, FA11.out, fun b hb => ⟨FB11.out b hb, HSN.out.2 b hb⟩⟩
                      case measure => simp [intOf]; omega
                · obtain rfl : q = σ.N.outb.length := by omega
                  have hol : (outN σ.N WS).length = σ.N.outb.length := by simp [outN]
                  have HMQ := Lib.hid (show rs7.map (·.l) = outN σ.N WS from by
                    have h := HMP.out
                    rw [List.take_of_length_le (by rw [hol]; exact Nat.le_refl _)] at h
                    exact h)
                  clear hol HMP
                  go_wp2_with fail
                  go_ret2
                  have z6 := K6.out.size
                  refine ⟨a7, c7, rs7, _, rfl, HWR.out, by rw [HMQ.out, HWS.out], RS6.out.kept0 KZ.out, K6.out.trans (KZ.out.more (by simp)), fun b hb => ?_, fun b hb => ?_⟩
                  · simp only [List.mem_append] at hb ⊢
                    rcases hb with hb | hb | hb
                    · exact .inr (HF5.out b hb).1
                    · rw [mem_ft] at hb
                      exact .inr (by rw [hb]; exact hwos)
                    · exact .inl (.inr (.inr hb))
                  · rcases List.mem_append.1 hb with hb | hb
                    · exact Nat.le_trans z6 (HFA.out b hb)
                    · exact Nat.le_trans z6 (HFB.out b hb).1
end Go.Proofs.YtielfgngdhcpfaaGreat
