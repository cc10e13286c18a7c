/-
  Package sweep: whether any is stuck; how many gates are leant on.
  Package sweep: a graph's options; one sweep: which registers go on.
-/
import Derived.Test.YtdmcdhkkbkgnbaaGreatP23
import Derived.Test.YtdmcdhkkbkgnbaaGreatP29
import Derived.Test.YtdmcdhkkbkgnbaaGreatP25
namespace Go.Proofs.YtdmcdhkkbkgnbaaGreat
open Go.ChangeShapes Go.WideShapes Go.ChangeAt Go.RowKit
open Go.Maps (Keyed)
open Go.WideMaps
set_option linter.unusedVariables false
set_option linter.unusedSimpArgs false

variable {w w' W w0 : World} {p n n' k m s mp gd fb : Nat} {fcs : Array Value} {F R S F' R' F'' R'' : List Nat} {g : Gr} {N M M' : Nt} {φ ψ : Nat → Option Nat} {wl : List Nat}
set_option maxRecDepth 100000 in
theorem aig_opts (hg : GraphAt w p F g) : Calls Tryz.prog 40 #[.pointer (some ⟨p, 0, none⟩)] w fun e w' => e = .returned (.agg #[.bool g.fold, .bool g.hash]) ∧ Kept [] w w' := by
  obtain ⟨an, cn, ai, ci, m, f, rfl, hc⟩ := hg
  have c0 := hc.c0
  have c1 := hc.c1
  have c4 := hc.c4
  clear hc
  generalize g.fold = o1 at *
  generalize g.hash = o2 at *
  go_enter Tryz.func40, Tryz.ntmps40
  go_upto_region 1 with (fail)
  obtain ⟨w1, hw1⟩ : ∃ v, v = w.alloc (.cells #[.bool false, .bool false] 23) := ⟨_, rfl⟩
  obtain ⟨b, hb⟩ : ∃ v, v = w.heap.size := ⟨_, rfl⟩
  have K1 := Lib.hid (show Kept [] w w1 from by rw [hw1]; exact (Kept.refl [] w).alloc _)
  have hbl : w1.heap[b]? = some (.cells #[.bool false, .bool false] 23 (0, 0)) := by rw [hw1, hb]; exact heap_alloc_new w _
  have HGE := Lib.hid (show w.heap.size ≤ b from by rw [hb]; exact Nat.le_refl _)
  rw [← hw1, ← hb]
  have c0' := K1.out.cell c0 (by simp)
  have c1' := K1.out.cell c1 (by simp)
  have c4' := K1.out.cell c4 (by simp)
  have d0 : w1.cell? ⟨b, 0, none⟩ = some (.bool false) := blk_cell hbl 0
  have d1 : w1.cell? ⟨b, 1, none⟩ = some (.bool false) := blk_cell hbl 1
  have f0 : w1.frozen? ⟨b, 0, none⟩ = false := blk_free hbl 0
  have f1 : w1.frozen? ⟨b, 1, none⟩ = false := blk_free hbl 1
  clear hw1 hb c0 c1 c4
  go_wp2_with fail
  refine (aig_none p m _ c4').mono ?_
  rintro e w' ⟨rfl, rfl⟩
  go_wp2_with fail
  have K2 := Lib.hid ((K1.out.setCell (p := ⟨b, 0, none⟩) (.inr HGE.out) (.bool o1)).setCell (p := ⟨b, 1, none⟩) (.inr HGE.out) (.bool o2))
  have h2 := blk_set (blk_set hbl 0 (.bool o1)) 1 (.bool o2)
  have e0 := blk_cell h2 0
  have e1 := blk_cell h2 1
  simp at e0 e1
  refine bodyPost_ret (v := .agg #[.bool o1, .bool o2]) (by simp [results, Tryz.results40, go_sem, e0, e1]) rfl ?_
  exact ⟨rfl, K2.out⟩
def OnceNew (N : Nt) (w : World) (e : Ending) (w' : World) : Prop := ∃ n' F' R', e = .returned (.tuple #[.pointer (some ⟨n', 0, none⟩), .int .i64 0]) ∧ NetAt w' n' F' R' (onceN N) ∧ Kept [] w w' ∧ ∀ b ∈ F' ++ R', w.heap.size ≤ b
def NetNone (c : Nat) (w : World) (e : Ending) (w' : World) : Prop := e = .returned (.tuple #[.pointer none, .int .i64 (c : Nat)]) ∧ Kept [] w w'
def goesTo (N : Nt) (j : Nat) : List Bool := (goesL N).take j ++ (neededN N).drop j
theorem goesTo_len (hf : NtFine k N) {j : Nat} (h : j ≤ N.regs.length) : (goesTo N j).length = N.regs.length := by
  unfold goesTo
  rw [List.length_append, List.length_take, List.length_drop, goesL_length, needed_length hf]
  omega
theorem goesTo_zero (N : Nt) : goesTo N 0 = neededN N := by simp [goesTo]
theorem goesTo_all (hf : NtFine k N) : goesTo N N.regs.length = goesL N := by
  unfold goesTo
  rw [List.take_of_length_le (by rw [goesL_length]; exact Nat.le_refl _), List.drop_of_length_le (by rw [needed_length hf]; exact Nat.le_refl _), List.append_nil]
theorem goesTo_get (hf : NtFine k N) {j : Nat} (h : j < N.regs.length) : (goesTo N j).getD j false = (neededN N).getD j false := by
  unfold goesTo
  rw [List.getD_eq_getElem?_getD, List.getElem?_append_right (by rw [List.length_take, goesL_length]; omega), List.length_take, goesL_length, Nat.min_eq_left (Nat.le_of_lt h), Nat.sub_self, List.getElem?_drop, Nat.add_zero, List.getD_eq_getElem?_getD]
theorem goesTo_succ (hf : NtFine k N) {j : Nat} (h : j < N.regs.length) : (goesTo N j).set j (goesB N j) = goesTo N (j + 1) := by
  have h1 : j < (goesL N).length := by rw [goesL_length]; exact h
  have h2 : j < (neededN N).length := by rw [needed_length hf]; exact h
  have hg : (goesL N)[j] = goesB N j := (List.getElem?_eq_some_iff.1 (goesL_get N h)).2
  unfold goesTo
  rw [List.take_succ_eq_append_getElem h1, hg, List.drop_eq_getElem_cons h2, List.set_append_right _ _ (by rw [List.length_take]; omega), List.length_take, Nat.min_eq_left (Nat.le_of_lt h1), Nat.sub_self, List.set_cons_zero, List.append_assoc]
  rfl
def StageAt (w0 w : World) (s n n' mp gd fb : Nat) (fcs : Array Value) (N : Nt) (i : Nat) : Prop :=
  ∃ F' R', (i = 0 → SwpAt w0 w s n n' mp gd fb fcs F' R' N (newN N.name N.g.fold N.g.hash) (fun _ => none) []) ∧ (i = 1 → SwpAt w0 w s n n' mp gd fb fcs F' R' N (regTo N N.regs.length) (regM N N.regs.length) (wantedN N)) ∧ (i = 2 → SwpAt w0 w s n n' mp gd fb fcs F' R' N (onceN N) (regM N N.regs.length) (wantedN N))
set_option maxHeartbeats 6400000 in
set_option maxRecDepth 100000 in
theorem Once_c (h : NetAt w n F R N) (hf : NtFine k N) (hk : k ≤ 600) : Calls Tryz.prog 10 #[.pointer (some ⟨n, 0, none⟩)] w (if checkN N = 0 then OnceNew N w else NetNone (checkN N) w) := by
  have HNE := Lib.hid (Needed_c h hf (by omega))
  have HF := Lib.hid hf
  have HH := Lib.hid h
  obtain ⟨cn, hcn⟩ : ∃ c, c = checkN N := ⟨_, rfl⟩
  rw [← hcn] at HNE ⊢
  clear hcn
  by_cases h0 : cn = 0
  · rw [if_pos h0] at HNE ⊢
    subst h0
    obtain ⟨pp, G, ia, ic, ra, rc, oa, oc, ri, ro, hFe, hRe, hc⟩ := h
    have HC := Lib.hid hc
    have HST := Lib.hid (fun r V => stuck_c r V)
    unfold rgV at HST
    obtain ⟨nR, hnR⟩ : ∃ m, m = N.regs.length := ⟨_, rfl⟩
    have HNR := Lib.hid hnR
    have HLN := Lib.hid (needed_length hf)
    have hnr : nR ≤ 600 := by rw [hnR]; have := hf.ok.rk; omega
    have hmm := @run_makeMap Tryz.prog
    clear hc hFe hRe hf hnR
    go_enter Tryz.func10, Tryz.ntmps10
    go_wp2_with fail
    refine HNE.out.mono ?_
    rintro e w1 ⟨gd, rfl, ho1, k1, hge1⟩
    rw [HLN.out, ← HNR.out] at ho1 ⊢
    have K1 := Lib.hid k1
    have HO1 := Lib.hid ho1
    have HGE := Lib.hid hge1
    have c3 := k1.cell HC.out.c3 (by simp)
    rw [← HNR.out] at c3
    have HRG := Lib.hid (show ∀ b ∈ ft ra, b ≠ gd from fun b hb e => by
      have h1 := owns_lt HC.out.rb b hb
      have h2 := HGE.out
      omega)
    clear ho1 k1 hge1
    go_wp2_with fail
    clear c3
    go_loopw [26] (fun v wr => ∃ j : Nat, j ≤ nR ∧ v = .int .i64 j ∧ Own wr 4 (some ⟨gd, 0, none⟩) nR nR (bls (goesTo N j)) ∧ Kept [] w wr) (fun v _ => nR - (intOf v).toNat)
    case atStart => exact ⟨0, Nat.zero_le _, rfl, by rw [goesTo_zero]; exact HO1.out, K1.out⟩
    case round =>
      obtain ⟨j, hj, rfl, hown, hkr⟩ := hrel
      have HO := Lib.hid hown
      have KR := Lib.hid hkr
      clear hown hkr
      by_cases hlt : j < nR
      · have hjl : j < N.regs.length := by rw [← HNR.out]; exact hlt
        obtain ⟨gr, rfl, e0, e1, e2, e3⟩ := ((regs_sl (l := N.regs) rfl HC.out.rb).kept0 KR.out) j hjl
        have hgd : N.regs.getD j ⟨0, 0, 0, false⟩ = N.regs[j]'hjl := by rw [List.getD_eq_getElem?_getD, List.getElem?_eq_getElem hjl]; rfl
        have HGB := Lib.hid (show goesB N j = ((neededN N).getD j false && !stuckR (N.regs.getD j ⟨0, 0, 0, false⟩)) from rfl)
        have HTS := Lib.hid (goesTo_succ HF.out hjl)
        have HTG := Lib.hid (goesTo_get HF.out hjl)
        have HTL := Lib.hid (goesTo_len HF.out (Nat.le_of_lt hjl))
        rw [hgd] at HGB
        generalize N.regs[j] = r at *
        obtain ⟨q, d, en, init⟩ := r
        simp only at e0 e1 e2 e3
        have HSC := Lib.hid (fun V => HST.out ⟨q, d, en, init⟩ V)
        simp only at HSC
        obtain ⟨sb, hsb⟩ : ∃ b, b = stuckR ⟨q, d, en, init⟩ := ⟨_, rfl⟩
        rw [← hsb] at HSC HGB
        have j0 : (0 : Int) ≤ (j : Int) := by omega
        have j1 : (j : Int) < (nR : Int) := by omega
        clear hgd hsb
        go_upto_region 7 with (fail)
        obtain ⟨w5, hw5⟩ : ∃ v, v = wr.alloc (.cells #[.int .u32 (q : Int), .int .u32 (d : Int), .int .u32 (en : Int), .bool init] 63) := ⟨_, rfl⟩
        obtain ⟨b5, hb5⟩ : ∃ v, v = wr.heap.size := ⟨_, rfl⟩
        have K5 := Lib.hid (show Kept [] wr w5 from by rw [hw5]; exact (Kept.refl [] wr).alloc _)
        have hbl : w5.heap[b5]? = some (.cells #[.int .u32 (q : Int), .int .u32 (d : Int), .int .u32 (en : Int), .bool init] 63 (0, 0)) := by rw [hw5, hb5]; exact heap_alloc_new wr _
        rw [← hw5, ← hb5]
        have HO5 := Lib.hid (HO.out.kept0 K5.out)
        have d0 : w5.cell? ⟨b5, 0, none⟩ = some (.int .u32 (q : Int)) := blk_cell hbl 0
        have d1 : w5.cell? ⟨b5, 1, none⟩ = some (.int .u32 (d : Int)) := blk_cell hbl 1
        have d2 : w5.cell? ⟨b5, 2, none⟩ = some (.int .u32 (en : Int)) := blk_cell hbl 2
        have d3 : w5.cell? ⟨b5, 3, none⟩ = some (.bool init) := blk_cell hbl 3
        have cgd := own_cell_b HO5.out j (by rw [HTL.out]; exact hjl)
        rw [HTG.out] at cgd
        clear hw5 hb5 hbl e0 e1 e2 e3 hjl
        cases hb : (neededN N).getD j false with
        | false =>
          rw [hb] at cgd HGB
          have HG2 := Lib.hid (show goesB N j = false from by rw [HGB.out]; rfl)
          have HPUT := Lib.hid (own_put HO5.out (KR.out.trans K5.out) HGE.out hlt false)
          obtain ⟨⟨v1, q6⟩, q7, _⟩ := HO5.out.store (j := j) hlt
          clear hb HGB
          go_wp2_with fail
          go_roundw
          case rel => exact ⟨j + 1, by omega, by go_num, by rw [← HTS.out, HG2.out]; exact HPUT.out.1, HPUT.out.2⟩
          case measure => simp [intOf]; omega
        | true =>
          rw [hb] at cgd HGB
          have HG2 := Lib.hid (show goesB N j = !sb from by rw [HGB.out]; rfl)
          clear hb HGB
          go_wp2_with fail
          refine (HSC.out _).mono ?_
          rintro e w6 ⟨rfl, k6⟩
          have HO6 := Lib.hid (HO5.out.kept0 k6)
          have HPUT := Lib.hid (own_put HO6.out ((KR.out.trans K5.out).trans k6) HGE.out hlt (!sb))
          obtain ⟨⟨v1, q6⟩, q7, _⟩ := HO6.out.store (j := j) hlt
          clear k6 d0 d1 d2 d3 cgd
          go_wp2_with fail
          go_roundw
          case rel => exact ⟨j + 1, by omega, by go_num, by rw [← HTS.out, HG2.out]; exact HPUT.out.1, HPUT.out.2⟩
          case measure => simp [intOf]; omega
      · obtain rfl : j = nR := by omega
        have HGO := Lib.hid (show Own wr 4 (some ⟨gd, 0, none⟩) j j (bls (goesL N)) from by
          have h := HO.out
          rw [HNR.out, goesTo_all HF.out] at h
          rw [HNR.out]
          exact h)
        have HOP := Lib.hid (fun (V : World) (hV : Kept [] wr V) => aig_opts (HC.out.gr.kept0 (KR.out.trans hV)))
        have HNW := Lib.hid (fun (V : World) => new_net N.name N.g.fold N.g.hash V (by have := mayB_size HF.out.nm; omega) HF.out.nm)
        have c0 := KR.out.cell HC.out.c0 (by simp)
        have c1 := KR.out.cell HC.out.c1 (by simp)
        obtain ⟨nN, hnN⟩ : ∃ M, M = newN N.name N.g.fold N.g.hash := ⟨_, rfl⟩
        rw [← hnN] at HNW
        have HNN := Lib.hid hnN
        generalize N.g.fold = o1 at HOP HNW
        generalize N.g.hash = o2 at HOP HNW
        obtain ⟨nm, hnm⟩ : ∃ x, x = N.name := ⟨_, rfl⟩
        rw [← hnm] at HNW c1
        clear HO hnN hnm
        go_upto_region 9 with (fail)
        go_region_held3 (fun V => V.cell? ⟨n, 0, none⟩ = some (.pointer (some ⟨pp, 0, none⟩)) ∧ V.cell? ⟨n, 1, none⟩ = some (.string nm))
          (first | exact keep_2f (w := wr) (F := []) (by (repeat (first | with_reducible exact Kept.refl _ _ | with_reducible apply Kept.drew | with_reducible apply Kept.drewN | with_reducible apply Kept.alloc | refine Kept.trans ?_ k4 | refine Kept.trans ?_ k2))) c0 c1 (by simp) (by simp) | go_keep)
          (first
            | (go_at_call 40; (with_reducible refine (HOP.out _ ?kk).mono ?_); (case kk => ((repeat (first | with_reducible exact Kept.refl _ _ | with_reducible apply Kept.drew | with_reducible apply Kept.drewN | with_reducible apply Kept.alloc | refine Kept.trans ?_ k4 | refine Kept.trans ?_ k2)))); rintro e u2 ⟨rfl, k2⟩)
            | (go_at_call 32; (with_reducible refine (HNW.out _).mono ?_); rintro e w4 ⟨n', F4, rfl, hn4, k4, hf4⟩))
        have K4 := Lib.hid (show Kept [] wr w4 from by (repeat (first | with_reducible exact Kept.refl _ _ | with_reducible apply Kept.drew | with_reducible apply Kept.drewN | with_reducible apply Kept.alloc | refine Kept.trans ?_ k4 | refine Kept.trans ?_ k2)))
        have K2 := Lib.hid (show Kept [] w u2 from KR.out.trans (by refine Kept.trans ?_ k2; with_reducible apply Kept.drew; exact Kept.refl _ _))
        have NA4 := Lib.hid hn4
        have HF4 := Lib.hid (show ∀ b ∈ F4, w.heap.size ≤ b from fun b hb => Nat.le_trans K2.out.size (hf4 b hb))
        have HF4b := Lib.hid (show ∀ b ∈ F4, b ≠ gd from fun b hb e => by
          have h1 := hf4 b hb
          have h2 := HGO.out.lt gd (by simp [ft])
          have h3 : wr.drew.heap.size ≤ u2.heap.size := k2.size
          have h4 : wr.heap.size ≤ u2.heap.size := h3
          omega)
        have HO4 := Lib.hid (HGO.out.kept0 K4.out)
        clear k4 k2 hn4 hf4 c0 c1 HOP HNW
        go_upto_region 13 with (fail)
        obtain ⟨w5, hw5⟩ : ∃ v, v = w4.alloc (Obj.map #[] 0) := ⟨_, rfl⟩
        obtain ⟨mp, hmp⟩ : ∃ v, v = w4.heap.size := ⟨_, rfl⟩
        have K45 : Kept [] w4 w5 := by rw [hw5]; exact (Kept.refl [] w4).alloc _
        have hsz : w4.heap.size + 1 = w5.heap.size := by rw [hw5]; simp
        have hm5 : SdMap w5 mp (fun _ => none) := by
          have h := MapV.new w4 Tryz.prog 3
          rw [sdF_none] at h
          rw [hw5, hmp]
          exact h
        rw [hsz, ← hw5, ← hmp]
        obtain ⟨w6, hw6⟩ : ∃ v, v = w5.alloc (.cells #[.pointer (some ⟨n, 0, none⟩), .pointer (some ⟨n', 0, none⟩), .slice (some ⟨gd, 0, none⟩) j j, .map (some mp), .slice none 0 0] 99) := ⟨_, rfl⟩
        obtain ⟨s, hs⟩ : ∃ v, v = w5.heap.size := ⟨_, rfl⟩
        have K56 : Kept [] w5 w6 := by rw [hw6]; exact (Kept.refl [] w5).alloc _
        have hs6 : w6.heap[s]? = some (.cells #[.pointer (some ⟨n, 0, none⟩), .pointer (some ⟨n', 0, none⟩), .slice (some ⟨gd, 0, none⟩) j j, .map (some mp), .slice none 0 0] 99 (0, 0)) := by rw [hw6, hs]; exact heap_alloc_new w5 _
        rw [← hw6, ← hs]
        have K6 := Lib.hid (((KR.out.trans K4.out).trans K45).trans K56)
        have HS6 := Lib.hid hs6
        have HM6 := Lib.hid (MapV.kept (F := []) hm5 K56 (by simp))
        have K46 := Lib.hid (K45.trans K56)
        have HMS := Lib.hid (show w4.heap.size ≤ mp ∧ w4.heap.size ≤ s from ⟨by rw [hmp]; exact Nat.le_refl _, by rw [hs]; exact K45.size⟩)
        clear hw5 hmp K45 hsz hm5 hw6 hs K56 hs6
        go_wp2_with fail
        obtain ⟨fcs, hfcs⟩ : ∃ v : Array Value, v = #[.func (.func 41) #[.pointer (some ⟨s, 0, none⟩)] #[], .func (.func 42) #[.pointer (some ⟨s, 0, none⟩)] #[]] := ⟨_, rfl⟩
        obtain ⟨w7, hw7⟩ : ∃ v, v = w6.alloc (.cells fcs 52) := ⟨_, rfl⟩
        obtain ⟨fb, hfb⟩ : ∃ v, v = w6.heap.size := ⟨_, rfl⟩
        have K67 : Kept [] w6 w7 := by rw [hw7]; exact (Kept.refl [] w6).alloc _
        have hf7 : w7.heap[fb]? = some (.cells fcs 52 (0, 0)) := by rw [hw7, hfb]; exact heap_alloc_new w6 _
        rw [← hfcs, ← hw7, ← hfb]
        have SW0 := Lib.hid (show SwpAt w w7 s n n' mp gd fb fcs F4 [] N (newN N.name N.g.fold N.g.hash) (fun _ => none) [] from by
          have hl := NA4.out.lt.1
          refine ⟨⟨none, 0, ?_, Own.nil _ _, by simp [ft]⟩, ?_, MapV.kept HM6.out K67 (by simp), ?_, K6.out.trans K67, ?_, ?_, hf7⟩
          · rw [← HNR.out]; exact K67.heap HS6.out (by simp)
          · rw [← HNN.out]; exact (NA4.out.kept0 K46.out).kept0 K67
          · rw [← HNR.out]; exact (HO4.out.kept0 K46.out).kept0 K67
          · intro b hb
            rw [List.append_nil] at hb
            exact HF4.out b hb
          · intro b hb
            have h2 := HMS.out
            have h3 : w.heap.size ≤ w4.heap.size := (KR.out.trans K4.out).size
            simp only [List.mem_cons, List.not_mem_nil, or_false] at hb
            rcases hb with rfl | rfl | rfl
            · exact ⟨by omega, fun hx => by have := hl _ hx; omega, by simp⟩
            · exact ⟨by omega, fun hx => by have := hl _ hx; omega, by simp⟩
            · exact ⟨HGE.out, fun hx => HF4b.out _ hx rfl, by simp⟩)
        have HFC := Lib.hid hfcs
        clear hw7 hfb K67 hf7 hfcs
        go_loopw [72] (fun v wr => ∃ i : Nat, i ≤ 2 ∧ v = .int .i64 i ∧ StageAt w wr s n n' mp gd fb fcs N i) (fun v _ => 2 - (intOf v).toNat)
        case atStart => exact ⟨0, by omega, rfl, F4, [], fun _ => SW0.out, fun h => by omega, fun h => by omega⟩
        case round =>
          obtain ⟨i, hi, rfl, F5, R5, st0, st1, st2⟩ := hrel
          rcases (show i = 0 ∨ i = 1 ∨ i = 2 by omega) with rfl | rfl | rfl
          · have SW := Lib.hid (st0 rfl)
            have HIN := Lib.hid (inputs_c HH.out HF.out (by omega) SW.out)
            have d0 := blk_cell SW.out.fnb 0
            rw [HFC.out] at d0
            simp at d0
            clear st0 st1 st2
            go_wp2_with fail
            refine HIN.out.mono ?_
            rintro e w8 ⟨F8, R8, rfl, hs8⟩
            have S8 := Lib.hid hs8
            clear hs8 d0
            go_wp2_with fail
            go_roundw
            case rel => exact ⟨1, by omega, by go_num, F8, R8, fun h => by omega, fun _ => S8.out, fun h => by omega⟩
            case measure => simp [intOf]
          · have SW := Lib.hid (st1 rfl)
            have HIN := Lib.hid (rest_c HH.out HF.out hk SW.out)
            have d1 := blk_cell SW.out.fnb 1
            rw [HFC.out] at d1
            simp at d1
            clear st0 st1 st2
            go_wp2_with fail
            refine HIN.out.mono ?_
            rintro e w8 ⟨F8, R8, rfl, hs8⟩
            have S8 := Lib.hid hs8
            clear hs8 d1
            go_wp2_with fail
            go_roundw
            case rel => exact ⟨2, by omega, by go_num, F8, R8, fun h => by omega, fun h => by omega, fun _ => S8.out⟩
            case measure => simp [intOf]
          · have SW := Lib.hid (st2 rfl)
            clear st0 st1 st2
            go_wp2_with fail
            go_ret2
            exact ⟨n', F5, R5, rfl, SW.out.net, SW.out.kept, SW.out.newF⟩
  · rw [if_neg h0] at HNE ⊢
    have h1 : ¬ (cn : Int) = 0 := by omega
    go_enter Tryz.func10, Tryz.ntmps10
    go_wp2_with fail
    refine HNE.out.mono ?_
    rintro e w1 ⟨rfl, k1⟩
    have K1 := Lib.hid k1
    clear k1
    go_wp2_with fail
    go_ret2
    exact ⟨rfl, K1.out⟩
end Go.Proofs.YtdmcdhkkbkgnbaaGreat

namespace Go.Proofs.YtdmcdhkkbkgnbaaGreat
open Go.ChangeShapes Go.WideShapes Go.ChangeAt Go.RowKit
open Go.Maps (Keyed)
open Go.WideMaps
set_option linter.unusedVariables false
set_option linter.unusedSimpArgs false

variable {w w' W w0 : World} {p n n' k m s mp gd fb : Nat} {F R S F' R' F'' R'' : List Nat} {g : Gr} {N M M' : Nt}
theorem opt_any {α : Type} (l : List α) (P : α → Bool) : decide (0 ≤ optI (l.findIdx? P)) = l.any P := by
  cases h : l.findIdx? P with
  | none =>
    rw [List.findIdx?_eq_none_iff] at h
    have : l.any P = false := by rw [List.any_eq_false]; exact fun x hx => by simp [h x hx]
    rw [this]; rfl
  | some k =>
    obtain ⟨h1, h2, _⟩ := List.findIdx?_eq_some_iff_getElem.1 h
    have : l.any P = true := by rw [List.any_eq_true]; exact ⟨_, List.getElem_mem h1, h2⟩
    rw [this]
    simp [optI]
set_option maxHeartbeats 800000 in
set_option maxRecDepth 100000 in
theorem index_stuck (a : Option Addr) (c len : Nat) (l : List Rg) (w : World) (hl : l.length = len) (hm : len ≤ 1000000) (hs : SlR w a l) :
    Calls Tryz.prog 107 #[.slice a len c, .func (.func 39) #[] #[]] w (IdxIs (l.findIdx? stuckR) w) := by
  have HL := Lib.hid hl
  have HS := Lib.hid hs
  have HF := Lib.hid (fun (r : Rg) (W : World) => stuck_c r W)
  unfold rgV at HF
  clear hl hs
  go_enter Tryz.func107, Tryz.ntmps107
  go_wp2_with fail
  go_loopw [8] (fun i wr => ∃ k : Nat, k ≤ len ∧ i = .int .i64 k ∧ Kept [] w wr ∧ ∀ j (h : j < l.length), j < k → stuckR l[j] = false) (fun i _ => len - (intOf i).toNat)
  case atStart => exact ⟨0, Nat.zero_le _, rfl, .refl _ _, fun j h h2 => by omega⟩
  case round =>
    obtain ⟨k, hk, rfl, hkr, hall⟩ := hrel
    have KR := Lib.hid hkr
    have HA := Lib.hid hall
    clear hkr hall
    by_cases hlt : k < len
    · have hkl : k < l.length := by rw [HL.out]; exact hlt
      obtain ⟨b, rfl, h1, h2, h3, h4⟩ := (HS.out.kept0 KR.out) k hkl
      have HR := Lib.hid (fun (hn : stuckR l[k] = true) => show l.findIdx? stuckR = some k from by
        rw [List.findIdx?_eq_some_iff_getElem]
        exact ⟨hkl, hn, fun j hj => by rw [HA.out j (by omega) hj]; simp⟩)
      have HN := Lib.hid (fun (hn : stuckR l[k] = false) => show ∀ j (h : j < l.length), j < k + 1 → stuckR l[j] = false from fun j h hj => by
        rcases Nat.lt_or_ge j k with h3 | h3
        · exact HA.out j h h3
        · have : j = k := by omega
          subst this; exact hn)
      have HF2 := Lib.hid (HF.out l[k] wr)
      obtain ⟨sb, hsb⟩ : ∃ b, b = stuckR l[k] := ⟨_, rfl⟩
      rw [← hsb] at HF2 HR HN
      clear hsb
      generalize l[k] = r at *
      obtain ⟨x, y, z, i⟩ := r
      simp only at h1 h2 h3 h4 HF2
      cases sb with
      | true =>
        have HR2 := Lib.hid (HR.out rfl)
        clear HR HN
        go_wp2_with fail
        refine HF2.out.mono ?_
        rintro e w1 ⟨rfl, hk1⟩
        have K1 := Lib.hid (KR.out.trans hk1)
        clear hk1
        go_wp2_with fail
        go_ret
        exact ⟨by rw [HR2.out]; rfl, K1.out⟩
      | false =>
        have HN2 := Lib.hid (HN.out rfl)
        clear HR HN
        go_wp2_with fail
        refine HF2.out.mono ?_
        rintro e w1 ⟨rfl, hk1⟩
        have K1 := Lib.hid (KR.out.trans hk1)
        clear hk1
        go_wp2_with fail
        go_roundw
        case rel => exact ⟨k + 1, by omega, by go_num, K1.out, HN2.out⟩
        case measure => simp [intOf]; omega
    · obtain rfl : k = len := by omega
      have HR := Lib.hid (show l.findIdx? stuckR = none from by
        rw [List.findIdx?_eq_none_iff]
        intro x hx
        obtain ⟨j, hj, rfl⟩ := List.getElem_of_mem hx
        exact HA.out j hj (by have := HL.out; omega))
      go_wp2_with fail
      go_ret
      exact ⟨by rw [HR.out]; rfl, KR.out⟩
theorem contains_stuck (a : Option Addr) (c len : Nat) (l : List Rg) (w : World) (hl : l.length = len) (hm : len ≤ 1000000) (hs : SlR w a l) :
    Calls Tryz.prog 51 #[.slice a len c, .func (.func 39) #[] #[]] w (BoolIs (l.any stuckR) w) := by
  have HX := Lib.hid (index_stuck a c len l w hl hm hs)
  have HA := Lib.hid (opt_any l stuckR)
  unfold IdxIs at HX
  generalize optI (l.findIdx? stuckR) = ix at *
  clear hl hs
  go_enter Tryz.func51, Tryz.ntmps51
  go_wp2_with fail
  refine HX.out.mono ?_
  rintro e w1 ⟨rfl, k1⟩
  have K1 := Lib.hid k1
  clear k1
  go_wp2_with fail
  go_ret
  exact ⟨by rw [← HA.out]; rfl, K1.out⟩
set_option maxHeartbeats 800000 in
set_option maxRecDepth 100000 in
theorem index_false (gd len c : Nat) (l : List Bool) (w : World) (hl : l.length = len) (hm : len ≤ 1000000) (hs : Own w 4 (some ⟨gd, 0, none⟩) len c (bls l)) :
    Calls Tryz.prog 106 #[.slice (some ⟨gd, 0, none⟩) len c, .bool false] w (IdxIs (l.findIdx? fun b => !b) w) := by
  have HL := Lib.hid hl
  have HS := Lib.hid hs
  clear hl hs
  go_enter Tryz.func106, Tryz.ntmps106
  go_wp2_with fail
  go_loopw [8] (fun i wr => ∃ k : Nat, k ≤ len ∧ i = .int .i64 k ∧ Kept [] w wr ∧ ∀ j (h : j < l.length), j < k → l[j] = true) (fun i _ => len - (intOf i).toNat)
  case atStart => exact ⟨0, Nat.zero_le _, rfl, .refl _ _, fun j h h2 => by omega⟩
  case round =>
    obtain ⟨k, hk, rfl, hkr, hall⟩ := hrel
    have KR := Lib.hid hkr
    have HA := Lib.hid hall
    clear hall hkr
    by_cases hlt : k < len
    · have hkl : k < l.length := by rw [HL.out]; exact hlt
      have h1 := own_cell_b (HS.out.kept0 KR.out) k hkl
      have hgd : l.getD k false = l[k]'hkl := by rw [List.getD_eq_getElem?_getD, List.getElem?_eq_getElem hkl]; rfl
      rw [hgd] at h1
      have HR := Lib.hid (fun (hn : l[k] = false) => show (l.findIdx? fun b => !b) = some k from by
        rw [List.findIdx?_eq_some_iff_getElem]
        exact ⟨hkl, by rw [hn]; rfl, fun j hj => by rw [HA.out j (by omega) hj]; simp⟩)
      have HN := Lib.hid (fun (hn : l[k] = true) => show ∀ j (h : j < l.length), j < k + 1 → l[j] = true from fun j h hj => by
        rcases Nat.lt_or_ge j k with h3 | h3
        · exact HA.out j h h3
        · have : j = k := by omega
          subst this; exact hn)
      clear hgd
      have k0 : (0 : Int) ≤ (k : Int) := by omega
      have k1 : (k : Int) < (len : Int) := by omega
      generalize l[k] = r at *
      cases r with
      | false =>
        have HR2 := Lib.hid (HR.out rfl)
        clear HR HN hkl
        go_wp2_with fail
        go_ret
        exact ⟨by rw [HR2.out]; rfl, KR.out⟩
      | true =>
        have HN2 := Lib.hid (HN.out rfl)
        clear HR HN hkl
        go_wp2_with fail
        go_roundw
        case rel => exact ⟨k + 1, by omega, by go_num, KR.out, HN2.out⟩
        case measure => simp [intOf]; omega
    · obtain rfl : k = len := by omega
      have HR := Lib.hid (show (l.findIdx? fun b => !b) = none from by
        rw [List.findIdx?_eq_none_iff]
        intro x hx
        obtain ⟨j, hj, rfl⟩ := List.getElem_of_mem hx
        rw [HA.out j hj (by have := HL.out; omega)]; rfl)
      go_wp2_with fail
      go_ret
      exact ⟨by rw [HR.out]; rfl, KR.out⟩
theorem any_false (l : List Bool) : (l.any fun b => !b) = l.contains false := by
  induction l with
  | nil => rfl
  | cons b l ih =>
    cases b
    · simp
    · simp only [List.any_cons, Bool.not_true, Bool.false_or, List.contains_cons]
      rw [ih]; rfl
theorem contains_false (gd len c : Nat) (l : List Bool) (w : World) (hl : l.length = len) (hm : len ≤ 1000000) (hs : Own w 4 (some ⟨gd, 0, none⟩) len c (bls l)) :
    Calls Tryz.prog 50 #[.slice (some ⟨gd, 0, none⟩) len c, .bool false] w (BoolIs (l.contains false) w) := by
  have HX := Lib.hid (index_false gd len c l w hl hm hs)
  have HA := Lib.hid (show decide (0 ≤ optI (l.findIdx? fun b => !b)) = l.contains false from (opt_any l fun b => !b).trans (any_false l))
  unfold IdxIs at HX
  generalize optI (l.findIdx? fun b => !b) = ix at *
  clear hl hs
  go_enter Tryz.func50, Tryz.ntmps50
  go_wp2_with fail
  refine HX.out.mono ?_
  rintro e w1 ⟨rfl, k1⟩
  have K1 := Lib.hid k1
  clear k1
  go_wp2_with fail
  go_ret
  exact ⟨by rw [← HA.out]; rfl, K1.out⟩
/-! how many gates are leant on -/
def leantTo (N : Nt) (m : Nat) : List Nat := outsN N ++ (N.regs.take m).flatMap fun r => [r.d, r.en]
theorem leantTo_all (N : Nt) : leantTo N N.regs.length = leantN N := by unfold leantTo leantN; rw [List.take_length]
theorem leantTo_succ {m : Nat} {r : Rg} (h : N.regs[m]? = some r) : leantTo N (m + 1) = leantTo N m ++ [r.d, r.en] := by
  obtain ⟨h1, h2⟩ := List.getElem?_eq_some_iff.1 h
  unfold leantTo
  rw [List.take_succ_eq_append_getElem h1, List.flatMap_append, h2, List.append_assoc]
  simp
theorem leantTo_len (hf : NtFine k N) (m : Nat) : (leantTo N m).length ≤ 66 * k := by
  have h1 := outsTo_len hf N.outb.length
  rw [outsTo_all] at h1
  have h2 := hf.ok.ok
  have h3 := goingTwo (N.regs.take m)
  have h4 := hf.ok.rk
  unfold leantTo
  rw [List.length_append, h3, List.length_take]
  omega
def reachTo (N : Nt) (i : Nat) : Nat := (((reachL N.g.nodes (leantN N)).take i).filter (gAt N.g.nodes)).length
theorem reachTo_all (N : Nt) : reachTo N (reachL N.g.nodes (leantN N)).length = reachedN N := by unfold reachTo reachedN; rw [List.take_length]
theorem gateA_at {ns : Gr} {x : Nat} (hx : x < ns.nodes.length) : (gateA ns (x : Int)).2.2 = gAt ns.nodes x := by
  unfold gateA gAt
  rw [List.getD_eq_getElem?_getD, List.getElem?_eq_getElem hx]
  by_cases h0 : x = 0
  · subst h0; simp
  · rw [if_pos (by omega), Int.toNat_natCast, List.getElem?_eq_getElem hx]
    obtain ⟨a, b⟩ := ns.nodes[x]
    simp only [Option.getD_some]
    by_cases h : a / 2 = x <;> simp [h, h0] <;> omega
set_option maxHeartbeats 1600000 in
set_option maxRecDepth 100000 in
theorem reached_c (h : NetAt w n F R N) (hf : NtFine k N) (hk : k ≤ 600) : Calls Tryz.prog 52 #[.pointer (some ⟨n, 0, none⟩)] w (IntIs (reachedN N : Nat) w) := by
  have HF := Lib.hid hf
  have HOU := Lib.hid (outs_c h hf (by omega))
  obtain ⟨pp, G, ia, ic, ra, rc, oa, oc, ri, ro, rfl, rfl, hc⟩ := h
  have HC := Lib.hid hc
  obtain ⟨nR, hnR⟩ : ∃ m, m = N.regs.length := ⟨_, rfl⟩
  have HNR := Lib.hid hnR
  have hnr : nR ≤ 600 := by rw [hnR]; have := hf.ok.rk; omega
  have HRS := Lib.hid (regs_sl (l := N.regs) rfl hc.rb)
  clear hc hnR hf
  go_enter Tryz.func52, Tryz.ntmps52
  go_wp2_with fail
  refine HOU.out.mono ?_
  rintro e w1 ⟨a1, c1, rfl, ho1, k1, hf1⟩
  have K1 := Lib.hid k1
  have c3 := k1.cell HC.out.c3 (by simp)
  rw [← HNR.out] at c3
  have HZ := Lib.hid (show leantTo N 0 = outsN N from by simp [leantTo])
  rw [← HZ.out] at ho1 ⊢
  have HO1 := Lib.hid ho1
  have HF1 := Lib.hid hf1
  clear k1 ho1 hf1
  go_wp2_with fail
  clear c3
  go_loopw [3, 21] (fun v i wr => ∃ (m : Nat) (a : Option Addr) (c : Nat), m ≤ nR ∧ i = .int .i64 m ∧ v = .slice a (leantTo N m).length c ∧ Own wr 61 a (leantTo N m).length c (nats .u32 (leantTo N m)) ∧ Kept [] w wr ∧ ∀ b ∈ ft a, w.heap.size ≤ b) (fun _ i _ => nR - (intOf i).toNat)
  case atStart => exact ⟨0, a1, c1, Nat.zero_le _, rfl, rfl, HO1.out, K1.out, HF1.out⟩
  case round =>
    obtain ⟨m, a, c, hm, rfl, rfl, ho, hkr, hfa⟩ := hrel
    have HO := Lib.hid ho
    have KR := Lib.hid hkr
    have FA := Lib.hid hfa
    have HLL := Lib.hid (leantTo_len HF.out m)
    clear ho hkr hfa
    by_cases hlt : m < nR
    · have hml : m < N.regs.length := by rw [← HNR.out]; exact hlt
      obtain ⟨gr, rfl, e0, e1, e2, e3⟩ := (HRS.out.kept0 KR.out) m hml
      have HT := Lib.hid (leantTo_succ (List.getElem?_eq_getElem hml))
      generalize N.regs[m] = r at *
      obtain ⟨q, d, en, init⟩ := r
      simp only at e0 e1 e2 e3 HT
      obtain ⟨ol, hol⟩ : ∃ ol, ol = (leantTo N m).length := ⟨_, rfl⟩
      have HOL := Lib.hid hol
      rw [← hol] at HO HLL ⊢
      have hol2 : ol ≤ 39600 := by have := HLL.out; omega
      have m0 : (0 : Int) ≤ (m : Int) := by omega
      have m1 : (m : Int) < (nR : Int) := by omega
      clear hml hol
      go_upto_region 5 with (fail)
      obtain ⟨w5, hw5⟩ : ∃ v, v = wr.alloc (.cells #[.int .u32 (q : Int), .int .u32 (d : Int), .int .u32 (en : Int), .bool init] 63) := ⟨_, rfl⟩
      obtain ⟨b5, hb5⟩ : ∃ v, v = wr.heap.size := ⟨_, rfl⟩
      have K5 := Lib.hid (show Kept [] wr w5 from by rw [hw5]; exact (Kept.refl [] wr).alloc _)
      have hbl : w5.heap[b5]? = some (.cells #[.int .u32 (q : Int), .int .u32 (d : Int), .int .u32 (en : Int), .bool init] 63 (0, 0)) := by rw [hw5, hb5]; exact heap_alloc_new wr _
      rw [← hw5, ← hb5]
      have d1 : w5.cell? ⟨b5, 1, none⟩ = some (.int .u32 (d : Int)) := blk_cell hbl 1
      have d2 : w5.cell? ⟨b5, 2, none⟩ = some (.int .u32 (en : Int)) := blk_cell hbl 2
      have K6 := Lib.hid (K5.out.alloc (.cells #[.int .u32 (d : Int), .int .u32 (en : Int)] 61))
      have HO6 := Lib.hid (HO.out.kept0 K6.out)
      clear hw5 hb5 hbl e0 e1 e2 e3
      go_wp2_with (at_builtin; refine wpList_cat (news := [.int .u32 (d : Int), .int .u32 (en : Int)]) rfl rfl Tryz.underlying58 lit_info rfl (by omega) rfl rfl HO6.out rfl (news_blk (t := 61) (heap_alloc_new _ _)) (by simp [Value.oneCell']) (by unfold maxLen; omega) (by omega) ?_; intro a7 c7 w7 hown7 hst7)
      have hlen2 : (leantTo N (m + 1)).length = ol + 2 := by rw [HT.out, List.length_append, ← HOL.out]; rfl
      have KU := kept_up (KR.out.trans K6.out) hst7.kept FA.out
      have HOW7 := Lib.hid hown7
      have HKU := Lib.hid KU
      have HFR := Lib.hid (show ∀ b ∈ ft a7, w.heap.size ≤ b from fun b hb => by
        rcases hst7.fresh b hb with h | h
        · exact FA.out b h
        · exact Nat.le_trans (KR.out.trans K6.out).size h)
      have HL2 := Lib.hid hlen2
      clear hown7 hst7 KU hlen2 d1 d2
      go_wp2_with fail
      go_roundw
      case rel => exact ⟨m + 1, a7, c7, by omega, by go_num, by rw [HL2.out], by rw [HL2.out, HT.out, show nats .u32 (leantTo N m ++ [d, en]) = nats .u32 (leantTo N m) ++ [.int .u32 (d : Int), .int .u32 (en : Int)] from by simp [nats]]; exact HOW7.out, HKU.out, HFR.out⟩
      case measure => simp [intOf]; omega
    · obtain rfl : m = nR := by omega
      have HE := Lib.hid (show leantTo N m = leantN N from by rw [HNR.out]; exact leantTo_all N)
      rw [HE.out] at HO HLL ⊢
      have HRC := Lib.hid (cone_reach (HC.out.gr.kept0 KR.out) (by have := HF.out.ok.len; omega) a c (leantN N).length (leantN N) rfl (by have := HLL.out; omega) HO.out.sln (leant_ok HF.out))
      obtain ⟨ll, hll⟩ : ∃ x, x = (leantN N).length := ⟨_, rfl⟩
      rw [← hll] at HRC ⊢
      have c0 := KR.out.cell HC.out.c0 (by simp)
      clear hll
      go_wp2_with fail
      refine HRC.out.mono ?_
      rintro e w5 ⟨a5, c5, n5, rfl, ho5, k5⟩
      have hn5 : n5 = (reachL N.g.nodes (leantN N)).length := by have := ho5.len; rw [nats_length] at this; omega
      have K5 := Lib.hid (KR.out.trans k5)
      have HO5 := Lib.hid ho5
      have HN5 := Lib.hid hn5
      have hn52 : n5 ≤ 38401 := by
        rw [hn5]
        have h1 : (reachL N.g.nodes (leantN N)).length ≤ N.g.nodes.length := pick_length _ _
        have := HF.out.ok.len
        omega
      have HRL := Lib.hid (show ∀ x ∈ reachL N.g.nodes (leantN N), x < N.g.nodes.length from fun x hx => by
        unfold reachL pick at hx
        exact List.mem_range.1 (List.mem_filter.1 hx).1)
      have c0' := k5.cell c0 (by simp)
      clear k5 ho5 hn5 c0
      go_wp2_with fail
      clear c0'
      go_loopw [6, 44] (fun v i wr => ∃ j : Nat, j ≤ n5 ∧ i = .int .i64 j ∧ v = .int .i64 (reachTo N j : Nat) ∧ reachTo N j ≤ j ∧ Kept [] w5 wr) (fun _ i _ => n5 - (intOf i).toNat)
      case atStart => exact ⟨0, Nat.zero_le _, rfl, by simp [reachTo], by simp [reachTo], .refl _ _⟩
      case round =>
        obtain ⟨j, hj, rfl, rfl, hle, hk5⟩ := hrel
        have KK := Lib.hid hk5
        clear hk5
        by_cases hlt2 : j < n5
        · have hjl : j < (reachL N.g.nodes (leantN N)).length := by rw [← HN5.out]; exact hlt2
          obtain ⟨ad, rfl, hcx⟩ := (HO5.out.sln.kept0 KK.out) j hjl
          have HX := HRL.out _ (List.getElem_mem hjl)
          have HSU := Lib.hid (show reachTo N (j + 1) = reachTo N j + (if gAt N.g.nodes (reachL N.g.nodes (leantN N))[j] then 1 else 0) from by
            unfold reachTo
            rw [List.take_succ_eq_append_getElem hjl, List.filter_append, List.length_append]
            congr 1
            cases h : gAt N.g.nodes (reachL N.g.nodes (leantN N))[j] <;> simp [h])
          have HGA := Lib.hid (gateA_at HX)
          generalize (reachL N.g.nodes (leantN N))[j] = x at *
          have HGC := Lib.hid (aig_gateOf (HC.out.gr.kept0 (K5.out.trans KK.out)) (by have := HF.out.ok.len; omega) (x : Int) (by have := HF.out.ok.len; omega) (by have := HF.out.ok.len; omega))
          have c0 := (K5.out.trans KK.out).cell HC.out.c0 (by simp)
          rw [← HGA.out] at HSU
          generalize gateA N.g (x : Int) = r at *
          obtain ⟨y, z, b⟩ := r
          simp only at HSU HGC
          obtain ⟨rj, hrj⟩ : ∃ v, v = reachTo N j := ⟨_, rfl⟩
          rw [← hrj] at HSU hle ⊢
          have j0 : (0 : Int) ≤ (j : Int) := by omega
          have j1 : (j : Int) < (n5 : Int) := by omega
          clear hrj hjl HX HGA
          go_wp2_with fail
          refine HGC.out.mono ?_
          rintro e w6 ⟨rfl, k6⟩
          have K6 := Lib.hid (KK.out.trans k6)
          clear k6 c0 hcx
          cases b with
          | true =>
            go_wp2_with fail
            go_roundw
            case rel => exact ⟨j + 1, by omega, by go_num, by rw [HSU.out]; go_num, by rw [HSU.out]; simp; omega, K6.out⟩
            case measure => simp [intOf]; omega
          | false =>
            go_wp2_with fail
            go_roundw
            case rel => exact ⟨j + 1, by omega, by go_num, by rw [HSU.out]; rfl, by rw [HSU.out]; simp; omega, K6.out⟩
            case measure => simp [intOf]; omega
        · obtain rfl : j = n5 := by omega
          have HE2 := Lib.hid (show reachTo N j = reachedN N from by rw [HN5.out]; exact reachTo_all N)
          go_wp2_with fail
          go_ret
          exact ⟨by rw [HE2.out]; rfl, K5.out.trans KK.out⟩
end Go.Proofs.YtdmcdhkkbkgnbaaGreat
