/-
  Law 03, AigMeans: the walk.
-/
import Derived.Test.YteikngjanfjmfaaAigMeansMath
import Derived.Test.YteikngjanfjmfaaAigSemEval
import Derived.Test.YteikngjanfjmfaaAigGrown
import Derived.Test.YteikngjanfjmfaaAigWakes
import Derived.Test.YteikngjanfjmfaaAigIns
import Derived.Deep.RegionHeld3
import Derived.Outline
namespace Go.Proofs.Yteikngjanfjmfaa
open Go.ChangeShapes Go.WideShapes Go.ChangeAt Go.RowKit
open Go.Maps (Keyed)
open Go.WideMaps
set_option linter.unusedVariables false

def MeansPost (w : World) (e : Ending) (w' : World) : Prop := e = .returned (.bool true) ∧ Below w.heap.size w w'

set_option maxHeartbeats 8000000 in
set_option maxRecDepth 100000 in
theorem means_walk (o1 o2 : Bool) (a : Option Addr) (c n : Nat) (acts : List (Int × List Nat)) (xa : Option Addr) (xc : Nat) (xl : List Nat) (wa : Option Addr) (wc : Nat) (ws : List Nat) (w : World) (hn : acts.length = n) (hm : n ≤ 140737488351232) (hs : SlActs w a acts)
    (hxc : xl.length ≤ xc) (hxz : xc ≤ 140737488351232) (hxn : xa = none → xl.length = 0 ∧ xc = 0) (hxs : SlN w .u32 xa xl) (hws : SlN w .u64 wa ws) (hww : Words ws) (hwz : ws.length ≤ 140737488351232) :
    Calls Try.prog 9 #[.agg #[.bool o1, .bool o2], .slice a n c, .agg #[.slice xa xl.length xc, .slice wa ws.length wc]] w (MeansPost w) := by
  have HN := Lib.hid hn; clear hn
  have HOK := Lib.hid (grownTo_ok o1 o2 true acts 40)
  have HWW := Lib.hid hww; clear hww
  have HXN := Lib.hid hxn; clear hxn
  have hc5 : ((w.alloc (.cells #[.bool o1, .bool o2] 65)).alloc (.cells #[.slice xa xl.length xc, .slice wa ws.length wc] 80)).heap[w.heap.size + 1]? = some (.cells #[.slice xa xl.length xc, .slice wa ws.length wc] 80 (0, 0)) := by
    have h := heap_alloc_new (w.alloc (.cells #[.bool o1, .bool o2] 65)) (.cells #[.slice xa xl.length xc, .slice wa ws.length wc] 80)
    rw [World.size_alloc] at h; exact h
  have K0 : Kept [] w ((w.alloc (.cells #[.bool o1, .bool o2] 65)).alloc (.cells #[.slice xa xl.length xc, .slice wa ws.length wc] 80)) := ((Kept.refl [] w).alloc _).alloc _
  go_enter Try.func9, Try.ntmps9; (try simp only [List.append])
  go_wp2_with fail
  refine (grown_c o1 o2 true a c n acts _ HN.out hm (hs.kept0 K0)).mono ?_
  generalize grownTo true (startG o1 o2) acts 40 = s at *
  have hsz : s.1.nodes.length ≤ 1000 := by have := HOK.out.size; have := List.length_take_le 40 acts; omega
  have htl : s.2.length ≤ 40 := by have := HOK.out.many; have := List.length_take_le 40 acts; omega
  obtain ⟨g, told⟩ := s
  simp only at hsz htl
  rintro e w1 ⟨p, F, ta, tc, rfl, hg, -, hst⟩
  have hst0 : Stepped w w1 [] F := ((⟨K0, fun _ h => absurd h (by simp)⟩ : Stepped w _ [] []).trans hst).weak (fun x hx => hx) (fun x hx => List.mem_append_left _ hx)
  have hk1 := K0.trans hst.kept
  have hbox := hst.kept.heap hc5 (by simp)
  clear hst hc5 K0
  go_wp2_with fail
  refine (wakes_c _).mono ?_
  rintro e w2 ⟨rfl, hk2⟩
  have hst2 : Stepped w w2 [] F := ⟨hst0.kept.trans hk2, hst0.fresh⟩
  have hg2 : GraphAt w2 p F g := hg.kept0 hk2
  have hbox2 := hk2.heap hbox (by simp)
  clear hst0 hg hbox hk1 hk2
  go_wp2_with fail
  have hil : (ins g.nodes).length ≤ g.nodes.length := insFrom_length 0 g.nodes
  refine (aig_inputs hg2 (by omega)).mono ?_
  rintro e w3 ⟨ia, ic, rfl, -, hst3⟩
  have hst3 : Stepped w w3 [] F := ⟨hst2.kept.trans hst3.kept, hst2.fresh⟩
  have hg3 : GraphAt w3 p F g := hg2.kept0 (by have := ‹Stepped w2 w3 [] (ft ia)›.kept; exact this)
  have hbox3 := (show Kept [] w2 w3 from ‹Stepped w2 w3 [] (ft ia)›.kept).heap hbox2 (by simp)
  clear hst2 hg2 hbox2
  obtain ⟨m, hm'⟩ : ∃ m, m = (ins g.nodes).length := ⟨_, rfl⟩
  have HM := Lib.hid hm'.symm; clear hm'
  rw [HM.out] at hil ⊢
  have hb0 := blk_cell hbox3 0
  have hb1 := blk_cell hbox3 1
  simp only [List.getElem?_toArray, List.getElem?_cons_zero, List.getElem?_cons_succ] at hb0 hb1
  have HBOX := Lib.hid hbox3; clear hbox3
  have HST3 := Lib.hid hst3; clear hst3
  have HG3 := Lib.hid hg3; clear hg3
  go_wp2_with fail
  go_loopw [10, 55] (fun v i wr => ∃ (k : Nat) (a' : Option Addr) (c' : Nat), k ≤ m ∧ i = .int .i64 k ∧ v = .slice a' k c' ∧ Own wr 41 a' k c' (nats .u64 (inW ws k)) ∧ Stepped w3 wr [] (ft a')) (fun _ i _ => m - (intOf i).toNat)
  case atStart => exact ⟨0, none, 0, Nat.zero_le _, rfl, rfl, Own.nil _ _, .refl _ _⟩
  case round =>
    obtain ⟨k, a', c', hk, rfl, rfl, hown, hst⟩ := hrel
    have hb0r := hst.kept.cell hb0 (by simp)
    have hb1r := hst.kept.cell hb1 (by simp)
    by_cases hlt : k < m
    · have HI := Lib.hid (inW_succ ws k)
      by_cases hkw : k < ws.length
      · obtain ⟨ad, rfl, hcw⟩ := (hws.kept0 (HST3.out.kept.trans hst.kept)) k hkw
        have e : ws.getD k 0 = ws[k] := by simp [List.getD_eq_getElem?_getD, hkw]
        rw [e] at HI
        generalize ws[k] = v at *
        clear e
        go_wp2_with (at_builtin; refine wpList_push rfl rfl Try.underlying23 u64_info rfl rfl rfl hown rfl (by unfold maxLen; omega) (by omega) ?_; intro a1 c1 w4 hown1 hst1)
        go_roundw
        case rel => exact ⟨k + 1, a1, c1, by omega, by go_num, rfl, by rw [HI.out, ← nats_append]; exact hown1, hst.trans hst1⟩
        case measure => simp [intOf]; omega
      · have e : ws.getD k 0 = 0 := by rw [List.getD_eq_getElem?_getD, List.getElem?_eq_none (by omega)]; rfl
        rw [e] at HI
        clear e
        go_wp2_with (at_builtin; refine wpList_push rfl rfl Try.underlying23 u64_info rfl rfl rfl hown rfl (by unfold maxLen; omega) (by omega) ?_; intro a1 c1 w4 hown1 hst1)
        go_roundw
        case rel => exact ⟨k + 1, a1, c1, by omega, by go_num, rfl, by rw [HI.out, ← nats_append]; exact hown1, hst.trans hst1⟩
        case measure => simp [intOf]; omega
    · obtain rfl : k = m := by omega
      obtain ⟨w4, rfl⟩ : ∃ w4 : World, w4 = wr := ⟨_, rfl⟩
      have hst4 : Stepped w w4 [] F := ⟨HST3.out.kept.trans hst.kept, HST3.out.fresh⟩
      have hg4 := HG3.out.kept0 hst.kept
      have hin := hown
      have hb0 := hb0r
      clear hst hb0r hb1r
      go_wp2_with fail
      have HEV := aig_eval hg4 (by omega) a' c' k (inW ws k) (inW_length ws k) HM.out.symm hin.sln (inW_words HWW.out k)
      rw [evalG_val hg4.wf] at HEV
      refine HEV.mono ?_
      clear HEV
      rintro e w5 ⟨ba, bc, rfl, hbe5, hst5⟩
      have hT5 : Stepped w w5 [] F := ⟨hst4.kept.trans hst5.kept, hst4.fresh⟩
      have hg5 := hg4.kept0 hst5.kept
      have hin5 := hin.kept0 hst5.kept
      have hb05 := hst5.kept.cell hb0 (by simp)
      clear hst5 hst4 hg4 hin hb0 hb1
      go_wp2_with fail
      refine (brought_c hg5 (by omega) xa xc xl.length xl rfl (by omega) hxc (hxs.kept0 hT5.kept)).mono ?_
      rintro e w6 ⟨la, lc, rfl, hbr6, hst6⟩
      have hT6 : Stepped w w6 [] F := ⟨hT5.kept.trans hst6.kept, hT5.fresh⟩
      have hg6 := hg5.kept0 hst6.kept
      have hin6 := hin5.kept0 hst6.kept
      have hbe6 := hbe5.kept0 hst6.kept
      have hb06 := hst6.kept.cell hb05 (by simp)
      have hxs6 := hxs.kept0 hT6.kept
      clear hst6 hT5 hg5 hin5 hbe5 hb05
      have HBO := Lib.hid (bring_ok hg6.wf xl)
      have HB8 := Lib.hid (show (bring g xl).length ≤ 8 by rw [bring_length]; omega)
      generalize bring g xl = B at *
      obtain ⟨bl, hbl⟩ : ∃ bl, bl = B.length := ⟨_, rfl⟩
      have HBL := Lib.hid hbl.symm; clear hbl
      have hbl8 : bl ≤ 8 := by have := HB8.out; have := HBL.out; omega
      rw [HBL.out] at hbr6 ⊢
      obtain ⟨cl, hcl⟩ : ∃ cl, cl = (bring g (xl.take 5 ++ [0, 0, 0])).length := ⟨_, rfl⟩
      have hcl38 : 3 ≤ cl ∧ cl ≤ 8 := by rw [hcl, bring_length]; simp; omega
      have HCL := Lib.hid hcl.symm; clear hcl
      obtain ⟨hcl3, hcl8⟩ := hcl38
      have HCO := Lib.hid (bring_ok hg6.wf (xl.take 5 ++ [0, 0, 0]))
      by_cases h5 : xl.length ≤ 5
      all_goals
        go_wp2_with (at_builtin; refine wpList_grow (l := xl.take 5) (news := [0, 0, 0]) rfl rfl Try.underlying52 u32_info rfl rfl rfl (by simp; omega) rfl (by omega) (fun h => by have := HXN.out h; omega) ((hxs6.kept0 ((Kept.refl [] w6).alloc _)).take 5) (by exact sln_new _ _ _ _) (by omega) (by unfold maxLen; omega) (by omega) ?_; intro a1 c1 w7 hown7 hst7; have hk7 : Kept [] w6 w7 := ((Kept.refl [] w6).alloc _).trans hst7.kept)
        refine (brought_c (hg6.kept0 hk7) (by omega) a1 c1 _ (xl.take 5 ++ [0, 0, 0]) (by rw [List.length_append, List.length_take]; simp only [List.length_cons, List.length_nil]; omega) (by omega) hown7.cap hown7.sln).mono ?_
        rintro e w8 ⟨ca, cc, rfl, hcc8, hst8⟩
        have hk8 := hk7.trans hst8.kept
        have hT8 : Stepped w w8 [] F := ⟨hT6.kept.trans hk8, hT6.fresh⟩
        have hg8 := hg6.kept0 hk8
        have hin8 := hin6.kept0 hk8
        have hbe8 := hbe6.kept0 hk8
        have hbr8 := hbr6.kept0 hk8
        rw [HCL.out] at hcc8 ⊢
        clear hst8 hst7 hown7 hk7 hk8 hT6 hg6 hin6 hbe6 hbr6 hxs6 hb06
        generalize bring g (xl.take 5 ++ [0, 0, 0]) = C at *
        have hC0 : C.getD 0 0 ∈ C := getD_mem (by have := HCL.out; omega)
        have hC1 : C.getD 1 0 ∈ C := getD_mem (by have := HCL.out; omega)
        have hC2 : C.getD 2 0 ∈ C := getD_mem (by have := HCL.out; omega)
        obtain ⟨⟨g1, v1⟩, E1⟩ : ∃ r, manyG andG g 1 B = r := ⟨_, rfl⟩
        obtain ⟨⟨g2, v2⟩, E2⟩ : ∃ r, manyG orG g1 0 B = r := ⟨_, rfl⟩
        obtain ⟨⟨g3, v3⟩, E3⟩ : ∃ r, manyG xorG g2 0 B = r := ⟨_, rfl⟩
        obtain ⟨⟨g4, v4⟩, E4⟩ : ∃ r, muxG g3 (C.getD 0 0) (C.getD 1 0) (C.getD 2 0) = r := ⟨_, rfl⟩
        obtain ⟨⟨g5, v5⟩, E5⟩ : ∃ r, gateG g4 (C.getD 0 0) (C.getD 1 0) = r := ⟨_, rfl⟩
        have MO := Lib.hid (means_ok hg8.wf hsz HBO.out HB8.out (HCO.out _ hC0) (HCO.out _ hC1) (HCO.out _ hC2) E1 E2 E3 E4 E5)
        have HE1 := Lib.hid E1; clear E1
        have HE2 := Lib.hid E2; clear E2
        have HE3 := Lib.hid E3; clear E3
        have HE4 := Lib.hid E4; clear E4
        have HE5 := Lib.hid E5; clear E5
        clear hC0 hC1 hC2
        have HCC := Lib.hid HCL.out
        obtain ⟨gc, rfl⟩ := hcc8.form (by omega)
        go_wp2_with fail
        have h := aig_And_ hg8 la lc bl B HBL.out (by have := MO.out.n0; omega) hbr8.sln HBO.out (hg8.apart hbr8 (by decide) (by decide) (by decide))
        rw [HE1.out] at h
        refine h.mono ?_
        clear h
        rintro e w9 ⟨F1, rfl, hg9, hst9⟩
        have hg9 : GraphAt w9 p F1 g1 := hg9
        have hin9 := hin8.kept hst9.kept (hg8.apart hin8 (by decide) (by decide) (by decide))
        have hbe9 := hbe8.kept hst9.kept (hg8.apart hbe8 (by decide) (by decide) (by decide))
        have hbr9 := hbr8.kept hst9.kept (hg8.apart hbr8 (by decide) (by decide) (by decide))
        have hcc9 := hcc8.kept hst9.kept (hg8.apart hcc8 (by decide) (by decide) (by decide))
        have hT9 := hT8.trans hst9
        clear hst9 hg8 hin8 hbe8 hbr8 hcc8 hT8
        go_wp2_with fail
        have h := aig_Or_ hg9 la lc bl B HBL.out (by have := MO.out.n1; omega) hbr9.sln MO.out.b1 (hg9.apart hbr9 (by decide) (by decide) (by decide))
        rw [HE2.out] at h
        refine h.mono ?_
        clear h
        rintro e w10 ⟨F2, rfl, hg10, hst10⟩
        have hg10 : GraphAt w10 p F2 g2 := hg10
        have hin10 := hin9.kept hst10.kept (hg9.apart hin9 (by decide) (by decide) (by decide))
        have hbe10 := hbe9.kept hst10.kept (hg9.apart hbe9 (by decide) (by decide) (by decide))
        have hbr10 := hbr9.kept hst10.kept (hg9.apart hbr9 (by decide) (by decide) (by decide))
        have hcc10 := hcc9.kept hst10.kept (hg9.apart hcc9 (by decide) (by decide) (by decide))
        have hT10 := hT9.trans hst10
        clear hst10 hg9 hin9 hbe9 hbr9 hcc9 hT9
        go_wp2_with fail
        have h := aig_Xor_ hg10 la lc bl B HBL.out (by have := MO.out.n2; omega) hbr10.sln MO.out.b2 (hg10.apart hbr10 (by decide) (by decide) (by decide))
        rw [HE3.out] at h
        refine h.mono ?_
        clear h
        rintro e w11 ⟨F3, rfl, hg11, hst11⟩
        have hg11 : GraphAt w11 p F3 g3 := hg11
        have hin11 := hin10.kept hst11.kept (hg10.apart hin10 (by decide) (by decide) (by decide))
        have hbe11 := hbe10.kept hst11.kept (hg10.apart hbe10 (by decide) (by decide) (by decide))
        have hbr11 := hbr10.kept hst11.kept (hg10.apart hbr10 (by decide) (by decide) (by decide))
        have hcc11 := hcc10.kept hst11.kept (hg10.apart hcc10 (by decide) (by decide) (by decide))
        have hT11 := hT10.trans hst11
        clear hst11 hg10 hin10 hbe10 hbr10 hcc10 hT10
        go_wp2_with fail
        have q0 := own_cells3 hcc11 0 (by rw [HCL.out]; omega)
        have q1 := own_cells3 hcc11 1 (by rw [HCL.out]; omega)
        have q2 := own_cells3 hcc11 2 (by rw [HCL.out]; omega)
        have b0 : 0 < cl := by omega
        have b1 : 1 < cl := by omega
        have b2 : 2 < cl := by omega
        have i1 : (1:Int) < (cl:Int) := by omega
        have i2 : (2:Int) < (cl:Int) := by omega
        have h := fun w' (hk : Kept [] w11 w') => aig_mux (hg11.kept0 hk) (by have := MO.out.n3; omega) (MO.out.c3.1) (MO.out.c3.2.1) (MO.out.c3.2.2)
        rw [HE4.out] at h
        go_region_held3 (fun w' => w'.cell? ⟨gc, 0, none⟩ = some (.int .u32 ((C.getD 0 0 : Nat) : Int)) ∧ w'.cell? ⟨gc, 1, none⟩ = some (.int .u32 ((C.getD 1 0 : Nat) : Int)) ∧ w'.cell? ⟨gc, 2, none⟩ = some (.int .u32 ((C.getD 2 0 : Nat) : Int)))
          (first | (exact ⟨own_cells3 hcc12 0 (by rw [HCC.out]; omega), own_cells3 hcc12 1 (by rw [HCC.out]; omega), own_cells3 hcc12 2 (by rw [HCC.out]; omega)⟩) | go_keep)
          (first | (go_at_call 41; refine (h _ ((Kept.refl [] w11).drew)).mono ?_; rintro e w12 ⟨F4, rfl, hg12, hst12⟩; have hcc12 := (hcc11.kept0 ((Kept.refl [] w11).drew)).kept hst12.kept (hg11.apart hcc11 (by decide) (by decide) (by decide))))
        have hg12 : GraphAt w12 p F4 g4 := hg12
        have hst12 : Stepped w11 w12 F3 F4 := ((Stepped.refl w11 F3).drew).trans hst12
        have hin12 := hin11.kept hst12.kept (hg11.apart hin11 (by decide) (by decide) (by decide))
        have hbe12 := hbe11.kept hst12.kept (hg11.apart hbe11 (by decide) (by decide) (by decide))
        have hbr12 := hbr11.kept hst12.kept (hg11.apart hbr11 (by decide) (by decide) (by decide))
        have hT12 := hT11.trans hst12
        clear h hst12 hg11 hin11 hbe11 hbr11 hcc11 hT11 q0 q1 q2
        go_wp2_with fail
        have q0 := own_cells3 hcc12 0 (by rw [HCL.out]; omega)
        have q1 := own_cells3 hcc12 1 (by rw [HCL.out]; omega)
        have q2 := own_cells3 hcc12 2 (by rw [HCL.out]; omega)
        have b0 : 0 < cl := by omega
        have b1 : 1 < cl := by omega
        have b2 : 2 < cl := by omega
        have i1 : (1:Int) < (cl:Int) := by omega
        have i2 : (2:Int) < (cl:Int) := by omega
        have h := fun w' (hk : Kept [] w12 w') => aig_raw (hg12.kept0 hk) (by have := MO.out.n4; omega) (MO.out.c4.1) (MO.out.c4.2)
        rw [HE5.out] at h
        go_region_held3 (fun w' => w'.cell? ⟨gc, 0, none⟩ = some (.int .u32 ((C.getD 0 0 : Nat) : Int)) ∧ w'.cell? ⟨gc, 1, none⟩ = some (.int .u32 ((C.getD 1 0 : Nat) : Int)))
          (first | (exact ⟨own_cells3 hcc13 0 (by rw [HCC.out]; omega), own_cells3 hcc13 1 (by rw [HCC.out]; omega)⟩) | go_keep)
          (first | (go_at_call 45; refine (h _ ((Kept.refl [] w12).drew)).mono ?_; rintro e w13 ⟨F5, rfl, hg13, hst13⟩; have hcc13 := (hcc12.kept0 ((Kept.refl [] w12).drew)).kept hst13.kept (hg12.apart hcc12 (by decide) (by decide) (by decide))))
        have hg13 : GraphAt w13 p F5 g5 := hg13
        have hst13 : Stepped w12 w13 F4 F5 := ((Stepped.refl w12 F4).drew).trans hst13
        have hin13 := hin12.kept hst13.kept (hg12.apart hin12 (by decide) (by decide) (by decide))
        have hbe13 := hbe12.kept hst13.kept (hg12.apart hbe12 (by decide) (by decide) (by decide))
        have hbr13 := hbr12.kept hst13.kept (hg12.apart hbr12 (by decide) (by decide) (by decide))
        have hT13 := hT12.trans hst13
        clear h hst13 hg12 hin12 hbe12 hbr12 hcc12 hT12 q0 q1 q2
        go_wp2_with fail
        have HEV := aig_eval hg13 (by have := MO.out.n5; omega) a' c' k (inW ws k) (inW_length ws k) (by rw [MO.out.ins]; exact HM.out.symm) hin13.sln (inW_words HWW.out k)
        rw [evalG_val hg13.wf] at HEV
        refine HEV.mono ?_
        clear HEV
        rintro e w14 ⟨va, vc, rfl, hvv, hst14⟩
        have hT14 : Stepped w w14 [] F5 := ⟨hT13.kept.trans hst14.kept, hT13.fresh⟩
        have hbe14 := hbe13.kept0 hst14.kept
        have hbr14 := hbr13.kept0 hst14.kept
        have hcc14 := hcc13.kept0 hst14.kept
        clear hst14 hT13 hg13 hin13 hbe13 hbr13 hcc13
        have hle := MO.out.le
        have hn5 := MO.out.n5
        obtain ⟨t, ht⟩ := MO.out.pre (inW ws k)
        have HPRE := Lib.hid ht; clear ht
        have HVW := Lib.hid (valL_words (inW_words HWW.out k) g5.nodes)
        have HVL := Lib.hid (valL_length (inW ws k) g5.nodes)
        have HBL2 := Lib.hid (valL_length (inW ws k) g.nodes)
        have HVS := Lib.hid hvv.sln
        have HBS := Lib.hid hbe14.sln
        have HIW := Lib.hid (inW_words HWW.out k)
        generalize inW ws k = inp at *
        have HT := Lib.hid hT14; clear hT14
        have HBR := Lib.hid hbr14.sln; clear hbr14
        have q0 := own_cells3 hcc14 0 (by rw [HCL.out]; omega)
        have q1 := own_cells3 hcc14 1 (by rw [HCL.out]; omega)
        have q2 := own_cells3 hcc14 2 (by rw [HCL.out]; omega)
        clear hvv hbe14 hcc14
        have hd1 : decide (g5.nodes.length < g.nodes.length) = false := by simp; omega
        have hd2 : decide ((g5.nodes.length : Int) < (g.nodes.length : Int)) = false := by simp; omega
        go_wp2_with fail
        go_loopw [182] (fun i wr => ∃ (q m : Nat), q ≤ g.nodes.length ∧ i = .int .i64 q ∧ wr = w14.drewN m) (fun i _ => g.nodes.length - (intOf i).toNat)
        case atStart => exact ⟨0, 0, by omega, rfl, rfl⟩
        case round =>
          obtain ⟨q, m2, hq, rfl, rfl⟩ := hrel
          by_cases hqn : q < g.nodes.length
          · obtain ⟨adv, rfl, cv⟩ := HVS.out q (by rw [HVL.out]; omega)
            obtain ⟨adb, rfl, cb⟩ := HBS.out q (by rw [HBL2.out]; exact hqn)
            have e : (valL inp g5.nodes)[q]'(by rw [HVL.out]; omega) = (valL inp g.nodes)[q]'(by rw [HBL2.out]; exact hqn) := by
              have h1 : (valL inp g5.nodes)[q]? = (valL inp g.nodes)[q]? := by
                rw [HPRE.out, List.getElem?_append_left (by rw [HBL2.out]; exact hqn)]
              rw [List.getElem?_eq_getElem (by rw [HVL.out]; omega), List.getElem?_eq_getElem (by rw [HBL2.out]; exact hqn)] at h1
              injection h1
            rw [e] at cv
            clear e
            generalize (valL inp g.nodes)[q]'(by rw [HBL2.out]; exact hqn) = u at *
            have iq1 : (q : Int) < (g.nodes.length : Int) := by omega
            have iq2 : (q : Int) < (g5.nodes.length : Int) := by omega
            go_wp2_with fail
            go_quiet (fail)
            go_wp2_with fail
            go_roundw
            case rel => exact ⟨q + 1, _, by omega, by go_num, rfl⟩
            case measure => simp [intOf]; omega
          · obtain rfl : q = g.nodes.length := by omega
            have HBR2 := Lib.hid (HBR.out.drewN m2)
            have HVS2 := Lib.hid (HVS.out.drewN m2)
            have q02 : (w14.drewN m2).cell? ⟨gc, 0, none⟩ = some (.int .u32 ((C.getD 0 0 : Nat) : Int)) := q0
            have q12 : (w14.drewN m2).cell? ⟨gc, 1, none⟩ = some (.int .u32 ((C.getD 1 0 : Nat) : Int)) := q1
            have q22 : (w14.drewN m2).cell? ⟨gc, 2, none⟩ = some (.int .u32 ((C.getD 2 0 : Nat) : Int)) := q2
            have HT2 := Lib.hid (show Kept [] w (w14.drewN m2) from HT.out.kept.drewN m2)
            clear q0 q1 q2
            generalize w14.drewN m2 = w15 at *
            go_wp2_with fail
            go_loop [30, 31, 32, 197] (fun y0 y1 y2 i => ∃ q : Nat, q ≤ bl ∧ i = .int .i64 q ∧ y0 = .int .u64 ((foldW (· &&& ·) inp g5 18446744073709551615 (B.take q) : Nat) : Int) ∧ y1 = .int .u64 ((foldW (· ||| ·) inp g5 0 (B.take q) : Nat) : Int) ∧ y2 = .int .u64 ((foldW (· ^^^ ·) inp g5 0 (B.take q) : Nat) : Int)) (fun _ _ _ i => bl - (intOf i).toNat)
            case atStart => exact ⟨0, by omega, rfl, rfl, rfl, rfl⟩
            case round =>
              obtain ⟨q, hq, rfl, rfl, rfl, rfl⟩ := hrel
              by_cases hqb : q < bl
              · have hqB : q < B.length := by rw [HBL.out]; exact hqb
                obtain ⟨adx, rfl, cx⟩ := HBR2.out q hqB
                have hx := Gr.ok_lt (MO.out.b5 _ (List.getElem_mem hqB)) (by omega)
                have HP1 := Lib.hid (show foldW (· &&& ·) inp g5 18446744073709551615 (B.take (q + 1)) = foldW (· &&& ·) inp g5 18446744073709551615 (B.take q) &&& lw inp g5 B[q] by rw [take_snoc B q hqB, foldW_snoc])
                have HP2 := Lib.hid (show foldW (· ||| ·) inp g5 0 (B.take (q + 1)) = foldW (· ||| ·) inp g5 0 (B.take q) ||| lw inp g5 B[q] by rw [take_snoc B q hqB, foldW_snoc])
                have HP3 := Lib.hid (show foldW (· ^^^ ·) inp g5 0 (B.take (q + 1)) = foldW (· ^^^ ·) inp g5 0 (B.take q) ^^^ lw inp g5 B[q] by rw [take_snoc B q hqB, foldW_snoc])
                have L1 := foldW_lt (f := (· &&& ·)) (fun a b ha _ => and_word ha) HIW.out g5 (B.take q) 18446744073709551615 (by omega)
                have L2 := foldW_lt (f := (· ||| ·)) (fun a b ha hb => or_word ha hb) HIW.out g5 (B.take q) 0 (by omega)
                have L3 := foldW_lt (f := (· ^^^ ·)) (fun a b ha hb => xor_word ha hb) HIW.out g5 (B.take q) 0 (by omega)
                have L4 := lw_lt HIW.out g5 B[q]
                have HW4 := Lib.hid (show wd (valL inp g5.nodes) B[q] = lw inp g5 B[q] from rfl)
                generalize foldW (· &&& ·) inp g5 18446744073709551615 (B.take q) = P at *
                generalize foldW (· ||| ·) inp g5 0 (B.take q) = Q at *
                generalize foldW (· ^^^ ·) inp g5 0 (B.take q) = R at *
                generalize lw inp g5 B[q] = W at *
                generalize B[q] = x at *
                have e1 := u64_and_nat P W L1 L4
                have e2 := u64_or_nat Q W L2 L4
                have e3 := u64_xor_nat R W L3 L4
                clear L1 L2 L3 L4
                have iqb : (q : Int) < (bl : Int) := by omega
                go_wp2_with fail
                refine (c_word x x rfl W W rfl va vc g5.nodes.length (valL inp g5.nodes) _ HVL.out hx HVS2.out HVW.out HW4.out).mono ?_
                rintro e w' ⟨rfl, rfl⟩
                go_wp2_with fail
                go_round
                case rel => exact ⟨q + 1, by omega, by go_num, by rw [HP1.out], by rw [HP2.out], by rw [HP3.out]⟩
                case measure => simp [intOf]; omega
              · obtain rfl : q = bl := by omega
                have HBT := Lib.hid (show B.take q = B from List.take_of_length_le (by rw [HBL.out]; omega))
                have MA := Lib.hid (MO.out.and inp HIW.out)
                have MR := Lib.hid (MO.out.or inp HIW.out)
                have MX := Lib.hid (MO.out.xor inp HIW.out)
                have MM := Lib.hid (MO.out.mux inp HIW.out)
                have MW := Lib.hid (MO.out.raw inp HIW.out)
                rw [HBT.out]
                generalize foldW (· &&& ·) inp g5 18446744073709551615 B = P at *
                generalize foldW (· ||| ·) inp g5 0 B = Q at *
                generalize foldW (· ^^^ ·) inp g5 0 B = R at *
                have LU := lw_lt HIW.out g5 (C.getD 0 0)
                have LV := lw_lt HIW.out g5 (C.getD 1 0)
                have LW := lw_lt HIW.out g5 (C.getD 2 0)
                have HU := Lib.hid (show wd (valL inp g5.nodes) (C.getD 0 0) = lw inp g5 (C.getD 0 0) from rfl)
                have HV := Lib.hid (show wd (valL inp g5.nodes) (C.getD 1 0) = lw inp g5 (C.getD 1 0) from rfl)
                have HW := Lib.hid (show wd (valL inp g5.nodes) (C.getD 2 0) = lw inp g5 (C.getD 2 0) from rfl)
                generalize lw inp g5 (C.getD 0 0) = U at *
                generalize lw inp g5 (C.getD 1 0) = V at *
                generalize lw inp g5 (C.getD 2 0) = W at *
                have n3 := MO.out.n3
                have k0 := Gr.ok_lt MO.out.c3.1 (by omega)
                have k1 := Gr.ok_lt MO.out.c3.2.1 (by omega)
                have k2 := Gr.ok_lt MO.out.c3.2.2 (by omega)
                have z1 := Gr.ok_lt MO.out.vs.1 (by omega)
                have z2 := Gr.ok_lt MO.out.vs.2.1 (by omega)
                have z3 := Gr.ok_lt MO.out.vs.2.2.1 (by omega)
                have z4 := Gr.ok_lt MO.out.vs.2.2.2.1 (by omega)
                have z5 := Gr.ok_lt MO.out.vs.2.2.2.2 (by omega)
                generalize C.getD 0 0 = d0 at *
                generalize C.getD 1 0 = d1 at *
                generalize C.getD 2 0 = d2 at *
                have e1 := u64_and_nat U V LU LV
                have e2 : bits .andNot .u64 (W : Int) (U : Int) = ((W &&& noW U : Nat) : Int) := u64_andNot_nat W U LW LU
                have e3 := u64_or_nat (U &&& V) (W &&& noW U) (and_word LU) (and_word LW)
                clear LU LV LW
                have b0 : 0 < cl := by omega
                have i1 : (1:Int) < (cl:Int) := by omega
                have i2 : (2:Int) < (cl:Int) := by omega
                go_wp2_with fail
                go_quiet (first
                  | (go_at_call 24; (with_reducible exact q_same (c_word d0 d0 rfl U U rfl va vc g5.nodes.length (valL inp g5.nodes) _ HVL.out k0 (HVS2.out.drewN _) HVW.out HU.out)))
                  | (go_at_call 24; (with_reducible exact q_same (c_word d1 d1 rfl V V rfl va vc g5.nodes.length (valL inp g5.nodes) _ HVL.out k1 (HVS2.out.drewN _) HVW.out HV.out)))
                  | (go_at_call 24; (with_reducible exact q_same (c_word d2 d2 rfl W W rfl va vc g5.nodes.length (valL inp g5.nodes) _ HVL.out k2 (HVS2.out.drewN _) HVW.out HW.out))))
                go_wp2_with fail
                refine (c_word v1 v1 rfl P P rfl va vc g5.nodes.length (valL inp g5.nodes) _ HVL.out z1 (HVS2.out.drewN _) HVW.out MA.out).mono ?_
                rintro e w' ⟨rfl, rfl⟩
                go_wp2_with fail
                refine (c_word v2 v2 rfl Q Q rfl va vc g5.nodes.length (valL inp g5.nodes) _ HVL.out z2 (HVS2.out.drewN _) HVW.out MR.out).mono ?_
                rintro e w' ⟨rfl, rfl⟩
                go_wp2_with fail
                refine (c_word v3 v3 rfl R R rfl va vc g5.nodes.length (valL inp g5.nodes) _ HVL.out z3 (HVS2.out.drewN _) HVW.out MX.out).mono ?_
                rintro e w' ⟨rfl, rfl⟩
                go_wp2_with fail
                refine (c_word v4 v4 rfl ((U &&& V) ||| (W &&& noW U)) ((U &&& V) ||| (W &&& noW U) : Nat) rfl va vc g5.nodes.length (valL inp g5.nodes) _ HVL.out z4 (HVS2.out.drewN _) HVW.out MM.out).mono ?_
                rintro e w' ⟨rfl, rfl⟩
                go_wp2_with fail
                refine (c_word v5 v5 rfl (U &&& V) (U &&& V : Nat) rfl va vc g5.nodes.length (valL inp g5.nodes) _ HVL.out z5 (HVS2.out.drewN _) HVW.out MW.out).mono ?_
                rintro e w' ⟨rfl, rfl⟩
                go_wp2_with fail
                go_ret
                exact ⟨rfl, (HT2.out.drewN _).below⟩
end Go.Proofs.Yteikngjanfjmfaa
