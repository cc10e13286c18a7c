/-
  Law 03, AigOptions: the walk.
-/
import Derived.Test.YteikngjanfjmfaaAigOptMem
import Derived.Test.YteikngjanfjmfaaAigIns
import Derived.Deep.RegionHeld3
import Derived.Deep.RegionLaw
import Derived.Outline
namespace Go.Proofs.Yteikngjanfjmfaa
open Go.ChangeShapes Go.WideShapes Go.ChangeAt Go.RowKit
open Go.Maps (Keyed)
open Go.WideMaps
set_option linter.unusedVariables false

theorem aig_new_any (o1 o2 : Bool) (w : World) : Calls Try.prog 37 #[.agg #[.bool o1, .bool o2]] w fun e w' => ∃ b1 b2 p F, e = .returned (.pointer (some ⟨p, 0, none⟩)) ∧ GraphAt w' p F { fold := b1, hash := b2, nodes := [(0, 0)] } ∧ Stepped w w' [] F :=
  (aig_new o1 o2 w).mono fun _ _ ⟨p, F, h⟩ => ⟨o1, o2, p, F, h⟩
theorem odd_spell (n : Nat) : (((n : Int) % 2) == 1) = decide (n % 2 = 1) := by
  rw [Bool.eq_iff_iff]; simp; omega
def OptPost (w : World) (e : Ending) (w' : World) : Prop := e = .returned (.bool true) ∧ Below w.heap.size w w'

set_option maxHeartbeats 16000000 in
set_option maxRecDepth 100000 in
theorem opt_walk (a : Option Addr) (c n : Nat) (acts : List (Int × List Nat)) (wa : Option Addr) (wc : Nat) (ws : List Nat) (w : World) (hn : acts.length = n) (hm : n ≤ 140737488351232) (hs : SlActs w a acts)
    (hws : SlN w .u64 wa ws) (hww : Words ws) (hwz : ws.length ≤ 140737488351232) :
    Calls Try.prog 8 #[.slice a n c, .slice wa ws.length wc] w (OptPost w) := by
  have HN := Lib.hid hn; clear hn
  have HWW := Lib.hid hww; clear hww
  have HS := Lib.hid hs; clear hs
  have HWS := Lib.hid hws; clear hws
  obtain ⟨KK, hKK⟩ : ∃ KK, KK = min n 40 := ⟨_, rfl⟩
  have HKK := Lib.hid hKK; clear hKK
  obtain ⟨VF, hVF⟩ : ∃ VF, VF = (optTo ws acts KK).1 := ⟨_, rfl⟩
  have HVF := Lib.hid hVF; clear hVF
  have HA0 := Lib.hid (show ∃ cs s, AllS w.heap.size (w.alloc (.cells #[.slice none 0 0, .slice none 0 0, .slice none 0 0, .slice none 0 0] 72)) w.heap.size (fun j => if j < 0 then VF else []) cs s from
    ⟨_, fun _ => (none, 0), ⟨heap_alloc_new w _, rfl, Nat.le_refl _, fun j hj => ⟨by match j, hj with | 0, _ => rfl | 1, _ => rfl | 2, _ => rfl | 3, _ => rfl, Own.nil _ _⟩, fun i j _ _ _ => by simp [ft], fun j _ => by simp [ft]⟩⟩)
  go_enter Try.func8, Try.ntmps8; (try simp only [List.append])
  go_wp2
  go_loopw [24] (fun i wr => ∃ (k : Nat) (cs : Array Value) (s : Nat → Option Addr × Nat), k ≤ 4 ∧ i = .int .i64 k ∧ AllS w.heap.size wr w.heap.size (fun j => if j < k then VF else []) cs s ∧ Kept [] w wr) (fun i _ => 4 - (intOf i).toNat)
  case atStart => obtain ⟨cs, s, h⟩ := HA0.out; exact ⟨0, cs, s, by omega, rfl, h, (Kept.refl [] w).alloc _⟩
  case round =>
    obtain ⟨k, cs, s, hk, rfl, hall, hK⟩ := hrel
    obtain ⟨wK, rfl⟩ : ∃ wK : World, wK = wr := ⟨_, rfl⟩
    have HALL := Lib.hid hall; clear hall
    have HK := Lib.hid hK; clear hK
    by_cases hk4 : k < 4
    · go_wp2_with fail
      refine (aig_new_any _ _ _).mono ?_
      rintro e w1 ⟨o1, o2, p, F, rfl, hg, hst⟩
      have hO0 : OptAt wK (w1.alloc (.cells #[.int .u32 0, .int .u32 1] 24)) p F (gTo o1 o2 acts 0).1 (some ⟨w1.heap.size, 0, none⟩) 2 (gTo o1 o2 acts 0).2 none 0 (optTo ws acts 0).2 :=
        ⟨hg.kept0 ((Kept.refl [] w1).alloc _), by have h := own_new w1 24 .u32 [0, 1] (by unfold maxLen; simp); exact h, Own.nil _ _, (hst.allocOwn _).weak (fun _ h => h) (fun x hx => by simp [ft] at hx ⊢; exact hx.symm)⟩
      have HO0 := Lib.hid hO0; clear hO0 hg hst
      go_wp2_with fail
      go_loopw [8, 9, 38] (fun v8 v9 i wr => ∃ (k2 : Nat) (F : List Nat) (ta : Option Addr) (tc : Nat) (ia : Option Addr) (ic nt ni : Nat), k2 ≤ n ∧ k2 ≤ 40 ∧ i = .int .i64 k2 ∧ nt = (gTo o1 o2 acts k2).2.length ∧ ni = (optTo ws acts k2).2.length ∧ v8 = .slice ta nt tc ∧ v9 = .slice ia ni ic ∧ OptAt wK wr p F (gTo o1 o2 acts k2).1 ta tc (gTo o1 o2 acts k2).2 ia ic (optTo ws acts k2).2) (fun _ _ i _ => n - (intOf i).toNat)
      case atStart => exact ⟨0, F, _, 2, none, 0, 2, 0, by omega, by omega, rfl, rfl, rfl, rfl, rfl, HO0.out⟩
      case round =>
        obtain ⟨k2, F2, ta, tc, ia, ic, nt, ni, hk2, hk40, rfl, hnt, hni, rfl, rfl, hO⟩ := hrel
        clear HO0
        have HOK := Lib.hid (gTo_ok o1 o2 HWW.out acts k2 hk40)
        have HVK := Lib.hid (fun h : KK = k2 => (HVF.out.trans (by rw [h]) : VF = (optTo ws acts k2).1))
        have HGN := Lib.hid (show gTo o1 o2 acts (k2 + 1) = optG (gTo o1 o2 acts k2) (acts.getD k2 (0, [])) from rfl)
        have HVN := Lib.hid (show optTo ws acts (k2 + 1) = optV ws k2 (optTo ws acts k2) (acts.getD k2 (0, [])) from rfl)
        generalize gTo o1 o2 acts k2 = sg at *
        generalize optTo ws acts k2 = sv at *
        obtain ⟨g, T⟩ := sg
        obtain ⟨V, inp⟩ := sv
        simp only at hnt hni
        have HO := Lib.hid hO; clear hO
        have hTk : nt = k2 + 2 := by rw [hnt]; exact HOK.out.len
        have hnk : ni ≤ k2 := by rw [hni]; exact HOK.out.few
        have HNT := Lib.hid hnt; clear hnt
        have HNI := Lib.hid hni; clear hni
        have hgsz : g.nodes.length ≤ 1000 := by have h := HOK.out.size; simp only at h; omega
        have hnt42 : nt ≤ 42 := by omega
        have hni40 : ni ≤ 40 := by omega
        clear hTk hnk
        by_cases hgo : k2 < n ∧ k2 < 40
        · obtain ⟨hlt, hl40⟩ := hgo
          have k40 : ((k2 : Int) == 40) = false := by simp; omega
          have hkl : k2 < acts.length := by rw [HN.out]; exact hlt
          obtain ⟨bb, oo, al, cl, rfl, hc1, hc2, hlc, hcb, hnil0, hsl⟩ := (HS.out.kept0 (HK.out.trans HO.out.step.kept)) k2 hkl
          have eA : acts.getD k2 (0, []) = acts[k2] := by simp [List.getD_eq_getElem?_getD, hkl]
          rw [eA] at HGN HVN
          clear eA
          generalize acts[k2] = act at *
          obtain ⟨wh, L⟩ := act
          simp only at hc1 hc2 hlc
          have HNIL := Lib.hid hnil0; clear hnil0
          have HSL := Lib.hid hsl; clear hsl
          have hLm : L.length ≤ 140737488351232 := by omega
          have hbs : (srcL L).length = min L.length 4 + 3 := by unfold srcL; simp; omega
          have HBO := Lib.hid (bl_ok HOK.out L)
          by_cases h4 : L.length ≤ 4
          all_goals
            go_wp2_with (at_builtin; refine wpList_grow (l := L.take 4) (news := [0, 1, 2]) rfl rfl Try.underlying52 u32_info rfl rfl rfl (by simp; omega) rfl (by omega) (fun h => by have := HNIL.out h; omega) ((HSL.out.kept0 (((Kept.refl [] wr).alloc _).alloc _)).take 4) (by exact sln_new1 _ _ _ _ _) (by omega) (by unfold maxLen; omega) (by omega) ?_; intro a1 c1 w2 hown2 hst2; have hk2 : Kept [] wr w2 := (((Kept.refl [] wr).alloc _).alloc _).trans hst2.kept; have hcw2 := act_cell hst2 0 _ rfl)
            have hS2 : SlN w2 .u32 a1 (srcL L) := hown2.sln
            have HO2 := Lib.hid (HO.out.stay hk2)
            obtain ⟨wL, rfl⟩ : ∃ wL : World, wL = w2 := ⟨_, rfl⟩
            clear hown2 hst2 hk2
            obtain ⟨gt, hgt⟩ := HO2.out.told.form (by rw [← HNT.out]; have h1 := HOK.out.len; have h2 := HNT.out; omega)
            subst hgt
            have hnt2 : 2 ≤ nt := by have h1 := HOK.out.len; have h2 := HNT.out; omega
            obtain ⟨bs, hbsd⟩ : ∃ bs, bs = (srcL L).length := ⟨_, rfl⟩
            have HBS := Lib.hid hbsd.symm
            rw [← hbsd] at hbs
            have hbs7 : 3 ≤ bs ∧ bs ≤ 7 := by omega
            obtain ⟨hbs3, hbs7⟩ := hbs7
            have hbi : (bs : Int) = min (L.length : Int) 4 + 3 := by omega
            have hbu : bs ≤ L.length + 3 := by omega
            first
              | have hbl : L.length + 3 ≤ bs := by omega
              | have hbl : 7 ≤ bs := by omega
            clear hbi hbsd hbs
            go_wp2_with fail
            go_loopw [12, 59] (fun v i wr => ∃ (j : Nat) (ab : Option Addr) (cb : Nat), j ≤ bs ∧ i = .int .i64 j ∧ v = .slice ab j cb ∧ Own wr 24 ab j cb (nats .u32 (((srcL L).take j).map (tb T))) ∧ Stepped wL wr [] (ft ab)) (fun _ i _ => bs - (intOf i).toNat)
            case atStart => exact ⟨0, none, 0, by omega, rfl, rfl, Own.nil _ _, .refl _ _⟩
            case round =>
              obtain ⟨j, ab, cb, hj, rfl, rfl, hob, hstb⟩ := hrel
              by_cases hjb : j < bs
              · as_aux_lemma =>
                  have hjs : j < (srcL L).length := by rw [HBS.out]; exact hjb
                  obtain ⟨ad, rfl, hcs⟩ := (hS2.kept0 hstb.kept) j hjs
                  have HTK := Lib.hid (take_snoc (srcL L) j hjs)
                  generalize (srcL L)[j] = x at *
                  have hqn : x / 2 % 4294967296 % nt < nt := Nat.mod_lt _ (by omega)
                  have hct := own_cells3 (HO2.out.told.kept0 hstb.kept) (x / 2 % 4294967296 % nt) (by rw [← HNT.out]; exact hqn)
                  have hTq : T.getD (x / 2 % 4294967296 % nt) 0 < 4294967296 := Gr.ok_lt (HOK.out.ok _ (bl_ok.getD_memT (by rw [← HNT.out]; exact hqn))) (by omega)
                  have HTB := Lib.hid (show tb T x = ifL (T.getD (x / 2 % 4294967296 % nt) 0) (((x : Int) % 2) == 1) from by rw [odd_spell, HNT.out]; rfl)
                  generalize T.getD (x / 2 % 4294967296 % nt) 0 = y at *
                  have iq : (x : Int) / 2 % 4294967296 % (nt : Int) < (nt : Int) := Int.emod_lt_of_pos _ (by omega)
                  have iq0 : 0 ≤ (x : Int) / 2 % 4294967296 % (nt : Int) := Int.emod_nonneg _ (by omega)
                  have HIF := Lib.hid (fun (b : Bool) (w : World) => lit_if y b w hTq)
                  go_wp2_with fail
                  refine (HIF.out _ _).mono ?_
                  rintro e w' ⟨rfl, rfl⟩
                  go_wp2_with (at_builtin; refine wpList_push rfl rfl Try.underlying46 lit_info rfl rfl rfl hob rfl (by unfold maxLen; omega) (by omega) ?_; intro a3 c3 w3 hown3 hst3)
                  go_roundw
                  case rel => exact ⟨j + 1, a3, c3, by omega, by go_num, rfl, by rw [HTK.out, List.map_append, List.map_cons, List.map_nil, ← nats_append, HTB.out]; exact hown3, hstb.trans hst3⟩
                  case measure => simp [intOf]; omega
              · obtain rfl : bs = j := by omega
                have HBL := Lib.hid (show ((srcL L).take bs).map (tb T) = bl T L from by rw [List.take_of_length_le (by rw [HBS.out]; omega)]; rfl)
                rw [HBL.out] at hob
                have HBLL := Lib.hid (show (bl T L).length = bs from by unfold bl; rw [List.length_map]; exact HBS.out)
                have hO3 := HO2.out.stay hstb.kept
                have hcw3 := hstb.kept.cell hcw2 (by simp)
                clear hS2 hj hjb
                by_cases h0 : wh = 0
                · have HG := Lib.hid (show optG (g, T) (wh, L) = ((inputG g).1, T ++ [(inputG g).2]) from by simp [optG, h0])
                  have HV := Lib.hid (show optV ws k2 (V, inp) (wh, L) = (V ++ [inV ws inp k2], inp ++ [inV ws inp k2]) from by simp [optV, h0])
                  subst h0
                  go_wp2_with fail
                  refine (aig_input hO3.graph (by omega)).mono ?_
                  rintro e w4 ⟨F4, rfl, hg4, hst4⟩
                  have hO4 := hO3.call hst4 hg4
                  have hws4 := (HWS.out.kept0 (HK.out.trans hO4.step.kept))
                  clear hO3 hg4 hst4 hob hcw3 hcw2
                  by_cases hnw : ni < ws.length
                  · as_aux_lemma =>
                      have HI := Lib.hid (show inV ws inp k2 = ws.getD ni 0 from by unfold inV; rw [← HNI.out, if_pos hnw])
                      obtain ⟨adw, rfl, hcv⟩ := hws4 ni hnw
                      have e : ws.getD ni 0 = ws[ni] := by simp [List.getD_eq_getElem?_getD, hnw]
                      rw [e] at HI
                      clear e
                      generalize ws[ni] = v at *
                      have inw : (ni : Int) < (ws.length : Int) := by omega
                      rw [HI.out] at HV
                      go_wp2_with (first
                        | (at_builtin; refine wpList_push rfl rfl Try.underlying23 u64_info1 rfl rfl rfl (by rw [HNI.out]; exact hO4.inn) rfl (by unfold maxLen; omega) (by omega) ?_; intro a5 c5 w5 hown5 hst5; rw [HNI.out] at hown5; have hO5 := hO4.give (v := v) hst5 hown5)
                        | (at_builtin; refine wpList_push rfl rfl Try.underlying46 lit_info rfl rfl rfl (by rw [HNT.out]; exact hO5.told) rfl (by unfold maxLen; omega) (by omega) ?_; intro a6 c6 w6 hown6 hst6))
                      rw [HNT.out] at hown6
                      have hO6 := hO5.tell (x := (inputG g).2) hst6 hown6
                      go_roundw
                      case rel => exact ⟨k2 + 1, F4, a6, c6, a5, c5, nt + 1, ni + 1, by omega, by omega, by go_num, by rw [HGN.out, HG.out]; simp [HNT.out], by rw [HVN.out, HV.out]; simp [HNI.out], rfl, rfl, by rw [HGN.out, HVN.out, HG.out, HV.out]; exact hO6⟩
                      case measure => simp [intOf]; omega
                  · as_aux_lemma =>
                      have HI := Lib.hid (show inV ws inp k2 = k2 from by unfold inV; rw [← HNI.out, if_neg hnw])
                      rw [HI.out] at HV
                      go_wp2_with (first
                        | (at_builtin; refine wpList_push rfl rfl Try.underlying23 u64_info1 rfl rfl rfl (by rw [HNI.out]; exact hO4.inn) rfl (by unfold maxLen; omega) (by omega) ?_; intro a5 c5 w5 hown5 hst5; rw [HNI.out] at hown5; have hO5 := hO4.give (v := k2) hst5 hown5)
                        | (at_builtin; refine wpList_push rfl rfl Try.underlying46 lit_info rfl rfl rfl (by rw [HNT.out]; exact hO5.told) rfl (by unfold maxLen; omega) (by omega) ?_; intro a6 c6 w6 hown6 hst6))
                      rw [HNT.out] at hown6
                      have hO6 := hO5.tell (x := (inputG g).2) hst6 hown6
                      go_roundw
                      case rel => exact ⟨k2 + 1, F4, a6, c6, a5, c5, nt + 1, ni + 1, by omega, by omega, by go_num, by rw [HGN.out, HG.out]; simp [HNT.out], by rw [HVN.out, HV.out]; simp [HNI.out], rfl, rfl, by rw [HGN.out, HVN.out, HG.out, HV.out]; exact hO6⟩
                      case measure => simp [intOf]; omega
                have z0 : (wh == 0) = false := by simpa using h0
                have HV := Lib.hid (show optV ws k2 (V, inp) (wh, L) = (V ++ [opV wh (bw V L)], inp) from by simp [optV, h0])
                have y0 := Lib.hid h0; clear h0
                by_cases h1 : wh = 1
                · as_aux_lemma =>
                    have HG := Lib.hid (show optG (g, T) (wh, L) = ((manyG andG g 1 (bl T L)).1, T ++ [(manyG andG g 1 (bl T L)).2]) from by simp [optG, h1])
                    subst h1
                    go_wp2_with fail
                    refine (aig_And_ hO3.graph ab cb bs (bl T L) HBLL.out (by omega) hob.sln HBO.out (hO3.graph.apart hob (by decide) (by decide) (by decide))).mono ?_
                    rintro e w4 ⟨F4, rfl, hg4, hst4⟩
                    have hO4 := hO3.call hst4 hg4
                    clear hO3 hg4 hst4 hob hcw3 hcw2
                    go_wp2_with (at_builtin; refine wpList_push rfl rfl Try.underlying46 lit_info rfl rfl rfl (by rw [HNT.out]; exact hO4.told) rfl (by unfold maxLen; omega) (by omega) ?_; intro a6 c6 w6 hown6 hst6)
                    rw [HNT.out] at hown6
                    have hO6 := hO4.tell (x := (manyG andG g 1 (bl T L)).2) hst6 hown6
                    go_roundw
                    case rel => exact ⟨k2 + 1, F4, a6, c6, ia, ic, nt + 1, ni, by omega, by omega, by go_num, by rw [HGN.out, HG.out]; simp [HNT.out], by rw [HVN.out, HV.out]; exact HNI.out, rfl, rfl, by rw [HGN.out, HVN.out, HG.out, HV.out]; exact hO6⟩
                    case measure => simp [intOf]; omega
                have z1 : (wh == 1) = false := by simpa using h1
                have y1 := Lib.hid h1; clear h1
                by_cases h2 : wh = 2
                · as_aux_lemma =>
                    have HG := Lib.hid (show optG (g, T) (wh, L) = ((manyG orG g 0 (bl T L)).1, T ++ [(manyG orG g 0 (bl T L)).2]) from by simp [optG, h2])
                    subst h2
                    go_wp2_with fail
                    refine (aig_Or_ hO3.graph ab cb bs (bl T L) HBLL.out (by omega) hob.sln HBO.out (hO3.graph.apart hob (by decide) (by decide) (by decide))).mono ?_
                    rintro e w4 ⟨F4, rfl, hg4, hst4⟩
                    have hO4 := hO3.call hst4 hg4
                    clear hO3 hg4 hst4 hob hcw3 hcw2
                    go_wp2_with (at_builtin; refine wpList_push rfl rfl Try.underlying46 lit_info rfl rfl rfl (by rw [HNT.out]; exact hO4.told) rfl (by unfold maxLen; omega) (by omega) ?_; intro a6 c6 w6 hown6 hst6)
                    rw [HNT.out] at hown6
                    have hO6 := hO4.tell (x := (manyG orG g 0 (bl T L)).2) hst6 hown6
                    go_roundw
                    case rel => exact ⟨k2 + 1, F4, a6, c6, ia, ic, nt + 1, ni, by omega, by omega, by go_num, by rw [HGN.out, HG.out]; simp [HNT.out], by rw [HVN.out, HV.out]; exact HNI.out, rfl, rfl, by rw [HGN.out, HVN.out, HG.out, HV.out]; exact hO6⟩
                    case measure => simp [intOf]; omega
                have z2 : (wh == 2) = false := by simpa using h2
                have y2 := Lib.hid h2; clear h2
                by_cases h3 : wh = 3
                · as_aux_lemma =>
                    have HG := Lib.hid (show optG (g, T) (wh, L) = ((manyG xorG g 0 (bl T L)).1, T ++ [(manyG xorG g 0 (bl T L)).2]) from by simp [optG, h3])
                    subst h3
                    go_wp2_with fail
                    refine (aig_Xor_ hO3.graph ab cb bs (bl T L) HBLL.out (by omega) hob.sln HBO.out (hO3.graph.apart hob (by decide) (by decide) (by decide))).mono ?_
                    rintro e w4 ⟨F4, rfl, hg4, hst4⟩
                    have hO4 := hO3.call hst4 hg4
                    clear hO3 hg4 hst4 hob hcw3 hcw2
                    go_wp2_with (at_builtin; refine wpList_push rfl rfl Try.underlying46 lit_info rfl rfl rfl (by rw [HNT.out]; exact hO4.told) rfl (by unfold maxLen; omega) (by omega) ?_; intro a6 c6 w6 hown6 hst6)
                    rw [HNT.out] at hown6
                    have hO6 := hO4.tell (x := (manyG xorG g 0 (bl T L)).2) hst6 hown6
                    go_roundw
                    case rel => exact ⟨k2 + 1, F4, a6, c6, ia, ic, nt + 1, ni, by omega, by omega, by go_num, by rw [HGN.out, HG.out]; simp [HNT.out], by rw [HVN.out, HV.out]; exact HNI.out, rfl, rfl, by rw [HGN.out, HVN.out, HG.out, HV.out]; exact hO6⟩
                    case measure => simp [intOf]; omega
                have z3 : (wh == 3) = false := by simpa using h3
                have y3 := Lib.hid h3; clear h3
                by_cases h4' : wh = 4
                · as_aux_lemma =>
                    have HG := Lib.hid (show optG (g, T) (wh, L) = ((muxG g ((bl T L).getD 0 0) ((bl T L).getD 1 0) ((bl T L).getD 2 0)).1, T ++ [(muxG g ((bl T L).getD 0 0) ((bl T L).getD 1 0) ((bl T L).getD 2 0)).2]) from by simp [optG, h4'])
                    subst h4'
                    obtain ⟨gb, rfl⟩ := hob.form (by omega)
                    have q0 := own_cells3 hob 0 (by rw [HBLL.out]; omega)
                    have q1 := own_cells3 hob 1 (by rw [HBLL.out]; omega)
                    have q2 := own_cells3 hob 2 (by rw [HBLL.out]; omega)
                    have b0 : 0 < bs := by omega
                    have b1 : 1 < bs := by omega
                    have b2 : 2 < bs := by omega
                    have i1 : (1:Int) < (bs:Int) := by omega
                    have i2 : (2:Int) < (bs:Int) := by omega
                    have HM0 := Lib.hid (HBO.out _ (bl_ok.getD_memT (l := bl T L) (k := 0) (by rw [HBLL.out]; omega)))
                    have HM1 := Lib.hid (HBO.out _ (bl_ok.getD_memT (l := bl T L) (k := 1) (by rw [HBLL.out]; omega)))
                    have HM2 := Lib.hid (HBO.out _ (bl_ok.getD_memT (l := bl T L) (k := 2) (by rw [HBLL.out]; omega)))
                    have h := fun w' (hk : Kept [] wr w') => aig_mux (hO3.graph.kept0 hk) (by omega) HM0.out HM1.out HM2.out
                    go_wp2_with fail
                    go_region_held3 (fun w' => w'.cell? ⟨gb, 0, none⟩ = some (.int .u32 (((bl T L).getD 0 0 : Nat) : Int)) ∧ w'.cell? ⟨gb, 1, none⟩ = some (.int .u32 (((bl T L).getD 1 0 : Nat) : Int)) ∧ w'.cell? ⟨gb, 2, none⟩ = some (.int .u32 (((bl T L).getD 2 0 : Nat) : Int)))
                      (first | (exact ⟨own_cells3 hob4 0 (by rw [HBLL.out]; omega), own_cells3 hob4 1 (by rw [HBLL.out]; omega), own_cells3 hob4 2 (by rw [HBLL.out]; omega)⟩) | go_keep)
                      (first | (go_at_call 41; refine (h _ ((Kept.refl [] wr).drew)).mono ?_; rintro e w4 ⟨F4, rfl, hg4, hst4⟩; have hob4 := (hob.kept0 ((Kept.refl [] wr).drew)).kept hst4.kept ((hO3.graph.kept0 ((Kept.refl [] wr).drew)).apart (hob.kept0 ((Kept.refl [] wr).drew)) (by decide) (by decide) (by decide))))
                    have hO4 := (hO3.stay ((Kept.refl [] wr).drew)).call hst4 hg4
                    clear h hO3 hg4 hst4 hob hob4 hcw3 hcw2 q0 q1 q2
                    go_wp2_with (at_builtin; refine wpList_push rfl rfl Try.underlying46 lit_info rfl rfl rfl (by rw [HNT.out]; exact hO4.told) rfl (by unfold maxLen; omega) (by omega) ?_; intro a6 c6 w6 hown6 hst6)
                    rw [HNT.out] at hown6
                    have hO6 := hO4.tell (x := (muxG g ((bl T L).getD 0 0) ((bl T L).getD 1 0) ((bl T L).getD 2 0)).2) hst6 hown6
                    go_roundw
                    case rel => exact ⟨k2 + 1, F4, a6, c6, ia, ic, nt + 1, ni, by omega, by omega, by go_num, by rw [HGN.out, HG.out]; simp [HNT.out], by rw [HVN.out, HV.out]; exact HNI.out, rfl, rfl, by rw [HGN.out, HVN.out, HG.out, HV.out]; exact hO6⟩
                    case measure => simp [intOf]; omega
                have z4 : (wh == 4) = false := by simpa using h4'
                have HG := Lib.hid (show optG (g, T) (wh, L) = (g, T ++ [0]) from by simp [optG, y0.out, y1.out, y2.out, y3.out, h4'])
                clear h4' hob
                as_aux_lemma =>
                  go_wp2_with (at_builtin; refine wpList_push rfl rfl Try.underlying46 lit_info rfl rfl rfl (by rw [HNT.out]; exact hO3.told) rfl (by unfold maxLen; omega) (by omega) ?_; intro a6 c6 w6 hown6 hst6)
                  rw [HNT.out] at hown6
                  have hO6 := hO3.tell (x := 0) hst6 hown6
                  go_roundw
                  case rel => exact ⟨k2 + 1, F2, a6, c6, ia, ic, nt + 1, ni, by omega, by omega, by go_num, by rw [HGN.out, HG.out]; simp [HNT.out], by rw [HVN.out, HV.out]; exact HNI.out, rfl, rfl, by rw [HGN.out, HVN.out, HG.out, HV.out]; exact hO6⟩
                  case measure => simp [intOf]; omega
        · have hKk : KK = k2 := by have := HKK.out; omega
          have HVE := Lib.hid (HVK.out hKk)
          clear hKk
          rcases Nat.lt_or_ge k2 n with hkn | hkn
          all_goals
            first
              | (have hkl : k2 < acts.length := by rw [HN.out]; exact hkn
                 have k40 : ((k2 : Int) == 40) = true := by simp; omega
                 obtain ⟨bb, oo, al, cl, rfl, hc1, hc2, -, -, -, -⟩ := (HS.out.kept0 (HK.out.trans HO.out.step.kept)) k2 hkl
                 go_wp2_with fail
                 have hO4 := HO.out.stay ((Kept.refl [] wr).alloc (.cells #[.int .i64 acts[k2].1, .slice al acts[k2].2.length cl] 60))
                 generalize wr.alloc (.cells #[.int .i64 acts[k2].1, .slice al acts[k2].2.length cl] 60) = w4 at *
                 clear hc1 hc2)
              | (go_wp2_with fail
                 have hO4 := HO.out
                 obtain ⟨w4, rfl⟩ : ∃ w4 : World, w4 = wr := ⟨_, rfl⟩)
            have HEV := aig_eval hO4.graph (by omega) ia ic ni inp HNI.out.symm (by rw [HNI.out]; exact HOK.out.ins.symm) hO4.inn.sln HOK.out.words
            rw [evalG_val hO4.graph.wf] at HEV
            refine HEV.mono ?_
            clear HEV
            rintro e w5 ⟨va, vc, rfl, hvv, hst5⟩
            have hk45 := hO4.step.kept.trans hst5.kept
            have hall5 := HALL.out.kept0 hk45
            have hK5 := HK.out.trans hk45
            have hto5 : Own w5 24 ta nt tc (nats .u32 T) := by rw [HNT.out]; exact hO4.told.kept0 hst5.kept
            have HVW := Lib.hid (valL_words HOK.out.words g.nodes)
            have HVL := Lib.hid (valL_length inp g.nodes)
            have HVD := Lib.hid (show ∀ b ∈ ft va, b ∉ ft (s k).1 from fun b hb hs => by
              have h1 := (hst5.fresh b hb).resolve_left (by simp)
              have h2 := (HALL.out.each k hk4).2.lt b hs
              have h3 := hO4.step.kept.size
              omega)
            have HVFL := Lib.hid (show VF.length = nt from by rw [HVE.out, HNT.out]; exact HOK.out.same)
            have HAL5 := Lib.hid hall5; clear hall5
            have HK5 := Lib.hid hK5; clear hK5
            have HTO5 := Lib.hid hto5; clear hto5
            have HVV := Lib.hid hvv; clear hvv
            clear hO4 hk45 hst5
            go_wp2_with fail
            go_loopw [162] (fun i wr => ∃ (q : Nat) (cs : Array Value) (s : Nat → Option Addr × Nat), q ≤ nt ∧ i = .int .i64 q ∧ AllS w.heap.size wr w.heap.size (fun j => if j < k then VF else if j = k then VF.take q else []) cs s ∧ Kept [] w wr ∧ Own wr 24 ta nt tc (nats .u32 T) ∧ Own wr 41 va g.nodes.length vc (nats .u64 (valL inp g.nodes)) ∧ (∀ b ∈ ft va, b ∉ ft (s k).1)) (fun i _ => nt - (intOf i).toNat)
            case atStart => exact ⟨0, cs, s, by omega, rfl, HAL5.out.ext (fun j hj => by by_cases h1 : j < k <;> by_cases h2 : j = k <;> simp [h1, h2]), HK5.out, HTO5.out, HVV.out, HVD.out⟩
            case round =>
              clear HVD
              obtain ⟨q, cs2, s2, hq, rfl, hall, hK6, hto, hvv, hvd⟩ := hrel
              by_cases hqn : q < nt
              · as_aux_lemma =>
                  have hqT : q < T.length := by rw [← HNT.out]; exact hqn
                  obtain ⟨adt, e0, hct⟩ := hto.sln q hqT
                  subst e0
                  have hx := Gr.ok_lt (HOK.out.ok _ (List.getElem_mem hqT)) (by omega)
                  have hqV : q < VF.length := by rw [HVFL.out]; exact hqn
                  have HVQ := Lib.hid (show wd (valL inp g.nodes) T[q] = VF[q] from by
                    have h1 : wd (valL inp g.nodes) (T.getD q 0) = V.getD q 0 := HOK.out.val q
                    have e1 : T.getD q 0 = T[q] := by simp [List.getD_eq_getElem?_getD, hqT]
                    have e2 : V.getD q 0 = VF[q] := by rw [← HVE.out]; simp [List.getD_eq_getElem?_getD, hqV]
                    rw [e1, e2] at h1
                    exact h1)
                  have HTV := Lib.hid (take_snoc VF q hqV)
                  generalize T[q] = x at *
                  generalize VF[q] = v at *
                  have hck : wr.cell? ⟨w.heap.size, k, none⟩ = some (.slice (s2 k).1 q (s2 k).2) := by
                    have h1 := hall.cell hk4
                    simp only [Nat.lt_irrefl, if_false, if_true, List.length_take] at h1
                    rw [h1, Nat.min_eq_left (by omega)]
                  have hok : Own wr 41 (s2 k).1 q (s2 k).2 (nats .u64 (VF.take q)) := by
                    have h1 := (hall.each k hk4).2
                    simp only [Nat.lt_irrefl, if_false, if_true, List.length_take] at h1
                    rwa [Nat.min_eq_left (by omega)] at h1
                  have HAL := Lib.hid hall; clear hall
                  have HVV2 := Lib.hid hvv
                  have hfzk : wr.frozen? ⟨w.heap.size, k, none⟩ = false := blk_free HAL.out.blk k
                  have hnotA := HAL.out.notA hk4
                  have hcka : ∀ o, (wr.alloc o).cell? ⟨w.heap.size, k, none⟩ = some (.slice (s2 k).1 q (s2 k).2) := fun o => cell_alloc hck o
                  have iqn : (q : Int) < (nt : Int) := by omega
                  have ik4 : (k : Int) < 4 := by omega
                  have HCW := Lib.hid (fun (w' : World) (hk' : Kept [] wr w') => c_word x x rfl v v rfl va vc g.nodes.length (valL inp g.nodes) w' HVL.out hx (hvv.kept0 hk').sln HVW.out HVQ.out)
                  clear hvv
                  generalize hsk : s2 k = sk at *
                  obtain ⟨ak, ck⟩ := sk
                  simp only at hck hok hnotA hvd hcka
                  have HSK := Lib.hid hsk; clear hsk
                  go_wp2_with fail
                  go_region_law (first
                    | (refine step_push (by rfl) (by rfl) Try.underlying23 u64_info1 rfl (by omega) (by rfl) (by rfl) (news := [.int .u64 (v : Int)]) (own_kept (w := wr) hok (((Kept.refl [] wr).alloc _).drew) (by simp)) rfl (news_blk (t := 41) (by exact heap_new1 _ _)) (by simp [Value.oneCell']) (by unfold maxLen; omega) (by omega) ?_; intro a1 c1 w7 hown1 hst1; have hckw : w7.cell? ⟨w.heap.size, k, none⟩ = some (.slice ak q ck) := hst1.kept.cell ((((Kept.refl [] wr).alloc _).drew).cell hck (by simp)) hnotA; have hfzw : w7.frozen? ⟨w.heap.size, k, none⟩ = false := by rw [hst1.kept.frozen (by simp; exact Nat.lt_succ_of_lt (blk_lt HAL.out.blk)) hnotA, (((Kept.refl [] wr).alloc _).drew).frozen (blk_lt HAL.out.blk) (by simp)]; exact hfzk)
                    | (go_simp; go_at_call 24; refine (HCW.out _ ((Kept.refl [] wr).drew)).mono ?_; rintro e w' ⟨rfl, rfl⟩))
                  all_goals
                    go_wp2
                    have hps := HAL.out.push (xk := VF.take q) (n := q) hk4 hK6.size (by simp) (by rw [List.length_take]; omega) (((Kept.refl [] wr).alloc _).drew) hown1 (by rw [HSK.out]; exact hst1)
                    go_roundw
                    case rel => exact ⟨q + 1, _, _, by omega, by go_num, hps.1.ext (fun j hj => by by_cases h2 : j = k <;> simp [h2, HTV.out]), kept_above hK6 hps.2.1 (fun b hb => by
                      rcases List.mem_cons.1 hb with h | h
                      · subst h; exact Nat.le_refl _
                      · exact HAL.out.fresh k hk4 b h), hto.kept hps.2.1 (fun b hb hm => by
                        rcases List.mem_cons.1 hm with h | h
                        · exact blk_apart HAL.out.blk hto (by decide) (h ▸ hb)
                        · exact owns_apart hto (HAL.out.each k hk4).2 (by decide) b hb h), HVV2.out.kept hps.2.1 (fun b hb hm => by
                        rcases List.mem_cons.1 hm with h | h
                        · exact blk_apart HAL.out.blk HVV2.out (by decide) (h ▸ hb)
                        · rw [HSK.out] at h; exact hvd b hb h), fun b hb hm => by
                        rw [if_pos rfl] at hm
                        rcases hps.2.2 b hm with h | h
                        · rw [HSK.out] at h; exact hvd b hb h
                        · exact absurd (HVV2.out.lt b hb) (by omega)⟩
                    case measure => simp [intOf]; omega
              · obtain rfl : nt = q := by omega
                have HVT := Lib.hid (show VF.take nt = VF from List.take_of_length_le (by rw [HVFL.out]; omega))
                go_wp2_with fail
                go_roundw
                case rel => exact ⟨k + 1, cs2, s2, by omega, by go_num, hall.ext (fun j hj => by
                  by_cases h1 : j < k
                  · rw [if_pos h1, if_pos (by omega)]
                  · by_cases h2 : j = k
                    · rw [if_neg h1, if_pos h2, if_pos (by omega), HVT.out]
                    · rw [if_neg h1, if_neg h2, if_neg (by omega)]), hK6⟩
                case measure => simp [intOf]; omega
    · as_aux_lemma =>
        have HK4 := Lib.hid (show k = 4 by omega)
        have hall := HALL.out
        have hK := HK.out
        clear HALL HK HA0
        have hcl : ∀ j, j < 4 → wK.cell? ⟨w.heap.size, j, none⟩ = some (.slice (s j).1 VF.length (s j).2) ∧ SlN wK .u64 (s j).1 VF := fun j hj => by
          have h1 := hall.cell hj
          have h2 := (hall.each j hj).2.sln
          have hjk : j < k := by have := HK4.out; omega
          simp only [hjk, if_true] at h1 h2
          exact ⟨h1, h2⟩
        have HCL := Lib.hid hcl; clear hcl hall
        have hvl : VF.length ≤ 42 := by
          have h1 := (gTo_ok true true HWW.out acts KK (by have := HKK.out; omega))
          rw [HVF.out, h1.same, h1.len]
          have := HKK.out
          omega
        go_wp2_with fail
        go_loopw [178] (fun i wr => ∃ (q m : Nat), q ≤ 4 ∧ i = .int .i64 q ∧ wr = wK.drewN m) (fun i _ => 4 - (intOf i).toNat)
        case atStart => exact ⟨0, 0, by omega, rfl, rfl⟩
        case round =>
          obtain ⟨q, m, hq, rfl, rfl⟩ := hrel
          by_cases hq4 : q < 4
          · have hcq := (HCL.out q hq4).1
            have hc0 := (HCL.out 0 (by omega)).1
            have iq4 : (q : Int) < 4 := by omega
            have HSQ := Lib.hid (HCL.out q hq4).2
            have HS0 := Lib.hid (HCL.out 0 (by omega)).2
            generalize hsq : s q = sq at *
            generalize hs0 : s 0 = s0 at *
            obtain ⟨aq, cq⟩ := sq
            obtain ⟨a0, c0⟩ := s0
            clear hsq hs0
            simp only at hcq hc0
            go_wp2_with fail
            go_loopw [185] (fun i wr => ∃ (j m2 : Nat), j ≤ VF.length ∧ i = .int .i64 j ∧ wr = wK.drewN m2) (fun i _ => VF.length - (intOf i).toNat)
            case atStart => exact ⟨0, m, by omega, rfl, rfl⟩
            case round =>
              obtain ⟨j, m2, hj, rfl, rfl⟩ := hrel
              by_cases hjl : j < VF.length
              · obtain ⟨ad1, rfl, hv1⟩ := HSQ.out j hjl
                obtain ⟨ad2, rfl, hv2⟩ := HS0.out j hjl
                generalize VF[j] = v at *
                have ij : (j : Int) < (VF.length : Int) := by omega
                go_wp2_with fail
                go_quiet (fail)
                go_wp2_with fail
                go_roundw
                case rel => exact ⟨j + 1, _, by omega, by go_num, rfl⟩
                case measure => simp [intOf]; omega
              · obtain rfl : j = VF.length := by omega
                go_wp2_with fail
                go_roundw
                case rel => exact ⟨q + 1, _, by omega, by go_num, rfl⟩
                case measure => simp [intOf]; omega
          · go_wp2_with fail
            refine (wakes_c _).mono ?_
            rintro e w' ⟨rfl, hk'⟩
            go_wp2_with fail
            go_ret
            exact ⟨rfl, ((hK.drewN m).trans hk').below⟩
end Go.Proofs.Yteikngjanfjmfaa
