/-
  ConeWords: a copy's words; for any two graphs, any row and any inputs. No condition.
-/
import Derived.Test.YthjaihmjdnijnaaConeWordsM
import Derived.Test.YthjaihmjdnijnaaTwoOpen
namespace Go.Proofs.Ythjaihmjdnijnaa
open Go.ChangeShapes Go.WideShapes Go.ChangeAt Go.RowKit
open Go.Maps (Keyed)
open Go.WideMaps
set_option linter.unusedVariables false
set_option linter.unusedSimpArgs false

section
variable {w w' : World} {p q : Nat} {F R S : List Nat} {g g2 : Gr}
theorem far_of {w w2 : World} {a b : List Nat} (ha : ∀ x ∈ a, x < w.heap.size) (hb : ∀ x ∈ b, w.heap.size ≤ x) : ∀ x ∈ a, x ∉ b := fun x hx hx' => by
  have := ha x hx
  have := hb x hx'
  omega
/-- the box of the law's argument -/
def boxCells (o1 o2 o3 o4 : Bool) (la : Option Addr) (nl lc : Nat) (ka : Option Addr) (nk kc : Nat) (ba : Option Addr) (nb bc : Nat) (ia : Option Addr) (ni ic : Nat) : Array Value :=
  #[.bool o1, .bool o2, .bool o3, .bool o4, .slice la nl lc, .slice ka nk kc, .slice ba nb bc, .slice ia ni ic]
theorem gatesN_le {g : Gr} (h : g.nodes.length ≤ 2000) : -1 ≤ gatesN g ∧ gatesN g ≤ 2000 := by
  have : (ins g.nodes).length ≤ g.nodes.length := insFrom_length 0 g.nodes
  unfold gatesN
  omega
theorem keep7 {w w' : World} {p : Addr} {v : Value} (hk : Kept [] w w') (h : w.cell? p = some v) : Kept [] w w' ∧ w'.cell? p = some v := ⟨hk, hk.cell h (by simp)⟩
set_option maxHeartbeats 6400000 in
set_option maxRecDepth 100000 in
theorem conewords_walk (v : Value) (o1 o2 o3 o4 : Bool) (la : Option Addr) (l : List Stp) (lc : Nat) (ka : Option Addr) (k : List Stp) (kc : Nat) (ba : Option Addr) (by_ : List Nat) (bc : Nat) (ia : Option Addr) (inp : List Nat) (ic : Nat) (ax : Option Addr) (cx : Nat) (xs : List Nat) (w : World)
    (hv : TwoIs w v o1 o2 o3 o4 la l lc ka k kc ba by_ bc ia inp ic) (hcx : xs.length ≤ cx) (zx : cx * 4 ≤ 140737488351232) (sx : SlN w .u32 ax xs) (mx : ∀ n ∈ xs, n < 4294967296) :
    Calls Try.prog 5 #[v, .slice ax xs.length cx] w fun e w' => e = .returned (.bool true) ∧ Below w.heap.size w w' := by
  obtain ⟨rfl, hll, hls, hlo, hkl, hks, hko, hbl, hbs, hbo, hil, his, hiw⟩ := hv
  obtain ⟨nl, hnl⟩ : ∃ ln, ln = l.length := ⟨_, rfl⟩
  obtain ⟨nk, hnk⟩ : ∃ ln, ln = k.length := ⟨_, rfl⟩
  obtain ⟨nb, hnb⟩ : ∃ ln, ln = by_.length := ⟨_, rfl⟩
  obtain ⟨ni, hni⟩ : ∃ ln, ln = inp.length := ⟨_, rfl⟩
  obtain ⟨lx, hlx⟩ : ∃ lx, lx = xs.length := ⟨_, rfl⟩
  rw [← hnl] at hll ⊢
  rw [← hnk] at hkl ⊢
  rw [← hnb] at hbl ⊢
  rw [← hni] at hil ⊢
  rw [← hlx] at hcx ⊢
  have HB1 := Lib.hid (fun (W : World) (hk : Kept [] w W) => build_c o1 o2 la lc nl l (w := W) hnl.symm hll (hls.kept0 hk) hlo)
  have HB2 := Lib.hid (fun (W : World) (hk' : Kept [] w W) => build_c o3 o4 ka kc nk k (w := W) hnk.symm hkl (hks.kept0 hk') hko)
  have SX := Lib.hid sx
  have MX := Lib.hid mx
  have HLX := Lib.hid hlx.symm
  have SB := Lib.hid hbs
  have BO := Lib.hid hbo
  have HNB := Lib.hid hnb.symm
  have SI := Lib.hid his
  have IW := Lib.hid hiw
  have HNI := Lib.hid hni.symm
  have BLX := Lib.hid (show lx ≤ 140737488351232 by omega)
  clear hnl hnk hnb hni hlx hll hls hlo hkl hks hko hbl hbs hbo hil his hiw sx mx hcx zx
  obtain ⟨G, hG⟩ : ∃ G, G = buildTo o1 o2 l 60 := ⟨_, rfl⟩
  obtain ⟨C, hC⟩ : ∃ C, C = buildTo o3 o4 k 60 := ⟨_, rfl⟩
  have hgG := buildTo_good o1 o2 l 60
  have hgC := buildTo_good o3 o4 k 60
  rw [← hG] at hgG
  rw [← hC] at hgC
  have HGE := Lib.hid hG.symm
  have HCE := Lib.hid hC.symm
  have WFG := Lib.hid hgG.1
  have WFC := Lib.hid hgC.1
  have hgl : G.nodes.length ≤ 541 := by omega
  have hcl : C.nodes.length ≤ 541 := by omega
  have hgp := hgG.1.pos
  have hcp := hgC.1.pos
  clear hG hC hgG hgC
  go_enter Try.func5, Try.ntmps5; (try simp only [List.append])
  go_wp2_with fail
  refine (HB1.out _ ((Kept.refl [] w).alloc _)).mono ?_
  rintro e w1 ⟨p, F, q, R, rfl, hb⟩
  rw [HGE.out] at hb
  have K1 := Lib.hid (((Kept.refl [] w).alloc (.cells (boxCells o1 o2 o3 o4 la nl lc ka nk kc ba nb bc ia ni ic) 64)).trans hb.kept)
  have BX := Lib.hid (fun (W : World) (hk : Kept [] w1 W) => (hb.kept.trans hk).heap (show (w.alloc (.cells (boxCells o1 o2 o3 o4 la nl lc ka nk kc ba nb bc ia ni ic) 64)).heap[w.heap.size]? = some (.cells (boxCells o1 o2 o3 o4 la nl lc ka nk kc ba nb bc ia ni ic) 64 (0, 0)) from heap_alloc_new w _) (by simp))
  have G1 := Lib.hid hb.graph
  obtain ⟨b0, hb0⟩ : ∃ b, b = w.heap.size := ⟨_, rfl⟩
  have HB0 := Lib.hid (show b0 < w1.heap.size from by have := K1.out.size; have := hb.kept.size; rw [hb0]; simp at this; omega)
  rw [← hb0] at BX ⊢
  clear hb HB1 HGE hb0
  have d2 : w1.cell? ⟨b0, 2, none⟩ = some (.bool o3) := blk_cell (BX.out w1 (.refl _ _)) 2
  have d3 : w1.cell? ⟨b0, 3, none⟩ = some (.bool o4) := blk_cell (BX.out w1 (.refl _ _)) 3
  have d5 : w1.cell? ⟨b0, 5, none⟩ = some (.slice ka nk kc) := blk_cell (BX.out w1 (.refl _ _)) 5
  go_wp2_with fail
  refine (HB2.out _ K1.out).mono ?_
  rintro e w2 ⟨p2, F2, q2, R2, rfl, hb⟩
  rw [HCE.out] at hb
  have K2 := Lib.hid (K1.out.trans hb.kept)
  have G2 := Lib.hid (G1.out.kept0 hb.kept)
  have C2 := Lib.hid hb.graph
  have N2 := Lib.hid hb.newF
  have S12 := Lib.hid hb.kept
  have FF := Lib.hid (far_of (w2 := w) G1.out.lt hb.newF)
  clear hb HB2 HCE d2 d3 d5 G1
  have hneG : ((G.nodes.length : Int) == 0) = false := by simp only [beq_eq_false_iff_ne, ne_eq]; omega
  have hneC : ((C.nodes.length : Int) == 0) = false := by simp only [beq_eq_false_iff_ne, ne_eq]; omega
  go_wp2_with fail
  refine (aig_nodes G2.out (by omega)).mono ?_
  rintro e w' ⟨rfl, rfl⟩
  go_wp2_with fail
  refine (aig_nodes C2.out (by omega)).mono ?_
  rintro e w' ⟨rfl, rfl⟩
  go_wp2_with fail
  refine (aig_nodes G2.out (by omega)).mono ?_
  rintro e w' ⟨rfl, rfl⟩
  go_wp2_with fail
  clear hneG hneC
  refine (inside_c ax cx lx G.nodes.length xs _ HLX.out BLX.out (by omega) hgp (SX.out.kept0 K2.out) MX.out).mono ?_
  rintro e v1 ⟨a1, c1, n1, rfl, ho1, hs1⟩
  have V1 := Lib.hid hs1.kept
  have O1 := Lib.hid ho1.sln
  have hn1 := ho1.len
  rw [nats_length] at hn1
  have HN1 := Lib.hid hn1
  have hn40 : n1 ≤ 40 := by have := inside_len xs G.nodes.length; omega
  clear ho1 hs1 hn1
  go_wp2_with fail
  refine (lits_c a1 c1 n1 (insideL xs G.nodes.length) _ HN1.out (by omega) O1.out).mono ?_
  rintro e v2 ⟨a2, c2, n2, rfl, ho2, hs2⟩
  rw [inside_take] at ho2
  have V2 := Lib.hid (V1.out.trans hs2.kept)
  have O2 := Lib.hid ho2
  have hn2 := ho2.len
  rw [nats_length] at hn2
  have HN2 := Lib.hid hn2
  have hn240 : n2 ≤ 40 := by have := inside_len xs G.nodes.length; omega
  have XOK := Lib.hid (inside_ok WFG.out xs)
  clear ho2 hs2 hn2 O1 V1 HN1 hn40 HLX BLX SX MX
  generalize insideL xs G.nodes.length = X at *
  have hile : (ins G.nodes).length ≤ G.nodes.length := insFrom_length 0 G.nodes
  have HIN := Lib.hid (aig_inputs (G2.out.kept0 V2.out) (show G.nodes.length ≤ 1000000 by omega))
  obtain ⟨m, hm⟩ : ∃ m, m = (ins G.nodes).length := ⟨_, rfl⟩
  rw [← hm] at HIN hile
  have HM := Lib.hid hm
  clear hm
  go_wp2_with fail
  refine HIN.out.mono ?_
  rintro e v3 ⟨ai, ci, rfl, hoi, hsi⟩
  have V3 := Lib.hid (V2.out.trans hsi.kept)
  have O3 := Lib.hid (O2.out.kept0 hsi.kept)
  clear hoi hsi HIN O2 V2
  have u1 : IntKind.u32.wrap (2 * (C.nodes.length : Int)) = 2 * (C.nodes.length : Int) := by simp only [IntKind.wrap_u32]; omega
  have u2 : ((2 * (C.nodes.length : Int)) == 0) = false := by simp only [beq_eq_false_iff_ne, ne_eq]; omega
  go_wp2_with fail
  go_loopw [11, 12] (fun v i wr => ∃ (j : Nat) (a' : Option Addr) (c' : Nat), j ≤ m ∧ i = .int .i64 j ∧ v = .slice a' j c' ∧ Own wr 36 a' j c' (nats .u32 (byL by_ C.nodes.length j)) ∧ Stepped v3 wr [] (ft a')) (fun _ i _ => m - (intOf i).toNat)
  case atStart => exact ⟨0, none, 0, Nat.zero_le _, rfl, rfl, Own.nil _ _, .refl _ _⟩
  case round =>
    obtain ⟨j, a', c', hj, rfl, rfl, how, hsw⟩ := hrel
    have d6 : wr.cell? ⟨b0, 6, none⟩ = some (.slice ba nb bc) := blk_cell (BX.out wr ((S12.out.trans V3.out).trans hsw.kept)) 6
    have CR := Lib.hid (C2.out.kept0 (V3.out.trans hsw.kept))
    have OW := Lib.hid how
    have SW := Lib.hid hsw
    have HT := Lib.hid (byL_succ by_ C.nodes.length j)
    clear how
    by_cases hjm : j < m
    · by_cases hjb : j < nb
      · have hjl : j < by_.length := by rw [HNB.out]; exact hjb
        obtain ⟨ad, rfl, hcx⟩ := (SB.out.kept0 (K2.out.trans (V3.out.trans hsw.kept))) j hjl
        have hx := BO.out _ (List.getElem_mem hjl)
        have HE := Lib.hid (show by_.getD j 0 = by_[j] by rw [List.getD_eq_getElem?_getD, List.getElem?_eq_getElem hjl]; rfl)
        rw [HE.out] at HT
        clear HE hsw
        generalize by_[j] = x at *
        have HX := Lib.hid (show (x : Int) % (2 * (C.nodes.length : Int)) = ((x % (2 * C.nodes.length) : Nat) : Int) from by push_cast; rfl)
        go_wp2_with fail
        refine (aig_nodes CR.out (by omega)).mono ?_
        rintro e w' ⟨rfl, rfl⟩
        go_wp2_with (at_builtin; (try rw [HX.out]); refine wpList_push rfl rfl Try.underlying25 u32_info rfl rfl rfl OW.out rfl (by unfold maxLen; omega) (by omega) ?_; intro a5 c5 w5 hown5 hst5)
        go_roundw
        case rel => exact ⟨j + 1, a5, c5, by omega, by go_num, rfl, by rw [HT.out, ← nats_append]; exact hown5, SW.out.trans hst5⟩
        case measure => simp [intOf]; omega
      · have HE := Lib.hid (show by_.getD j 0 % (2 * C.nodes.length) = 0 by rw [List.getD_eq_getElem?_getD, List.getElem?_eq_none (by rw [HNB.out]; omega)]; simp)
        rw [HE.out] at HT
        clear HE hsw
        have HX := Lib.hid (show (0 : Int) % (2 * (C.nodes.length : Int)) = ((0 : Nat) : Int) from by simp)
        go_wp2_with fail
        refine (aig_nodes CR.out (by omega)).mono ?_
        rintro e w' ⟨rfl, rfl⟩
        go_wp2_with (at_builtin; (try rw [HX.out]); refine wpList_push (u := .int .u32 ((0 : Nat) : Int)) rfl rfl Try.underlying25 u32_info rfl rfl rfl OW.out rfl (by unfold maxLen; omega) (by omega) ?_; intro a5 c5 w5 hown5 hst5)
        go_roundw
        case rel => exact ⟨j + 1, a5, c5, by omega, by go_num, rfl, by rw [HT.out, ← nats_append]; exact hown5, SW.out.trans hst5⟩
        case measure => simp [intOf]; omega
    · obtain rfl : j = m := by omega
      obtain ⟨v4, rfl⟩ : ∃ v : World, v = wr := ⟨_, rfl⟩
      have K24 := Lib.hid (V3.out.trans SW.out.kept)
      have O4 := Lib.hid (O3.out.kept0 SW.out.kept)
      have BL := Lib.hid (show (byL by_ C.nodes.length j).length = j from byL_length _ _ _)
      have BOK := Lib.hid (show ∀ x ∈ byL by_ C.nodes.length j, C.ok x from byL_ok WFC.out _ _)
      clear hsw SW O3 V3 HT d6 SB BO HNB hjm hj
      generalize byL by_ C.nodes.length j = bys at *
      go_wp2_with fail
      go_loopw [14, 15] (fun v i wr => ∃ (t : Nat) (a : Option Addr) (c : Nat), t ≤ j ∧ i = .int .i64 t ∧ v = .slice a t c ∧ Own wr 37 a t c (nats .u32 (bys.take t)) ∧ Stepped v4 wr [] (ft a)) (fun _ i _ => j - (intOf i).toNat)
      case atStart => exact ⟨0, none, 0, Nat.zero_le _, rfl, rfl, Own.nil _ _, .refl _ _⟩
      case round =>
        obtain ⟨t, a5, c5, ht, rfl, rfl, how5, hst5⟩ := hrel
        have OW5 := Lib.hid how5
        have SW5 := Lib.hid hst5
        clear how5
        by_cases htj : t < j
        · have htl : t < bys.length := by rw [BL.out]; exact htj
          obtain ⟨ad, rfl, hcx⟩ := (OW.out.kept0 hst5.kept).sln t htl
          have HT := Lib.hid (show bys.take (t + 1) = bys.take t ++ [bys[t]] from take_snoc bys t htl)
          clear hst5
          generalize bys[t] = x at *
          go_wp2_with (at_builtin; refine wpList_push rfl rfl Try.underlying31 lit_info rfl rfl rfl OW5.out rfl (by unfold maxLen; omega) (by omega) ?_; intro a6 c6 w6 hown6 hst6)
          go_roundw
          case rel => exact ⟨t + 1, a6, c6, by omega, by go_num, rfl, by rw [HT.out, ← nats_append]; exact hown6, SW5.out.trans hst6⟩
          case measure => simp [intOf]; omega
        · obtain rfl : t = j := by omega
          rw [List.take_of_length_le (by rw [BL.out]; exact Nat.le_refl _)] at OW5
          obtain ⟨v5, rfl⟩ : ∃ v : World, v = wr := ⟨_, rfl⟩
          have K25 := Lib.hid (K24.out.trans SW5.out.kept)
          have O5 := Lib.hid (O4.out.kept0 SW5.out.kept)
          have C5 := Lib.hid (C2.out.kept0 K25.out)
          have G5 := Lib.hid (G2.out.kept0 K25.out)
          clear hst5 SW5 O4 K24 OW u1 u2 htj ht CR
          go_wp2_with fail
          refine (aig_copy C5.out (by omega)).mono ?_
          rintro e v6 ⟨p3, F3, rfl, hg3, hs3⟩
          have W6 := Lib.hid hg3
          have K6 := Lib.hid hs3.kept
          have FX := Lib.hid (far_of (w2 := v5) C5.out.lt (fun x hx => by
            rcases hs3.fresh x hx with h | h
            · simp at h
            · exact h))
          have C6 := Lib.hid (C5.out.kept0 hs3.kept)
          have G6 := Lib.hid (G5.out.kept0 hs3.kept)
          have O6 := Lib.hid (O5.out.kept0 hs3.kept)
          have B6 := Lib.hid (OW5.out.kept0 hs3.kept)
          have K26 := Lib.hid (K25.out.trans hs3.kept)
          clear hg3 hs3 K25 K6 C5 G5 O5 OW5
          have HCP := Lib.hid (cone_copy C6.out G6.out FF.out (by omega) (by omega) a5 c5 t bys BL.out HM.out B6.out.sln BOK.out (C6.out.apart B6.out (by decide) (by decide) (by decide)) a2 c2 n2 X HN2.out (by omega) O6.out.sln XOK.out (C6.out.apart O6.out (by decide) (by decide) (by decide)))
          have HN2c := Lib.hid HN2.out
          go_wp2_with fail
          refine HCP.out.mono ?_
          rintro e v7 ⟨F4, a7, c7, he, hg7, ho7, hs7⟩
          rw [HN2.out] at he ho7
          subst he
          have CWF := Lib.hid (copyCW WFC.out WFG.out BOK.out (BL.out.trans HM.out) XOK.out)
          obtain ⟨r, hr⟩ : ∃ s, s = copyG C G bys X := ⟨_, rfl⟩
          rw [← hr] at CWF hg7 ho7
          obtain ⟨gc, st⟩ := r
          clear hr
          dsimp only at hg7 ho7
          have C7 := Lib.hid hg7
          have R7 := Lib.hid ho7
          have G7 := Lib.hid (G6.out.kept hs7.kept FF.out)
          have W7 := Lib.hid (W6.out.kept hs7.kept (fun x hx hx' => FX.out x hx' hx))
          have O7 := Lib.hid (O6.out.kept hs7.kept (C6.out.apart O6.out (by decide) (by decide) (by decide)))
          have B7 := Lib.hid (B6.out.kept hs7.kept (C6.out.apart B6.out (by decide) (by decide) (by decide)))
          have K17 := Lib.hid (kept_up (S12.out.trans K26.out) hs7.kept N2.out)
          have hgcl := CWF.out.low
          have hgch := CWF.out.high
          dsimp only at hgcl hgch
          clear hg7 ho7 hs7 HCP C6 G6 W6 O6 B6 K26 FX N2
          go_wp2_with fail
          refine (aig_nodes C7.out (by omega)).mono ?_
          rintro e w' ⟨rfl, rfl⟩
          go_wp2_with fail
          refine (aig_nodes W7.out (by omega)).mono ?_
          rintro e w' ⟨rfl, rfl⟩
          have d7 : v7.cell? ⟨b0, 7, none⟩ = some (.slice ia ni ic) := blk_cell (BX.out v7 K17.out) 7
          have SI7 := Lib.hid (SI.out.kept0 (K1.out.trans K17.out))
          obtain ⟨mi, hmi⟩ : ∃ m, m = (ins C.nodes).length := ⟨_, rfl⟩
          have hmile : mi ≤ 541 := by have : (ins C.nodes).length ≤ C.nodes.length := insFrom_length 0 C.nodes; omega
          have HI7 := Lib.hid (fun (W : World) (hk : Kept [] v7 W) => aig_inputs (C7.out.kept0 hk) (show gc.nodes.length ≤ 1000000 by omega))
          rw [show ins gc.nodes = ins C.nodes from CWF.out.ins, ← hmi] at HI7
          have HIW := Lib.hid (fun (W : World) (hk : Kept [] v7 W) => aig_inputs (W7.out.kept0 hk) (show C.nodes.length ≤ 1000000 by omega))
          rw [← hmi] at HIW
          have HMG := Lib.hid (show mi = (ins gc.nodes).length from by rw [show ins gc.nodes = ins C.nodes from CWF.out.ins, hmi])
          clear hmi SI
          go_wp2_with fail
          go_region_held3 (fun w' => Kept [] v7 w' ∧ w'.cell? ⟨b0, 7, none⟩ = some (.slice ia ni ic))
            (first
              | (refine keep7 ?_ d7; (try go_split_ands); ((repeat (first | with_reducible exact Kept.refl _ _ | with_reducible assumption | with_reducible apply Kept.drew | with_reducible apply Kept.drewN | with_reducible apply Kept.alloc | refine Kept.trans ?_ hs8.kept | refine Kept.trans ?_ hlk))); done)
              | go_keep)
            (first
              | (go_at_call 16; refine (HI7.out _ (by (try go_split_ands); (repeat (first | with_reducible exact Kept.refl _ _ | with_reducible assumption | with_reducible apply Kept.drew | with_reducible apply Kept.drewN | with_reducible apply Kept.alloc | refine Kept.trans ?_ hs8.kept | refine Kept.trans ?_ hlk)))).mono ?_; rintro e x1 ⟨a8, c8, rfl, ho8, hs8⟩)
              | (go_at_call 23; refine (filled_c ia ic ni mi inp _ HNI.out (by omega) (SI7.out.kept0 (by (try go_split_ands); (repeat (first | with_reducible exact Kept.refl _ _ | with_reducible assumption | with_reducible apply Kept.drew | with_reducible apply Kept.drewN | with_reducible apply Kept.alloc | refine Kept.trans ?_ hs8.kept | refine Kept.trans ?_ hlk)))) IW.out).mono ?_; rintro e x2 ⟨gb, li, rfl, hli, hlw, hlo, hlk, hlg⟩))
          have KX := Lib.hid (((Kept.refl [] v7).drew.trans hs8.kept).trans hlk)
          have LI := Lib.hid hli
          have LW := Lib.hid hlw
          have LO := Lib.hid hlo.sln
          have C8 := Lib.hid (C7.out.kept0 KX.out)
          have G8 := Lib.hid (G7.out.kept0 KX.out)
          have B8 := Lib.hid (B7.out.kept0 KX.out)
          have O8 := Lib.hid (O7.out.kept0 KX.out)
          have R8 := Lib.hid (R7.out.kept0 KX.out)
          have CWW := Lib.hid (CWF.out.words li hlw)
          have CBY := Lib.hid CWF.out.bys
          have CROW := Lib.hid CWF.out.row
          have CG := Lib.hid CWF.out.gates
          have CM := Lib.hid CWF.out.most
          dsimp only at CWW CBY CROW CG CM
          have MW := Lib.hid (map_words (bys := bys) (g0 := gc) hlw)
          have WFGC := Lib.hid CWF.out.wf
          have C7k := Lib.hid C7.out
          clear ho8 hs8 hli hlw hlo hlk hlg CWF G7 C7 B7 O7 R7 SI7 d7
          (try clear hHeld)
          go_wp2_with fail
          refine (cone_words C8.out (by omega) (some ⟨gb, 0, none⟩) mi mi li LI.out HMG.out LO.out LW.out a5 c5 t bys BL.out (by omega) B8.out.sln CBY.out).mono ?_
          rintro e y1 ⟨g1, h1, rfl, og1, sg1⟩
          have Y1 := Lib.hid (KX.out.trans sg1.kept)
          have OG1 := Lib.hid og1.sln
          have G9 := Lib.hid (G8.out.kept0 sg1.kept)
          have O9 := Lib.hid (O8.out.kept0 sg1.kept)
          have C9 := Lib.hid (C8.out.kept0 sg1.kept)
          have R9 := Lib.hid (R8.out.kept0 sg1.kept)
          have LO9 := Lib.hid (LO.out.kept0 sg1.kept)
          clear og1 sg1 KX B8 G8 O8 C8 R8 LO CBY
          go_wp2_with fail
          refine (cone_words G9.out (by omega) g1 h1 t (bys.map (lw li gc)) (by rw [List.length_map]; exact BL.out) HM.out OG1.out MW.out a2 c2 n2 X HN2.out (by omega) O9.out.sln XOK.out).mono ?_
          rintro e y2 ⟨g2, h2, rfl, og2, sg2⟩
          have Y2 := Lib.hid (Y1.out.trans sg2.kept)
          have OG2 := Lib.hid og2.sln
          have G10 := Lib.hid (G9.out.kept0 sg2.kept)
          have O10 := Lib.hid (O9.out.kept0 sg2.kept)
          have C10 := Lib.hid (C9.out.kept0 sg2.kept)
          have R10 := Lib.hid (R9.out.kept0 sg2.kept)
          have LO10 := Lib.hid (LO9.out.kept0 sg2.kept)
          clear og2 sg2 Y1 G9 O9 C9 R9 LO9 OG1
          go_wp2_with fail
          refine (cone_words C10.out (by omega) (some ⟨gb, 0, none⟩) mi mi li LI.out HMG.out LO10.out LW.out a7 c7 n2 (X.map (overL st)) (by rw [List.length_map]; exact HN2.out) (by omega) R10.out.sln CROW.out).mono ?_
          rw [CWW.out]
          rintro e y3 ⟨g3, h3, rfl, og3, sg3⟩
          have Y3 := Lib.hid (Y2.out.trans sg3.kept)
          have OG3 := Lib.hid og3.sln
          have OG23 := Lib.hid (OG2.out.kept0 sg3.kept)
          have G11 := Lib.hid (G10.out.kept0 sg3.kept)
          have O11 := Lib.hid (O10.out.kept0 sg3.kept)
          clear og3 sg3 Y2 G10 O10 C10 R10 LO10 OG2
          go_wp2_with fail
          refine (words_c g2 g3 h2 h3 n2 (X.map (lw (bys.map (lw li gc)) G)) _ (by rw [List.length_map]; exact HN2.out) (by omega) OG23.out OG3.out).mono ?_
          rintro e y4 ⟨rfl, kk, rfl⟩
          go_wp2_with fail
          refine (HI7.out _ (Y3.out.drewN _)).mono ?_
          rintro e y5 ⟨a10, c10, rfl, o10, s10⟩
          have Y5 := Lib.hid ((Y3.out.drewN kk).trans s10.kept)
          have s10k := Lib.hid s10.kept
          clear o10 s10
          go_wp2_with fail
          refine (HIW.out _ Y5.out).mono ?_
          rintro e y6 ⟨a11, c11, rfl, o11, s11⟩
          have Y6 := Lib.hid (Y5.out.trans s11.kept)
          have Y36 := Lib.hid (((Kept.refl [] y3).drewN kk).trans (s10k.out.trans s11.kept))
          clear o11 s11 s10k Y5 OG3 OG23 HI7 HIW
          go_wp2_with fail
          go_loopw [25] (fun v wr => ∃ t : Nat, v = .int .i64 t ∧ t ≤ C.nodes.length ∧ Kept [] y6 wr) (fun v _ => C.nodes.length - (intOf v).toNat)
          case atStart => exact ⟨0, rfl, Nat.zero_le _, Kept.refl _ _⟩
          case round =>
            obtain ⟨z, rfl, hz, hkz⟩ := hrel
            have KZ := Lib.hid (Y6.out.trans hkz)
            have WZ := Lib.hid (W7.out.kept0 (Y6.out.trans hkz))
            have KY := Lib.hid hkz
            clear hkz
            by_cases hzl : z < C.nodes.length
            · have HG1 := Lib.hid (fun (W : World) (hk : Kept [] v7 W) => aig_gateOf (W7.out.kept0 hk) (show C.nodes.length ≤ 1000000 by omega) (z : Int) (by omega) (by omega))
              have HG2 := Lib.hid (fun (W : World) (hk : Kept [] v7 W) => aig_gateOf (C7k.out.kept0 hk) (show gc.nodes.length ≤ 1000000 by omega) (z : Int) (by omega) (by omega))
              rw [CG.out z hzl] at HG2
              generalize gateA C (z : Int) = r at *
              obtain ⟨r1, r2, r3⟩ := r
              go_wp2_with fail
              refine (aig_nodes WZ.out (by omega)).mono ?_
              rintro e w' ⟨rfl, rfl⟩
              go_wp2_with fail
              refine (HG1.out _ KZ.out).mono ?_
              rintro e z1 ⟨rfl, hk1⟩
              have Z1 := Lib.hid (KZ.out.trans hk1)
              have ZY := Lib.hid (KY.out.trans hk1)
              clear hk1
              go_wp2_with fail
              refine (HG2.out _ Z1.out).mono ?_
              rintro e z2 ⟨rfl, hk2⟩
              have ZE := Lib.hid (ZY.out.trans hk2)
              clear hk2 ZY Z1
              go_wp2_with fail
              go_roundw
              case rel => exact ⟨z + 1, by go_num, by omega, ZE.out⟩
              case measure => simp [intOf]; omega
            · go_wp2_with fail
              refine (aig_nodes WZ.out (by omega)).mono ?_
              rintro e w' ⟨rfl, rfl⟩
              have G12 := Lib.hid (G11.out.kept0 ((Y36.out).trans KY.out))
              have O12 := Lib.hid (O11.out.kept0 ((Y36.out).trans KY.out))
              clear G11 O11 Y36
              go_wp2_with fail
              refine (cone_reach G12.out (by omega) a2 c2 n2 X HN2.out (by omega) O12.out.sln XOK.out).mono ?_
              intro e q3 hx
              obtain ⟨a13, c13, n13, rfl, o13, k13⟩ := hx
              have hn13 := o13.len
              rw [nats_length] at hn13
              rw [hn13] at CM
              have Q3 := Lib.hid (KZ.out.trans k13)
              have G13 := Lib.hid (G12.out.kept0 k13)
              have O13 := Lib.hid (O12.out.kept0 k13)
              have b13 : n13 ≤ G.nodes.length := by rw [← hn13]; exact pick_length _ _
              clear o13 k13 hn13 G12 O12
              go_wp2_with fail
              refine (cone_support G13.out (by omega) a2 c2 n2 X HN2.out (by omega) O13.out.sln XOK.out).mono ?_
              intro e q4 hx
              obtain ⟨a14, c14, n14, rfl, o14, k14⟩ := hx
              have hn14 := o14.len
              rw [nats_length] at hn14
              rw [hn14] at CM
              have Q4 := Lib.hid (Q3.out.trans k14)
              have b14 : n14 ≤ G.nodes.length := by rw [← hn14]; exact pick_length _ _
              have C14 := Lib.hid (C7k.out.kept0 Q4.out)
              have GB := Lib.hid (show (-1 ≤ gatesN gc ∧ gatesN gc ≤ 2000) ∧ (-1 ≤ gatesN C ∧ gatesN C ≤ 2000) from ⟨gatesN_le (by omega), gatesN_le (by omega)⟩)
              have gcm := CM.out
              obtain ⟨⟨gb1, gb2⟩, gb3, gb4⟩ := GB.out
              clear o14 k14 hn14 G13 O13 Q3 GB CM
              obtain ⟨x1, hx1⟩ : ∃ x, x = gatesN gc := ⟨_, rfl⟩
              obtain ⟨x2', hx2⟩ : ∃ x, x = gatesN C := ⟨_, rfl⟩
              rw [← hx1] at gcm gb1 gb2
              rw [← hx2] at gcm gb3 gb4
              have HX1 := Lib.hid hx1
              have HX2 := Lib.hid hx2
              clear hx1 hx2
              go_wp2_with fail
              refine (aig_gates C14.out (by omega)).mono ?_
              rw [← HX1.out]
              rintro e q5 ⟨rfl, j5, rfl⟩
              have W14 := Lib.hid ((W7.out.kept0 Q4.out).kept0 ((Kept.refl [] q4).drewN j5))
              go_wp2_with fail
              refine (aig_gates W14.out (by omega)).mono ?_
              rw [← HX2.out]
              rintro e q6 ⟨rfl, j6, rfl⟩
              go_wp2_with fail
              refine (cone_tells _).mono ?_
              rintro e q7 ⟨rfl, hk7⟩
              have KE := Lib.hid ((((K1.out.trans K17.out).trans Q4.out).drewN (j5 + j6)).trans hk7)
              clear hk7
              go_wp2_with fail
              go_ret
              exact ⟨rfl, KE.out.below⟩
end

set_option maxRecDepth 100000 in
theorem conewords_lifted (os : Os) (started : os.Started) (H : Type) (enc : TypeId × Value → H) :
    ReturnsInHanded {} Try.checked os 5 .any (Rows.coneWordsSpec.pre6 enc Try.prog Try.f5 Rows.coneWordsRow.domain false) (Rows.coneWordsSpec.post enc Try.prog Try.f5 false true false false) := by
  refine returnsInHanded_of_change_sized (C := Try.checked) own started (by kernel_rfl) Try.func5
    (ChangeSpec.witness6 (enc := enc) (C := Try.checked) false ⟨#[], #[.agg #[.bool false, .bool false, .bool false, .bool false, .slice none 0 0, .slice none 0 0, .slice none 0 0, .slice none 0 0], .slice none 0 0], []⟩ 8 (by kernel_rfl) (by kernel_rfl) (by kernel_rfl) (by kernel_rfl)) ?_
  intro W base args ds gs before hval0 hW _ hsz0 _
  have hval : ∀ (j : Nat) t v, Try.f5.params[j]? = some t → args[j]? = some v → Value.okWide Try.prog W .any base t v := hval0
  have hend := fun W' (hb : Below W.heap.size W W') => law_post (s := Rows.coneWordsSpec) (fn := Try.f5) laidOut (by kernel_rfl) rfl ⟨4, rfl, Try.underlying4⟩ (fun l hl => by match l, hl with | [_, _], _ => rfl) hW hb
  obtain ⟨p, q, hA0, hV, rfl, hfz, hnd⟩ := hW
  have hA : DataW.TrodAll enc Try.prog W 0 (fun _ => true) true Try.f5.params.toList args.toList ds p := hA0
  have hsz : (DataW.weightsEach Try.prog (Try.f5.params.toList ++ Rows.coneWordsSpec.plain.varTypes Try.prog) (ds ++ gs)).all (· ≤ reachBytes) = true := hsz0
  rw [Try.params5] at hA hval hsz
  obtain ⟨v0, vs0, d0, ds0, p0, q0, hargs, rfl, rfl, h0, r0⟩ := trodAll_cons hA
  obtain ⟨v1, vs1, d1, ds1, p1, q1, rfl, rfl, rfl, h1, r1⟩ := trodAll_cons r0
  obtain ⟨rfl, rfl, rfl⟩ := trodAll_nil r1
  obtain rfl : args = #[v0, v1] := by cases args; simp_all
  obtain ⟨rfl, rfl⟩ := trodVars_none hV
  obtain ⟨ta0, tb0, tc0, td0, te0, tf0, tg0, th0, ti0, tj0, tk0, tl0, tm0, tn0, to0, tp0, tw0⟩ := open_two (hval 0 64 v0 rfl rfl) h0 (Sized.arg (j := 0) hsz rfl rfl)
  obtain ⟨a1, cap1, l1, rfl, hc1, hs1, hm1, hd1⟩ := open_nats (m := 4294967296) Try.underlying25 Try.underlying36 (by kernel_rfl) rfl rfl (hval 1 25 v1 rfl rfl) h1
  have z1 := cap_reach (bytes := 4) (j := 1) hsz rfl rfl Try.underlying25 (by kernel_rfl) hd1
  refine (conewords_walk v0 ta0 tb0 tc0 td0 te0 tf0 tg0 th0 ti0 tj0 tk0 tl0 tm0 tn0 to0 tp0 a1 cap1 l1 W tw0 hc1 z1 hs1 hm1).mono fun e W' ⟨he, hb⟩ => ?_
  subst he
  exact hend W' hb

theorem conewords_over : Rows.coneWordsRow.holds Try.pinned (OpenSpec.ofChange Rows.coneWordsSpec) :=
  OpenClaim.holds_of_wide 5 Try.f5 rfl rfl rfl rfl rfl rfl rfl ⟨rfl, rfl, rfl, rfl, rfl⟩ rfl rfl rfl rfl rfl (by kernel_rfl) Try.func5 (by kernel_rfl)
    (of_decide_eq_true (by kernel_rfl)) (by unfold Func.isWrapper; first | (rw [if_pos (by decide +kernel)]; kernel_rfl) | (rw [if_neg (by decide +kernel)]; exact ⟨rfl, rfl⟩))
    (fun os started H enc _ => conewords_lifted os started H enc)

theorem coneWords_holds : Rows.ConeWordsSaid := conewords_over
end Go.Proofs.Ythjaihmjdnijnaa
