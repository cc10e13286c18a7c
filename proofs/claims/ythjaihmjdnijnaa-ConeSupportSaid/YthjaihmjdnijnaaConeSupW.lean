/-
  ConeSupport: support and reach of a literal; its words hang on the support alone. For any options, steps, literal and words. No condition.
-/
import Derived.Test.YthjaihmjdnijnaaConeSupA
namespace Go.Proofs.Ythjaihmjdnijnaa
open Go.ChangeShapes Go.WideShapes Go.ChangeAt Go.RowKit
open Go.Maps (Keyed)
open Go.WideMaps
set_option linter.unusedVariables false
set_option linter.unusedSimpArgs false

section
variable {w w' : World} {p q : Nat} {F R S : List Nat} {g g2 : Gr}
theorem own_far {e : TypeId} {a : Option Addr} {n c : Nat} {xs : List Value} (h : Own w e a n c xs) {l : List Nat} (hl : ∀ b ∈ l, w.heap.size ≤ b) : ∀ b ∈ ft a, b ∉ l := fun b hb hx => by
  have := h.lt b hb
  have := hl b hx
  omega
theorem graph_far (h : GraphAt w p F g) {l : List Nat} (hl : ∀ b ∈ l, w.heap.size ≤ b) : ∀ b ∈ F, b ∉ l := fun b hb hx => by
  have := h.lt b hb
  have := hl b hx
  omega
set_option maxHeartbeats 6400000 in
set_option maxRecDepth 100000 in
theorem conesup_walk (o1 o2 : Bool) (sa : Option Addr) (l : List Stp) (sc : Nat) (a : Nat) (a3 : Option Addr) (c3 : Nat) (ws : List Nat) (a4 : Option Addr) (c4 : Nat) (os : List Nat) (w : World) (hl : l.length ≤ 140737488351232) (hs : SlSteps w sa l) (hok : ∀ s ∈ l, Stp.ok s) (ha : a < 4294967296)
    (hc3 : ws.length ≤ c3) (z3 : c3 * 8 ≤ 140737488351232) (s3 : SlN w .u64 a3 ws) (m3 : ∀ n ∈ ws, n < 18446744073709551616) (hc4 : os.length ≤ c4) (z4 : c4 * 8 ≤ 140737488351232) (s4 : SlN w .u64 a4 os) (m4 : ∀ n ∈ os, n < 18446744073709551616) :
    Calls Try.prog 4 #[.agg #[.bool o1, .bool o2], .slice sa l.length sc, .int .u32 a, .slice a3 ws.length c3, .slice a4 os.length c4] w fun e w' => e = .returned (.bool true) ∧ Below w.heap.size w w' := by
  obtain ⟨ln, hln⟩ : ∃ ln, ln = l.length := ⟨_, rfl⟩
  obtain ⟨n3, hn3⟩ : ∃ ln, ln = ws.length := ⟨_, rfl⟩
  obtain ⟨n4, hn4⟩ : ∃ ln, ln = os.length := ⟨_, rfl⟩
  rw [← hln] at hl ⊢
  rw [← hn3] at hc3 ⊢
  rw [← hn4] at hc4 ⊢
  have HB := Lib.hid (fun (W : World) (hk : Kept [] w W) => build_c o1 o2 sa sc ln l (w := W) hln.symm hl (hs.kept0 hk) hok)
  have S3 := Lib.hid s3
  have S4 := Lib.hid s4
  have M3 := Lib.hid (show Words ws from m3)
  have M4 := Lib.hid (show Words os from m4)
  have L3 := Lib.hid hn3.symm
  have L4 := Lib.hid hn4.symm
  clear hln hn3 hn4 hl hs hok s3 s4 m3 m4 hc3 hc4 z3 z4
  obtain ⟨G, hG⟩ : ∃ G, G = buildTo o1 o2 l 60 := ⟨_, rfl⟩
  have hgood := buildTo_good o1 o2 l 60
  rw [← hG] at hgood
  have HGE := Lib.hid hG.symm
  have HWF := Lib.hid hgood.1
  have hgl : G.nodes.length ≤ 541 := by omega
  have hgp := hgood.1.pos
  clear hG hgood
  have hmm := @run_makeMap Try.prog
  go_enter Try.func4, Try.ntmps4; (try simp only [List.append])
  go_wp2_with fail
  refine (HB.out _ ((Kept.refl [] w).alloc _)).mono ?_
  rintro e w1 ⟨p, F, q, R, rfl, hb⟩
  rw [HGE.out] at hb
  have K1 := Lib.hid (((Kept.refl [] w).alloc (.cells #[.bool o1, .bool o2] 23)).trans hb.kept)
  have G1 := Lib.hid hb.graph
  clear hb HB HGE
  have hne : ((G.nodes.length : Int) == 0) = false := by simp only [beq_eq_false_iff_ne, ne_eq]; omega
  have u1 : IntKind.u32.wrap (2 * (G.nodes.length : Int)) = 2 * (G.nodes.length : Int) := by simp only [IntKind.wrap_u32]; omega
  have u2 : ((2 * (G.nodes.length : Int)) == 0) = false := by simp only [beq_eq_false_iff_ne, ne_eq]; omega
  go_wp2_with fail
  refine (aig_nodes G1.out (by omega)).mono ?_
  rintro e w' ⟨rfl, rfl⟩
  go_wp2_with fail
  refine (aig_nodes G1.out (by omega)).mono ?_
  rintro e w' ⟨rfl, rfl⟩
  clear hne
  have XOK0 := Lib.hid (mod_ok HWF.out a)
  obtain ⟨x, hx⟩ : ∃ x, x = a % (2 * G.nodes.length) := ⟨_, rfl⟩
  have HX := Lib.hid (show (a : Int) % (2 * (G.nodes.length : Int)) = (x : Int) from by rw [hx]; push_cast; rfl)
  rw [← hx] at XOK0
  have XOK := Lib.hid (show ∀ y ∈ [x], G.ok y from by simpa using XOK0.out)
  have hx32 : x < 4294967296 := by have := XOK0.out; unfold Gr.ok at this; omega
  clear hx
  go_wp2_with fail
  rw [HX.out]
  clear u1 u2 HX
  refine (cone_support (G1.out.kept0 ((Kept.refl [] w1).alloc _)) (by omega) (some ⟨w1.heap.size, 0, none⟩) 1 1 [x] rfl (by omega) (one_lit w1 x) XOK.out).mono ?_
  intro e w2 hx
  obtain ⟨sa2, sc2, sn2, rfl, so2, sk2⟩ := hx
  have K2 := Lib.hid (((Kept.refl [] w1).alloc (.cells #[.int .u32 (x : Int)] 37)).trans sk2)
  have OS2 := Lib.hid so2
  have hsn := so2.len
  rw [nats_length] at hsn
  have HSN := Lib.hid hsn
  have bsn : sn2 ≤ G.nodes.length := by rw [← hsn]; exact pick_length _ _
  clear so2 sk2 hsn
  go_wp2_with fail
  refine (cone_reach (G1.out.kept0 (K2.out.alloc _)) (by omega) (some ⟨w2.heap.size, 0, none⟩) 1 1 [x] rfl (by omega) (one_lit w2 x) XOK.out).mono ?_
  intro e w3 hx
  obtain ⟨ra3, rc3, rn3, rfl, ro3, rk3⟩ := hx
  have K23 := Lib.hid (((Kept.refl [] w2).alloc (.cells #[.int .u32 (x : Int)] 37)).trans rk3)
  have K3 := Lib.hid (K2.out.trans K23.out)
  have OS3 := Lib.hid (OS2.out.kept0 K23.out)
  have OR3 := Lib.hid ro3
  have hrn := ro3.len
  rw [nats_length] at hrn
  have HRN := Lib.hid hrn
  have brn : rn3 ≤ G.nodes.length := by rw [← hrn]; exact pick_length _ _
  have SUP := Lib.hid (sup_ok HWF.out XOK0.out)
  have G3 := Lib.hid (G1.out.kept0 K3.out)
  have KW3 := Lib.hid (K1.out.trans K3.out)
  clear ro3 rk3 hrn OS2 K2 K3 K23 G1 K1
  generalize reachL G.nodes [x] = R at *
  generalize supportL G.nodes [x] = S at *
  go_wp2_with fail
  have hz0 : w.heap.size ≤ w3.heap.size := KW3.out.size
  obtain ⟨ml, hml⟩ : ∃ m, m = w3.heap.size + 1 := ⟨_, rfl⟩
  obtain ⟨mo, hmo⟩ : ∃ m, m = w3.heap.size := ⟨_, rfl⟩
  obtain ⟨w4, hw4⟩ : ∃ w4, w4 = (w3.alloc (.map #[] 0)).alloc (.map #[] 0) := ⟨_, rfl⟩
  have E4 := Lib.hid (show SetAt w4 mo [] ∧ SetAt w4 ml [] ∧ Kept [] w3 w4 ∧ mo ≠ ml ∧ w3.heap.size ≤ mo ∧ w3.heap.size ≤ ml from by
    subst hml hmo hw4
    refine ⟨(SetAt.new w3).kept ((Kept.refl [] _).alloc _) (by simp), ?_, ((Kept.refl [] w3).alloc _).alloc _, by omega, Nat.le_refl _, by omega⟩
    have := SetAt.new (w3.alloc (.map #[] 0))
    rw [show (w3.alloc (.map #[] 0)).heap.size = w3.heap.size + 1 by simp] at this
    exact this)
  rw [← hw4, ← hml, ← hmo]
  clear hml hmo hw4
  have FR := Lib.hid (own_far OR3.out (l := [mo, ml]) (by have := E4.out; intro b hb; simp at hb; rcases hb with rfl | rfl; exact this.2.2.2.2.1; exact this.2.2.2.2.2))
  have FS := Lib.hid (own_far OS3.out (l := [mo, ml]) (by have := E4.out; intro b hb; simp at hb; rcases hb with rfl | rfl; exact this.2.2.2.2.1; exact this.2.2.2.2.2))
  have FG := Lib.hid (graph_far G3.out (l := [mo, ml]) (by have := E4.out; intro b hb; simp at hb; rcases hb with rfl | rfl; exact this.2.2.2.2.1; exact this.2.2.2.2.2))
  have OR4 := Lib.hid (OR3.out.kept0 E4.out.2.2.1)
  have BR := Lib.hid (show ∀ y ∈ R, y ≤ 1000000 from fun y hy => by have := (SUP.out.pos y hy).2; omega)
  have BS := Lib.hid (show ∀ y ∈ S, y ≤ 1000000 from fun y hy => by have := SUP.out.sub y hy; omega)
  go_loopw [80] (fun v wr => ∃ k : Nat, v = .int .i64 k ∧ k ≤ rn3 ∧ SetAt wr mo (R.take k) ∧ Kept [mo] w4 wr) (fun v _ => rn3 - (intOf v).toNat)
  case atStart => exact ⟨0, rfl, Nat.zero_le _, E4.out.1, .refl _ _⟩
  case round =>
    obtain ⟨k, rfl, hk, hset, hkr⟩ := hrel
    have ST := Lib.hid hset
    have KR := Lib.hid hkr
    clear hset
    by_cases hlt : k < rn3
    · have hkl : k < R.length := by rw [HRN.out]; exact hlt
      obtain ⟨ad, rfl, hcx⟩ := (OR4.out.kept hkr (fun b hb h => FR.out b hb (by simp at h; simp [h]))).sln k hkl
      have HT := Lib.hid (show R.take (k + 1) = R.take k ++ [R[k]] from take_snoc R k hkl)
      have hy := BR.out _ (List.getElem_mem hkl)
      clear hkr
      generalize R[k] = y at *
      have HY := Lib.hid (int_key y hy)
      go_wp2_with (at_mapUpdate; refine wpList_upd rfl rfl int_law Try.underlying55 rfl rfl rfl ST.out HY.out ?_; intro w5 hm5 hk5)
      go_roundw
      case rel => exact ⟨k + 1, by go_num, by omega, by rw [HT.out]; exact SetAt.push hm5, KR.out.trans hk5⟩
      case measure => simp [intOf]; omega
    · obtain rfl : rn3 = k := by omega
      rw [List.take_of_length_le (by rw [HRN.out]; exact Nat.le_refl _)] at ST
      obtain ⟨w5, rfl⟩ : ∃ v : World, v = wr := ⟨_, rfl⟩
      have LE5 := Lib.hid (E4.out.2.1.kept hkr (by simp; exact fun h => E4.out.2.2.2.1 h.symm))
      have OS5 := Lib.hid ((OS3.out.kept0 E4.out.2.2.1).kept hkr (fun b hb h => FS.out b hb (by simp at h; simp [h])))
      have OR5 := Lib.hid (OR4.out.kept hkr (fun b hb h => FR.out b hb (by simp at h; simp [h])))
      have G5 := Lib.hid ((G3.out.kept0 E4.out.2.2.1).kept hkr (fun b hb h => FG.out b hb (by simp at h; simp [h])))
      have KW5 := Lib.hid (kept_up (KW3.out.trans E4.out.2.2.1) hkr (fun b hb => by simp at hb; subst hb; exact Nat.le_trans hz0 E4.out.2.2.2.2.1))
      clear hkr KR OR4 hlt hk
      go_wp2_with fail
      go_loopw [89] (fun v wr => ∃ k : Nat, v = .int .i64 k ∧ k ≤ sn2 ∧ SetAt wr ml (S.take k) ∧ Kept [ml] w5 wr) (fun v _ => sn2 - (intOf v).toNat)
      case atStart => exact ⟨0, rfl, Nat.zero_le _, LE5.out, .refl _ _⟩
      case round =>
        obtain ⟨j, rfl, hj, hset, hkr⟩ := hrel
        have SL := Lib.hid hset
        have KR := Lib.hid hkr
        clear hset
        by_cases hlt : j < sn2
        · have hkl : j < S.length := by rw [HSN.out]; exact hlt
          obtain ⟨ad, rfl, hcx⟩ := (OS5.out.kept hkr (fun b hb h => FS.out b hb (by simp at h; simp [h]))).sln j hkl
          have HT := Lib.hid (show S.take (j + 1) = S.take j ++ [S[j]] from take_snoc S j hkl)
          have hy := BS.out _ (List.getElem_mem hkl)
          clear hkr
          generalize S[j] = y at *
          have HY := Lib.hid (int_key y hy)
          go_wp2_with (at_mapUpdate; refine wpList_upd rfl rfl int_law Try.underlying55 rfl rfl rfl SL.out HY.out ?_; intro w6 hm6 hk6)
          go_roundw
          case rel => exact ⟨j + 1, by go_num, by omega, by rw [HT.out]; exact SetAt.push hm6, KR.out.trans hk6⟩
          case measure => simp [intOf]; omega
        · obtain rfl : sn2 = j := by omega
          rw [List.take_of_length_le (by rw [HSN.out]; exact Nat.le_refl _)] at SL
          obtain ⟨w6, rfl⟩ : ∃ v : World, v = wr := ⟨_, rfl⟩
          have ON6 := Lib.hid (ST.out.kept hkr (by simp; exact E4.out.2.2.2.1))
          have LE6 := Lib.hid SL.out
          have OR6 := Lib.hid (OR5.out.kept hkr (fun b hb h => FR.out b hb (by simp at h; simp [h])))
          have G6 := Lib.hid (G5.out.kept hkr (fun b hb h => FG.out b hb (by simp at h; simp [h])))
          have KW6 := Lib.hid (kept_up KW5.out hkr (fun b hb => by simp at hb; subst hb; exact Nat.le_trans hz0 E4.out.2.2.2.2.2))
          clear hkr KR ST SL LE5 OS5 OR5 G5 KW5 OS3 OR3 G3 KW3 FR FS FG BS E4 hz0 hlt hj
          have hile : (ins G.nodes).length ≤ G.nodes.length := insFrom_length 0 G.nodes
          have HIN := Lib.hid (aig_inputs G6.out (show G.nodes.length ≤ 1000000 by omega))
          obtain ⟨m, hm⟩ : ∃ m, m = (ins G.nodes).length := ⟨_, rfl⟩
          rw [← hm] at HIN hile
          have HM := Lib.hid hm
          clear hm
          go_wp2_with fail
          refine HIN.out.mono ?_
          rintro e w7 ⟨ai, ci, rfl, hoi, hsi⟩
          have K67 := Lib.hid hsi.kept
          have OI7 := Lib.hid hoi
          clear hoi hsi HIN
          go_wp2_with fail
          refine (filled_c a3 c3 n3 m ws _ L3.out (by omega) (S3.out.kept0 (KW6.out.trans K67.out)) M3.out).mono ?_
          rintro e w8 ⟨g8, l8, rfl, hl8, hw8, ho8, hk8, hg8⟩
          have K68 := Lib.hid (K67.out.trans hk8)
          have OI8 := Lib.hid (OI7.out.kept0 hk8)
          have W8 := Lib.hid hw8
          have LL8 := Lib.hid hl8
          have OW8 := Lib.hid ho8
          clear hl8 hw8 ho8 hk8 hg8 OI7 K67 S3 M3 L3
          go_wp2_with fail
          refine (filled_c a4 c4 n4 m os _ L4.out (by omega) (S4.out.kept0 (KW6.out.trans K68.out)) M4.out).mono ?_
          rintro e w9 ⟨g9, l9, rfl, hl9, hw9, ho9, hk9, hg9⟩
          have K69 := Lib.hid (K68.out.trans hk9)
          have OI9 := Lib.hid (OI8.out.kept0 hk9)
          have OW9 := Lib.hid (OW8.out.kept0 hk9)
          have W9 := Lib.hid hw9
          have LL9 := Lib.hid hl9
          have OD9 := Lib.hid ho9
          have F9 := Lib.hid (show g9 ≠ g8 ∧ g9 ≠ mo ∧ g9 ≠ ml ∧ w6.heap.size ≤ g9 ∧ (∀ b ∈ ft ai, b ≠ g9) ∧ (∀ b ∈ ft ra3, b ≠ g9) from by
            have h1 := OW8.out.lt g8 (by simp [ft])
            have h2 := (ON6.out.kept K68.out (by simp)).lt
            have h3 := (LE6.out.kept K68.out (by simp)).lt
            have h4 := K68.out.size
            refine ⟨by omega, by omega, by omega, by omega, fun b hb => ?_, fun b hb => ?_⟩
            · have := OI8.out.lt b hb; omega
            · have := (OR6.out.kept0 K68.out).lt b hb; omega)
          clear hl9 hw9 ho9 hk9 hg9 OI8 OW8 K68 S4 M4 L4
          go_wp2_with fail
          have ILT := Lib.hid (show ∀ y ∈ ins G.nodes, y < G.nodes.length from ins_lt G.nodes)
          go_loopw [108] (fun v wr => ∃ k : Nat, v = .int .i64 k ∧ k ≤ m ∧ Own wr 57 (some ⟨g9, 0, none⟩) m m (nats .u64 (difTo (ins G.nodes) S l8 l9 k)) ∧ Kept [g9] w9 wr) (fun v _ => m - (intOf v).toNat)
          case atStart => exact ⟨0, rfl, Nat.zero_le _, OD9.out, .refl _ _⟩
          case round =>
            obtain ⟨k, rfl, hk, how, hkr⟩ := hrel
            have OW := Lib.hid how
            have KR := Lib.hid hkr
            have LEr := Lib.hid ((LE6.out.kept K69.out (by simp)).kept hkr (by simp; exact fun h => F9.out.2.2.1 h.symm))
            have ONr := Lib.hid ((ON6.out.kept K69.out (by simp)).kept hkr (by simp; exact fun h => F9.out.2.1 h.symm))
            by_cases hlt : k < m
            · have hkl : k < (ins G.nodes).length := by rw [← HM.out]; exact hlt
              obtain ⟨ad, rfl, hcx⟩ := (OI9.out.kept hkr (fun b hb h => F9.out.2.2.2.2.1 b hb (by simpa using h))).sln k hkl
              have hkl8 : k < l8.length := by rw [LL8.out]; exact hlt
              obtain ⟨ad8, had8, hc8⟩ := (OW9.out.kept hkr (fun b hb h => F9.out.1 (by simp [ft] at hb h; omega))).sln k hkl8
              injection had8 with had8
              subst had8
              rw [add_at, Nat.zero_add] at hc8
              have hst := how.store (j := k) hlt
              have hy := ILT.out _ (List.getElem_mem hkl)
              have HG := Lib.hid (show (ins G.nodes).getD k 0 = (ins G.nodes)[k] by rw [List.getD_eq_getElem?_getD, List.getElem?_eq_getElem hkl]; rfl)
              have H8 := Lib.hid (show l8.getD k 0 = l8[k] by rw [List.getD_eq_getElem?_getD, List.getElem?_eq_getElem hkl8]; rfl)
              have HL := Lib.hid (SUP.out.leans _ (List.getElem_mem hkl))
              have HD := Lib.hid (show difTo (ins G.nodes) S l8 l9 (k + 1) = if (ins G.nodes).getD k 0 ∈ S then (difTo (ins G.nodes) S l8 l9 k).set k (l8.getD k 0) else difTo (ins G.nodes) S l8 l9 k from rfl)
              rw [HG.out, H8.out] at HD
              have q1 := LEr.out.look (ins G.nodes)[k] (by omega)
              have q2 := ONr.out.look (ins G.nodes)[k] (by omega)
              clear HG H8 hkr how
              generalize (ins G.nodes)[k] = y at *
              generalize l8[k] = z at *
              by_cases hyS : y ∈ S
              · have hyR : y ∈ R := HL.out.1 hyS
                rw [if_pos hyS] at q1
                rw [if_pos hyR] at q2
                rw [if_pos hyS] at HD
                obtain ⟨⟨x0, hx0⟩, hfz, hown2⟩ := hst
                have HOW := Lib.hid hown2
                clear hown2 hyS hyR HL
                go_wp2_with fail
                go_roundw
                case rel => exact ⟨k + 1, by go_num, by omega, by rw [HD.out, ← nats_set]; exact HOW.out _, KR.out.setCell (p := ⟨g9, k, none⟩) (.inl (by simp)) _⟩
                case measure => simp [intOf]; omega
              · have hyR : y ∉ R := fun h => hyS (HL.out.2 h)
                rw [if_neg hyS] at q1
                rw [if_neg hyR] at q2
                rw [if_neg hyS] at HD
                clear hst hyS hyR HL
                go_wp2_with fail
                go_roundw
                case rel => exact ⟨k + 1, by go_num, by omega, by rw [HD.out]; exact OW.out, KR.out⟩
                case measure => simp [intOf]; omega
            · obtain rfl : m = k := by omega
              obtain ⟨wa, rfl⟩ : ∃ v : World, v = wr := ⟨_, rfl⟩
              have DL := Lib.hid ((difTo_length (ins G.nodes) S l8 l9 m).trans LL9.out)
              have DW := Lib.hid (difTo_words (is := ins G.nodes) (L := S) W8.out W9.out m)
              have DS := Lib.hid (lw_leans HWF.out XOK0.out SUP.out W8.out DW.out (fun i hi hR => (difTo_same m (by rw [LL9.out]; exact Nat.le_refl _) i (by rw [HM.out]; exact hi) ((SUP.out.leans _ (by rw [List.getD_eq_getElem?_getD, List.getElem?_eq_getElem hi]; exact List.getElem_mem hi)).2 hR)).symm))
              have KA := Lib.hid (kept_up K69.out hkr (fun b hb => by simp at hb; subst hb; exact F9.out.2.2.2.1))
              have OWa := Lib.hid (OW9.out.kept hkr (fun b hb h => F9.out.1 (by simp [ft] at hb h; omega)))
              have ORa := Lib.hid (OR6.out.kept0 KA.out)
              have Ga := Lib.hid (G6.out.kept0 KA.out)
              generalize difTo (ins G.nodes) S l8 l9 m = ds at *
              clear hkr KR OI9 OW9 OD9 LEr F9 K69 W9 LL9 ILT hlt hk how LE6 ON6 OR6 G6
              go_wp2_with fail
              refine (cone_words (Ga.out.kept0 ((Kept.refl [] wa).alloc _)) (by omega) (some ⟨g8, 0, none⟩) m m l8 LL8.out HM.out (OWa.out.sln.kept0 ((Kept.refl [] wa).alloc _)) W8.out (some ⟨wa.heap.size, 0, none⟩) 1 1 [x] rfl (by omega) (one_lit wa x) XOK.out).mono ?_
              rintro e wb ⟨gb, hb', rfl, ogb, sgb⟩
              have KB := Lib.hid (((Kept.refl [] wa).alloc (.cells #[.int .u32 (x : Int)] 37)).trans sgb.kept)
              have OB := Lib.hid ogb.sln
              clear ogb sgb
              go_wp2_with fail
              refine (cone_words (Ga.out.kept0 (KB.out.alloc _)) (by omega) (some ⟨g9, 0, none⟩) m m ds DL.out HM.out (OW.out.sln.kept0 (KB.out.alloc _)) DW.out (some ⟨wb.heap.size, 0, none⟩) 1 1 [x] rfl (by omega) (one_lit wb x) XOK.out).mono ?_
              rintro e wc ⟨gc, hc', rfl, ogc, sgc⟩
              rw [show [x].map (lw ds G) = [x].map (lw l8 G) from by simp [DS.out]] at ogc
              have KBC := Lib.hid (((Kept.refl [] wb).alloc (.cells #[.int .u32 (x : Int)] 37)).trans sgc.kept)
              have KC := Lib.hid (KB.out.trans KBC.out)
              have OC := Lib.hid ogc.sln
              have OBC := Lib.hid (OB.out.kept0 KBC.out)
              have ORc := Lib.hid (ORa.out.kept0 KC.out)
              have Gc := Lib.hid (Ga.out.kept0 KC.out)
              have ONc := Lib.hid (ONr.out.kept KC.out (by simp))
              have KWc := Lib.hid ((KW6.out.trans KA.out).trans KC.out)
              clear ogc sgc OB KBC KB ORa Ga ONr OWa OW DL DW DS HM LL8 W8 KA KW6 KC
              go_wp2_with fail
              refine (words_c gb gc hb' hc' 1 ([x].map (lw l8 G)) _ rfl (by omega) OBC.out OC.out).mono ?_
              rintro e wd ⟨rfl, kk, rfl⟩
              clear OBC OC
              obtain ⟨nx, hnx⟩ : ∃ n, n = x / 2 := ⟨_, rfl⟩
              have hnxl : nx < G.nodes.length := by have := XOK0.out; unfold Gr.ok at this; omega
              have LN := Lib.hid (fun (W : World) => lit_node x W hx32)
              rw [← hnx] at LN
              have HTOP := Lib.hid (show nx ≠ 0 → nx ∈ R from by rw [hnx]; exact SUP.out.top)
              have WHY := Lib.hid (show ∀ m ∈ R, nx = m ∨ ∃ n ∈ R, m < n ∧ gAt G.nodes n = true ∧ (gA G.nodes n / 2 = m ∨ gB G.nodes n / 2 = m) from by rw [hnx]; exact SUP.out.why)
              have ONd := Lib.hid (ONc.out.kept ((Kept.refl [] wc).drewN kk) (by simp))
              have ORd := Lib.hid (ORc.out.kept0 ((Kept.refl [] wc).drewN kk))
              have Gd := Lib.hid (Gc.out.kept0 ((Kept.refl [] wc).drewN kk))
              have KWd := Lib.hid (KWc.out.drewN kk)
              clear hnx ONc ORc Gc KWc
              have qx : (Instr.lookup 55 (.map (some mo)) (.int .i64 (nx : Int)) false).run Try.prog (wc.drewN kk) = .ok (.int .i64 (if nx ∈ R then 1 else 0)) (wc.drewN kk) := ONd.out.look nx (by omega)
              have HSN := Lib.hid (show MapV ((wc.drewN kk).alloc (.map #[] 0)) Try.prog 3 wc.heap.size (setF []) from SetAt.new (wc.drewN kk))
              obtain ⟨ms, hms⟩ : ∃ m, m = wc.heap.size := ⟨_, rfl⟩
              have KY := Lib.hid (int_key nx (by omega))
              have HOM := Lib.hid (show mo < wc.heap.size from ONd.out.lt)
              rcases Nat.eq_zero_or_pos nx with hx0 | hx0
              rotate_left
              rw [if_pos (HTOP.out (by omega))] at qx
              go_wp2_with fail
              refine (LN.out _).mono ?_
              rintro e w' ⟨rfl, rfl⟩
              go_wp2_with fail
              refine (LN.out _).mono ?_
              rintro e w' ⟨rfl, rfl⟩
              go_wp2_with fail
              rotate_left
              have hxn : (nx : Int) ≤ 0 := by omega
              clear hx0 qx
              go_wp2_with fail
              refine (LN.out _).mono ?_
              rintro e w' ⟨rfl, rfl⟩
              go_wp2_with fail
              all_goals
                (try clear hx0)
                (try clear hxn)
                (try clear qx)
                refine (LN.out _).mono ?_
                rintro e w' ⟨rfl, rfl⟩
                go_wp2_with (with_reducible show wpList _ _ _ _ _ _; refine wpList_ins (o := ⟨none, _, _, _, _, _⟩) (f := setF []) (m := wc.heap.size) (key := .int .i64 (nx : Int)) (val := .int .i64 1) rfl rfl int_law Try.underlying55 rfl rfl rfl HSN.out KY.out ?_; intro we hme hke)
                rw [← hms] at hme hke ⊢
                have hmm2 : mo ≠ ms := by have := HOM.out; omega
                have SEe := Lib.hid (SetAt.push hme)
                have ONe := Lib.hid ((ONd.out.kept ((Kept.refl [] _).alloc (.map #[] 0)) (by simp)).kept hke (by simp; exact hmm2))
                have ORe := Lib.hid ((ORd.out.kept0 ((Kept.refl [] _).alloc (.map #[] 0))).kept hke (own_far ORd.out (by simp [hms])))
                have Ge := Lib.hid ((Gd.out.kept0 ((Kept.refl [] _).alloc (.map #[] 0))).kept hke (graph_far Gd.out (by simp [hms])))
                have KWe := Lib.hid (kept_up (KWd.out.alloc (.map #[] 0)) hke (by have := KWd.out.size; simp [hms]; exact this))
                have FRe := Lib.hid (show ∀ b ∈ ft ra3, b ∉ [ms] from own_far ORd.out (by simp [hms]))
                have FGe := Lib.hid (show ∀ b ∈ F, b ∉ [ms] from graph_far Gd.out (by simp [hms]))
                have HMS := Lib.hid (show ∀ b ∈ [ms], w.heap.size ≤ b from by have := KWd.out.size; simp [hms]; exact this)
                clear hme hke HSN KY HOM ONd ORd Gd KWd hms hmm
                go_loopw [34] (fun v wr => ∃ (c : Int) (k : Nat) (T : List Nat), v = .int .i64 c ∧ c + 1 = k ∧ k ≤ rn3 ∧ SetAt wr ms T ∧ nx ∈ T ∧ (∀ j, k ≤ j → (h : j < R.length) → gAt G.nodes R[j] = true → gA G.nodes R[j] / 2 ∈ T ∧ gB G.nodes R[j] / 2 ∈ T) ∧ Kept [ms] we wr) (fun v _ => (intOf v + 1).toNat)
                case atStart => exact ⟨_, rn3, [nx], rfl, by omega, Nat.le_refl _, SEe.out, by simp, fun j h1 h2 => by have := HRN.out; omega, .refl _ _⟩
                case round =>
                  obtain ⟨c, k, T, rfl, hck, hk, hT, hnT, hdown, hkr⟩ := hrel
                  have ORr := Lib.hid (ORe.out.kept hkr FRe.out)
                  have ONr := Lib.hid (ONe.out.kept hkr (by simp; exact hmm2))
                  have Gr' := Lib.hid (Ge.out.kept hkr FGe.out)
                  have KT := Lib.hid hkr
                  have HT := Lib.hid hT
                  have HD := Lib.hid hdown
                  have HN := Lib.hid hnT
                  clear hkr hT hdown hnT
                  by_cases h0 : k = 0
                  · obtain rfl : c = -1 := by omega
                    have KWr := Lib.hid (kept_up KWe.out KT.out HMS.out)
                    go_wp2_with fail
                    refine (cone_tells _).mono ?_
                    rintro e q7 ⟨rfl, hk7⟩
                    have KE := Lib.hid (KWr.out.trans hk7)
                    clear hk7
                    go_wp2_with fail
                    go_ret
                    exact ⟨rfl, KE.out.below⟩
                  · obtain ⟨i, rfl⟩ : ∃ i, k = i + 1 := ⟨k - 1, by omega⟩
                    obtain rfl : c = (i : Int) := by omega
                    have hiR : i < R.length := by rw [HRN.out]; omega
                    have hir : i < rn3 := by omega
                    obtain ⟨ad, rfl, hcx⟩ := ORr.out.sln i hiR
                    have hpos := SUP.out.pos _ (List.getElem_mem hiR)
                    have hyT : R[i] ∈ T := by
                      rcases WHY.out _ (List.getElem_mem hiR) with h | ⟨n, hn, hlt, hg, hch⟩
                      · rw [← h]; exact HN.out
                      · obtain ⟨j, hj, rfl⟩ := List.getElem_of_mem hn
                        have hij : i < j := by
                          rcases Nat.lt_or_ge i j with h | h
                          · exact h
                          · rcases Nat.lt_or_ge j i with h2 | h2
                            · have := List.pairwise_iff_getElem.1 SUP.out.up j i hj hiR h2; omega
                            · have : i = j := by omega
                              subst this; omega
                        have := HD.out j (by omega) hj hg
                        rcases hch with h | h <;> rw [← h]
                        · exact this.1
                        · exact this.2
                    have HPR := Lib.hid (show ∀ i2, i2 < i → ∃ z, z < R[i] ∧ wr.cell? (ad.add i2) = some (.int .i64 (z : Nat)) from fun i2 h2 => by
                      obtain ⟨ad', h3, h4⟩ := ORr.out.sln i2 (by omega)
                      injection h3 with h3
                      subst h3
                      exact ⟨_, List.pairwise_iff_getElem.1 SUP.out.up i2 i (by omega) hiR h2, h4⟩)
                    have q1 := HT.out.look R[i] (by omega)
                    rw [if_pos hyT] at q1
                    have HDN := Lib.hid (SUP.out.down _ (List.getElem_mem hiR))
                    have HGT := Lib.hid (fun (W : World) (hk : Kept [] wr W) => aig_gateOf (Gr'.out.kept0 hk) (show G.nodes.length ≤ 1000000 by omega) (R[i] : Nat) (by omega) (by omega))
                    have hp1 := hpos.1
                    have hp2 := hpos.2
                    have HDR := Lib.hid (show gAt G.nodes R[i] = true → ∀ j, i ≤ j → (h : j < R.length) → gAt G.nodes R[j] = true → (gA G.nodes R[j] / 2 ∈ T ++ [gA G.nodes R[i] / 2, gB G.nodes R[i] / 2] ∧ gB G.nodes R[j] / 2 ∈ T ++ [gA G.nodes R[i] / 2, gB G.nodes R[i] / 2]) from fun _ j h1 h2 h3 => by
                      rcases Nat.lt_or_ge i j with h | h
                      · have := HD.out j h h2 h3
                        exact ⟨List.mem_append_left _ this.1, List.mem_append_left _ this.2⟩
                      · obtain rfl : j = i := by omega
                        simp)
                    have HDF := Lib.hid (show gAt G.nodes R[i] = false → ∀ j, i ≤ j → (h : j < R.length) → gAt G.nodes R[j] = true → (gA G.nodes R[j] / 2 ∈ T ∧ gB G.nodes R[j] / 2 ∈ T) from fun hf j h1 h2 h3 => by
                      rcases Nat.lt_or_ge i j with h | h
                      · exact HD.out j h h2 h3
                      · obtain rfl : j = i := by omega
                        rw [hf] at h3; cases h3)
                    rw [gateA_nat] at HGT
                    clear hpos hyT HD
                    generalize R[i] = y at *
                    have hy0 : ((y : Int) == 0) = false := by simp only [beq_eq_false_iff_ne, ne_eq]; omega
                    rcases Nat.eq_zero_or_pos i with hi0 | hi0
                    rotate_left
                    obtain ⟨i2, hi2⟩ : ∃ i2, i2 = i - 1 := ⟨_, rfl⟩
                    have hI : (i : Int) - 1 = (i2 : Int) := by omega
                    have hi2r : i2 < rn3 := by omega
                    obtain ⟨z, hz, hcz⟩ := HPR.out i2 (by omega)
                    clear hi2 HPR
                    rotate_left
                    have hi1 : (i : Int) ≤ 0 := by omega
                    clear hi0 HPR
                    all_goals
                      go_wp2_with fail
                      refine (HGT.out _ (Kept.refl _ _)).mono ?_
                      obtain ⟨gy, hgy⟩ : ∃ b, b = gAt G.nodes y := ⟨_, rfl⟩
                      rw [← hgy]
                      have HGY := Lib.hid hgy.symm
                      clear hgy HGT q1
                      cases gy
                      · simp only [Bool.false_eq_true, if_false]
                        rintro e v1 ⟨rfl, hk1⟩
                        have V1 := Lib.hid hk1
                        clear hk1 HDR HDN
                        go_wp2_with fail
                        go_roundw
                        case rel => exact ⟨_, i, T, rfl, by omega, by omega, HT.out.kept V1.out (by simp), HN.out, HDF.out HGY.out, KT.out.trans (V1.out.more (by simp))⟩
                        case measure => simp [intOf]; try omega
                      · simp only [if_true]
                        rintro e v1 ⟨rfl, hk1⟩
                        have V1 := Lib.hid hk1
                        clear hk1 HDF
                        obtain ⟨ha, hb, _, _⟩ := gAt_lt HWF.out HGY.out
                        have HDR2 := Lib.hid (HDR.out HGY.out)
                        have HDN2 := Lib.hid (HDN.out HGY.out)
                        clear HDR HDN HGY
                        have bya : gA G.nodes y < 4294967296 := by omega
                        have byb : gB G.nodes y < 4294967296 := by omega
                        have LA := Lib.hid (fun (W : World) => lit_node (gA G.nodes y) W bya)
                        have LB := Lib.hid (fun (W : World) => lit_node (gB G.nodes y) W byb)
                        have ba : gA G.nodes y / 2 < 541 := by omega
                        have bb : gB G.nodes y / 2 < 541 := by omega
                        clear ha hb bya byb
                        generalize gA G.nodes y = ya at *
                        generalize gB G.nodes y = yb at *
                        generalize ya / 2 = na at *
                        generalize yb / 2 = nb at *
                        go_wp2_with fail
                        refine (LA.out _).mono ?_
                        rintro e w' ⟨rfl, rfl⟩
                        go_wp2_with fail
                        refine (LB.out _).mono ?_
                        rintro e w' ⟨rfl, rfl⟩
                        clear LA LB
                        have HT2 := Lib.hid (HT.out.kept V1.out (by simp))
                        have ON2 := Lib.hid (ONr.out.kept V1.out (by simp))
                        go_wp2_with fail
                        have i0 : ∀ w, (Instr.index 61 (.agg #[.int .i64 (na : Int), .int .i64 (nb : Int)]) (.int .i64 0)).run Try.prog w = .ok (.int .i64 (na : Int)) w := fun _ => by kernel_rfl
                        have i1 : ∀ w, (Instr.index 61 (.agg #[.int .i64 (na : Int), .int .i64 (nb : Int)]) (.int .i64 1)).run Try.prog w = .ok (.int .i64 (nb : Int)) w := fun _ => by kernel_rfl
                        have II := Lib.hid (show ∀ t, t < 2 → ∃ z, z < 541 ∧ (z ≠ 0 → z ∈ R) ∧ [na, nb].take (t + 1) = [na, nb].take t ++ [z] ∧ ∀ w, (Instr.index 61 (.agg #[.int .i64 (na : Int), .int .i64 (nb : Int)]) (.int .i64 (t : Int))).run Try.prog w = .ok (.int .i64 (z : Int)) w from fun t ht => by
                          match t, ht with
                          | 0, _ => exact ⟨na, ba, HDN2.out.1, rfl, i0⟩
                          | 1, _ => exact ⟨nb, bb, HDN2.out.2, rfl, i1⟩)
                        clear i0 i1 HDN2
                        obtain ⟨wi, hwi⟩ : ∃ v : World, v = v1 := ⟨_, rfl⟩
                        have HWI := Lib.hid hwi
                        rw [← hwi] at HT2 ON2 V1 ⊢
                        clear hwi HWI
                        go_loopw [223] (fun v w5 => ∃ t : Nat, v = .int .i64 t ∧ t ≤ 2 ∧ SetAt w5 ms (T ++ [na, nb].take t) ∧ Kept [ms] wi w5) (fun v _ => 2 - (intOf v).toNat)
                        case atStart => exact ⟨0, rfl, Nat.zero_le _, by simpa using HT2.out, .refl _ _⟩
                        case round =>
                          obtain ⟨t, rfl, ht, hset, hkr5⟩ := hrel
                          have ST5 := Lib.hid hset
                          have KR5 := Lib.hid hkr5
                          clear hset hkr5
                          by_cases hlt : t < 2
                          · obtain ⟨z, hz, hzR, htk, hix⟩ := II.out t hlt
                            have HTK := Lib.hid htk
                            have HY := Lib.hid (int_key z (by omega))
                            have ON5 := Lib.hid (ON2.out.kept KR5.out (by simp; exact hmm2))
                            clear htk
                            rcases Nat.eq_zero_or_pos z with hz0 | hz0
                            · have hz1 : (z : Int) ≤ 0 := by omega
                              clear hzR hz0
                              go_wp2_with (at_mapUpdate; refine wpList_upd rfl rfl int_law Try.underlying55 rfl rfl rfl ST5.out HY.out ?_; intro w6 hm6 hk6)
                              go_roundw
                              case rel => exact ⟨t + 1, by go_num, by omega, by rw [HTK.out, ← List.append_assoc]; exact SetAt.push hm6, KR5.out.trans hk6⟩
                              case measure => simp [intOf]; omega
                            · have hz1 : 0 < (z : Int) := by omega
                              have hz2 := Lib.hid (hzR (by omega))
                              clear hzR hz0
                              go_wp2_with (at_mapUpdate; refine wpList_upd rfl rfl int_law Try.underlying55 rfl rfl rfl ST5.out HY.out ?_; intro w6 hm6 hk6; have q6 := (ON5.out.kept hk6 (by simp; exact hmm2)).look z (by omega); rw [if_pos hz2.out] at q6)
                              go_roundw
                              case rel => exact ⟨t + 1, by go_num, by omega, by rw [HTK.out, ← List.append_assoc]; exact SetAt.push hm6, KR5.out.trans hk6⟩
                              case measure => simp [intOf]; omega
                          · obtain rfl : t = 2 := by omega
                            go_wp2_with fail
                            go_roundw
                            case rel => exact ⟨_, i, _, rfl, by omega, by omega, ST5.out, List.mem_append_left _ HN.out, HDR2.out, (KT.out.trans (V1.out.more (by simp))).trans KR5.out⟩
                            case measure => simp [intOf]; try omega
end
end Go.Proofs.Ythjaihmjdnijnaa
