/-
  Package arith: two rows.
-/
import Derived.Test.YtenhbhckhncamaaQArI
namespace Go.Proofs.Ytenhbhckhncamaa
open Go.ChangeShapes Go.WideShapes Go.ChangeAt Go.RowKit
set_option linter.unusedVariables false
set_option linter.unusedSimpArgs false

variable {w w' W V w0 : World} {mb p how q n k x y : Nat} {F F0 F' S S' : List Nat} {g g' : Gr} {a b : Option Addr} {ca cb : Nat} {la lb : List Nat}
set_option maxHeartbeats 6400000 in
set_option maxRecDepth 100000 in
theorem ar_two (h : ArAt w mb p how F g) (hh : how = 1 ∨ how = 2) (hm : g.nodes.length ≤ 169000) (op : Int) (hm6 : op = 6 → g.nodes.length + n * (n + sumK n) ≤ 169000) (t : Ty) (hl : la.length = n) (hl2 : lb.length = k) (hn : n ≤ 100000) (hk : k ≤ 100000) (hsa : SlN w .u32 a la) (hsb : SlN w .u32 b lb) (hb : ∀ x ∈ la, x < 4294967296) (hb2 : ∀ x ∈ lb, x < 4294967296) (hda : ∀ x ∈ ft a, x ∉ F) (hdb : ∀ x ∈ ft b, x ∉ F) (hca : n ≤ ca) :
    Calls Try.prog 5 #[.pointer (some ⟨mb, 0, none⟩), .int .i64 op, tyV t, .slice a n ca, .slice b k cb] w (ArIf (asksB g t [la, lb] && decide (twoE op t = 0) && decide (op ≤ 6)) (twoG how op g la lb n) n w p F) := by
  have HBX := Lib.hid (fun V hV => box3 w (.bool t.b) (.bool t.s) (.int .i64 t.w) 24 V hV)
  have HA := Lib.hid (fun V (hV : Kept [] w V) q (hq : V.cell? ⟨q, 0, none⟩ = some (.slice a n ca)) (hq1 : V.cell? ⟨q, 1, none⟩ = some (.slice b k cb)) => ar_asks (h.kept0 hV) (by omega) t (some ⟨q, 0, none⟩) 2 2 [⟨a, ca, la⟩, ⟨b, cb, lb⟩] rfl (by omega) (slrows2 hq hq1 hl hl2 (hsa.kept0 hV) (hsb.kept0 hV)) (by intro r hr x hx; simp at hr; rcases hr with rfl | rfl; exact hb x hx; exact hb2 x hx) (by intro r hr; simp at hr; rcases hr with rfl | rfl; (show la.length ≤ _; omega); (show lb.length ≤ _; omega)))
  have i0 : isT t 0 = mayT t := by unfold isT; simp [Nat.pow_pos]
  have HO := Lib.hid (fun V => two_e op t 0 0 (by omega) (by omega) i0 i0 V)
  clear i0
  rw [show asksB g t (([⟨a, ca, la⟩, ⟨b, cb, lb⟩] : List RR).map (·.l)) = asksB g t [la, lb] from rfl] at HA
  have HAI := Lib.hid (fun hi => asksB_iff (g := g) (t := t) (rs := [la, lb]) |>.1 hi)
  obtain ⟨ia, hia⟩ : ∃ m, m = asksB g t [la, lb] := ⟨_, rfl⟩
  rw [← hia] at HA HAI ⊢
  clear hia
  have HOE := Lib.hid (show twoE op t = 0 → 1 ≤ op ∧ op ≤ 12 from fun h => by
    unfold twoE at h
    split at h
    · rename_i hc; exact ⟨hc.2.1, hc.2.2.1⟩
    · cases h)
  have HOL := Lib.hid (show twoE op t = 0 ∨ twoE op t = 1 from by unfold twoE; split <;> simp)
  obtain ⟨oe, hoe⟩ : ∃ m, m = twoE op t := ⟨_, rfl⟩
  rw [← hoe] at HO HOE HOL ⊢
  clear hoe
  have HH := Lib.hid h
  have HS := Lib.hid hsa
  have HS2 := Lib.hid hsb
  have HD := Lib.hid hda
  have HD2 := Lib.hid hdb
  have HL := Lib.hid hl
  have HL2 := Lib.hid hl2
  have HB := Lib.hid hb
  have HB2 := Lib.hid hb2
  have HW := Lib.hid hh
  have HM6 := Lib.hid hm6
  unfold ArIf
  have HTV := Lib.hid (show tyV t = .agg #[.bool t.b, .bool t.s, .int .i64 t.w] from rfl)
  rw [HTV.out] at HA HO ⊢
  obtain ⟨tw, htw⟩ : ∃ x, x = t.w := ⟨_, rfl⟩
  have HTX := Lib.hid htw
  rw [← htw] at HA HO HBX ⊢
  clear htw HTV h hsa hsb hda hdb hl hl2 hb hb2 hh hm6
  generalize t.b = tb at HA HO HBX ⊢
  generalize t.s = s at HA HO HBX ⊢
  have KA := Lib.hid (show Kept [] w (w.alloc (.cells #[.bool tb, .bool s, .int .i64 tw] 24)) from (Kept.refl [] w).alloc _)
  cases ia with
  | false =>
    simp only [Bool.false_and, Bool.false_eq_true, if_false]
    go_enter Try.func5, Try.ntmps5
    go_wp2_with fail
    refine (HA.out _ (KA.out.alloc _) _ (by simp [World.cell?_alloc_new]) (by simp [World.cell?_alloc_new])).mono ?_
    rintro e w1 ⟨rfl, k1⟩
    have K1 := Lib.hid (((Kept.refl [] (w.alloc (.cells #[.bool tb, .bool s, .int .i64 tw] 24))).alloc (.cells #[.slice a n ca, .slice b k cb] 25)).trans k1)
    obtain ⟨c0, c1, c2⟩ := HBX.out _ K1.out
    clear k1
    go_wp2_with fail
    refine (HO.out _).mono ?_
    rintro e w2 ⟨z, rfl, k2⟩
    have KK := Lib.hid (K1.out.trans k2)
    have K2 := Lib.hid (KA.out.trans KK.out)
    clear k2 c0 c1 c2
    go_wp2_with fail
    go_ret2
    exact ⟨rfl, K2.out⟩
  | true =>
    simp only [Bool.true_and]
    obtain ⟨hmt, hrow⟩ := HAI.out rfl
    have hn1 := may_n hmt
    rw [← HTX.out] at hn1
    have hlw := (hrow la (by simp)).1
    rw [← HTX.out, HL.out] at hlw
    have hlw2 := (hrow lb (by simp)).1
    rw [← HTX.out, HL2.out] at hlw2
    have HOA := Lib.hid (hrow la (by simp)).2
    have HOB := Lib.hid (hrow lb (by simp)).2
    have hn64 : 1 ≤ n ∧ n ≤ 64 := by omega
    have HN := Lib.hid hn64
    obtain rfl : n = k := by omega
    subst hlw
    clear hrow hn1 hmt hlw2
    rcases HOL.out with rfl | rfl
    · have ho := HOE.out rfl
      simp only [decide_true, Bool.true_and]
      by_cases h1 : op = 1
      · subst h1
        rw [show decide ((1 : Int) ≤ 6) = true from rfl]
        simp only [if_true]
        go_enter Try.func5, Try.ntmps5
        go_wp2_with fail
        refine (HA.out _ (KA.out.alloc _) _ (by simp [World.cell?_alloc_new]) (by simp [World.cell?_alloc_new])).mono ?_
        rintro e w1 ⟨rfl, k1⟩
        have K1 := Lib.hid (((Kept.refl [] (w.alloc (.cells #[.bool tb, .bool s, .int .i64 (n : Int)] 24))).alloc (.cells #[.slice a n ca, .slice b n cb] 25)).trans k1)
        obtain ⟨c0, c1, c2⟩ := HBX.out _ K1.out
        clear k1
        go_wp2_with fail
        refine (HO.out _).mono ?_
        rintro e w2 ⟨z, rfl, k2⟩
        have KK := Lib.hid (K1.out.trans k2)
        have K2 := Lib.hid (KA.out.trans KK.out)
        clear k2 c0 c1 c2
        have HM2 := Lib.hid (HH.out.kept0 K2.out)
        have cm := HM2.out.c0
        have HX := Lib.hid (bits_and (ca := ca) (cb := cb) HM2.out.gr (by omega) (by omega) HL.out HL2.out (RowAt.of (HS.out.kept0 K2.out) HD.out) (RowAt.of (HS2.out.kept0 K2.out) HD2.out) HOA.out HOB.out)
        rw [show bitsG andG g la lb n = twoG how 1 g la lb n from rfl] at HX
        go_wp2_with fail
        refine HX.out.mono ?_
        rintro e w9 ⟨F7, a7, c7, rfl, hg7, ho7, hs7⟩
        have HG7 := Lib.hid hg7
        have HR7 := Lib.hid ho7
        have HS7 := Lib.hid (((Stepped.refl w F).keep K2.out).trans hs7)
        clear hg7 ho7 hs7
        go_wp2_with fail
        go_ret2
        exact ⟨F7, a7, c7, rfl, HG7.out, HR7.out, HS7.out⟩
      have f1 : (op == 1) = false := by simp; omega
      by_cases h2 : op = 2
      · subst h2
        rw [show decide ((2 : Int) ≤ 6) = true from rfl]
        simp only [if_true]
        go_enter Try.func5, Try.ntmps5
        go_wp2_with fail
        refine (HA.out _ (KA.out.alloc _) _ (by simp [World.cell?_alloc_new]) (by simp [World.cell?_alloc_new])).mono ?_
        rintro e w1 ⟨rfl, k1⟩
        have K1 := Lib.hid (((Kept.refl [] (w.alloc (.cells #[.bool tb, .bool s, .int .i64 (n : Int)] 24))).alloc (.cells #[.slice a n ca, .slice b n cb] 25)).trans k1)
        obtain ⟨c0, c1, c2⟩ := HBX.out _ K1.out
        clear k1
        go_wp2_with fail
        refine (HO.out _).mono ?_
        rintro e w2 ⟨z, rfl, k2⟩
        have KK := Lib.hid (K1.out.trans k2)
        have K2 := Lib.hid (KA.out.trans KK.out)
        clear k2 c0 c1 c2
        have HM2 := Lib.hid (HH.out.kept0 K2.out)
        have cm := HM2.out.c0
        have HX := Lib.hid (bits_or (ca := ca) (cb := cb) HM2.out.gr (by omega) (by omega) HL.out HL2.out (RowAt.of (HS.out.kept0 K2.out) HD.out) (RowAt.of (HS2.out.kept0 K2.out) HD2.out) HOA.out HOB.out)
        rw [show bitsG orG g la lb n = twoG how 2 g la lb n from rfl] at HX
        go_wp2_with fail
        refine HX.out.mono ?_
        rintro e w9 ⟨F7, a7, c7, rfl, hg7, ho7, hs7⟩
        have HG7 := Lib.hid hg7
        have HR7 := Lib.hid ho7
        have HS7 := Lib.hid (((Stepped.refl w F).keep K2.out).trans hs7)
        clear hg7 ho7 hs7
        go_wp2_with fail
        go_ret2
        exact ⟨F7, a7, c7, rfl, HG7.out, HR7.out, HS7.out⟩
      have f2 : (op == 2) = false := by simp; omega
      by_cases h3 : op = 3
      · subst h3
        rw [show decide ((3 : Int) ≤ 6) = true from rfl]
        simp only [if_true]
        go_enter Try.func5, Try.ntmps5
        go_wp2_with fail
        refine (HA.out _ (KA.out.alloc _) _ (by simp [World.cell?_alloc_new]) (by simp [World.cell?_alloc_new])).mono ?_
        rintro e w1 ⟨rfl, k1⟩
        have K1 := Lib.hid (((Kept.refl [] (w.alloc (.cells #[.bool tb, .bool s, .int .i64 (n : Int)] 24))).alloc (.cells #[.slice a n ca, .slice b n cb] 25)).trans k1)
        obtain ⟨c0, c1, c2⟩ := HBX.out _ K1.out
        clear k1
        go_wp2_with fail
        refine (HO.out _).mono ?_
        rintro e w2 ⟨z, rfl, k2⟩
        have KK := Lib.hid (K1.out.trans k2)
        have K2 := Lib.hid (KA.out.trans KK.out)
        clear k2 c0 c1 c2
        have HM2 := Lib.hid (HH.out.kept0 K2.out)
        have cm := HM2.out.c0
        have HX := Lib.hid (bits_xor (ca := ca) (cb := cb) HM2.out.gr (by omega) (by omega) HL.out HL2.out (RowAt.of (HS.out.kept0 K2.out) HD.out) (RowAt.of (HS2.out.kept0 K2.out) HD2.out) HOA.out HOB.out)
        rw [show bitsG xorG g la lb n = twoG how 3 g la lb n from rfl] at HX
        go_wp2_with fail
        refine HX.out.mono ?_
        rintro e w9 ⟨F7, a7, c7, rfl, hg7, ho7, hs7⟩
        have HG7 := Lib.hid hg7
        have HR7 := Lib.hid ho7
        have HS7 := Lib.hid (((Stepped.refl w F).keep K2.out).trans hs7)
        clear hg7 ho7 hs7
        go_wp2_with fail
        go_ret2
        exact ⟨F7, a7, c7, rfl, HG7.out, HR7.out, HS7.out⟩
      have f3 : (op == 3) = false := by simp; omega
      by_cases h4 : op = 4
      · subst h4
        rw [show decide ((4 : Int) ≤ 6) = true from rfl]
        simp only [if_true]
        go_enter Try.func5, Try.ntmps5
        go_wp2_with fail
        refine (HA.out _ (KA.out.alloc _) _ (by simp [World.cell?_alloc_new]) (by simp [World.cell?_alloc_new])).mono ?_
        rintro e w1 ⟨rfl, k1⟩
        have K1 := Lib.hid (((Kept.refl [] (w.alloc (.cells #[.bool tb, .bool s, .int .i64 (n : Int)] 24))).alloc (.cells #[.slice a n ca, .slice b n cb] 25)).trans k1)
        obtain ⟨c0, c1, c2⟩ := HBX.out _ K1.out
        clear k1
        go_wp2_with fail
        refine (HO.out _).mono ?_
        rintro e w2 ⟨z, rfl, k2⟩
        have KK := Lib.hid (K1.out.trans k2)
        have K2 := Lib.hid (KA.out.trans KK.out)
        clear k2 c0 c1 c2
        have HM2 := Lib.hid (HH.out.kept0 K2.out)
        have cm := HM2.out.c0
        have HX := Lib.hid (sum_c (ca := ca) (cb := cb) (c := 0) HM2.out HW.out hm HN.out.1 HN.out.2 HL.out HL2.out (HS.out.kept0 K2.out) (HS2.out.kept0 K2.out) HOA.out HOB.out (one_ok HH.out.gr.wf).2 HD.out HD2.out)
        rw [show sumG how g la lb 0 n = twoG how 4 g la lb n from rfl] at HX
        go_wp2_with fail
        refine HX.out.mono ?_
        rintro e w9 ⟨F7, a7, c7, rfl, hg7, ho7, hs7⟩
        have HG7 := Lib.hid hg7
        have HR7 := Lib.hid ho7
        have HS7 := Lib.hid (((Stepped.refl w F).keep K2.out).trans hs7)
        clear hg7 ho7 hs7
        go_wp2_with fail
        go_ret2
        exact ⟨F7, a7, c7, rfl, HG7.out, HR7.out, HS7.out⟩
      have f4 : (op == 4) = false := by simp; omega
      by_cases h5 : op = 5
      · subst h5
        rw [show decide ((5 : Int) ≤ 6) = true from rfl]
        simp only [if_true]
        go_enter Try.func5, Try.ntmps5
        go_wp2_with fail
        refine (HA.out _ (KA.out.alloc _) _ (by simp [World.cell?_alloc_new]) (by simp [World.cell?_alloc_new])).mono ?_
        rintro e w1 ⟨rfl, k1⟩
        have K1 := Lib.hid (((Kept.refl [] (w.alloc (.cells #[.bool tb, .bool s, .int .i64 (n : Int)] 24))).alloc (.cells #[.slice a n ca, .slice b n cb] 25)).trans k1)
        obtain ⟨c0, c1, c2⟩ := HBX.out _ K1.out
        clear k1
        go_wp2_with fail
        refine (HO.out _).mono ?_
        rintro e w2 ⟨z, rfl, k2⟩
        have KK := Lib.hid (K1.out.trans k2)
        have K2 := Lib.hid (KA.out.trans KK.out)
        clear k2 c0 c1 c2
        have HM2 := Lib.hid (HH.out.kept0 K2.out)
        have cm := HM2.out.c0
        have HTU := Lib.hid (lit_turn b cb n lb w2 HL2.out (by omega) (HS2.out.kept0 K2.out) (fun x hx => HB2.out x hx))
        go_wp2_with fail
        refine HTU.out.mono ?_
        rintro e w3 ⟨a6, c6, rfl, ho6, hs6⟩
        have K3 := Lib.hid (K2.out.trans hs6.kept)
        have HO6 := Lib.hid ho6
        have HM3 := Lib.hid (HH.out.kept0 K3.out)
        have HX := Lib.hid (sum_c (ca := ca) (cb := c6) (c := 1) HM3.out HW.out hm HN.out.1 HN.out.2 HL.out (show (lb.map ntL).length = n from by rw [List.length_map]; exact HL2.out) (HS.out.kept0 K3.out) HO6.out.sln HOA.out (turn_ok HOB.out) (one_ok HH.out.gr.wf).1 HD.out (HM3.out.gr.apart HO6.out (by decide) (by decide) (by decide)))
        rw [show sumG how g la (lb.map ntL) 1 n = twoG how 5 g la lb n from rfl] at HX
        clear hs6 ho6
        go_wp2_with fail
        refine HX.out.mono ?_
        rintro e w9 ⟨F7, a7, c7, rfl, hg7, ho7, hs7⟩
        have HG7 := Lib.hid hg7
        have HR7 := Lib.hid ho7
        have HS7 := Lib.hid (((Stepped.refl w F).keep K3.out).trans hs7)
        clear hg7 ho7 hs7
        go_wp2_with fail
        go_ret2
        exact ⟨F7, a7, c7, rfl, HG7.out, HR7.out, HS7.out⟩
      have f5 : (op == 5) = false := by simp; omega
      by_cases h6 : op = 6
      · subst h6
        rw [show decide ((6 : Int) ≤ 6) = true from rfl]
        simp only [if_true]
        go_enter Try.func5, Try.ntmps5
        go_wp2_with fail
        refine (HA.out _ (KA.out.alloc _) _ (by simp [World.cell?_alloc_new]) (by simp [World.cell?_alloc_new])).mono ?_
        rintro e w1 ⟨rfl, k1⟩
        have K1 := Lib.hid (((Kept.refl [] (w.alloc (.cells #[.bool tb, .bool s, .int .i64 (n : Int)] 24))).alloc (.cells #[.slice a n ca, .slice b n cb] 25)).trans k1)
        obtain ⟨c0, c1, c2⟩ := HBX.out _ K1.out
        clear k1
        go_wp2_with fail
        refine (HO.out _).mono ?_
        rintro e w2 ⟨z, rfl, k2⟩
        have KK := Lib.hid (K1.out.trans k2)
        have K2 := Lib.hid (KA.out.trans KK.out)
        clear k2 c0 c1 c2
        have HM2 := Lib.hid (HH.out.kept0 K2.out)
        have cm := HM2.out.c0
        have HX := Lib.hid (mul_c (ca := ca) (cb := cb) HM2.out HW.out (HM6.out (by first | rfl | trivial)) HN.out.1 HN.out.2 HL.out HL2.out hca (RowAt.of (HS.out.kept0 K2.out) HD.out) (RowAt.of (HS2.out.kept0 K2.out) HD2.out) HOA.out HOB.out)
        rw [show prodG how g la lb n n = twoG how 6 g la lb n from rfl] at HX
        go_wp2_with fail
        refine HX.out.mono ?_
        rintro e w9 ⟨F7, a7, c7, rfl, hg7, ho7, hs7⟩
        have HG7 := Lib.hid hg7
        have HR7 := Lib.hid ho7
        have HS7 := Lib.hid (((Stepped.refl w F).keep K2.out).trans hs7)
        clear hg7 ho7 hs7
        go_wp2_with fail
        go_ret2
        exact ⟨F7, a7, c7, rfl, HG7.out, HR7.out, HS7.out⟩
      have f6 : (op == 6) = false := by simp; omega
      rw [show decide (op ≤ 6) = false from decide_eq_false (by omega)]
      simp only [Bool.false_eq_true, if_false]
      clear ho
      go_enter Try.func5, Try.ntmps5
      go_wp2_with fail
      refine (HA.out _ (KA.out.alloc _) _ (by simp [World.cell?_alloc_new]) (by simp [World.cell?_alloc_new])).mono ?_
      rintro e w1 ⟨rfl, k1⟩
      have K1 := Lib.hid (((Kept.refl [] (w.alloc (.cells #[.bool tb, .bool s, .int .i64 (n : Int)] 24))).alloc (.cells #[.slice a n ca, .slice b n cb] 25)).trans k1)
      obtain ⟨c0, c1, c2⟩ := HBX.out _ K1.out
      clear k1
      go_wp2_with fail
      refine (HO.out _).mono ?_
      rintro e w2 ⟨z, rfl, k2⟩
      have KK := Lib.hid (K1.out.trans k2)
      have K2 := Lib.hid (KA.out.trans KK.out)
      clear k2 c0 c1 c2
      go_wp2_with fail
      go_ret2
      exact ⟨rfl, K2.out⟩
    · rw [show (decide (1 = 0) && decide (op ≤ 6)) = false from rfl]
      simp only [Bool.false_eq_true, if_false]
      go_enter Try.func5, Try.ntmps5
      go_wp2_with fail
      refine (HA.out _ (KA.out.alloc _) _ (by simp [World.cell?_alloc_new]) (by simp [World.cell?_alloc_new])).mono ?_
      rintro e w1 ⟨rfl, k1⟩
      have K1 := Lib.hid (((Kept.refl [] (w.alloc (.cells #[.bool tb, .bool s, .int .i64 (n : Int)] 24))).alloc (.cells #[.slice a n ca, .slice b n cb] 25)).trans k1)
      obtain ⟨c0, c1, c2⟩ := HBX.out _ K1.out
      clear k1
      go_wp2_with fail
      refine (HO.out _).mono ?_
      rintro e w2 ⟨z, rfl, k2⟩
      have KK := Lib.hid (K1.out.trans k2)
      have K2 := Lib.hid (KA.out.trans KK.out)
      clear k2 c0 c1 c2
      go_wp2_with fail
      go_ret2
      exact ⟨rfl, K2.out⟩
end Go.Proofs.Ytenhbhckhncamaa
