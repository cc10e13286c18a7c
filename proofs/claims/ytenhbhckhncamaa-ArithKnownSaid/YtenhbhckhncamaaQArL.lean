/-
  Package arith: conversions.
-/
import Derived.Test.YtenhbhckhncamaaQArK
import Derived.Test.YtenhbhckhncamaaQCat
namespace Go.Proofs.Ytenhbhckhncamaa
open Go.ChangeShapes Go.WideShapes Go.ChangeAt Go.RowKit
set_option linter.unusedVariables false
set_option linter.unusedSimpArgs false

variable {w w' W V w0 : World} {mb p how q n k x y : Nat} {F F0 F' S S' : List Nat} {g g' : Gr} {a b : Option Addr} {ca cb : Nat} {la lb : List Nat}
def ArLits (l : List Nat) (n : Nat) (w : World) (e : Ending) (w' : World) : Prop := ∃ a c, e = .returned (.slice a n c) ∧ Own w' 34 a n c (nats .u32 l) ∧ Stepped w w' [] (ft a)
/-- a row of literals that is not nil, or nil: its clone -/
theorem ar_clone (a : Option Addr) (c n : Nat) (l : List Nat) (w : World) (hl : l.length = n) (hs : SlN w .u32 a l) (hm : n ≤ 1000000) (h0 : a = none → n = 0) :
    Calls Try.prog 31 #[.slice a n c] w (ArLits l n w) := by
  have q := fun (w : World) (a : Option Addr) (n c : Nat) => Lib.run_eql_slice_nil (P := Try.prog) w 25 34 a n c 0 0 Try.underlying25
  have HS := Lib.hid hs; clear hs
  have HL := Lib.hid hl; clear hl
  cases a with
  | none =>
    obtain rfl := h0 rfl
    have hl0 : l = [] := List.eq_nil_of_length_eq_zero HL.out
    subst hl0
    go_enter Try.func31, Try.ntmps31
    go_wp2
    go_ret
    exact ⟨none, 0, rfl, Own.nil _ _, .refl _ _⟩
  | some ad =>
    clear h0
    have HC := Lib.hid (show ∀ j u, (nats .u32 l)[j]? = some u → (w.alloc (.cells #[] 34)).cell? (ad.add j) = some u from fun j u hu => by
      obtain ⟨hj, rfl⟩ := List.getElem?_eq_some_iff.1 hu
      rw [nats_length] at hj
      obtain ⟨ad', h1, h2⟩ := HS.out j hj
      injection h1 with h1
      subst h1
      have := cell_alloc h2 (.cells #[] 34)
      rw [this]
      simp [nats])
    go_enter Try.func31, Try.ntmps31
    go_wp2_with (at_builtin; refine wpList_cat (news := nats .u32 l) rfl rfl Try.underlying25 lit_info rfl (by omega) rfl rfl (own_empty w 34 1) (by rw [nats_length, HL.out, Nat.mul_one]) HC.out (nats_one _ _) (by unfold maxLen; omega) (by omega) ?_; intro a' c' w1 hown1 hst1)
    go_ret
    refine ⟨a', c', by simp [go_sem], by simpa [Own] using hown1, ?_⟩
    have := (((Stepped.refl w []).allocOwn (.cells #[] 34))).trans (by simpa [ft] using hst1)
    exact this
theorem cell_new3 (w : World) (A B : Obj) (v : Value) (T : TypeId) : (((w.alloc A).alloc B).alloc (.cells #[v] T)).cell? ⟨w.heap.size + 1 + 1, 0, none⟩ = some v := by
  have h := blk_cell (heap_alloc_new ((w.alloc A).alloc B) (.cells #[v] T)) 0
  rw [show ((w.alloc A).alloc B).heap.size = w.heap.size + 1 + 1 from by simp] at h
  exact h
set_option maxHeartbeats 3200000 in
set_option maxRecDepth 100000 in
theorem ar_conv (h : ArAt w mb p how F g) (hm : g.nodes.length ≤ 169000) (t u : Ty) (hca : n ≤ ca) (hl : la.length = n) (hn : n ≤ 100000) (hsa : SlN w .u32 a la) (hb : ∀ x ∈ la, x < 4294967296) (hda : ∀ x ∈ ft a, x ∉ F) :
    Calls Try.prog 7 #[.pointer (some ⟨mb, 0, none⟩), tyV t, tyV u, .slice a n ca] w (ArIf (asksB g t [la] && decide (convE t u = 0)) (g, convL t la (tyN u)) (tyN u) w p F) := by
  have HTP := Lib.hid (fun (h1 : 1 ≤ n) V (hV : Kept [] w V) => top_c (n := n) (ca := ca) t hl h1 hn (hsa.kept0 hV))
  have HSL := Lib.hid (show ∀ k, k < tyN u → (convL t la (tyN u))[k]? = some (if k < n then la.getD k 0 else topL t la) from fun k hk => by
    unfold convL topL
    rw [List.getElem?_map, List.getElem?_range hk, ← hl]
    rfl)
  have HSN := Lib.hid (show (convL t la (tyN u)).length = tyN u from by unfold convL; rw [List.length_map, List.length_range])
  have HBX := Lib.hid (fun V hV => box3k w (.bool t.b) (.bool t.s) (.int .i64 t.w) (.bool u.b) (.bool u.s) (.int .i64 u.w) 24 24 V hV)
  have HA := Lib.hid (fun V (hV : Kept [] w V) q (hq : V.cell? ⟨q, 0, none⟩ = some (.slice a n ca)) => ar_asks (h.kept0 hV) (by omega) t (some ⟨q, 0, none⟩) 1 1 [⟨a, ca, la⟩] rfl (by omega) (slrows1 hq hl (hsa.kept0 hV)) (by simpa using hb) (by simp; omega))
  have HO := Lib.hid (fun V => conv_e t u V)
  rw [show asksB g t (([⟨a, ca, la⟩] : List RR).map (·.l)) = asksB g t [la] from rfl] at HA
  have HAI := Lib.hid (fun hi => asksB_iff (g := g) (t := t) (rs := [la]) |>.1 hi)
  obtain ⟨ia, hia⟩ : ∃ m, m = asksB g t [la] := ⟨_, rfl⟩
  rw [← hia] at HA HAI ⊢
  clear hia
  have HOE := Lib.hid (show convE t u = 0 → mayT u = true from fun h => by
    unfold convE at h
    split at h
    · rename_i hc; exact hc.2.1
    · cases h)
  have HOL := Lib.hid (show convE t u = 0 ∨ convE t u = 1 from by unfold convE; split <;> simp)
  obtain ⟨oe, hoe⟩ : ∃ m, m = convE t u := ⟨_, rfl⟩
  rw [← hoe] at HO HOE HOL ⊢
  clear hoe
  have HH := Lib.hid h
  have HS := Lib.hid hsa
  have HD := Lib.hid hda
  have HL := Lib.hid hl
  have HB := Lib.hid hb
  unfold ArIf
  have HTV := Lib.hid (show tyV t = .agg #[.bool t.b, .bool t.s, .int .i64 t.w] from rfl)
  rw [HTV.out] at HA HO HTP ⊢
  have HTU := Lib.hid (show tyV u = .agg #[.bool u.b, .bool u.s, .int .i64 u.w] from rfl)
  rw [HTU.out] at HO ⊢
  have HTW := Lib.hid (show t.w = t.w from rfl)
  obtain ⟨tw, htw⟩ : ∃ x, x = t.w := ⟨_, rfl⟩
  have HTX := Lib.hid htw
  rw [← htw] at HA HO HBX HTP ⊢
  obtain ⟨L, hL⟩ : ∃ x, x = convL t la (tyN u) := ⟨_, rfl⟩
  rw [← hL] at HSL HSN ⊢
  obtain ⟨tp, htp⟩ : ∃ x, x = topL t la := ⟨_, rfl⟩
  rw [← htp] at HSL HTP
  clear hL htp
  have HMU := Lib.hid (fun h => may_n (t := u) h)
  generalize tyN u = m at HSL HSN HMU ⊢
  generalize u.b = ub at HO HBX ⊢
  generalize u.s = us at HO HBX ⊢
  obtain ⟨uw, huw⟩ : ∃ x, x = u.w := ⟨_, rfl⟩
  rw [← huw] at HO HBX HMU ⊢
  clear huw HTU
  clear htw HTV HTW h hsa hda hl hb
  generalize t.b = tb at HA HO HBX HTP ⊢
  generalize t.s = s at HA HO HBX HTP ⊢
  have KA := Lib.hid (show Kept [] w ((w.alloc (.cells #[.bool tb, .bool s, .int .i64 tw] 24)).alloc (.cells #[.bool ub, .bool us, .int .i64 uw] 24)) from ((Kept.refl [] w).alloc _).alloc _)
  cases ia with
  | false =>
    simp only [Bool.false_and, Bool.false_eq_true, if_false]
    go_enter Try.func7, Try.ntmps7
    go_wp2_with fail
    refine (HA.out _ (KA.out.alloc _) _ (cell_new3 _ _ _ _ _)).mono ?_
    rintro e w1 ⟨rfl, k1⟩
    have K1 := Lib.hid (((Kept.refl [] ((w.alloc (.cells #[.bool tb, .bool s, .int .i64 tw] 24)).alloc (.cells #[.bool ub, .bool us, .int .i64 uw] 24))).alloc (.cells #[.slice a n ca] 25)).trans k1)
    obtain ⟨⟨c0, c1, c2⟩, d0, d1, d2⟩ := HBX.out _ K1.out
    clear k1
    go_wp2_with fail
    refine (HO.out _).mono ?_
    rintro e w2 ⟨z, rfl, k2⟩
    have KK := Lib.hid (K1.out.trans k2)
    have K2 := Lib.hid (KA.out.trans KK.out)
    clear k2 c0 c1 c2 d0 d1 d2
    go_wp2_with fail
    go_ret2
    exact ⟨rfl, K2.out⟩
  | true =>
    simp only [Bool.true_and]
    obtain ⟨hmt, hrow⟩ := HAI.out rfl
    have hn1 := may_n hmt
    rw [← HTX.out] at hn1
    have hlw := (hrow la (by simp)).1
    rw [← HTX.out, HL.out] at hlw
    have hn64 : 1 ≤ n ∧ n ≤ 64 := by omega
    have HT1 := Lib.hid (fun V hV => HTP.out hn64.1 V hV)
    have HN := Lib.hid hn64
    subst hlw
    clear hrow hn1 hmt HTP
    rcases HOL.out with rfl | rfl
    · have hbb := HMU.out (HOE.out rfl)
      rw [show decide (0 = 0) = true from rfl]
      simp only [if_true]
      obtain ⟨hu, hu1, hu2⟩ := hbb
      subst hu
      go_enter Try.func7, Try.ntmps7
      go_wp2_with fail
      refine (HA.out _ (KA.out.alloc _) _ (cell_new3 _ _ _ _ _)).mono ?_
      rintro e w1 ⟨rfl, k1⟩
      have K1 := Lib.hid (((Kept.refl [] ((w.alloc (.cells #[.bool tb, .bool s, .int .i64 (n : Int)] 24)).alloc (.cells #[.bool ub, .bool us, .int .i64 (m : Int)] 24))).alloc (.cells #[.slice a n ca] 25)).trans k1)
      obtain ⟨⟨c0, c1, c2⟩, d0, d1, d2⟩ := HBX.out _ K1.out
      clear k1
      go_wp2_with fail
      refine (HO.out _).mono ?_
      rintro e w2 ⟨z, rfl, k2⟩
      have KK := Lib.hid (K1.out.trans k2)
      have K2 := Lib.hid (KA.out.trans KK.out)
      clear k2 c0 c1 c2 d0 d1 d2
      have hn1' : 1 ≤ n := hn64.1
      have hn2' : n ≤ 64 := hn64.2
      obtain ⟨z9, hz9⟩ : ∃ z, z = min n m := ⟨_, rfl⟩
      have HZ9 := Lib.hid hz9
      have hz1 : z9 ≤ n := by omega
      have hz2 : z9 ≤ m := by omega
      have hst : SlN w2 .u32 a (la.take z9) := fun i hi => by
        rw [List.length_take, HL.out] at hi
        obtain ⟨ad, h1, h2⟩ := (HS.out.kept0 K2.out) i (by rw [HL.out]; omega)
        exact ⟨ad, h1, by rw [h2, List.getElem_take]⟩
      have HCL := Lib.hid (ar_clone a ca z9 (la.take z9) w2 (by rw [List.length_take, HL.out]; omega) hst (by omega) (fun h0 => by
        apply Nat.eq_zero_of_not_pos
        intro hp
        obtain ⟨ad, h1, _⟩ := hst 0 (by rw [List.length_take, HL.out]; omega)
        rw [h1] at h0
        cases h0))
      obtain ⟨⟨c0, c1, c2⟩, d0, d1, d2⟩ := HBX.out _ KK.out
      have hmin : (n : Int) ≤ (m : Int) ∧ n = z9 ∨ (m : Int) < (n : Int) ∧ m = z9 := by omega
      clear hn64 hst hz9
      rcases hmin with ⟨hmin, rfl⟩ | ⟨hmin, rfl⟩
      · go_wp2_with fail
        refine HCL.out.mono ?_
        rintro e w3 ⟨a3, c3, rfl, ho3, hs3⟩
        have K3 := Lib.hid (K2.out.trans hs3.kept)
        have KB := Lib.hid (KK.out.trans hs3.kept)
        have KW3 := Lib.hid hs3.kept
        have F3 := Lib.hid (show ∀ b ∈ ft a3, w2.heap.size ≤ b from fun b hb => (hs3.fresh b hb).elim (by simp) id)
        have ETK := Lib.hid (show la.take n = L.take n from by
          apply List.ext_getElem?
          intro i
          rw [List.getElem?_take, List.getElem?_take]
          by_cases hi : i < n
          · rw [if_pos hi, if_pos hi, HSL.out i (by omega), if_pos (by omega)]
            rw [List.getElem?_eq_getElem (by rw [HL.out]; omega), List.getD_eq_getElem?_getD, List.getElem?_eq_getElem (by rw [HL.out]; omega)]
            rfl
          · rw [if_neg hi, if_neg hi])
        have O3 := Lib.hid (show Own w3 34 a3 n c3 (nats .u32 (L.take n)) from by rw [← ETK.out]; exact ho3)
        clear ho3 hs3 c0 c1 c2 d0 d1 d2
        go_wp2_with fail
        go_loopw [13] (fun v wr => ∃ (i : Nat) (a1 : Option Addr) (c1 : Nat), n ≤ i ∧ i ≤ m ∧ v = .slice a1 i c1 ∧ Own wr 34 a1 i c1 (nats .u32 (L.take i)) ∧ Kept [] w wr ∧ Kept [] ((w.alloc (.cells #[.bool tb, .bool s, .int .i64 (n : Int)] 24)).alloc (.cells #[.bool ub, .bool us, .int .i64 (m : Int)] 24)) wr ∧ Kept [] w2 wr ∧ ∀ b ∈ ft a1, w2.heap.size ≤ b) (fun v wr => m - (match v with | .slice _ l _ => l | _ => 0))
        case atStart => exact ⟨n, a3, c3, Nat.le_refl _, by omega, rfl, O3.out, K3.out, KB.out, KW3.out, F3.out⟩
        case round =>
          obtain ⟨i, a1, c1, hi1, hi2, rfl, ho, hkr, hkb, hkw, hfa⟩ := hrel
          obtain ⟨wa, rfl⟩ : ∃ v : World, v = wr := ⟨_, rfl⟩
          have HO := Lib.hid ho
          have KR := Lib.hid hkr
          have KBR := Lib.hid hkb
          have KW := Lib.hid hkw
          have FA := Lib.hid hfa
          obtain ⟨⟨c0, e1, c2⟩, d0, d1, d2⟩ := HBX.out _ hkb
          clear ho hkr hkb hkw hfa
          by_cases hlt : i < m
          · have hli := HSL.out i hlt
            rw [if_neg (by omega)] at hli
            have HTK := Lib.hid (show L.take (i + 1) = L.take i ++ [tp] from by
              obtain ⟨h1, h2⟩ := List.getElem?_eq_some_iff.1 hli
              rw [List.take_succ_eq_append_getElem h1, h2])
            have j1 : (i : Int) < (m : Int) := by omega
            clear hli
            go_wp2_with fail
            refine (HT1.out _ KR.out).mono ?_
            rintro e w5 ⟨rfl, k5⟩
            have K5 := Lib.hid k5
            have ho5 := HO.out.kept0 k5
            clear k5 c0 e1 c2 d0 d1 d2
            go_wp2_with (at_builtin; refine wpList_push rfl rfl Try.underlying25 lit_info rfl rfl rfl ho5 rfl (by unfold maxLen; omega) (by omega) ?_; intro a8 c8 w8 hown8 hst8)
            go_roundw
            case rel => exact ⟨i + 1, a8, c8, by omega, by omega, rfl, by rw [HTK.out, ← nats_append]; exact hown8, kept_up (KR.out.trans K5.out) hst8.kept (fun b hb => Nat.le_trans K2.out.size (FA.out b hb)), kept_up (KBR.out.trans K5.out) hst8.kept (fun b hb => Nat.le_trans KK.out.size (FA.out b hb)), kept_up (KW.out.trans K5.out) hst8.kept FA.out, fun b hb => (hst8.fresh b hb).elim (FA.out b) (fun h => Nat.le_trans (KW.out.trans K5.out).size h)⟩
            case measure => simp; omega
          · obtain rfl : m = i := by omega
            have OE := Lib.hid (show Own wa 34 a1 m c1 (nats .u32 L) from by
              have h := HO.out
              rw [List.take_of_length_le (by rw [HSN.out]; exact Nat.le_refl _)] at h
              exact h)
            go_wp2_with fail
            go_ret2
            exact ArRow.new (HH.out.gr.kept0 KR.out) OE.out KR.out (fun x hx => Nat.le_trans K2.out.size (FA.out x hx))
      · go_wp2_with fail
        refine HCL.out.mono ?_
        rintro e w3 ⟨a3, c3, rfl, ho3, hs3⟩
        have K3 := Lib.hid (K2.out.trans hs3.kept)
        have KB := Lib.hid (KK.out.trans hs3.kept)
        have KW3 := Lib.hid hs3.kept
        have F3 := Lib.hid (show ∀ b ∈ ft a3, w2.heap.size ≤ b from fun b hb => (hs3.fresh b hb).elim (by simp) id)
        have ETK := Lib.hid (show la.take m = L.take m from by
          apply List.ext_getElem?
          intro i
          rw [List.getElem?_take, List.getElem?_take]
          by_cases hi : i < m
          · rw [if_pos hi, if_pos hi, HSL.out i (by omega), if_pos (by omega)]
            rw [List.getElem?_eq_getElem (by rw [HL.out]; omega), List.getD_eq_getElem?_getD, List.getElem?_eq_getElem (by rw [HL.out]; omega)]
            rfl
          · rw [if_neg hi, if_neg hi])
        have O3 := Lib.hid (show Own w3 34 a3 m c3 (nats .u32 (L.take m)) from by rw [← ETK.out]; exact ho3)
        clear ho3 hs3 c0 c1 c2 d0 d1 d2
        go_wp2_with fail
        go_loopw [13] (fun v wr => ∃ (i : Nat) (a1 : Option Addr) (c1 : Nat), m ≤ i ∧ i ≤ m ∧ v = .slice a1 i c1 ∧ Own wr 34 a1 i c1 (nats .u32 (L.take i)) ∧ Kept [] w wr ∧ Kept [] ((w.alloc (.cells #[.bool tb, .bool s, .int .i64 (n : Int)] 24)).alloc (.cells #[.bool ub, .bool us, .int .i64 (m : Int)] 24)) wr ∧ Kept [] w2 wr ∧ ∀ b ∈ ft a1, w2.heap.size ≤ b) (fun v wr => m - (match v with | .slice _ l _ => l | _ => 0))
        case atStart => exact ⟨m, a3, c3, Nat.le_refl _, by omega, rfl, O3.out, K3.out, KB.out, KW3.out, F3.out⟩
        case round =>
          obtain ⟨i, a1, c1, hi1, hi2, rfl, ho, hkr, hkb, hkw, hfa⟩ := hrel
          obtain ⟨wa, rfl⟩ : ∃ v : World, v = wr := ⟨_, rfl⟩
          have HO := Lib.hid ho
          have KR := Lib.hid hkr
          have KBR := Lib.hid hkb
          have KW := Lib.hid hkw
          have FA := Lib.hid hfa
          obtain ⟨⟨c0, e1, c2⟩, d0, d1, d2⟩ := HBX.out _ hkb
          clear ho hkr hkb hkw hfa
          by_cases hlt : i < m
          · exact absurd hlt (by omega)
          · obtain rfl : m = i := by omega
            have OE := Lib.hid (show Own wa 34 a1 m c1 (nats .u32 L) from by
              have h := HO.out
              rw [List.take_of_length_le (by rw [HSN.out]; exact Nat.le_refl _)] at h
              exact h)
            go_wp2_with fail
            go_ret2
            exact ArRow.new (HH.out.gr.kept0 KR.out) OE.out KR.out (fun x hx => Nat.le_trans K2.out.size (FA.out x hx))
    · rw [show decide (1 = 0) = false from rfl]
      simp only [Bool.false_eq_true, if_false]
      go_enter Try.func7, Try.ntmps7
      go_wp2_with fail
      refine (HA.out _ (KA.out.alloc _) _ (cell_new3 _ _ _ _ _)).mono ?_
      rintro e w1 ⟨rfl, k1⟩
      have K1 := Lib.hid (((Kept.refl [] ((w.alloc (.cells #[.bool tb, .bool s, .int .i64 (n : Int)] 24)).alloc (.cells #[.bool ub, .bool us, .int .i64 uw] 24))).alloc (.cells #[.slice a n ca] 25)).trans k1)
      obtain ⟨⟨c0, c1, c2⟩, d0, d1, d2⟩ := HBX.out _ K1.out
      clear k1
      go_wp2_with fail
      refine (HO.out _).mono ?_
      rintro e w2 ⟨z, rfl, k2⟩
      have KK := Lib.hid (K1.out.trans k2)
      have K2 := Lib.hid (KA.out.trans KK.out)
      clear k2 c0 c1 c2 d0 d1 d2
      go_wp2_with fail
      go_ret2
      exact ⟨rfl, K2.out⟩
end Go.Proofs.Ytenhbhckhncamaa
