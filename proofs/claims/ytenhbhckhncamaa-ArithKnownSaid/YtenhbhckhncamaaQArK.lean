/-
  Package arith: shifts, conversions.
-/
import Derived.Test.YtenhbhckhncamaaQArJ
namespace Go.Proofs.Ytenhbhckhncamaa
open Go.ChangeShapes Go.WideShapes Go.ChangeAt Go.RowKit
set_option linter.unusedVariables false
set_option linter.unusedSimpArgs false

variable {w w' W V w0 : World} {mb p how q n k x y : Nat} {F F0 F' S S' : List Nat} {g g' : Gr} {a b : Option Addr} {ca cb : Nat} {la lb : List Nat}
def topL (t : Ty) (la : List Nat) : Nat := if t.s then la.getD (la.length - 1) 0 else 0
set_option maxRecDepth 100000 in
theorem top_c (t : Ty) (hl : la.length = n) (h1 : 1 ≤ n) (hn : n ≤ 100000) (hs : SlN w .u32 a la) : Calls Try.prog 29 #[tyV t, .slice a n ca] w fun e w' => e = .returned (.int .u32 (topL t la : Nat)) ∧ Kept [] w w' := by
  obtain ⟨ad, rfl, hc⟩ := hs.getD (k := la.length - 1) (by omega)
  have HT := Lib.hid (show topL t la = if t.s then la.getD (la.length - 1) 0 else 0 from rfl)
  obtain ⟨m, hm⟩ : ∃ m, m = la.length - 1 := ⟨_, rfl⟩
  rw [← hm] at hc HT
  obtain ⟨z, hz⟩ : ∃ z, z = la.getD m 0 := ⟨_, rfl⟩
  rw [← hz] at hc HT
  obtain ⟨o, ho⟩ : ∃ z, z = topL t la := ⟨_, rfl⟩
  rw [← ho] at HT ⊢
  have hcc : ∀ V, Kept [] w V → V.cell? (ad.add m) = some (.int .u32 (z : Int)) := fun V hV => hV.cell hc (by simp)
  have hca := fun o => hcc _ ((Kept.refl [] w).alloc o)
  have e1 : IntKind.i64.wrap ((n : Int) - 1) = (m : Int) := by rw [IntWalk.i64_in _ (by omega)]; omega
  have m0 : (0 : Int) ≤ (m : Int) := by omega
  have m1 : (m : Int) < (n : Int) := by omega
  clear hm hz ho hcc hs hc
  unfold tyV
  generalize t.b = tb at *
  generalize t.s = s at *
  generalize t.w = tw at *
  cases s
  · go_enter Try.func29, Try.ntmps29
    go_wp2_with fail
    go_ret
    exact ⟨by rw [HT.out]; rfl, (Kept.refl [] w).alloc _⟩
  · go_enter Try.func29, Try.ntmps29
    go_wp2_with fail
    go_ret
    exact ⟨by rw [HT.out]; rfl, (Kept.refl [] w).alloc _⟩
theorem own_putN {w0 : World} {gb : Nat} {M : List Nat} (h : Own w 34 (some ⟨gb, 0, none⟩) n n (nats .u32 M)) (hk : Kept [] w0 w) (hb : w0.heap.size ≤ gb) {i : Nat} (hi : i < n) (b : Nat) :
    Own (w.setCell ⟨gb, i, none⟩ (.int .u32 (b : Int))) 34 (some ⟨gb, 0, none⟩) n n (nats .u32 (M.set i b)) ∧ Kept [] w0 (w.setCell ⟨gb, i, none⟩ (.int .u32 (b : Int))) := by
  have h1 := (h.store hi).2.2 (.int .u32 (b : Int))
  rw [nats_set] at h1
  exact ⟨h1, hk.setCell (p := ⟨gb, i, none⟩) (.inr hb) _⟩
def mixL (L R : List Nat) (j : Nat) : List Nat := L.take j ++ R.drop j
theorem mix_all {L R : List Nat} {n : Nat} (h1 : L.length = n) (h2 : R.length = n) : mixL L R n = L := by
  unfold mixL
  rw [List.take_of_length_le (by omega), List.drop_of_length_le (by omega), List.append_nil]
theorem mix_set {L R : List Nat} {j v : Nat} (hv : L[j]? = some v) (hl : L.length = R.length) : (mixL L R j).set j v = mixL L R (j + 1) := by
  obtain ⟨h1, h2⟩ := List.getElem?_eq_some_iff.1 hv
  have h3 : j < R.length := by omega
  unfold mixL
  rw [List.take_succ_eq_append_getElem h1, h2, List.drop_eq_getElem_cons h3, List.set_append_right _ _ (by rw [List.length_take]; omega), List.length_take, Nat.min_eq_left (Nat.le_of_lt h1), Nat.sub_self, List.set_cons_zero, List.append_assoc]
  rfl
set_option maxHeartbeats 3200000 in
set_option maxRecDepth 100000 in
theorem ar_shift (h : ArAt w mb p how F g) (hm : g.nodes.length ≤ 169000) (t : Ty) (by' : Int) (hb1 : -9223372036854775808 ≤ by') (hb2 : by' ≤ 9223372036854775807) (hl : la.length = n) (hn : n ≤ 100000) (hsa : SlN w .u32 a la) (hb : ∀ x ∈ la, x < 4294967296) (hda : ∀ x ∈ ft a, x ∉ F) :
    Calls Try.prog 6 #[.pointer (some ⟨mb, 0, none⟩), tyV t, .slice a n ca, .int .i64 by'] w (ArIf (asksB g t [la] && decide (shiftE t by' = 0)) (g, shiftL t la by') n w p F) := by
  have HTP := Lib.hid (fun (h1 : 1 ≤ n) V (hV : Kept [] w V) => top_c (n := n) (ca := ca) t hl h1 hn (hsa.kept0 hV))
  have HSL := Lib.hid (show ∀ k, k < n → (shiftL t la by')[k]? = some (if (k : Int) - by' < 0 then 0 else if (n : Int) ≤ (k : Int) - by' then topL t la else la.getD ((k : Int) - by').toNat 0) from fun k hk => by
    unfold shiftL topL
    rw [List.getElem?_map, hl, List.getElem?_range hk]
    rfl)
  have HSN := Lib.hid (show (shiftL t la by').length = n from by unfold shiftL; rw [List.length_map, List.length_range]; exact hl)
  have HBX := Lib.hid (fun V hV => box3 w (.bool t.b) (.bool t.s) (.int .i64 t.w) 24 V hV)
  have HA := Lib.hid (fun V (hV : Kept [] w V) q (hq : V.cell? ⟨q, 0, none⟩ = some (.slice a n ca)) => ar_asks (h.kept0 hV) (by omega) t (some ⟨q, 0, none⟩) 1 1 [⟨a, ca, la⟩] rfl (by omega) (slrows1 hq hl (hsa.kept0 hV)) (by simpa using hb) (by simp; omega))
  have HO := Lib.hid (fun V => shift_e t by' hb1 hb2 V)
  rw [show asksB g t (([⟨a, ca, la⟩] : List RR).map (·.l)) = asksB g t [la] from rfl] at HA
  have HAI := Lib.hid (fun hi => asksB_iff (g := g) (t := t) (rs := [la]) |>.1 hi)
  obtain ⟨ia, hia⟩ : ∃ m, m = asksB g t [la] := ⟨_, rfl⟩
  rw [← hia] at HA HAI ⊢
  clear hia
  have HOE := Lib.hid (show shiftE t by' = 0 → -63 ≤ by' ∧ by' ≤ 63 from fun h => by
    unfold shiftE at h
    split at h
    · rename_i hc; exact ⟨hc.2.2.1, hc.2.2.2⟩
    · cases h)
  have HOL := Lib.hid (show shiftE t by' = 0 ∨ shiftE t by' = 1 from by unfold shiftE; split <;> simp)
  obtain ⟨oe, hoe⟩ : ∃ m, m = shiftE t by' := ⟨_, rfl⟩
  rw [← hoe] at HO HOE HOL ⊢
  clear hoe
  have HH := Lib.hid h
  have HS := Lib.hid hsa
  have HD := Lib.hid hda
  have HL := Lib.hid hl
  have HB := Lib.hid hb
  unfold ArIf
  have HTV := Lib.hid (show tyV t = .agg #[.bool t.b, .bool t.s, .int .i64 t.w] from rfl)
  rw [HTV.out] at HA HO HTP ⊢
  have HTW := Lib.hid (show t.w = t.w from rfl)
  obtain ⟨tw, htw⟩ : ∃ x, x = t.w := ⟨_, rfl⟩
  have HTX := Lib.hid htw
  rw [← htw] at HA HO HBX HTP ⊢
  obtain ⟨L, hL⟩ : ∃ x, x = shiftL t la by' := ⟨_, rfl⟩
  rw [← hL] at HSL HSN ⊢
  obtain ⟨tp, htp⟩ : ∃ x, x = topL t la := ⟨_, rfl⟩
  rw [← htp] at HSL HTP
  clear hL htp
  clear htw HTV HTW h hsa hda hl hb
  generalize t.b = tb at HA HO HBX HTP ⊢
  generalize t.s = s at HA HO HBX HTP ⊢
  have KA := Lib.hid (show Kept [] w (w.alloc (.cells #[.bool tb, .bool s, .int .i64 tw] 24)) from (Kept.refl [] w).alloc _)
  cases ia with
  | false =>
    simp only [Bool.false_and, Bool.false_eq_true, if_false]
    go_enter Try.func6, Try.ntmps6
    go_wp2_with fail
    refine (HA.out _ (KA.out.alloc _) _ (by simp [World.cell?_alloc_new])).mono ?_
    rintro e w1 ⟨rfl, k1⟩
    have K1 := Lib.hid (((Kept.refl [] (w.alloc (.cells #[.bool tb, .bool s, .int .i64 tw] 24))).alloc (.cells #[.slice a n ca] 25)).trans k1)
    obtain ⟨c0, c1, c2⟩ := HBX.out _ K1.out
    clear k1
    go_wp2_with fail
    refine (HO.out _).mono ?_
    rintro e w2 ⟨z, rfl, k2⟩
    have KK := Lib.hid (K1.out.trans k2)
    have K2 := Lib.hid (KA.out.trans KK.out)
    clear k2 c0 c1 c2
    go_wp2_with fail
    go_ret2
    exact ⟨rfl, K2.out⟩
  | true =>
    simp only [Bool.true_and]
    obtain ⟨hmt, hrow⟩ := HAI.out rfl
    have hn1 := may_n hmt
    rw [← HTX.out] at hn1
    have hlw := (hrow la (by simp)).1
    rw [← HTX.out, HL.out] at hlw
    have hn64 : 1 ≤ n ∧ n ≤ 64 := by omega
    have HT1 := Lib.hid (fun V hV => HTP.out hn64.1 V hV)
    have HN := Lib.hid hn64
    subst hlw
    clear hrow hn1 hmt HTP
    rcases HOL.out with rfl | rfl
    · have hbb := HOE.out rfl
      rw [show decide (0 = 0) = true from rfl]
      simp only [if_true]
      go_enter Try.func6, Try.ntmps6
      go_wp2_with fail
      refine (HA.out _ (KA.out.alloc _) _ (by simp [World.cell?_alloc_new])).mono ?_
      rintro e w1 ⟨rfl, k1⟩
      have K1 := Lib.hid (((Kept.refl [] (w.alloc (.cells #[.bool tb, .bool s, .int .i64 (n : Int)] 24))).alloc (.cells #[.slice a n ca] 25)).trans k1)
      obtain ⟨c0, c1, c2⟩ := HBX.out _ K1.out
      clear k1
      go_wp2_with fail
      refine (HO.out _).mono ?_
      rintro e w2 ⟨z, rfl, k2⟩
      have KK := Lib.hid (K1.out.trans k2)
      have K2 := Lib.hid (KA.out.trans KK.out)
      clear k2 c0 c1 c2
      obtain ⟨hb3, hb4⟩ := hbb
      have hn1' : 1 ≤ n := hn64.1
      have hn2' : n ≤ 64 := hn64.2
      clear hn64
      go_wp2_with (at_make; refine wpList_mk (n := n) rfl rfl Try.underlying25 lit_info rfl rfl rfl (by omega) (by unfold maxLen; omega) ?_; intro w3 hown3 hst3)
      obtain ⟨gb, hgb⟩ : ∃ gb, gb = w2.heap.size := ⟨_, rfl⟩
      rw [← hgb] at hown3 hst3 ⊢
      have HGW := Lib.hid (show w.heap.size ≤ gb from by rw [hgb]; exact K2.out.size)
      have HGB := Lib.hid (show (w.alloc (.cells #[.bool tb, .bool s, .int .i64 (n : Int)] 24)).heap.size ≤ gb from by rw [hgb]; exact KK.out.size)
      have O3 := Lib.hid (show Own w3 34 (some ⟨gb, 0, none⟩) n n (nats .u32 (mixL L (List.replicate n 0) 0)) from by
        have e : List.replicate n (Value.int .u32 0) = nats .u32 (mixL L (List.replicate n 0) 0) := by simp [nats, mixL]
        rw [← e]; exact hown3)
      have K3 := Lib.hid (K2.out.trans hst3.kept)
      have KB3 := Lib.hid (KK.out.trans hst3.kept)
      clear hgb hown3 hst3
      go_wp2_with fail
      go_loopw [38] (fun v wr => ∃ i : Nat, i ≤ n ∧ v = .int .i64 i ∧ Own wr 34 (some ⟨gb, 0, none⟩) n n (nats .u32 (mixL L (List.replicate n 0) i)) ∧ Kept [] w wr ∧ Kept [] (w.alloc (.cells #[.bool tb, .bool s, .int .i64 (n : Int)] 24)) wr) (fun v _ => n - (intOf v).toNat)
      case atStart => exact ⟨0, Nat.zero_le _, rfl, O3.out, K3.out, KB3.out⟩
      case round =>
        obtain ⟨i, hi, rfl, ho, hkr, hkb⟩ := hrel
        obtain ⟨wa, rfl⟩ : ∃ v : World, v = wr := ⟨_, rfl⟩
        have OR := Lib.hid ho
        have KR := Lib.hid hkr
        have KB := Lib.hid hkb
        clear ho hkr hkb
        by_cases hlt : i < n
        · have hli := HSL.out i hlt
          have HMX := Lib.hid (fun v (hv : L[i]? = some v) => mix_set (R := List.replicate n 0) hv (by rw [HSN.out]; simp))
          obtain ⟨⟨v1, q6⟩, q7, _⟩ := OR.out.store (j := i) hlt
          have e1 : IntKind.i64.wrap ((i : Int) - by') = (i : Int) - by' := IntWalk.i64_in _ (by omega)
          have i0 : (0 : Int) ≤ (i : Int) := by omega
          have i1 : (i : Int) < (n : Int) := by omega
          by_cases hA : (i : Int) - by' < 0
          · rw [if_pos hA] at hli
            have HP := Lib.hid (HMX.out _ hli)
            have HPUT := Lib.hid (own_putN OR.out KR.out HGW.out hlt 0)
            have HPUB := Lib.hid (own_putN OR.out KB.out HGB.out hlt 0)
            go_wp2_with fail
            go_roundw
            case rel => exact ⟨i + 1, by omega, by go_num, by rw [← HP.out]; exact HPUT.out.1, HPUT.out.2, HPUB.out.2⟩
            case measure => simp [intOf]; omega
          · rw [if_neg hA] at hli
            by_cases hB : (n : Int) ≤ (i : Int) - by'
            · rw [if_pos hB] at hli
              have HP := Lib.hid (HMX.out _ hli)
              obtain ⟨c0, c1, c2⟩ := HBX.out _ KB.out
              have hA' : ¬ (i : Int) - by' < 0 := hA
              clear q6 q7 v1
              go_wp2_with fail
              refine (HT1.out _ KR.out).mono ?_
              rintro e w5 ⟨rfl, k5⟩
              have O5 := Lib.hid (OR.out.kept0 k5)
              have HPUT := Lib.hid (own_putN O5.out (KR.out.trans k5) HGW.out hlt tp)
              have HPUB := Lib.hid (own_putN O5.out (KB.out.trans k5) HGB.out hlt tp)
              obtain ⟨⟨v1, q6⟩, q7, _⟩ := O5.out.store (j := i) hlt
              clear k5 c0 c1 c2
              go_wp2_with fail
              go_roundw
              case rel => exact ⟨i + 1, by omega, by go_num, by rw [← HP.out]; exact HPUT.out.1, HPUT.out.2, HPUB.out.2⟩
              case measure => simp [intOf]; omega
            · rw [if_neg hB] at hli
              have HP := Lib.hid (HMX.out _ hli)
              obtain ⟨m, hm1⟩ : ∃ m : Nat, (i : Int) - by' = (m : Int) := ⟨((i : Int) - by').toNat, by omega⟩
              have e2 : IntKind.i64.wrap ((i : Int) - by') = (m : Int) := e1.trans hm1
              rw [hm1] at hA hB
              rw [show ((i : Int) - by').toNat = m from by rw [hm1]; rfl] at HP
              obtain ⟨ad, rfl, cx⟩ := (HS.out.kept0 KR.out).getD (k := m) (by rw [HL.out]; omega)
              obtain ⟨x, hx⟩ : ∃ x, x = la.getD m 0 := ⟨_, rfl⟩
              rw [← hx] at cx HP
              have HPUT := Lib.hid (own_putN OR.out KR.out HGW.out hlt x)
              have HPUB := Lib.hid (own_putN OR.out KB.out HGB.out hlt x)
              have m0 : (0 : Int) ≤ (m : Int) := by omega
              have m1 : (m : Int) < (n : Int) := by omega
              clear hm1 hx hA hB hli e1
              go_wp2_with fail
              go_roundw
              case rel => exact ⟨i + 1, by omega, by go_num, by rw [← HP.out]; exact HPUT.out.1, HPUT.out.2, HPUB.out.2⟩
              case measure => simp [intOf]; omega
        · obtain rfl : n = i := by omega
          have OE := Lib.hid (show Own wa 34 (some ⟨gb, 0, none⟩) n n (nats .u32 L) from by
            have h := OR.out
            rw [mix_all (R := List.replicate n 0) (by rw [HSN.out]) (by simp)] at h
            exact h)
          go_wp2_with fail
          go_ret2
          exact ArRow.new (HH.out.gr.kept0 KR.out) OE.out KR.out (fun x hx => by simp [ft] at hx; rw [hx]; exact HGW.out)
    · rw [show decide (1 = 0) = false from rfl]
      simp only [Bool.false_eq_true, if_false]
      go_enter Try.func6, Try.ntmps6
      go_wp2_with fail
      refine (HA.out _ (KA.out.alloc _) _ (by simp [World.cell?_alloc_new])).mono ?_
      rintro e w1 ⟨rfl, k1⟩
      have K1 := Lib.hid (((Kept.refl [] (w.alloc (.cells #[.bool tb, .bool s, .int .i64 (n : Int)] 24))).alloc (.cells #[.slice a n ca] 25)).trans k1)
      obtain ⟨c0, c1, c2⟩ := HBX.out _ K1.out
      clear k1
      go_wp2_with fail
      refine (HO.out _).mono ?_
      rintro e w2 ⟨z, rfl, k2⟩
      have KK := Lib.hid (K1.out.trans k2)
      have K2 := Lib.hid (KA.out.trans KK.out)
      clear k2 c0 c1 c2
      go_wp2_with fail
      go_ret2
      exact ⟨rfl, K2.out⟩
end Go.Proofs.Ytenhbhckhncamaa
