/-
  Package arith: sums, one row, two rows added, what is refused.
-/
import Derived.Test.YtenhbhckhncamaaQArF
import Derived.Deep.RegionHeld3
import Derived.Deep.DeepCutAuto
namespace Go.Proofs.Ytenhbhckhncamaa
open Go.ChangeShapes Go.WideShapes Go.ChangeAt Go.RowKit
set_option linter.unusedVariables false
set_option linter.unusedSimpArgs false

variable {w w' W V : World} {mb p how q n k : Nat} {F F' S : List Nat} {g g' : Gr} {a b : Option Addr} {ca cb : Nat} {la lb : List Nat}
theorem ad_at (q i : Nat) : (⟨q, 0, none⟩ : Addr).add i = ⟨q, i, none⟩ := by
  unfold Addr.add
  split <;> simp_all
theorem slrows1 (hq : V.cell? ⟨q, 0, none⟩ = some (.slice a n ca)) (hl : la.length = n) (hs : SlN V .u32 a la) : SlRows V (some ⟨q, 0, none⟩) [⟨a, ca, la⟩] := fun i hi => by
  have h0 : i = 0 := by simpa using hi
  subst h0
  exact ⟨_, rfl, by simpa [ad_at, hl] using hq, hs⟩
theorem slrows2 (hq : V.cell? ⟨q, 0, none⟩ = some (.slice a n ca)) (hq1 : V.cell? ⟨q, 1, none⟩ = some (.slice b k cb)) (hl : la.length = n) (hl2 : lb.length = k) (hs : SlN V .u32 a la) (hs2 : SlN V .u32 b lb) : SlRows V (some ⟨q, 0, none⟩) [⟨a, ca, la⟩, ⟨b, cb, lb⟩] := fun i hi => by
  have h0 : i = 0 ∨ i = 1 := by simp at hi; omega
  rcases h0 with rfl | rfl
  · exact ⟨_, rfl, by simpa [ad_at, hl] using hq, hs⟩
  · exact ⟨_, rfl, by simpa [ad_at, hl2] using hq1, hs2⟩
set_option maxHeartbeats 1600000 in
set_option maxRecDepth 100000 in
theorem sum_c {c : Nat} (h : ArAt w mb p how F g) (hh : how = 1 ∨ how = 2) (hm : g.nodes.length ≤ 169000) (h1 : 1 ≤ n) (hn : n ≤ 64) (hla : la.length = n) (hlb : lb.length = n) (hsa : SlN w .u32 a la) (hsb : SlN w .u32 b lb) (hoa : ∀ x ∈ la, g.ok x) (hob : ∀ x ∈ lb, g.ok x) (hc : g.ok c) (hda : ∀ x ∈ ft a, x ∉ F) (hdb : ∀ x ∈ ft b, x ∉ F) :
    Calls Try.prog 20 #[.pointer (some ⟨mb, 0, none⟩), .slice a n ca, .slice b n cb, .int .u32 (c : Int)] w (ArRow (sumG how g la lb c n) n w p F) := by
  have HA := Lib.hid (fun V (hV : Kept [] w V) => add_c (ca := ca) (cb := cb) hh (h.gr.kept0 hV) hm h1 hn hla hlb (hsa.kept0 hV) (hsb.kept0 hV) hoa hob hc hda hdb)
  have c0 := h.c0
  have c1 := h.c1
  have HF := Lib.hid h.notF
  have HR := Lib.hid (show sumG how g la lb c n = ((if how = 1 then ripTo g la lb c n else aheadG g la lb c n).1, (if how = 1 then ripTo g la lb c n else aheadG g la lb c n).2.1) from rfl)
  obtain ⟨r, hr⟩ : ∃ r, r = (if how = 1 then ripTo g la lb c n else aheadG g la lb c n) := ⟨_, rfl⟩
  rw [← hr] at HA HR
  rw [HR.out]
  clear hr HR h hsa hsb hoa hob hc hda hdb hla hlb hh
  go_enter Try.func20, Try.ntmps20
  go_upto_region 1 with (fail)
  go_region_held3 (fun V => V.cell? ⟨mb, 0, none⟩ = some (.pointer (some ⟨p, 0, none⟩)) ∧ V.cell? ⟨mb, 1, none⟩ = some (.int .i64 (how : Int)))
    (first | exact ⟨(show Kept F w _ from (by (repeat (first | with_reducible exact Kept.refl _ _ | with_reducible apply Kept.drew | with_reducible apply Kept.drewN | with_reducible apply Kept.alloc | refine Kept.trans ?_ k5)))).cell c0 HF.out, (show Kept F w _ from (by (repeat (first | with_reducible exact Kept.refl _ _ | with_reducible apply Kept.drew | with_reducible apply Kept.drewN | with_reducible apply Kept.alloc | refine Kept.trans ?_ k5)))).cell c1 HF.out⟩ | go_keep)
    (first | (go_at_call 48; (with_reducible refine (HA.out _ ?kk).mono ?_); (case kk => ((repeat (first | with_reducible exact Kept.refl _ _ | with_reducible apply Kept.drew | with_reducible apply Kept.drewN | with_reducible apply Kept.alloc | refine Kept.trans ?_ k2)))); rintro e w6 ⟨F6, a6, c6, rfl, hg6, ho6, hs6⟩; have k5 := hs6.kept))
  have HG6 := Lib.hid hg6
  have HO6 := Lib.hid ho6
  have HS6 := Lib.hid (show Stepped w w6 F (F6 ++ ft a6) from (Stepped.refl w F).drew.trans hs6)
  clear hg6 ho6 hs6 k5 c0 c1 HA
  go_wp2_with fail
  go_ret2
  exact ⟨F6, a6, c6, rfl, HG6.out, HO6.out, HS6.out⟩
theorem zeros_eq (n : Nat) : constL 0 n = zerosL n := by
  unfold constL zerosL
  rw [List.eq_replicate_iff]
  simp
/-- a row, or a refusal -/
def ArIf (ok : Bool) (r : Gr × List Nat) (n : Nat) (w : World) (p : Nat) (F : List Nat) (e : Ending) (w' : World) : Prop := if ok then ArRow r n w p F e w' else ArBad 1 w e w'
theorem ArRow.new (hg : GraphAt w' p F g) (ho : Own w' 34 a n ca (nats .u32 la)) (hk : Kept [] w w') (hf : ∀ x ∈ ft a, w.heap.size ≤ x) : ArRow (g, la) n w p F (.returned (.tuple #[.slice a n ca, .int .i64 0])) w' :=
  ⟨F, a, ca, rfl, hg, ho, hk.more (by simp), fun x hx => by
    rcases List.mem_append.1 hx with h | h
    · exact .inl h
    · exact .inr (hf x h)⟩
theorem ArRow.before {r : Gr × List Nat} {e : Ending} (hk : Kept [] w W) (h : ArRow r n W p F e w') : ArRow r n w p F e w' := by
  obtain ⟨F', a, c, he, hg, ho, hs⟩ := h
  exact ⟨F', a, c, he, hg, ho, ((Stepped.refl w F).keep hk).trans hs⟩
set_option maxHeartbeats 3200000 in
set_option maxRecDepth 100000 in
theorem ar_one (h : ArAt w mb p how F g) (hh : how = 1 ∨ how = 2) (hm : g.nodes.length ≤ 169000) (op : Int) (t : Ty) (hl : la.length = n) (hn : n ≤ 100000) (hsa : SlN w .u32 a la) (hb : ∀ x ∈ la, x < 4294967296) (hda : ∀ x ∈ ft a, x ∉ F) :
    Calls Try.prog 4 #[.pointer (some ⟨mb, 0, none⟩), .int .i64 op, tyV t, .slice a n ca] w (ArIf (asksB g t [la] && decide (oneE op t = 0)) (oneG how op g la n) n w p F) := by
  have HBX := Lib.hid (fun V hV => box3 w (.bool t.b) (.bool t.s) (.int .i64 t.w) 24 V hV)
  have HA := Lib.hid (fun V (hV : Kept [] w V) q (hq : V.cell? ⟨q, 0, none⟩ = some (.slice a n ca)) => ar_asks (h.kept0 hV) (by omega) t (some ⟨q, 0, none⟩) 1 1 [⟨a, ca, la⟩] rfl (by omega) (slrows1 hq hl (hsa.kept0 hV)) (by simpa using hb) (by simp; omega))
  have HO := Lib.hid (fun V => one_e op t V)
  rw [show asksB g t (([⟨a, ca, la⟩] : List RR).map (·.l)) = asksB g t [la] from rfl] at HA
  have HAI := Lib.hid (fun hi => asksB_iff (g := g) (t := t) (rs := [la]) |>.1 hi)
  obtain ⟨ia, hia⟩ : ∃ m, m = asksB g t [la] := ⟨_, rfl⟩
  rw [← hia] at HA HAI ⊢
  clear hia
  have HOE := Lib.hid (show oneE op t = 0 → op = 1 ∨ op = 2 from fun h => by
    unfold oneE at h
    split at h
    · rename_i hc; rcases hc.2 with h1 | h1
      · exact .inl h1
      · exact .inr h1.1
    · cases h)
  have HOL := Lib.hid (show oneE op t = 0 ∨ oneE op t = 1 from by unfold oneE; split <;> simp)
  obtain ⟨oe, hoe⟩ : ∃ m, m = oneE op t := ⟨_, rfl⟩
  rw [← hoe] at HO HOE HOL ⊢
  clear hoe
  have HH := Lib.hid h
  have HS := Lib.hid hsa
  have HD := Lib.hid hda
  have HL := Lib.hid hl
  have HB := Lib.hid hb
  have HW := Lib.hid hh
  unfold ArIf
  have HTV := Lib.hid (show tyV t = .agg #[.bool t.b, .bool t.s, .int .i64 t.w] from rfl)
  rw [HTV.out] at HA HO ⊢
  have HTW := Lib.hid (show t.w = t.w from rfl)
  obtain ⟨tw, htw⟩ : ∃ x, x = t.w := ⟨_, rfl⟩
  have HTX := Lib.hid htw
  rw [← htw] at HA HO HBX ⊢
  clear htw HTV HTW h hsa hda hl hb hh
  generalize t.b = tb at HA HO HBX ⊢
  generalize t.s = s at HA HO HBX ⊢
  have KA := Lib.hid (show Kept [] w (w.alloc (.cells #[.bool tb, .bool s, .int .i64 tw] 24)) from (Kept.refl [] w).alloc _)
  cases ia with
  | false =>
    simp only [Bool.false_and, Bool.false_eq_true, if_false]
    go_enter Try.func4, Try.ntmps4
    go_wp2_with fail
    refine (HA.out _ (KA.out.alloc _) _ (by simp [World.cell?_alloc_new])).mono ?_
    rintro e w1 ⟨rfl, k1⟩
    have K1 := Lib.hid (((Kept.refl [] (w.alloc (.cells #[.bool tb, .bool s, .int .i64 tw] 24))).alloc (.cells #[.slice a n ca] 25)).trans k1)
    obtain ⟨c0, c1, c2⟩ := HBX.out _ K1.out
    clear k1
    go_wp2_with fail
    refine (HO.out _).mono ?_
    rintro e w2 ⟨z, rfl, k2⟩
    have K2 := Lib.hid (KA.out.trans (K1.out.trans k2))
    clear k2 c0 c1 c2
    go_wp2_with fail
    go_ret2
    exact ⟨rfl, K2.out⟩
  | true =>
    simp only [Bool.true_and]
    obtain ⟨hmt, hrow⟩ := HAI.out rfl
    have hn1 := may_n hmt
    rw [← HTX.out] at hn1
    have hlw := (hrow la (by simp)).1
    rw [← HTX.out, HL.out] at hlw
    have hoa := (hrow la (by simp)).2
    have HOA := Lib.hid hoa
    have hn64 : 1 ≤ n ∧ n ≤ 64 := by omega
    have HN := Lib.hid hn64
    have HLC := Lib.hid (fun V => c_const 0 n 0 (n : Int) rfl V (by omega) (by omega))
    have HTU := Lib.hid (fun V (hV : Kept [] w V) => lit_turn a ca n la V HL.out (by omega) (HS.out.kept0 hV) (fun x hx => HB.out x hx))
    subst hlw
    clear hrow hn1 hmt hoa
    rcases HOL.out with rfl | rfl
    · rw [show decide (0 = 0) = true from rfl]
      simp only [if_true]
      go_enter Try.func4, Try.ntmps4
      go_wp2_with fail
      refine (HA.out _ (KA.out.alloc _) _ (by simp [World.cell?_alloc_new])).mono ?_
      rintro e w1 ⟨rfl, k1⟩
      have K1 := Lib.hid (((Kept.refl [] (w.alloc (.cells #[.bool tb, .bool s, .int .i64 (n : Int)] 24))).alloc (.cells #[.slice a n ca] 25)).trans k1)
      obtain ⟨c0, c1, c2⟩ := HBX.out _ K1.out
      clear k1
      go_wp2_with fail
      refine (HO.out _).mono ?_
      rintro e w2 ⟨z, rfl, k2⟩
      have KK := Lib.hid (K1.out.trans k2)
      have K2 := Lib.hid (KA.out.trans KK.out)
      clear k2 c0 c1 c2
      obtain ⟨c0, c1, c2⟩ := HBX.out _ KK.out
      rcases HOE.out (by trivial) with rfl | rfl
      · go_wp2_with fail
        refine (HTU.out _ K2.out).mono ?_
        rintro e w3 ⟨a5, c5, rfl, ho5, hs5⟩
        have K3 := Lib.hid (K2.out.trans hs5.kept)
        have HO5 := Lib.hid ho5
        have HF5 := Lib.hid (show ∀ x ∈ ft a5, w.heap.size ≤ x from fun x hx => (hs5.fresh x hx).elim (by simp) (fun h => Nat.le_trans K2.out.size h))
        clear ho5 hs5 c0 c1 c2
        go_wp2_with fail
        go_ret2
        exact ArRow.new (HH.out.gr.kept0 K3.out) HO5.out K3.out HF5.out
      · go_wp2_with fail
        refine (HLC.out _).mono ?_
        rintro e w3 ⟨a5, c5, rfl, ho5, hs5⟩
        have K3 := Lib.hid (K2.out.trans hs5.kept)
        have HO5 := Lib.hid ho5
        clear hs5 ho5
        go_wp2_with fail
        refine (HTU.out _ K3.out).mono ?_
        rintro e w4 ⟨a6, c6, rfl, ho6, hs6⟩
        have K4 := Lib.hid (K3.out.trans hs6.kept)
        have HO6 := Lib.hid ho6
        have HO7 := Lib.hid (HO5.out.kept0 hs6.kept)
        have HSM := Lib.hid (sum_c (ca := c5) (cb := c6) (c := 1) (HH.out.kept0 K4.out) HW.out hm HN.out.1 HN.out.2 (constL_length 0 n) (by rw [List.length_map]; exact HL.out) HO7.out.sln HO6.out.sln (by
            rw [show constL 0 n = zerosL n from zeros_eq n]
            exact zerosL_ok HH.out.gr.wf n) (turn_ok HOA.out) (one_ok HH.out.gr.wf).1 ((HH.out.gr.kept0 K4.out).apart HO7.out (by decide) (by decide) (by decide)) ((HH.out.gr.kept0 K4.out).apart HO6.out (by decide) (by decide) (by decide)))
        rw [show sumG how g (constL 0 n) (la.map ntL) 1 n = oneG how 2 g la n from by rw [show constL 0 n = zerosL n from zeros_eq n]; rfl] at HSM
        clear hs6 ho6 c0 c1 c2
        go_wp2_with fail
        refine HSM.out.mono ?_
        rintro e w5 ⟨F7, a7, c7, rfl, hg7, ho7, hs7⟩
        have HG7 := Lib.hid hg7
        have HR7 := Lib.hid ho7
        have HS7 := Lib.hid (((Stepped.refl w F).keep K4.out).trans hs7)
        clear hg7 ho7 hs7
        go_wp2_with fail
        go_ret2
        exact ⟨F7, a7, c7, rfl, HG7.out, HR7.out, HS7.out⟩
    · rw [show decide (1 = 0) = false from rfl]
      simp only [Bool.false_eq_true, if_false]
      go_enter Try.func4, Try.ntmps4
      go_wp2_with fail
      refine (HA.out _ (KA.out.alloc _) _ (by simp [World.cell?_alloc_new])).mono ?_
      rintro e w1 ⟨rfl, k1⟩
      have K1 := Lib.hid (((Kept.refl [] (w.alloc (.cells #[.bool tb, .bool s, .int .i64 (n : Int)] 24))).alloc (.cells #[.slice a n ca] 25)).trans k1)
      obtain ⟨c0, c1, c2⟩ := HBX.out _ K1.out
      clear k1
      go_wp2_with fail
      refine (HO.out _).mono ?_
      rintro e w2 ⟨z, rfl, k2⟩
      have KK := Lib.hid (K1.out.trans k2)
      have K2 := Lib.hid (KA.out.trans KK.out)
      clear k2 c0 c1 c2
      obtain ⟨c0, c1, c2⟩ := HBX.out _ KK.out
      go_wp2_with fail
      go_ret2
      exact ⟨rfl, K2.out⟩
end Go.Proofs.Ytenhbhckhncamaa
