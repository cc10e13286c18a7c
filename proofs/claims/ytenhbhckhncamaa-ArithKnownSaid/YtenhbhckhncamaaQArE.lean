/-
  Package arith: the maker, what it asks.
-/
import Derived.Test.YtenhbhckhncamaaQArD
import Derived.Test.YtenhbhckhncamaaQArM
namespace Go.Proofs.Ytenhbhckhncamaa
open Go.ChangeShapes Go.WideShapes Go.ChangeAt Go.RowKit
set_option linter.unusedVariables false
set_option linter.unusedSimpArgs false

variable {w w' W : World} {mb p how q n k : Nat} {F F' S : List Nat} {g g' : Gr}
structure ArAt (w : World) (mb p how : Nat) (F : List Nat) (g : Gr) : Prop where
  gr : GraphAt w p F g
  blk : w.heap[mb]? = some (.cells #[.pointer (some ⟨p, 0, none⟩), .int .i64 (how : Int)] 53 (0, 0))
theorem ArAt.notF (h : ArAt w mb p how F g) : mb ∉ F := h.gr.notin h.blk (by decide) (by decide) (by decide)
theorem ArAt.kept0 (h : ArAt w mb p how F g) (hk : Kept [] w w') : ArAt w' mb p how F g := ⟨h.gr.kept0 hk, hk.heap h.blk (by simp)⟩
theorem ArAt.step (h : ArAt w mb p how F g) (hs : Stepped w w' F F') (hg : GraphAt w' p F' g') : ArAt w' mb p how F' g' := ⟨hg, hs.kept.heap h.blk h.notF⟩
theorem ArAt.c0 (h : ArAt w mb p how F g) : w.cell? ⟨mb, 0, none⟩ = some (.pointer (some ⟨p, 0, none⟩)) := blk_cell h.blk 0
theorem ArAt.c1 (h : ArAt w mb p how F g) : w.cell? ⟨mb, 1, none⟩ = some (.int .i64 (how : Int)) := blk_cell h.blk 1
/-- a row where it lies -/
structure RR where
  a : Option Addr
  c : Nat
  l : List Nat
def SlRows (w : World) (a : Option Addr) (rs : List RR) : Prop := ∀ i (h : i < rs.length), ∃ ad, a = some ad ∧ w.cell? (ad.add i) = some (.slice rs[i].a rs[i].l.length rs[i].c) ∧ SlN w .u32 rs[i].a rs[i].l
theorem SlRows.kept0 {a : Option Addr} {rs : List RR} (h : SlRows w a rs) (hk : Kept [] w w') : SlRows w' a rs := fun i hi => by
  obtain ⟨ad, h1, h2, h3⟩ := h i hi
  exact ⟨ad, h1, hk.cell h2 (by simp), h3.kept0 hk⟩
set_option maxRecDepth 100000 in
theorem ar_there (x : Nat) (hx : x < 4294967296) (hg : GraphAt w p F g) (hm : g.nodes.length ≤ 1000000) (hq : w.cell? ⟨q, 0, none⟩ = some (.pointer (some ⟨mb, 0, none⟩))) (hc : w.cell? ⟨mb, 0, none⟩ = some (.pointer (some ⟨p, 0, none⟩))) :
    Calls Try.prog 40 #[.int .u32 (x : Int), .pointer (some ⟨q, 0, none⟩)] w fun e w' => e = .returned (.bool (decide (x / 2 < g.nodes.length))) ∧ ∃ k, w' = w.drewN k := by
  have HF := Lib.hid (show decide ((x : Int) / 2 < (g.nodes.length : Int)) = decide (x / 2 < g.nodes.length) by rw [Bool.eq_iff_iff]; simp; omega)
  have HG := Lib.hid (fun n => aig_nodes (hg.kept0 ((Kept.refl [] w).drewN n)) hm)
  clear hg
  go_enter Try.func40, Try.ntmps40
  go_wp2_with fail
  go_quiet (first
    | (go_at_call 41; exact q_same (lit_node _ _ hx))
    | (go_at_call 36; exact q_same (HG.out _)))
  go_wp2
  go_ret
  exact ⟨by rw [← HF.out]; rfl, _, rfl⟩
set_option maxRecDepth 100000 in
theorem ar_not (x f : Nat) (hx : x < 4294967296) (hg : GraphAt w p F g) (hm : g.nodes.length ≤ 1000000) (hq : w.cell? ⟨q, 0, none⟩ = some (.pointer (some ⟨mb, 0, none⟩))) (hc : w.cell? ⟨mb, 0, none⟩ = some (.pointer (some ⟨p, 0, none⟩)))
    (hf : w.cell? ⟨f, 0, none⟩ = some (.func (.func 40) #[] #[.pointer (some ⟨q, 0, none⟩)])) :
    Calls Try.prog 44 #[.int .u32 (x : Int), .pointer (some ⟨f, 0, none⟩)] w fun e w' => e = .returned (.bool (decide (g.nodes.length ≤ x / 2))) ∧ ∃ k, w' = w.drewN k := by
  have HT := Lib.hid (ar_there x hx hg hm hq hc)
  have HD := Lib.hid (show (!decide (x / 2 < g.nodes.length)) = decide (g.nodes.length ≤ x / 2) from by rw [Bool.eq_iff_iff]; simp)
  clear hg hq hc
  obtain ⟨d, hd⟩ : ∃ d, d = decide (x / 2 < g.nodes.length) := ⟨_, rfl⟩
  rw [← hd] at HT HD
  rw [← HD.out]
  clear hd HD
  go_enter Try.func44, Try.ntmps44
  go_wp2_with fail
  refine HT.out.mono ?_
  rintro e w1 ⟨rfl, k, rfl⟩
  go_wp2_with fail
  go_ret
  exact ⟨rfl, _, rfl⟩
set_option maxRecDepth 100000 in
theorem ar_asks (h : ArAt w mb p how F g) (hm : g.nodes.length ≤ 1000000) (t : Ty) (a : Option Addr) (c n : Nat) (rs : List RR) (hl : rs.length = n) (hn : n ≤ 1000) (hs : SlRows w a rs) (hb : ∀ r ∈ rs, ∀ x ∈ r.l, x < 4294967296) (hz : ∀ r ∈ rs, r.l.length ≤ 100000) :
    Calls Try.prog 17 #[.pointer (some ⟨mb, 0, none⟩), tyV t, .slice a n c] w fun e w' => e = .returned (.int .i64 ((if asksB g t (rs.map (·.l)) then 0 else 1 : Nat) : Int)) ∧ Kept [] w w' := by
  have HM := Lib.hid (fun V => may_c t V)
  have HH := Lib.hid h
  have HS := Lib.hid hs
  have HL := Lib.hid hl
  have HB := Lib.hid hb
  have HZ := Lib.hid hz
  have c0 := fun o o' => cell_alloc (cell_alloc h.c0 o) o'
  have HAS := Lib.hid (show asksB g t (rs.map (·.l)) = (mayT t && (rs.map (·.l)).all (rowB g t)) from rfl)
  have HRW := Lib.hid (show ∀ l, rowB g t l = (decide ((l.length : Int) = t.w) && l.all fun x => decide (x / 2 < g.nodes.length)) from fun _ => rfl)
  have HTV := Lib.hid (show tyV t = .agg #[.bool t.b, .bool t.s, .int .i64 t.w] from rfl)
  obtain ⟨er, her⟩ : ∃ x : Nat, x = if asksB g t (rs.map (·.l)) then 0 else 1 := ⟨_, rfl⟩
  have HER := Lib.hid her
  rw [← her]
  clear her
  obtain ⟨mt, hmt⟩ : ∃ m, m = mayT t := ⟨_, rfl⟩
  rw [← hmt] at HM HAS
  clear hmt h hs hl hb hz
  unfold tyV at HM ⊢
  generalize t.b = b at *
  generalize t.s = s at *
  generalize t.w = tw at *
  go_enter Try.func17, Try.ntmps17
  go_upto_region 4 with (fail)
  obtain ⟨W3, hW3⟩ : ∃ v, v = (((w.alloc (.cells #[.pointer (some ⟨mb, 0, none⟩)] 22)).alloc (.cells #[.bool b, .bool s, .int .i64 tw] 24)).alloc (.cells #[.func (.func 40) #[] #[.pointer (some ⟨w.heap.size, 0, none⟩)]] 76)) := ⟨_, rfl⟩
  have K3 := Lib.hid (show Kept [] w W3 from by rw [hW3]; exact (((Kept.refl [] w).alloc _).alloc _).alloc _)
  have hc : W3.cell? ⟨w.heap.size, 0, none⟩ = some (.pointer (some ⟨mb, 0, none⟩)) ∧ (W3.cell? ⟨w.heap.size + 1, 0, none⟩ = some (.bool b) ∧ W3.cell? ⟨w.heap.size + 1, 1, none⟩ = some (.bool s) ∧ W3.cell? ⟨w.heap.size + 1, 2, none⟩ = some (.int .i64 tw)) ∧ W3.cell? ⟨w.heap.size + 1 + 1, 0, none⟩ = some (.func (.func 40) #[] #[.pointer (some ⟨w.heap.size, 0, none⟩)]) := by
    have e1 : (w.alloc (.cells #[.pointer (some ⟨mb, 0, none⟩)] 22)).heap.size = w.heap.size + 1 := by simp
    have e2 : ((w.alloc (.cells #[.pointer (some ⟨mb, 0, none⟩)] 22)).alloc (.cells #[.bool b, .bool s, .int .i64 tw] 24)).heap.size = w.heap.size + 1 + 1 := by simp
    have x0 := blk_cell (heap_alloc_new w (.cells #[.pointer (some ⟨mb, 0, none⟩)] 22)) 0
    have x1 := box3 (w.alloc (.cells #[.pointer (some ⟨mb, 0, none⟩)] 22)) (.bool b) (.bool s) (.int .i64 tw) 24 W3 (by rw [hW3]; exact (Kept.refl [] _).alloc _)
    have x2 := blk_cell (heap_alloc_new ((w.alloc (.cells #[.pointer (some ⟨mb, 0, none⟩)] 22)).alloc (.cells #[.bool b, .bool s, .int .i64 tw] 24)) (.cells #[.func (.func 40) #[] #[.pointer (some ⟨w.heap.size, 0, none⟩)]] 76)) 0
    rw [e1] at x1
    rw [e2] at x2
    refine ⟨?_, x1, ?_⟩
    · rw [hW3]; exact (((Kept.refl [] _).alloc _).alloc _).cell x0 (by simp)
    · rw [hW3]; exact x2
  obtain ⟨q2, hq2⟩ : ∃ v, v = w.heap.size + 1 + 1 := ⟨_, rfl⟩
  obtain ⟨q1, hq1⟩ : ∃ v, v = w.heap.size + 1 := ⟨_, rfl⟩
  obtain ⟨q0, hq0⟩ : ∃ v, v = w.heap.size := ⟨_, rfl⟩
  rw [← hq2, ← hq1, ← hq0] at hc
  rw [← hW3, ← hq2, ← hq1, ← hq0]
  have HC := Lib.hid (fun (V : World) (hV : Kept [] W3 V) => show V.cell? ⟨q0, 0, none⟩ = some (.pointer (some ⟨mb, 0, none⟩)) ∧ V.cell? ⟨q1, 0, none⟩ = some (.bool b) ∧ V.cell? ⟨q1, 1, none⟩ = some (.bool s) ∧ V.cell? ⟨q1, 2, none⟩ = some (.int .i64 tw) ∧ V.cell? ⟨q2, 0, none⟩ = some (.func (.func 40) #[] #[.pointer (some ⟨q0, 0, none⟩)]) from
    ⟨hV.cell hc.1 (by simp), hV.cell hc.2.1.1 (by simp), hV.cell hc.2.1.2.1 (by simp), hV.cell hc.2.1.2.2 (by simp), hV.cell hc.2.2 (by simp)⟩)
  have HNA := Lib.hid (fun (V : World) (hV : Kept [] W3 V) (i : Nat) (hi : i < rs.length) => show Calls Try.prog 43 #[.slice rs[i].a rs[i].l.length rs[i].c, .func (.func 44) #[] #[.pointer (some ⟨q2, 0, none⟩)]] V (fun e w' => e = .returned (.bool (rs[i].l.any fun x => decide (g.nodes.length ≤ x / 2))) ∧ ∃ k, w' = V.drewN k) from by
    have hM := HH.out.kept0 (K3.out.trans hV)
    obtain ⟨ad, _, _, hsl⟩ := HS.out i hi
    refine contains_any 44 Try.call44 (.pointer (some ⟨q2, 0, none⟩)) (fun x => decide (g.nodes.length ≤ x / 2)) rs[i].a rs[i].c _ rs[i].l V rfl (by have := HZ.out _ (List.getElem_mem hi); omega) (hsl.kept0 (K3.out.trans hV)) (fun x hx k => ?_)
    have hd : Kept [] V (V.drewN k) := (Kept.refl [] V).drewN k
    obtain ⟨z0, z1, z2, z3, z4⟩ := HC.out _ (hV.trans hd)
    exact ar_not x q2 (HB.out _ (List.getElem_mem hi) x hx) (hM.gr.kept0 hd) hm z0 (hd.cell hM.c0 (by simp)) z4)
  clear hW3 hq0 hq1 hq2 hc c0 HB
  go_wp2_with fail
  go_loopw [22] (fun v wr => ∃ i : Nat, i ≤ n ∧ v = .int .i64 i ∧ Hid (((rs.map (·.l)).take i).all (fun l => mt && rowB g t l) = true) ∧ Kept [] W3 wr) (fun v _ => n - (intOf v).toNat)
  case atStart => exact ⟨0, Nat.zero_le _, rfl, Lib.hid (by simp), .refl _ _⟩
  case round =>
    obtain ⟨i, hi, rfl, hal, hkr⟩ := hrel
    have KR := Lib.hid hkr
    have AL := Lib.hid hal.out
    obtain ⟨z0, z1, z2, z3, z4⟩ := HC.out _ hkr
    clear hkr hal
    by_cases hlt : i < n
    · have hil : i < rs.length := by rw [HL.out]; exact hlt
      obtain ⟨ad, rfl, hcx, hsl0⟩ := (HS.out.kept0 (K3.out.trans KR.out)) i hil
      clear hsl0
      have HNI := Lib.hid (fun (V : World) (hV : Kept [] W3 V) => HNA.out V hV i hil)
      have HSUC := Lib.hid (show ((rs.map (·.l)).take (i + 1)).all (fun l => mt && rowB g t l) = (((rs.map (·.l)).take i).all (fun l => mt && rowB g t l) && (mt && rowB g t rs[i].l)) from by
        rw [List.take_succ_eq_append_getElem (by rw [List.length_map]; exact hil), List.all_append]
        simp)
      have HNOT := Lib.hid (show (mt && rowB g t rs[i].l) = false → asksB g t (rs.map (·.l)) = false from fun h => by
        rw [HAS.out]
        cases mt
        · rfl
        · simp only [Bool.true_and] at h ⊢
          rw [List.all_eq_false]
          exact ⟨rs[i].l, List.mem_map_of_mem (List.getElem_mem hil), by rw [h]; simp⟩)
      have HRI := Lib.hid (HRW.out rs[i].l)
      have HANY := Lib.hid (show (!(rs[i].l.any fun x => decide (g.nodes.length ≤ x / 2))) = rs[i].l.all fun x => decide (x / 2 < g.nodes.length) from by
        rw [Bool.eq_iff_iff]
        simp)
      obtain ⟨ln, hln⟩ : ∃ x, x = rs[i].l.length := ⟨_, rfl⟩
      have hlz := HZ.out _ (List.getElem_mem hil)
      rw [← hln] at HNI hcx HRI hlz
      obtain ⟨ba, hba⟩ : ∃ x, x = rs[i].l.any fun x => decide (g.nodes.length ≤ x / 2) := ⟨_, rfl⟩
      rw [← hba] at HNI HANY
      rw [← HANY.out] at HRI
      rw [HRI.out] at HSUC HNOT
      generalize rs[i].a = ra at *
      generalize rs[i].c = rc at *
      clear hba hln hil HRI HANY
      have i0 : (0 : Int) ≤ (i : Int) := by omega
      have i1 : (i : Int) < (n : Int) := by omega
      go_wp2_with fail
      refine (HM.out _).mono ?_
      rintro e w4 ⟨rfl, k4⟩
      have K4 := Lib.hid (KR.out.trans k4)
      clear k4 z0 z1 z2 z3 z4 hcx
      obtain ⟨z0, z1, z2, z3, z4⟩ := HC.out _ K4.out
      cases mt with
      | false =>
        go_wp2_with fail
        go_ret
        exact ⟨by rw [show er = 1 from by rw [HER.out, HNOT.out rfl]; rfl]; rfl, K3.out.trans K4.out⟩
      | true =>
        by_cases hw : (ln : Int) = tw
        · have f1 : ((ln : Int) != tw) = false := by simp [hw]
          have HW := Lib.hid (show decide ((ln : Int) = tw) = true from by simp [hw])
          rw [HW.out] at HSUC HNOT
          clear hw
          go_wp2_with fail
          refine (HNI.out _ K4.out).mono ?_
          rintro e w5 ⟨rfl, k5, rfl⟩
          have K5 := Lib.hid (K4.out.drewN k5)
          clear z0 z1 z2 z3 z4
          cases ba with
          | true =>
            go_wp2_with fail
            go_ret
            exact ⟨by rw [show er = 1 from by rw [HER.out, HNOT.out rfl]; rfl]; rfl, K3.out.trans K5.out⟩
          | false =>
            go_wp2_with fail
            go_roundw
            case rel => exact ⟨i + 1, by omega, by go_num, Lib.hid (by rw [HSUC.out, AL.out]; rfl), K5.out⟩
            case measure => simp [intOf]; omega
        · have f1 : ((ln : Int) != tw) = true := by simp [hw]
          have HW := Lib.hid (show decide ((ln : Int) = tw) = false from by simp [hw])
          rw [HW.out] at HSUC HNOT
          clear hw
          go_wp2_with fail
          go_ret
          exact ⟨by rw [show er = 1 from by rw [HER.out, HNOT.out rfl]; rfl]; rfl, K3.out.trans K4.out⟩
    · obtain rfl : n = i := by omega
      have HE := Lib.hid (show (rs.map (·.l)).take n = rs.map (·.l) from List.take_of_length_le (by rw [List.length_map, HL.out]; exact Nat.le_refl _))
      have AL2 := Lib.hid (show (rs.map (·.l)).all (fun l => mt && rowB g t l) = true from by rw [← HE.out]; exact AL.out)
      go_wp2_with fail
      refine (HM.out _).mono ?_
      rintro e w4 ⟨rfl, k4⟩
      have K4 := Lib.hid (KR.out.trans k4)
      clear k4 z0 z1 z2 z3 z4
      cases mt with
      | false =>
        go_wp2_with fail
        go_ret
        exact ⟨by rw [show er = 1 from by rw [HER.out, HAS.out]; rfl]; rfl, K3.out.trans K4.out⟩
      | true =>
        go_wp2_with fail
        go_ret
        refine ⟨?_, K3.out.trans K4.out⟩
        have h1 := AL2.out
        simp only [Bool.true_and] at h1
        rw [show er = 0 from by rw [HER.out, HAS.out, Bool.true_and, h1]; rfl]
        rfl
set_option maxRecDepth 100000 in
theorem ar_nil (t : Ty) (v : Value) (w : World) : Calls Try.prog 17 #[.pointer none, tyV t, v] w fun e w' => e = .returned (.int .i64 2) ∧ Kept [] w w' := by
  unfold tyV
  generalize t.b = b at *
  generalize t.s = s at *
  generalize t.w = tw at *
  go_enter Try.func17, Try.ntmps17
  go_wp2_with fail
  go_ret
  exact ⟨rfl, ((Kept.refl [] w).alloc _).alloc _⟩
end Go.Proofs.Ytenhbhckhncamaa
