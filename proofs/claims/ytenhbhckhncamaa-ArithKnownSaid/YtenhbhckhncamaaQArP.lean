/-
  Package arith: All of no rows; Choose where it refuses.
-/
import Derived.Test.YtenhbhckhncamaaQArN
namespace Go.Proofs.Ytenhbhckhncamaa
open Go.ChangeShapes Go.WideShapes Go.ChangeAt Go.RowKit
set_option linter.unusedVariables false
set_option linter.unusedSimpArgs false

variable {w w' W V w0 : World} {mb p how q n k x y : Nat} {F F0 F' S S' : List Nat} {g g' : Gr} {a b : Option Addr} {ca cb : Nat} {la lb : List Nat}
def All0 (ok : Bool) (x n : Nat) (w : World) (e : Ending) (w' : World) : Prop := ConstPost ok x n w e w'
set_option maxHeartbeats 3200000 in
set_option maxRecDepth 100000 in
theorem ar_all0 (h : ArAt w mb p how F g) (hm : g.nodes.length ≤ 1000000) (op : Int) (t : Ty) : Calls Try.prog 9 #[.pointer (some ⟨mb, 0, none⟩), .int .i64 op, tyV t, .slice none 0 0] w (ConstPost (decide (allE op t = 0)) (allN op t) (tyN t) w) := by
  have HBX := Lib.hid (fun V hV => box3 w (.bool t.b) (.bool t.s) (.int .i64 t.w) 24 V hV)
  have HA := Lib.hid (fun V (hV : Kept [] w V) => ar_asks (h.kept0 hV) hm t none 0 0 [] rfl (by omega) (fun i hi => absurd hi (by simp)) (by simp) (by simp))
  rw [show asksB g t (([] : List RR).map (·.l)) = mayT t from by simp [asksB]] at HA
  have HO := Lib.hid (fun V => all_e op t V)
  unfold AllIs at HO
  have HME := Lib.hid (show mayT t = false → allE op t = 1 from fun h => by unfold allE; rw [h]; simp)
  have hlim : mayT t = true → allN op t < 18446744073709551616 := fun h => by
    have h2 := (may_n h).2.2
    have h3 : 2 ^ tyN t ≤ 18446744073709551616 := show 2 ^ tyN t ≤ 2 ^ 64 from Nat.pow_le_pow_right (by omega) h2
    have h4 : 0 < 2 ^ tyN t := Nat.pow_pos (by omega)
    unfold allN
    split
    · omega
    · split <;> omega
  have HLC := Lib.hid (fun hmt V => c_const (allN op t) (tyN t) ((allN op t : Nat) : Int) t.w rfl V (hlim hmt) (by have := may_n (t := t) hmt; unfold tyN; omega))
  have HOL := Lib.hid (show allE op t = 0 ∨ allE op t = 1 from by unfold allE; split <;> simp)
  obtain ⟨oe, hoe⟩ : ∃ m, m = allE op t := ⟨_, rfl⟩
  rw [← hoe] at HO HME HOL ⊢
  clear hoe hlim
  obtain ⟨an, han⟩ : ∃ m, m = allN op t := ⟨_, rfl⟩
  rw [← han] at HO HLC ⊢
  clear han
  obtain ⟨mt, hmt⟩ : ∃ m, m = mayT t := ⟨_, rfl⟩
  rw [← hmt] at HA HME HLC
  clear hmt h
  generalize tyN t = tn at *
  unfold tyV at *
  generalize t.b = tb at *
  generalize t.s = s at *
  generalize t.w = tw at *
  have KA := Lib.hid (show Kept [] w (w.alloc (.cells #[.bool tb, .bool s, .int .i64 tw] 24)) from (Kept.refl [] w).alloc _)
  unfold ConstPost
  cases mt with
  | false =>
    obtain rfl : oe = 1 := HME.out rfl
    rw [show decide (1 = 0) = false from rfl]
    simp only [Bool.false_eq_true, if_false]
    go_enter Try.func9, Try.ntmps9
    go_wp2_with fail
    refine (HA.out _ KA.out).mono ?_
    rintro e w1 ⟨rfl, k1⟩
    have K1 := Lib.hid k1
    obtain ⟨c0, c1, c2⟩ := HBX.out _ K1.out
    clear k1
    go_wp2_with fail
    refine (HO.out _).mono ?_
    rintro e w2 ⟨z, rfl, hz, k2⟩
    have K2 := Lib.hid (KA.out.trans (K1.out.trans k2))
    clear k2 c0 c1 c2 hz
    go_wp2_with fail
    go_ret2
    exact ⟨rfl, K2.out⟩
  | true =>
    have HL1 := Lib.hid (fun V => HLC.out rfl V)
    clear HLC HME
    rcases HOL.out with rfl | rfl
    · rw [show decide (0 = 0) = true from rfl]
      simp only [if_true]
      go_enter Try.func9, Try.ntmps9
      go_wp2_with fail
      refine (HA.out _ KA.out).mono ?_
      rintro e w1 ⟨rfl, k1⟩
      have K1 := Lib.hid k1
      obtain ⟨c0, c1, c2⟩ := HBX.out _ K1.out
      clear k1
      go_wp2_with fail
      refine (HO.out _).mono ?_
      rintro e w2 ⟨z, rfl, hz, k2⟩
      obtain rfl : z = ((an : Nat) : Int) := hz (by trivial)
      have KK := Lib.hid (K1.out.trans k2)
      have K2 := Lib.hid (KA.out.trans KK.out)
      clear k2 c0 c1 c2 hz
      obtain ⟨c0, c1, c2⟩ := HBX.out _ KK.out
      go_wp2_with fail
      refine (HL1.out _).mono ?_
      rintro e w3 ⟨a3, c3, rfl, ho3, hs3⟩
      have K3 := Lib.hid (K2.out.trans hs3.kept)
      have O3 := Lib.hid ho3
      have F3 := Lib.hid (show ∀ b ∈ ft a3, w.heap.size ≤ b from fun b hb => (hs3.fresh b hb).elim (by simp) (fun h => Nat.le_trans K2.out.size h))
      clear ho3 hs3 c0 c1 c2
      go_wp2_with fail
      go_loopw [13, 10, 38] (fun v u iv wr => v = .slice a3 tn c3 ∧ u = .int .i64 0 ∧ iv = .int .i64 0 ∧ w3 = wr) (fun _ _ _ _ => 0)
      case atStart => exact ⟨rfl, rfl, rfl, rfl⟩
      case round =>
        obtain ⟨rfl, rfl, rfl, rfl⟩ := hrel
        go_wp2_with fail
        go_ret2
        exact ⟨a3, c3, rfl, O3.out, K3.out, F3.out⟩
    · rw [show decide (1 = 0) = false from rfl]
      simp only [Bool.false_eq_true, if_false]
      go_enter Try.func9, Try.ntmps9
      go_wp2_with fail
      refine (HA.out _ KA.out).mono ?_
      rintro e w1 ⟨rfl, k1⟩
      have K1 := Lib.hid k1
      obtain ⟨c0, c1, c2⟩ := HBX.out _ K1.out
      clear k1
      go_wp2_with fail
      refine (HO.out _).mono ?_
      rintro e w2 ⟨z, rfl, hz, k2⟩
      have K2 := Lib.hid (KA.out.trans (K1.out.trans k2))
      clear k2 c0 c1 c2 hz
      go_wp2_with fail
      go_ret2
      exact ⟨rfl, K2.out⟩
theorem box_ct (w : World) (A : Obj) (v0 : Value) (B : TypeId) (u0 u1 u2 : Value) (U : TypeId) (V : World) (hV : Kept [] (((w.alloc A).alloc (.cells #[v0] B)).alloc (.cells #[u0, u1, u2] U)) V) :
    V.cell? ⟨w.heap.size + 1, 0, none⟩ = some v0 ∧ V.cell? ⟨w.heap.size + 1 + 1, 0, none⟩ = some u0 ∧ V.cell? ⟨w.heap.size + 1 + 1, 1, none⟩ = some u1 ∧ V.cell? ⟨w.heap.size + 1 + 1, 2, none⟩ = some u2 := by
  have e1 : (w.alloc A).heap.size = w.heap.size + 1 := by simp
  have e2 : ((w.alloc A).alloc (.cells #[v0] B)).heap.size = w.heap.size + 1 + 1 := by simp
  have h1 := blk_cell (heap_alloc_new (w.alloc A) (.cells #[v0] B)) 0
  have h2 := box3 ((w.alloc A).alloc (.cells #[v0] B)) u0 u1 u2 U V hV
  rw [e1] at h1
  rw [e2] at h2
  exact ⟨(((Kept.refl [] _).alloc _).trans hV).cell h1 (by simp), h2⟩
theorem cell_new4 (w : World) (A B C : Obj) (v u : Value) (T : TypeId) : ((((w.alloc A).alloc B).alloc C).alloc (.cells #[v, u] T)).cell? ⟨w.heap.size + 1 + 1 + 1, 0, none⟩ = some v ∧ ((((w.alloc A).alloc B).alloc C).alloc (.cells #[v, u] T)).cell? ⟨w.heap.size + 1 + 1 + 1, 1, none⟩ = some u := by
  have h := heap_alloc_new (((w.alloc A).alloc B).alloc C) (.cells #[v, u] T)
  rw [show (((w.alloc A).alloc B).alloc C).heap.size = w.heap.size + 1 + 1 + 1 from by simp] at h
  exact ⟨blk_cell h 0, blk_cell h 1⟩
set_option maxHeartbeats 3200000 in
set_option maxRecDepth 100000 in
theorem choose_bad1 (h : ArAt w mb p how F g) (hm : g.nodes.length ≤ 169000) (c : Int) (hl : la.length = n) (hl2 : lb.length = k) (hn : n ≤ 100000) (hk : k ≤ 100000) (hsa : SlN w .u32 a la) (hsb : SlN w .u32 b lb) (hb : ∀ x ∈ la, x < 4294967296) (hb2 : ∀ x ∈ lb, x < 4294967296) (hbad : asksB g ⟨false, false, (n : Int)⟩ [la, lb] = false) :
    Calls Try.prog 8 #[.pointer (some ⟨mb, 0, none⟩), .int .u32 c, .slice a n ca, .slice b k cb] w (ArBad 1 w) := by
  have HA := Lib.hid (fun V (hV : Kept [] w V) q (hq : V.cell? ⟨q, 0, none⟩ = some (.slice a n ca)) (hq1 : V.cell? ⟨q, 1, none⟩ = some (.slice b k cb)) => ar_asks (h.kept0 hV) (by omega) ⟨false, false, (n : Int)⟩ (some ⟨q, 0, none⟩) 2 2 [⟨a, ca, la⟩, ⟨b, cb, lb⟩] rfl (by omega) (slrows2 hq hq1 hl hl2 (hsa.kept0 hV) (hsb.kept0 hV)) (by intro r hr x hx; simp at hr; rcases hr with rfl | rfl; exact hb x hx; exact hb2 x hx) (by intro r hr; simp at hr; rcases hr with rfl | rfl; (show la.length ≤ _; omega); (show lb.length ≤ _; omega)))
  rw [show asksB g ⟨false, false, (n : Int)⟩ (([⟨a, ca, la⟩, ⟨b, cb, lb⟩] : List RR).map (·.l)) = false from hbad] at HA
  have KA := Lib.hid (show Kept [] w (((w.alloc (.cells #[.pointer (some ⟨mb, 0, none⟩)] 22)).alloc (.cells #[.int .u32 c] 34)).alloc (.cells #[.bool false, .bool false, .int .i64 (n : Int)] 24)) from (((Kept.refl [] w).alloc _).alloc _).alloc _)
  unfold tyV at HA
  simp only at HA
  clear h hsa hsb hb hb2 hbad hl hl2
  go_enter Try.func8, Try.ntmps8
  go_wp2_with fail
  refine (HA.out _ (KA.out.alloc _) _ (cell_new4 _ _ _ _ _ _ _).1 (cell_new4 _ _ _ _ _ _ _).2).mono ?_
  rintro e w1 ⟨rfl, k1⟩
  have K1 := Lib.hid ((KA.out.alloc (.cells #[.slice a n ca, .slice b k cb] 25)).trans k1)
  clear k1
  go_wp2_with fail
  go_ret2
  exact ⟨rfl, K1.out⟩
theorem cell_new5 (w : World) (A B : Obj) (v u : Value) (T U : TypeId) : ((w.alloc (.cells #[v] T)).alloc (.cells #[u] U)).cell? ⟨w.heap.size, 0, none⟩ = some v ∧ ((w.alloc (.cells #[v] T)).alloc (.cells #[u] U)).cell? ⟨w.heap.size + 1, 0, none⟩ = some u := by
  have h1 := blk_cell (heap_alloc_new w (.cells #[v] T)) 0
  have h2 := blk_cell (heap_alloc_new (w.alloc (.cells #[v] T)) (.cells #[u] U)) 0
  rw [show (w.alloc (.cells #[v] T)).heap.size = w.heap.size + 1 from by simp] at h2
  exact ⟨((Kept.refl [] _).alloc _).cell h1 (by simp), h2⟩
set_option maxHeartbeats 3200000 in
set_option maxRecDepth 100000 in
theorem choose_bad2 {c : Nat} (h : ArAt w mb p how F g) (hm : g.nodes.length ≤ 169000) (hc : c < 4294967296) (hl : la.length = n) (hl2 : lb.length = k) (hn : n ≤ 100000) (hk : k ≤ 100000) (hsa : SlN w .u32 a la) (hsb : SlN w .u32 b lb) (hb : ∀ x ∈ la, x < 4294967296) (hb2 : ∀ x ∈ lb, x < 4294967296) (hok : asksB g ⟨false, false, (n : Int)⟩ [la, lb] = true) (hbad : asksB g ⟨false, false, 1⟩ [[c]] = false) :
    Calls Try.prog 8 #[.pointer (some ⟨mb, 0, none⟩), .int .u32 (c : Int), .slice a n ca, .slice b k cb] w (ArBad 1 w) := by
  have HA := Lib.hid (fun V (hV : Kept [] w V) q (hq : V.cell? ⟨q, 0, none⟩ = some (.slice a n ca)) (hq1 : V.cell? ⟨q, 1, none⟩ = some (.slice b k cb)) => ar_asks (h.kept0 hV) (by omega) ⟨false, false, (n : Int)⟩ (some ⟨q, 0, none⟩) 2 2 [⟨a, ca, la⟩, ⟨b, cb, lb⟩] rfl (by omega) (slrows2 hq hq1 hl hl2 (hsa.kept0 hV) (hsb.kept0 hV)) (by intro r hr x hx; simp at hr; rcases hr with rfl | rfl; exact hb x hx; exact hb2 x hx) (by intro r hr; simp at hr; rcases hr with rfl | rfl; (show la.length ≤ _; omega); (show lb.length ≤ _; omega)))
  rw [show asksB g ⟨false, false, (n : Int)⟩ (([⟨a, ca, la⟩, ⟨b, cb, lb⟩] : List RR).map (·.l)) = true from hok] at HA
  have HB := Lib.hid (fun V (hV : Kept [] w V) q r (hq : V.cell? ⟨q, 0, none⟩ = some (.slice (some ⟨r, 0, none⟩) 1 1)) (hr : V.cell? ⟨r, 0, none⟩ = some (.int .u32 (c : Int))) => ar_asks (h.kept0 hV) (by omega) ⟨false, false, 1⟩ (some ⟨q, 0, none⟩) 1 1 [⟨some ⟨r, 0, none⟩, 1, [c]⟩] rfl (by omega) (slrows1 hq rfl (fun i hi => by
      have e : i = 0 := by simpa using hi
      subst e
      exact ⟨_, rfl, by simpa [ad_at] using hr⟩)) (by intro r hr x hx; simp at hr; subst hr; simp at hx; omega) (by intro r hr; simp at hr; subst hr; simp))
  have HB2 := Lib.hid (fun V (hV : Kept [] w V) q r (hq : V.cell? ⟨q, 0, none⟩ = some (.slice (some ⟨r, 0, none⟩) 1 1)) (hr : V.cell? ⟨r, 0, none⟩ = some (.int .u32 (c : Int))) => show Calls Try.prog 17 #[.pointer (some ⟨mb, 0, none⟩), .agg #[.bool false, .bool false, .int .i64 1], .slice (some ⟨q, 0, none⟩) 1 1] V (fun e w' => e = .returned (.int .i64 1) ∧ Kept [] V w') from by
    have := HB.out V hV q r hq hr
    rw [show asksB g ⟨false, false, 1⟩ (([⟨some ⟨r, 0, none⟩, 1, [c]⟩] : List RR).map (·.l)) = false from hbad] at this
    exact this)
  have KA := Lib.hid (show Kept [] w (((w.alloc (.cells #[.pointer (some ⟨mb, 0, none⟩)] 22)).alloc (.cells #[.int .u32 (c : Int)] 34)).alloc (.cells #[.bool false, .bool false, .int .i64 (n : Int)] 24)) from (((Kept.refl [] w).alloc _).alloc _).alloc _)
  have HBX := Lib.hid (fun V hV => box_ct w (.cells #[.pointer (some ⟨mb, 0, none⟩)] 22) (.int .u32 (c : Int)) 34 (.bool false) (.bool false) (.int .i64 (n : Int)) 24 V hV)
  have HMX := Lib.hid (fun V (hV : Kept [] (w.alloc (.cells #[.pointer (some ⟨mb, 0, none⟩)] 22)) V) => hV.cell (blk_cell (heap_alloc_new w (.cells #[.pointer (some ⟨mb, 0, none⟩)] 22)) 0) (by simp))
  unfold tyV at HA
  simp only at HA
  clear h hsa hsb hb hb2 hbad hok hl hl2 HB
  go_enter Try.func8, Try.ntmps8
  go_wp2_with fail
  refine (HA.out _ (KA.out.alloc _) _ (cell_new4 _ _ _ _ _ _ _).1 (cell_new4 _ _ _ _ _ _ _).2).mono ?_
  rintro e w1 ⟨rfl, k1⟩
  have KK := Lib.hid (((Kept.refl [] (((w.alloc (.cells #[.pointer (some ⟨mb, 0, none⟩)] 22)).alloc (.cells #[.int .u32 (c : Int)] 34)).alloc (.cells #[.bool false, .bool false, .int .i64 (n : Int)] 24))).alloc (.cells #[.slice a n ca, .slice b k cb] 25)).trans k1)
  have K1 := Lib.hid (KA.out.trans KK.out)
  obtain ⟨d0, d1, d2, d3⟩ := HBX.out _ KK.out
  have c0 := HMX.out w1 ((((Kept.refl [] _).alloc _).alloc _).trans KK.out)
  simp at c0
  clear k1
  go_wp2_with fail
  refine (HB2.out _ ((K1.out.alloc _).alloc _) _ _ (cell_new5 _ (.cells #[] 0) (.cells #[] 0) _ _ _ _).2 (cell_new5 _ (.cells #[] 0) (.cells #[] 0) _ _ _ _).1).mono ?_
  rintro e w2 ⟨rfl, k2⟩
  have K2 := Lib.hid (((K1.out.alloc _).alloc _).trans k2)
  clear k2 c0 d0 d1 d2 d3
  go_wp2_with fail
  go_ret2
  exact ⟨rfl, K2.out⟩
end Go.Proofs.Ytenhbhckhncamaa
