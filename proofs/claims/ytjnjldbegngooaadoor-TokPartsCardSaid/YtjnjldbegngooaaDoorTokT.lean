/-
  Law 15: the type that a text is.
-/
import Derived.Test.YtjnjldbegngooaaDoorTokS
import Derived.Test.YtjnjldbegngooaaDoorTokN
import Derived.Test.YtjnjldbegngooaaDoorTokE
import Derived.Lib.AtoiErrMem
namespace Go.Proofs.YtjnjldbegngooaaDoor
open Go.ChangeShapes Go.WideShapes Go.ChangeAt Go.RowKit
set_option linter.unusedVariables false
set_option linter.unusedSimpArgs false

variable {w w' w1 W : World}
/-- Atoi's answer: a number and no error, or an error -/
def AtoiPost (l : List UInt8) (w : World) (e : Ending) (w' : World) : Prop := ∃ (v : Int) (err : Value), e = .returned (.tuple #[.int .i64 v, err]) ∧ Kept [] w w' ∧ ((Lib.atoiAll l = .ok v ∧ err = .nilIface) ∨ ((∀ v, Lib.atoiAll l ≠ .ok v) ∧ ∃ te pe, err = .iface te pe))
theorem atoi_c (l : List UInt8) (hl : l.length ≤ 281474976710656) (w : World) (hL : Laid w) : Calls Tryd.prog 29 #[.string ⟨l.toArray⟩] w (AtoiPost l w) := by
  obtain ⟨ev1, h1, g1⟩ := hL.syn
  obtain ⟨ev2, h2, g2⟩ := hL.rng
  have e : (⟨l.toArray⟩ : ByteArray).data.toList = l := rfl
  have es : (⟨l.toArray⟩ : ByteArray).size = l.length := rfl
  rcases ha : Lib.atoiAll l with v | _ | _
  · refine (Tryd.strconv_Atoi_ok ⟨l.toArray⟩ (by omega) v ha w).mono ?_
    rintro e w1 ⟨rfl, hw⟩
    refine ⟨v, _, rfl, ?_, .inl ⟨ha, rfl⟩⟩
    rcases hw with rfl | ⟨t, rfl⟩
    · exact .refl _ _
    · exact .of_below (Lib.bytesWorld_below _ _ _)
  · refine (Any.strconv_Atoi_syntax Tryd.laysC172 ⟨l.toArray⟩ (by omega) ha ev1 w h1 g1).mono ?_
    rintro e w1 ⟨N, rfl, _, _, hb⟩
    exact ⟨_, _, rfl, .of_below hb, .inr ⟨fun v hv => (by rw [ha] at hv; cases hv), _, _, rfl⟩⟩
  · refine (Tryd.strconv_Atoi_range ⟨l.toArray⟩ (by omega) ha ev2 w h2 g2).mono ?_
    rintro e w1 ⟨N, rfl, _, _, hb⟩
    exact ⟨_, _, rfl, .of_below hb, .inr ⟨fun v hv => (by rw [ha] at hv; cases hv), _, _, rfl⟩⟩
def getTy (r : Option Ty) : Ty := r.getD noTy
def TypePost (r : Option Ty) (w : World) (e : Ending) (w' : World) : Prop := e = .returned (.tuple #[tyV (getTy r), .bool r.isSome]) ∧ Kept [] w w'
theorem str_eq (l m : List UInt8) : ((⟨l.toArray⟩ : ByteArray).toList == (⟨m.toArray⟩ : ByteArray).toList) = decide (l = m) := by
  have h : ∀ l : List UInt8, (⟨l.toArray⟩ : ByteArray).toList = l := fun l => by rw [Lib.toList_data]
  rw [h, h]
  rw [Bool.eq_iff_iff]
  simp
/-- a type stored whole -/
theorem wpList_ty {ops : Array Oper} {rest : List Oper} {o : Oper} {a : Act} {w : World} {Q : Exit → Act → World → Prop} {x y : Operand} {v0 v1 v2 u0 u1 u2 : Value} (hgd : o.guard = none) (ho : o.op = .store 34 x y) (g : Nat)
    (hx : a.eval x = .pointer (some ⟨g, 0, none⟩)) (hy : a.eval y = .agg #[v0, v1, v2]) (hg : w.heap[g]? = some (.cells #[u0, u1, u2] 34 (0, 0))) (h1 : v0.oneCell' = true ∧ v1.oneCell' = true ∧ v2.oneCell' = true)
    (h : ∀ w', w'.heap[g]? = some (.cells #[v0, v1, v2] 34 (0, 0)) → Kept [g] w w' → wpList Tryd.prog ops Q rest (a.put o.dst undef) w') : wpList Tryd.prog ops Q (o :: rest) a w := by
  obtain ⟨h0, h1, h2⟩ := h1
  exact wpList_box hgd ho g hx hy hg (by kernel_rfl) rfl (by simp [h0, h1, h2]) h
def tyObj (t : Ty) : Obj := .cells #[.bool t.b, .bool t.sg, .int .i64 t.w] 34 (0, 0)
set_option maxHeartbeats 3200000 in
set_option maxRecDepth 100000 in
theorem typeof_c (s : List UInt8) (hs : s.length ≤ 281474976710656) (w : World) (hL : Laid w) : Calls Tryd.prog 12 #[.string ⟨s.toArray⟩] w (TypePost (typeB s) w) := by
  have HL := Lib.hid hL
  clear hL
  have hbool := str_eq s boolL
  simp only [boolL] at hbool
  by_cases hB : s = boolL
  · subst hB
    have HT := Lib.hid typeB_bool
    go_enter Tryd.func12, Tryd.ntmps12
    go_wp2_with fail
    refine bodyPost_ret (v := .tuple #[tyV boolTy, .bool true]) (by simp [results, Tryd.results12, go_sem, tyV, boolTy]) rfl ?_
    rw [HT.out]
    exact ⟨rfl, (Kept.refl [] w).alloc _⟩
  by_cases hN : s = []
  · subst hN
    have HT := Lib.hid typeB_nil
    clear hB hbool
    go_enter Tryd.func12, Tryd.ntmps12
    go_wp2_with fail
    refine bodyPost_ret (v := .tuple #[tyV noTy, .bool false]) (by simp [results, Tryd.results12, go_sem, tyV, noTy]) rfl ?_
    rw [HT.out]
    exact ⟨rfl, (Kept.refl [] w).alloc _⟩
  obtain ⟨c, r, hcr⟩ : ∃ c r, s = c :: r := by
    cases s with
    | nil => exact absurd rfl hN
    | cons c r => exact ⟨c, r, rfl⟩
  have HS := Lib.hid hcr
  have HB := Lib.hid hB
  have h1 : (s == [98, 111, 111, 108]) = false := by rw [beq_eq_false_iff_ne]; exact hB
  have h2 : 0 < s.length := by rw [hcr]; simp
  have h3 : (s == []) = false := by rw [beq_eq_false_iff_ne]; exact hN
  have h4 : s.isEmpty = false := by rw [hcr]; rfl
  clear hB hbool hcr
  have hsz : 0 < (⟨s.toArray⟩ : ByteArray).size := h2
  have hg : (⟨s.toArray⟩ : ByteArray)[0]'hsz = c := by
    show s.toArray[0]'hsz = c
    simp [HS.out]
  by_cases hc : c = 117 ∨ c = 105
  · have hext : (⟨s.toArray⟩ : ByteArray).extract 1 s.length = ⟨r.toArray⟩ := by
      rw [ext_list]
      simp [HS.out]
    obtain ⟨sg, hsg⟩ : ∃ sg, sg = decide (c = 105) := ⟨_, rfl⟩
    have HAT := Lib.hid (fun W hW => atoi_c r (by have h5 := hs; rw [HS.out] at h5; simp at h5; omega) W hW)
    have HMAY := Lib.hid (fun v W => mayw_c ⟨false, sg, v⟩ W)
    have HSAY := Lib.hid (fun v W => says_c ⟨false, sg, v⟩ W)
    have HOK := Lib.hid (fun v (hv : Lib.atoiAll r = .ok v) => (show typeB s = if mayTy ⟨false, sg, v⟩ = true ∧ sayB ⟨false, sg, v⟩ = s then some ⟨false, sg, v⟩ else none from by rw [HS.out, hsg]; exact typeB_ok hc hv))
    have HBAD := Lib.hid (fun (hv : ∀ v, Lib.atoiAll r ≠ .ok v) => (show typeB s = none from by rw [HS.out]; exact typeB_bad hv (by rw [← HS.out]; exact HB.out)))
    have HSG := Lib.hid hsg
    have hx : (((⟨s.toArray⟩ : ByteArray)[0]'hsz).toNat = 117 ∧ sg = false) ∨ (((⟨s.toArray⟩ : ByteArray)[0]'hsz).toNat = 105 ∧ sg = true) := by
      rw [hg, hsg]
      rcases hc with rfl | rfl
      · left; exact ⟨rfl, rfl⟩
      · right; exact ⟨rfl, rfl⟩
    clear hg hsg hc
    rcases hx with ⟨hx, rfl⟩ | ⟨hx, rfl⟩
    all_goals
      go_enter Tryd.func12, Tryd.ntmps12
      go_wp2_with fail
      refine (HAT.out _ (HL.out.kept0 ((Kept.refl [] w).alloc _))).mono ?_
      rintro e w2 ⟨v, err, rfl, k2, hv⟩
      have hk2 := ((Kept.refl [] w).alloc (.cells #[.bool false, .bool false, .int .i64 0] 34)).trans k2
      have K2 := Lib.hid hk2
      have hz : w2.heap[w.heap.size]? = some (.cells #[.bool false, .bool false, .int .i64 0] 34 (0, 0)) := k2.heap (heap_alloc_new w _) (by simp)
      have HZ := Lib.hid hz
      have hlz := blk_lt hz
      clear hk2 k2 hz
      rcases hv with ⟨hv, rfl⟩ | ⟨hv, te, pe, rfl⟩
      · have HQ := Lib.hid (HOK.out v hv)
        have HM := Lib.hid (HMAY.out v)
        have HY := Lib.hid (HSAY.out v)
        clear hv
        generalize hmb : mayTy ⟨false, _, v⟩ = mb at HQ HM
        have HMB := Lib.hid hmb
        clear hmb
        cases mb with
        | false =>
          have HT := Lib.hid (show typeB s = none from by rw [HQ.out, if_neg (by simp)])
          go_wp2_with fail
          refine (HM.out _).mono ?_
          rintro e w3 ⟨rfl, k3⟩
          have K3 := Lib.hid (((Kept.refl [] w2).alloc _).trans k3)
          have HZ3 := Lib.hid (K3.out.heap HZ.out List.not_mem_nil)
          clear k3
          go_wp2_with (refine wpList_ty rfl rfl w.heap.size rfl rfl HZ3.out ⟨rfl, rfl, rfl⟩ ?_)
          intro w5 hw5 k5
          have K5 := Lib.hid k5; have z0 := blk_cell hw5 0; have z1 := blk_cell hw5 1; have z2 := blk_cell hw5 2; simp only [List.getElem?_toArray, List.getElem?_cons_zero, List.getElem?_cons_succ] at z0 z1 z2; clear hw5 k5; go_wp2_with fail
          refine bodyPost_ret (v := .tuple #[tyV noTy, .bool false]) (by simp [results, Tryd.results12, go_sem, tyV, noTy, z0, z1, z2]) rfl ?_
          rw [HT.out]
          exact ⟨rfl, kept_mix (K2.out.trans K3.out) K5.out (by simp)⟩
        | true =>
          go_wp2_with fail
          refine (HM.out _).mono ?_
          rintro e w3 ⟨rfl, k3⟩
          have K3 := Lib.hid (((Kept.refl [] w2).alloc _).trans k3)
          have HZ3 := Lib.hid (K3.out.heap HZ.out List.not_mem_nil)
          have HB3 := k3.heap (heap_alloc_new w2 _) (by simp)
          have y0 := blk_cell HB3 0
          have y1 := blk_cell HB3 1
          have y2 := blk_cell HB3 2
          simp only [List.getElem?_toArray, List.getElem?_cons_zero, List.getElem?_cons_succ] at y0 y1 y2
          have HB3' := Lib.hid HB3
          clear k3 HB3
          go_wp2_with fail
          refine (HY.out _).mono ?_
          rintro e w4 ⟨rfl, k4⟩
          have K4 := Lib.hid k4
          have HZ4 := Lib.hid (K4.out.heap HZ3.out List.not_mem_nil)
          have HB4 := k4.heap HB3'.out (by simp)
          have x0 := blk_cell HB4 0
          have x1 := blk_cell HB4 1
          have x2 := blk_cell HB4 2
          simp only [List.getElem?_toArray, List.getElem?_cons_zero, List.getElem?_cons_succ] at x0 x1 x2
          clear k4 HB4 y0 y1 y2
          generalize hX : sayB ⟨false, _, v⟩ = X at HQ
          simp only [strV]
          by_cases hXs : X = s
          · subst hXs
            have HT := Lib.hid (show typeB X = some _ from by rw [HQ.out, if_pos (by simp)])
            clear hX
            go_wp2_with (refine wpList_ty rfl rfl w.heap.size rfl rfl HZ4.out ⟨rfl, rfl, rfl⟩ ?_)
            intro w5 hw5 k5
            have K5 := Lib.hid k5; have z0 := blk_cell hw5 0; have z1 := blk_cell hw5 1; have z2 := blk_cell hw5 2; simp only [List.getElem?_toArray, List.getElem?_cons_zero, List.getElem?_cons_succ] at z0 z1 z2; clear hw5 k5; go_wp2_with fail
            refine bodyPost_ret (v := .tuple #[tyV ⟨false, _, v⟩, .bool true]) (by simp [results, Tryd.results12, go_sem, tyV, z0, z1, z2]; rfl) rfl ?_
            rw [HT.out]
            exact ⟨rfl, kept_mix ((K2.out.trans K3.out).trans K4.out) K5.out (by simp)⟩
          · have hb1 : (X == s) = false := by rw [beq_eq_false_iff_ne]; exact hXs
            have hb2 : (X != s) = true := by rw [bne_iff_ne]; exact hXs
            have HT := Lib.hid (show typeB s = none from by rw [HQ.out, if_neg (fun h => hXs h.2)])
            clear hX hXs
            go_wp2_with (refine wpList_ty rfl rfl w.heap.size rfl rfl HZ4.out ⟨rfl, rfl, rfl⟩ ?_)
            intro w5 hw5 k5
            have K5 := Lib.hid k5; have z0 := blk_cell hw5 0; have z1 := blk_cell hw5 1; have z2 := blk_cell hw5 2; simp only [List.getElem?_toArray, List.getElem?_cons_zero, List.getElem?_cons_succ] at z0 z1 z2; clear hw5 k5; go_wp2_with fail
            refine bodyPost_ret (v := .tuple #[tyV noTy, .bool false]) (by simp [results, Tryd.results12, go_sem, tyV, noTy, z0, z1, z2]) rfl ?_
            rw [HT.out]
            exact ⟨rfl, kept_mix ((K2.out.trans K3.out).trans K4.out) K5.out (by simp)⟩
      · have HT := Lib.hid (HBAD.out hv)
        clear hv
        go_wp2_with (refine wpList_ty rfl rfl w.heap.size rfl rfl (((Kept.refl [] w2).alloc _).heap HZ.out List.not_mem_nil) ⟨rfl, rfl, rfl⟩ ?_)
        intro w5 hw5 k5
        have K5 := Lib.hid k5; have z0 := blk_cell hw5 0; have z1 := blk_cell hw5 1; have z2 := blk_cell hw5 2; simp only [List.getElem?_toArray, List.getElem?_cons_zero, List.getElem?_cons_succ] at z0 z1 z2; clear hw5 k5; go_wp2_with fail
        refine bodyPost_ret (v := .tuple #[tyV noTy, .bool false]) (by simp [results, Tryd.results12, go_sem, tyV, noTy, z0, z1, z2]) rfl ?_
        rw [HT.out]
        exact ⟨rfl, kept_mix (K2.out.trans ((Kept.refl [] w2).alloc _)) K5.out (by simp)⟩
  · have HT := Lib.hid (show typeB s = none from by rw [HS.out]; exact typeB_head hc (by rw [← HS.out]; exact HB.out))
    have e1 : ((((⟨s.toArray⟩ : ByteArray)[0]'hsz).toNat : Int) != 117) = true := by
      rw [hg, bne_iff_ne]
      intro h
      exact hc (.inl (UInt8.toNat_inj.1 (by exact_mod_cast h)))
    have e2 : ((((⟨s.toArray⟩ : ByteArray)[0]'hsz).toNat : Int) != 105) = true := by
      rw [hg, bne_iff_ne]
      intro h
      exact hc (.inr (UInt8.toNat_inj.1 (by exact_mod_cast h)))
    clear hg hc
    go_enter Tryd.func12, Tryd.ntmps12
    go_wp2_with fail
    refine bodyPost_ret (v := .tuple #[tyV noTy, .bool false]) (by simp [results, Tryd.results12, go_sem, tyV, noTy]) rfl ?_
    rw [HT.out]
    exact ⟨rfl, (Kept.refl [] w).alloc _⟩
end Go.Proofs.YtjnjldbegngooaaDoor
