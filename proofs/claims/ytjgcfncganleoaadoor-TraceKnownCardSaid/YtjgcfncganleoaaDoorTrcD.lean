/-
  Package trace: Same; slices.Equal of words and buses.
-/
import Derived.Test.YtjgcfncganleoaaDoorTrcC
import Derived.Laws.StructEq
namespace Go.Proofs.YtjgcfncganleoaaDoor
open Go.ChangeShapes Go.WideShapes Go.ChangeAt Go.RowKit
open Go.Maps (Keyed)
open Go.WideMaps
set_option linter.unusedVariables false
set_option linter.unusedSimpArgs false

variable {w w' : World} {S : List Nat}
def EqIs (b : Bool) (w : World) (e : Ending) (w' : World) : Prop := e = .returned (.bool b) ∧ ∃ k, w' = w.drewN k
set_option maxHeartbeats 800000 in
theorem eq_words (a b : Option Addr) (m m' c d : Nat) (l l' : List Nat) (w : World) (h1 : l.length = m) (h2 : l'.length = m') (hm : m ≤ 140737488351232) (hm' : m' ≤ 140737488351232) (ha : SlN w .u64 a l) (hb : SlN w .u64 b l') :
    Calls Tryd.prog 21 #[.slice a m c, .slice b m' d] w (EqIs (decide (l = l')) w) := by
  have H1 := Lib.hid h1
  have H2 := Lib.hid h2
  have HA := Lib.hid ha
  have HB := Lib.hid hb
  clear h1 h2 ha hb
  by_cases hmm : m = m'
  · subst hmm
    go_enter Tryd.func21, Tryd.ntmps21
    go_wp2_with fail
    go_loopw [13] (fun i wr => ∃ k q : Nat, k ≤ m ∧ i = .int .i64 k ∧ wr = w.drewN q ∧ l.take k = l'.take k) (fun i _ => m - (intOf i).toNat)
    case atStart => exact ⟨0, 0, Nat.zero_le _, rfl, rfl, rfl⟩
    case round =>
      obtain ⟨k, q, hk, rfl, rfl, htk⟩ := hrel
      have HT := Lib.hid htk
      clear htk
      by_cases hlt : k < m
      · have hl1 : k < l.length := by rw [H1.out]; exact hlt
        have hl2 : k < l'.length := by rw [H2.out]; exact hlt
        obtain ⟨a1, rfl, x1⟩ := HA.out k hl1
        obtain ⟨b1, rfl, x2⟩ := HB.out k hl2
        have hT1 := Lib.hid (show l.take (k + 1) = l.take k ++ [l[k]] from by rw [List.take_succ_eq_append_getElem hl1])
        have hT2 := Lib.hid (show l'.take (k + 1) = l'.take k ++ [l'[k]] from by rw [List.take_succ_eq_append_getElem hl2])
        have HNE := Lib.hid (show l[k] ≠ l'[k] → decide (l = l') = false from fun h => by
          rw [decide_eq_false_iff_not]
          intro e
          exact h (by simp only [e]))
        generalize l[k] = u at *
        generalize l'[k] = v at *
        by_cases huv : u = v
        · have HUV := Lib.hid huv
          have hne : ((u : Int) != (v : Int)) = false := by rw [huv]; simp
          clear huv
          go_wp2_with fail
          go_quiet (fail)
          go_wp2_with fail
          go_roundw
          case rel => exact ⟨k + 1, _, by omega, by go_num, by first | rfl | rw [World.drewN_drewN], by rw [hT1.out, hT2.out, HT.out, HUV.out]⟩
          case measure => simp [intOf]; omega
        · have HRS := Lib.hid (HNE.out huv)
          have hne : ((u : Int) != (v : Int)) = true := by rw [bne_iff_ne]; omega
          clear huv
          go_wp2_with fail
          go_quiet (fail)
          go_wp2_with fail
          go_ret
          exact ⟨by rw [HRS.out]; rfl, _, by first | rfl | rw [World.drewN_drewN]⟩
      · obtain rfl : k = m := by omega
        have HRS := Lib.hid (show decide (l = l') = true from by
          rw [decide_eq_true_eq]
          have := HT.out
          rwa [List.take_of_length_le (by rw [H1.out]; exact Nat.le_refl _), List.take_of_length_le (by rw [H2.out]; exact Nat.le_refl _)] at this)
        go_wp2_with fail
        go_ret
        exact ⟨by rw [HRS.out]; rfl, _, by first | rfl | rw [World.drewN_drewN]⟩
  · have HRS := Lib.hid (show decide (l = l') = false from by
      rw [decide_eq_false_iff_not]
      intro e
      have := congrArg List.length e
      rw [H1.out, H2.out] at this
      exact hmm this)
    have hne : ((m : Int) != (m' : Int)) = true := by rw [bne_iff_ne]; omega
    go_enter Tryd.func21, Tryd.ntmps21
    go_wp2_with fail
    go_ret
    exact ⟨by rw [HRS.out]; rfl, 0, rfl⟩
theorem bytes_beq (a b : ByteArray) : (a.toList == b.toList) = decide (a = b) := by
  rw [Bool.eq_iff_iff, beq_iff_eq, decide_eq_true_eq, ByteArray.toList_eq, ByteArray.toList_eq]
  constructor
  · intro h
    obtain ⟨⟨x⟩⟩ := a
    obtain ⟨⟨y⟩⟩ := b
    simp only at h
    rw [h]
  · intro h
    rw [h]
theorem bus_eqT (W : World) (s1 s2 : ByteArray) (x y : Int) : (Op.equalIn 10000 35 (.agg #[.string s1, .int .i64 x]) (.agg #[.string s2, .int .i64 y])).run Tryd.prog W = .ok (decide (s1 = s2) && decide (x = y)) W := by
  have h1 := Tryd.underlying35
  have h2 := Tryd.underlying9
  have h3 := Tryd.underlying3
  have hp : Tryd.prog.stoodInHeld 35 = false := by kernel_rfl
  have ht : Tryd.prog.underlying 35 = some (.struct (Tryd.prog.fieldsOf 35)) := by simp [Program.fieldsOf, h1]
  rw [show (10000 : Nat) = 9999 + 1 from rfl, run_equalIn_struct W 9999 _ _ _ ht hp]
  simp only [Program.fieldsOf, h1, Op.eqFields]
  have p1 : ∀ s z, (part 9 #[.string s, .int .i64 z] 0).run Tryd.prog W = .ok (.string s) W := fun s z => by simp [part, isAgg, run_underlying h2]
  have p2 : ∀ s z, (part 3 #[.string s, .int .i64 z] 1).run Tryd.prog W = .ok (.int .i64 z) W := fun s z => by simp [part, isAgg, run_underlying h3]
  have q1 := run_equalIn_string W 9998 9 s1 s2 h2
  have q2 := run_equalIn_int W 9998 3 .i64 .i64 x y h3
  rw [bytes_beq] at q1
  rw [if_pos (by decide)]
  simp only [Sem.run_bind, p1, Result.andThen_ok, q1]
  by_cases hs : s1 = s2
  · subst hs
    rw [if_neg (by simp), if_pos (by decide)]
    simp only [Sem.run_bind, p2, Result.andThen_ok, q2]
    by_cases hx : x = y
    · subst hx
      simp
    · simp [hx]
  · simp [hs]
set_option maxHeartbeats 800000 in
theorem eq_buses (a b : Option Addr) (m m' c d : Nat) (l l' : List (ByteArray × Int)) (w : World) (h1 : l.length = m) (h2 : l'.length = m') (hm : m ≤ 140737488351232) (hm' : m' ≤ 140737488351232) (ha : SlBus w a l) (hb : SlBus w b l') :
    Calls Tryd.prog 36 #[.slice a m c, .slice b m' d] w (EqIs (decide (l = l')) w) := by
  have H1 := Lib.hid h1
  have H2 := Lib.hid h2
  have HA := Lib.hid ha
  have HB := Lib.hid hb
  clear h1 h2 ha hb
  by_cases hmm : m = m'
  · subst hmm
    go_enter Tryd.func36, Tryd.ntmps36
    go_wp2_with fail
    go_loopw [13] (fun i wr => ∃ k q : Nat, k ≤ m ∧ i = .int .i64 k ∧ wr = w.drewN q ∧ l.take k = l'.take k) (fun i _ => m - (intOf i).toNat)
    case atStart => exact ⟨0, 0, Nat.zero_le _, rfl, rfl, rfl⟩
    case round =>
      obtain ⟨k, q, hk, rfl, rfl, htk⟩ := hrel
      have HT := Lib.hid htk
      clear htk
      by_cases hlt : k < m
      · have hl1 : k < l.length := by rw [H1.out]; exact hlt
        have hl2 : k < l'.length := by rw [H2.out]; exact hlt
        obtain ⟨b1, o1, rfl, x1, y1⟩ := HA.out k hl1
        obtain ⟨b2, o2, rfl, x2, y2⟩ := HB.out k hl2
        have hT1 := Lib.hid (show l.take (k + 1) = l.take k ++ [l[k]] from by rw [List.take_succ_eq_append_getElem hl1])
        have hT2 := Lib.hid (show l'.take (k + 1) = l'.take k ++ [l'[k]] from by rw [List.take_succ_eq_append_getElem hl2])
        have HNE := Lib.hid (show l[k] ≠ l'[k] → decide (l = l') = false from fun h => by
          rw [decide_eq_false_iff_not]
          intro e
          exact h (by simp only [e]))
        generalize l[k] = u at *
        generalize l'[k] = v at *
        obtain ⟨s1, i1⟩ := u
        obtain ⟨s2, i2⟩ := v
        simp only at x1 y1 x2 y2
        have htw := fun W => bus_eqT W s1 s2 i1 i2
        by_cases huv : s1 = s2 ∧ i1 = i2
        · have HUV := Lib.hid (show ((s1, i1) : ByteArray × Int) = (s2, i2) from by rw [huv.1, huv.2])
          have hd : (decide (s1 = s2) && decide (i1 = i2)) = true := by simp [huv]
          simp only [hd] at htw
          clear huv hd
          go_wp2_with fail
          go_quiet (fail)
          go_wp2_with fail
          go_roundw
          case rel => exact ⟨k + 1, _, by omega, by go_num, by first | rfl | rw [World.drewN_drewN], by rw [hT1.out, hT2.out, HT.out, HUV.out]⟩
          case measure => simp [intOf]; omega
        · have HRS := Lib.hid (HNE.out (fun e => huv (by injection e with e1 e2; exact ⟨e1, e2⟩)))
          have hd : (decide (s1 = s2) && decide (i1 = i2)) = false := by
            rw [Bool.and_eq_false_iff, decide_eq_false_iff_not, decide_eq_false_iff_not]
            by_cases h : s1 = s2
            · exact .inr fun h2 => huv ⟨h, h2⟩
            · exact .inl h
          simp only [hd] at htw
          clear huv hd
          go_wp2_with fail
          go_quiet (fail)
          go_wp2_with fail
          go_ret
          exact ⟨by rw [HRS.out]; rfl, _, by first | rfl | rw [World.drewN_drewN]⟩
      · obtain rfl : k = m := by omega
        have HRS := Lib.hid (show decide (l = l') = true from by
          rw [decide_eq_true_eq]
          have := HT.out
          rwa [List.take_of_length_le (by rw [H1.out]; exact Nat.le_refl _), List.take_of_length_le (by rw [H2.out]; exact Nat.le_refl _)] at this)
        go_wp2_with fail
        go_ret
        exact ⟨by rw [HRS.out]; rfl, _, by first | rfl | rw [World.drewN_drewN]⟩
  · have HRS := Lib.hid (show decide (l = l') = false from by
      rw [decide_eq_false_iff_not]
      intro e
      have := congrArg List.length e
      rw [H1.out, H2.out] at this
      exact hmm this)
    have hne : ((m : Int) != (m' : Int)) = true := by rw [bne_iff_ne]; omega
    go_enter Tryd.func36, Tryd.ntmps36
    go_wp2_with fail
    go_ret
    exact ⟨by rw [HRS.out]; rfl, 0, rfl⟩
theorem same1_c (a b : Option Addr) (m m' c d : Nat) (l l' : List Nat) (w : World) (h1 : l.length = m) (h2 : l'.length = m') (hm : m ≤ 140737488351232) (hm' : m' ≤ 140737488351232) (ha : SlN w .u64 a l) (hb : SlN w .u64 b l') :
    Calls Tryd.prog 37 #[.slice a m c, .slice b m' d] w (EqIs (decide (l = l')) w) := by
  have HE := Lib.hid (eq_words a b m m' c d l l' w h1 h2 hm hm' ha hb)
  clear h1 h2 ha hb
  go_enter Tryd.func37, Tryd.ntmps37
  go_wp2_with fail
  refine HE.out.mono ?_
  rintro e w1 ⟨rfl, hk⟩
  have HK := Lib.hid hk
  clear hk
  go_wp2_with fail
  go_ret
  exact ⟨rfl, HK.out⟩
set_option maxHeartbeats 800000 in
theorem eq_rows (a b : Option Addr) (m m' c d : Nat) (l l' : List WR) (w : World) (h1 : l.length = m) (h2 : l'.length = m') (hm : m ≤ 140737488351232) (hm' : m' ≤ 140737488351232) (ha : SlW w a l) (hb : SlW w b l') (hs : ∀ r ∈ l, r.l.length ≤ 140737488351232) (hs' : ∀ r ∈ l', r.l.length ≤ 140737488351232) :
    Calls Tryd.prog 27 #[.slice a m c, .slice b m' d, .func (.func 37) #[] #[]] w (EqIs (decide (l.map (·.l) = l'.map (·.l))) w) := by
  have H1 := Lib.hid h1
  have H2 := Lib.hid h2
  have HA := Lib.hid ha
  have HB := Lib.hid hb
  have HS := Lib.hid hs
  have HS' := Lib.hid hs'
  clear h1 h2 ha hb hs hs'
  by_cases hmm : m = m'
  · subst hmm
    go_enter Tryd.func27, Tryd.ntmps27
    go_wp2_with fail
    go_loopw [17] (fun i wr => ∃ k q : Nat, k ≤ m ∧ i = .int .i64 k ∧ wr = w.drewN q ∧ (l.take k).map (·.l) = (l'.take k).map (·.l)) (fun i _ => m - (intOf i).toNat)
    case atStart => exact ⟨0, 0, Nat.zero_le _, rfl, rfl, rfl⟩
    case round =>
      obtain ⟨k, q, hk, rfl, rfl, htk⟩ := hrel
      have HT := Lib.hid htk
      clear htk
      by_cases hlt : k < m
      · have hl1 : k < l.length := by rw [H1.out]; exact hlt
        have hl2 : k < l'.length := by rw [H2.out]; exact hlt
        obtain ⟨b1, o1, rfl, x1, y1⟩ := HA.out k hl1
        obtain ⟨b2, o2, rfl, x2, y2⟩ := HB.out k hl2
        have hT1 := Lib.hid (show (l.take (k + 1)).map (·.l) = (l.take k).map (·.l) ++ [l[k].l] from by rw [List.take_succ_eq_append_getElem hl1, List.map_append]; rfl)
        have hT2 := Lib.hid (show (l'.take (k + 1)).map (·.l) = (l'.take k).map (·.l) ++ [l'[k].l] from by rw [List.take_succ_eq_append_getElem hl2, List.map_append]; rfl)
        have HNE := Lib.hid (show l[k].l ≠ l'[k].l → decide (l.map (·.l) = l'.map (·.l)) = false from fun h => by
          rw [decide_eq_false_iff_not]
          intro e
          have h3 : (l.map (·.l))[k]'(by simpa using hl1) = (l'.map (·.l))[k]'(by simpa using hl2) := by simp only [e]
          exact h (by simpa using h3))
        have HC := Lib.hid (fun (W : World) (hW : Kept [] w W) => same1_c l[k].a l'[k].a l[k].l.length l'[k].l.length l[k].c l'[k].c l[k].l l'[k].l W rfl rfl (HS.out _ (List.getElem_mem hl1)) (HS'.out _ (List.getElem_mem hl2)) (y1.kept0 hW) (y2.kept0 hW))
        clear y1 y2
        generalize l[k] = u at *
        generalize l'[k] = v at *
        obtain ⟨l1, a1, c1⟩ := u
        obtain ⟨l2, a2, c2⟩ := v
        simp only at x1 x2
        generalize l1.length = n1 at *
        generalize l2.length = n2 at *
        by_cases huv : l1 = l2
        · have HUV := Lib.hid huv
          have hd : decide (l1 = l2) = true := by simp [huv]
          simp only [hd] at HC
          clear huv hd
          go_wp2_with fail
          refine (HC.out _ ((Kept.refl [] w).drewN q)).mono ?_
          rintro e w1 ⟨rfl, r, rfl⟩
          go_wp2_with fail
          go_roundw
          case rel => exact ⟨k + 1, q + r, by omega, by go_num, by first | rfl | rw [World.drewN_drewN], by rw [hT1.out, hT2.out, HT.out, HUV.out]⟩
          case measure => simp [intOf]; omega
        · have HRS := Lib.hid (HNE.out huv)
          have hd : decide (l1 = l2) = false := by simp [huv]
          simp only [hd] at HC
          clear huv hd
          go_wp2_with fail
          refine (HC.out _ ((Kept.refl [] w).drewN q)).mono ?_
          rintro e w1 ⟨rfl, r, rfl⟩
          go_wp2_with fail
          go_ret
          exact ⟨by rw [HRS.out]; rfl, q + r, by first | rfl | rw [World.drewN_drewN]⟩
      · obtain rfl : k = m := by omega
        have HRS := Lib.hid (show decide (l.map (·.l) = l'.map (·.l)) = true from by
          rw [decide_eq_true_eq]
          have := HT.out
          rwa [List.take_of_length_le (by rw [H1.out]; exact Nat.le_refl _), List.take_of_length_le (by rw [H2.out]; exact Nat.le_refl _)] at this)
        go_wp2_with fail
        go_ret
        exact ⟨by rw [HRS.out]; rfl, _, by first | rfl | rw [World.drewN_drewN]⟩
  · have HRS := Lib.hid (show decide (l.map (·.l) = l'.map (·.l)) = false from by
      rw [decide_eq_false_iff_not]
      intro e
      have := congrArg List.length e
      rw [List.length_map, List.length_map, H1.out, H2.out] at this
      exact hmm this)
    have hne : ((m : Int) != (m' : Int)) = true := by rw [bne_iff_ne]; omega
    go_enter Tryd.func27, Tryd.ntmps27
    go_wp2_with fail
    go_ret
    exact ⟨by rw [HRS.out]; rfl, 0, rfl⟩
/-- the same tables -/
def sameT (t u : Tb) : Bool := decide (t.bs = u.bs) && decide (t.rs = u.rs)
theorem sameT_iff (t u : Tb) : sameT t u = true ↔ t = u := by
  obtain ⟨a, b⟩ := t
  obtain ⟨c, d⟩ := u
  simp [sameT]
set_option maxHeartbeats 1600000 in
theorem tsame_c {ba ra ba' ra' : Option Addr} {bn bc rn rc bn' bc' rn' rc' : Nat} {t t' : Tb} {wl wl' : List WR} (h : TabV w ba bn bc ra rn rc t wl) (hok : t.ok) (h' : TabV w ba' bn' bc' ra' rn' rc' t' wl') (hok' : t'.ok) :
    Calls Tryd.prog 13 #[.agg #[.slice ba bn bc, .slice ra rn rc], .agg #[.slice ba' bn' bc', .slice ra' rn' rc']] w (BoolIs (sameT t t') w) := by
  have HT := Lib.hid h
  have HT' := Lib.hid h'
  have hbm : bn ≤ 140737488351232 := by rw [← h.bl]; exact hok.bl
  have hrm : rn ≤ 140737488351232 := by rw [← h.rlen]; exact hok.rl
  have hbm' : bn' ≤ 140737488351232 := by rw [← h'.bl]; exact hok'.bl
  have hrm' : rn' ≤ 140737488351232 := by rw [← h'.rlen]; exact hok'.rl
  have HB := Lib.hid (fun (W : World) (hW : Kept [] w W) => eq_buses ba ba' bn bn' bc bc' t.bs t'.bs W h.bl h'.bl hbm hbm' (h.bs.kept0 hW) (h'.bs.kept0 hW))
  have HR := Lib.hid (fun (W : World) (hW : Kept [] w W) => eq_rows ra ra' rn rn' rc rc' wl wl' W h.rl h'.rl hrm hrm' (h.rs.kept0 hW) (h'.rs.kept0 hW)
    (fun r hr => (hok.rw r.l (by rw [← h.rm]; exact List.mem_map_of_mem hr)).2) (fun r hr => (hok'.rw r.l (by rw [← h'.rm]; exact List.mem_map_of_mem hr)).2))
  rw [h.rm, h'.rm] at HR
  clear h hok h' hok'
  go_enter Tryd.func13, Tryd.ntmps13
  cases hb : decide (t.bs = t'.bs) with
  | false =>
    have HS := Lib.hid (show sameT t t' = false from by simp [sameT, hb])
    rw [hb] at HB
    clear hb
    go_wp2_with fail
    refine (HB.out _ (((Kept.refl [] w).alloc _).alloc _)).mono ?_
    rintro e w1 ⟨rfl, k, rfl⟩
    go_wp2_with fail
    go_ret
    exact ⟨by rw [HS.out]; rfl, (((Kept.refl [] w).alloc _).alloc _).drewN k⟩
  | true =>
    have HS := Lib.hid (show sameT t t' = decide (t.rs = t'.rs) from by simp [sameT, hb])
    rw [hb] at HB
    clear hb
    go_wp2_with fail
    refine (HB.out _ (((Kept.refl [] w).alloc _).alloc _)).mono ?_
    rintro e w1 ⟨rfl, k, rfl⟩
    go_wp2_with fail
    refine (HR.out _ ((((Kept.refl [] w).alloc _).alloc _).drewN k)).mono ?_
    rintro e w1 ⟨rfl, q, rfl⟩
    go_wp2_with fail
    go_ret
    exact ⟨by rw [HS.out]; rfl, (((Kept.refl [] w).alloc _).alloc _).drewN (k + q)⟩
end Go.Proofs.YtjgcfncganleoaaDoor
