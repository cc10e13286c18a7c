/-
  Law 09's document: the same buses; the same tables.
-/
import Derived.Test.YtjgcfncganleoaaDoorRtD
namespace Go.Proofs.YtjgcfncganleoaaDoor
open Go.ChangeShapes Go.WideShapes Go.ChangeAt Go.RowKit
set_option linter.unusedVariables false
set_option linter.unusedSimpArgs false

variable {w w' w1 W : World}
theorem rbus_eqT (W : World) (s1 s2 : ByteArray) (x y : Int) : (Op.equalIn 10000 85 (.agg #[.string s1, .int .i64 x]) (.agg #[.string s2, .int .i64 y])).run Tryd.prog W = .ok (decide (s1 = s2) && decide (x = y)) W := by
  have h1 := Tryd.underlying85
  have h2 := Tryd.underlying9
  have h3 := Tryd.underlying3
  have hp : Tryd.prog.stoodInHeld 85 = false := by kernel_rfl
  have ht : Tryd.prog.underlying 85 = some (.struct (Tryd.prog.fieldsOf 85)) := by simp [Program.fieldsOf, h1]
  rw [show (10000 : Nat) = 9999 + 1 from rfl, run_equalIn_struct W 9999 _ _ _ ht hp]
  simp only [Program.fieldsOf, h1, Op.eqFields]
  have p1 : ∀ s z, (part 9 #[.string s, .int .i64 z] 0).run Tryd.prog W = .ok (.string s) W := fun s z => by simp [part, isAgg, run_underlying h2]
  have p2 : ∀ s z, (part 3 #[.string s, .int .i64 z] 1).run Tryd.prog W = .ok (.int .i64 z) W := fun s z => by simp [part, isAgg, run_underlying h3]
  have q1 := run_equalIn_string W 9998 9 s1 s2 h2
  have q2 := run_equalIn_int W 9998 3 .i64 .i64 x y h3
  rw [bytes_beq] at q1
  rw [if_pos (by decide)]
  simp only [Sem.run_bind, p1, Result.andThen_ok, q1]
  by_cases hs : s1 = s2
  · subst hs
    rw [if_neg (by simp), if_pos (by decide)]
    simp only [Sem.run_bind, p2, Result.andThen_ok, q2]
    by_cases hx : x = y
    · subst hx
      simp
    · simp [hx]
  · simp [hs]
/-- two tables boxed -/
theorem box_two (w : World) (ty : TypeId) (a b c d : Value) : Kept [] w ((w.alloc (.cells #[a, b] ty)).alloc (.cells #[c, d] ty)) ∧
    (((w.alloc (.cells #[a, b] ty)).alloc (.cells #[c, d] ty)).cell? ⟨w.heap.size, 0, none⟩ = some a ∧ ((w.alloc (.cells #[a, b] ty)).alloc (.cells #[c, d] ty)).cell? ⟨w.heap.size, 1, none⟩ = some b) ∧
    ((w.alloc (.cells #[a, b] ty)).alloc (.cells #[c, d] ty)).cell? ⟨w.heap.size + 1, 0, none⟩ = some c ∧ ((w.alloc (.cells #[a, b] ty)).alloc (.cells #[c, d] ty)).cell? ⟨w.heap.size + 1, 1, none⟩ = some d := by
  refine ⟨((Kept.refl [] w).alloc _).alloc _, ⟨cell_alloc (blk_cell (heap_alloc_new w _) 0) _, cell_alloc (blk_cell (heap_alloc_new w _) 1) _⟩, ?_⟩
  have h := heap_alloc_new (w.alloc (.cells #[a, b] ty)) (.cells #[c, d] ty)
  have hs : (w.alloc (.cells #[a, b] ty)).heap.size = w.heap.size + 1 := by simp
  rw [hs] at h
  exact ⟨blk_cell h 0, blk_cell h 1⟩
set_option maxHeartbeats 1600000 in
set_option maxRecDepth 100000 in
theorem rbuses_c {ba ra ba' ra' : Option Addr} {bn bc rn rc bn' bc' rn' rc' : Nat} {t t' : Tb} {wl wl' : List WR} (h : TabV w ba bn bc ra rn rc t wl) (hok : t.ok) (h' : TabV w ba' bn' bc' ra' rn' rc' t' wl') (hok' : t'.ok) :
    Calls Tryd.prog 46 #[.agg #[.slice ba bn bc, .slice ra rn rc], .agg #[.slice ba' bn' bc', .slice ra' rn' rc']] w (BoolIs (decide (t.bs = t'.bs)) w) := by
  have HT := Lib.hid h
  have HT' := Lib.hid h'
  have hbm : bn ≤ 140737488351232 := by rw [← h.bl]; exact hok.bl
  have hbm' : bn' ≤ 140737488351232 := by rw [← h'.bl]; exact hok'.bl
  clear h hok h' hok'
  go_enter Tryd.func46, Tryd.ntmps46; (try simp only [List.append])
  go_upto_region 1 with (fail)
  have HBX := box_two w 42 (.slice ba bn bc) (.slice ra rn rc) (.slice ba' bn' bc') (.slice ra' rn' rc')
  obtain ⟨p, hp⟩ : ∃ q, q = w.heap.size := ⟨_, rfl⟩
  obtain ⟨p', hp'⟩ : ∃ q, q = w.heap.size + 1 := ⟨_, rfl⟩
  rw [← hp', ← hp] at HBX
  try rw [← hp']
  try rw [← hp]
  clear hp hp'
  generalize (w.alloc (.cells #[.slice ba bn bc, .slice ra rn rc] 42)).alloc (.cells #[.slice ba' bn' bc', .slice ra' rn' rc'] 42) = w2 at *
  obtain ⟨k2, ⟨c0, c1⟩, c0', c1'⟩ := HBX
  have K2 := Lib.hid k2
  clear k2
  by_cases hmm : bn = bn'
  rotate_left
  · have HRS := Lib.hid (show decide (t.bs = t'.bs) = false from by
      rw [decide_eq_false_iff_not]
      intro e
      have := congrArg List.length e
      rw [HT.out.bl, HT'.out.bl] at this
      exact hmm this)
    have hne : ((bn : Int) != (bn' : Int)) = true := by rw [bne_iff_ne]; omega
    go_wp2_with fail
    go_ret
    exact ⟨by rw [HRS.out]; rfl, K2.out⟩
  subst hmm
  go_wp2_with fail
  go_loopw [5] (fun i wr => ∃ k q : Nat, k ≤ bn ∧ i = .int .i64 k ∧ wr = w2.drewN q ∧ t.bs.take k = t'.bs.take k) (fun i _ => bn - (intOf i).toNat)
  case atStart => exact ⟨0, 0, Nat.zero_le _, rfl, rfl, rfl⟩
  case round =>
    obtain ⟨k, q, hk, rfl, rfl, htk⟩ := hrel
    have HTK := Lib.hid htk
    clear htk
    by_cases hlt : k < bn
    · have hl1 : k < t.bs.length := by rw [HT.out.bl]; exact hlt
      have hl2 : k < t'.bs.length := by rw [HT'.out.bl]; exact hlt
      obtain ⟨b1, o1, rfl, x1, y1⟩ := (HT.out.bs.kept0 K2.out) k hl1
      obtain ⟨b2, o2, rfl, x2, y2⟩ := (HT'.out.bs.kept0 K2.out) k hl2
      have hT1 := Lib.hid (show t.bs.take (k + 1) = t.bs.take k ++ [t.bs[k]] from by rw [List.take_succ_eq_append_getElem hl1])
      have hT2 := Lib.hid (show t'.bs.take (k + 1) = t'.bs.take k ++ [t'.bs[k]] from by rw [List.take_succ_eq_append_getElem hl2])
      have HNE := Lib.hid (show t.bs[k] ≠ t'.bs[k] → decide (t.bs = t'.bs) = false from fun h => by
        rw [decide_eq_false_iff_not]
        intro e
        exact h (by simp only [e]))
      generalize t.bs[k] = u at *
      generalize t'.bs[k] = v at *
      obtain ⟨s1, i1⟩ := u
      obtain ⟨s2, i2⟩ := v
      simp only at x1 y1 x2 y2
      have htw := fun W => rbus_eqT W s1 s2 i1 i2
      by_cases huv : s1 = s2 ∧ i1 = i2
      · have HUV := Lib.hid (show ((s1, i1) : ByteArray × Int) = (s2, i2) from by rw [huv.1, huv.2])
        have hd : (decide (s1 = s2) && decide (i1 = i2)) = true := by simp [huv]
        simp only [hd] at htw
        clear huv hd
        go_wp2_with fail
        go_quiet (fail)
        go_wp2_with fail
        go_roundw
        case rel => exact ⟨k + 1, _, by omega, by go_num, by first | rfl | rw [World.drewN_drewN], by rw [hT1.out, hT2.out, HTK.out, HUV.out]⟩
        case measure => simp [intOf]; omega
      · have HRS := Lib.hid (HNE.out (fun e => huv (by injection e with e1 e2; exact ⟨e1, e2⟩)))
        have hd : (decide (s1 = s2) && decide (i1 = i2)) = false := by
          rw [Bool.and_eq_false_iff, decide_eq_false_iff_not, decide_eq_false_iff_not]
          by_cases h : s1 = s2
          · exact .inr fun h2 => huv ⟨h, h2⟩
          · exact .inl h
        simp only [hd] at htw
        clear huv hd
        go_wp2_with fail
        go_quiet (fail)
        go_wp2_with fail
        go_ret
        exact ⟨by rw [HRS.out]; rfl, (K2.out.drewN _).drewN _⟩
    · obtain rfl : k = bn := by omega
      have HRS := Lib.hid (show decide (t.bs = t'.bs) = true from by
        rw [decide_eq_true_eq]
        have := HTK.out
        rwa [List.take_of_length_le (by rw [HT.out.bl]; exact Nat.le_refl _), List.take_of_length_le (by rw [HT'.out.bl]; exact Nat.le_refl _)] at this)
      go_wp2_with fail
      go_ret
      exact ⟨by rw [HRS.out]; rfl, K2.out.drewN _⟩
/-- tables of as many rows, which are the same as far as k -/
theorem rows_decide {t t' : Tb} (hb : t.bs = t'.bs) (hr : t.rs = t'.rs) : sameT t t' = true := by simp [sameT, hb, hr]
set_option maxHeartbeats 3200000 in
set_option maxRecDepth 100000 in
theorem rsame_c {ba ra ba' ra' : Option Addr} {bn bc rn rc bn' bc' rn' rc' : Nat} {t t' : Tb} {wl wl' : List WR} (h : TabV w ba bn bc ra rn rc t wl) (hok : t.ok) (h' : TabV w ba' bn' bc' ra' rn' rc' t' wl') (hok' : t'.ok) :
    Calls Tryd.prog 23 #[.agg #[.slice ba bn bc, .slice ra rn rc], .agg #[.slice ba' bn' bc', .slice ra' rn' rc']] w (BoolIs (sameT t t') w) := by
  have HT := Lib.hid h
  have HT' := Lib.hid h'
  have HOK := Lib.hid hok
  have HOK' := Lib.hid hok'
  have hrm : rn ≤ 140737488351232 := by rw [← h.rlen]; exact hok.rl
  have hrm' : rn' ≤ 140737488351232 := by rw [← h'.rlen]; exact hok'.rl
  have HB := Lib.hid (fun (W : World) (hW : Kept [] w W) => rbuses_c (h.kept0 hW) hok (h'.kept0 hW) hok')
  clear h hok h' hok'
  go_enter Tryd.func23, Tryd.ntmps23; (try simp only [List.append])
  go_upto_region 1 with (fail)
  have HBX := box_two w 42 (.slice ba bn bc) (.slice ra rn rc) (.slice ba' bn' bc') (.slice ra' rn' rc')
  obtain ⟨p, hp⟩ : ∃ q, q = w.heap.size := ⟨_, rfl⟩
  obtain ⟨p', hp'⟩ : ∃ q, q = w.heap.size + 1 := ⟨_, rfl⟩
  rw [← hp', ← hp] at HBX
  try rw [← hp']
  try rw [← hp]
  clear hp hp'
  generalize (w.alloc (.cells #[.slice ba bn bc, .slice ra rn rc] 42)).alloc (.cells #[.slice ba' bn' bc', .slice ra' rn' rc'] 42) = w2 at *
  obtain ⟨k2, ⟨c0, c1⟩, c0', c1'⟩ := HBX
  have K2 := Lib.hid k2
  have C0 := Lib.hid (And.intro c0 (And.intro c1 (And.intro c0' c1')))
  clear k2
  cases hbe : decide (t.bs = t'.bs) with
  | false =>
    have HRS := Lib.hid (show sameT t t' = false from by simp [sameT, hbe])
    rw [hbe] at HB
    clear hbe
    go_wp2_with fail
    refine (HB.out _ K2.out).mono ?_
    rintro e w3 ⟨rfl, k3⟩
    have K3 := Lib.hid (K2.out.trans k3)
    clear k3
    go_wp2_with fail
    go_ret
    exact ⟨by rw [HRS.out]; rfl, K3.out⟩
  | true =>
  have HBS := Lib.hid (of_decide_eq_true hbe)
  rw [hbe] at HB
  clear hbe
  go_wp2_with fail
  refine (HB.out _ K2.out).mono ?_
  rintro e w3 ⟨rfl, k3⟩
  have K3 := Lib.hid (K2.out.trans k3)
  have d0 := k3.cell c0 (by simp)
  have d1 := k3.cell c1 (by simp)
  have d0' := k3.cell c0' (by simp)
  have d1' := k3.cell c1' (by simp)
  clear k3 c0 c1 c0' c1' HB C0
  by_cases hmm : rn = rn'
  rotate_left
  · have HRS := Lib.hid (show sameT t t' = false from by
      rw [← Bool.not_eq_true, sameT_iff]
      rintro rfl
      exact hmm (by rw [← HT.out.rlen, HT'.out.rlen]))
    have hne : ((rn : Int) != (rn' : Int)) = true := by rw [bne_iff_ne]; omega
    go_wp2_with fail
    go_ret
    exact ⟨by rw [HRS.out]; rfl, K3.out⟩
  subst hmm
  have D1 := Lib.hid (And.intro d1 d1')
  go_wp2_with fail
  clear d1 d1' d0 d0'
  go_loopw [5] (fun i wr => ∃ k q : Nat, k ≤ rn ∧ i = .int .i64 k ∧ wr = w3.drewN q ∧ t.rs.take k = t'.rs.take k) (fun i _ => rn - (intOf i).toNat)
  case atStart => exact ⟨0, 0, Nat.zero_le _, rfl, rfl, rfl⟩
  case round =>
    obtain ⟨k, q, hk, rfl, rfl, htk⟩ := hrel
    have HTK := Lib.hid htk
    obtain ⟨d1, d1'⟩ := D1.out
    clear htk
    by_cases hlt : k < rn
    · have hl1 : k < wl.length := by rw [HT.out.rl]; exact hlt
      have hl2 : k < wl'.length := by rw [HT'.out.rl]; exact hlt
      obtain ⟨b1, o1, rfl, x1, y1⟩ := (HT.out.rs.kept0 K3.out) k hl1
      obtain ⟨b2, o2, rfl, x2, y2⟩ := (HT'.out.rs.kept0 K3.out) k hl2
      have HR1 := Lib.hid (HT.out.row k hl1)
      have HR2 := Lib.hid (HT'.out.row k hl2)
      have hT1 := Lib.hid (show t.rs.take (k + 1) = t.rs.take k ++ [wl[k].l] from by rw [List.take_add_one, HR1.out]; rfl)
      have hT2 := Lib.hid (show t'.rs.take (k + 1) = t'.rs.take k ++ [wl'[k].l] from by rw [List.take_add_one, HR2.out]; rfl)
      have HNE := Lib.hid (show wl[k].l ≠ wl'[k].l → sameT t t' = false from fun h => by
        rw [← Bool.not_eq_true, sameT_iff]
        intro e
        have h1 := HR1.out
        rw [e, HR2.out] at h1
        exact h (Option.some.inj h1).symm)
      have HW1 := Lib.hid (HOK.out.rw _ (List.mem_of_getElem? HR1.out)).2
      have HW2 := Lib.hid (HOK'.out.rw _ (List.mem_of_getElem? HR2.out)).2
      clear HR1 HR2
      generalize wl[k] = u at *
      generalize wl'[k] = v at *
      obtain ⟨l, la, lc⟩ := u
      obtain ⟨l', la', lc'⟩ := v
      simp only at x1 y1 x2 y2 hT1 hT2 HNE HW1 HW2
      have HY := Lib.hid (And.intro y1 y2)
      clear y1 y2
      obtain ⟨m, hm⟩ : ∃ m, m = l.length := ⟨_, rfl⟩
      obtain ⟨m', hm'⟩ : ∃ m, m = l'.length := ⟨_, rfl⟩
      have HM := Lib.hid (And.intro hm hm')
      have hmb : m ≤ 140737488351232 := by rw [hm]; exact HW1.out
      have hmb' : m' ≤ 140737488351232 := by rw [hm']; exact HW2.out
      rw [← hm] at x1
      rw [← hm'] at x2
      clear hm hm'
      by_cases hlm : m = m'
      rotate_left
      · have HRS := Lib.hid (HNE.out (fun e => hlm (by rw [HM.out.1, HM.out.2, e])))
        have hne : ((m : Int) != (m' : Int)) = true := by rw [bne_iff_ne]; omega
        go_wp2_with fail
        go_quiet (fail)
        go_wp2_with fail
        go_ret
        exact ⟨by rw [HRS.out]; rfl, (K3.out.drewN _).drewN _⟩
      subst hlm
      have X12 := Lib.hid (And.intro x1 x2)
      have hne : ((m : Int) != (m : Int)) = false := by simp
      go_wp2_with fail
      go_quiet (fail)
      go_wp2_with fail
      clear d1 d1' x1 x2
      go_loopw [6] (fun i2 wr => ∃ (k2 q2 : Nat), k2 ≤ m ∧ i2 = .int .i64 k2 ∧ wr = w3.drewN q2 ∧ l.take k2 = l'.take k2) (fun i2 _ => m - (intOf i2).toNat)
      case atStart => exact ⟨0, _, Nat.zero_le _, rfl, by first | rfl | rw [World.drewN_drewN], rfl⟩
      case round =>
        obtain ⟨k2, q2, hk2, rfl, rfl, htk2⟩ := hrel
        have HTK2 := Lib.hid htk2
        obtain ⟨d1, d1'⟩ := D1.out
        obtain ⟨x1, x2⟩ := X12.out
        clear htk2
        by_cases hlt2 : k2 < m
        · have hkl : k2 < l.length := by rw [← HM.out.1]; exact hlt2
          have hkl' : k2 < l'.length := by rw [← HM.out.2]; exact hlt2
          obtain ⟨ad, rfl, y⟩ := HY.out.1 k2 hkl
          obtain ⟨ad', rfl, y'⟩ := HY.out.2 k2 hkl'
          have hT3 := Lib.hid (show l.take (k2 + 1) = l.take k2 ++ [l[k2]] from by rw [List.take_succ_eq_append_getElem hkl])
          have hT4 := Lib.hid (show l'.take (k2 + 1) = l'.take k2 ++ [l'[k2]] from by rw [List.take_succ_eq_append_getElem hkl'])
          have HNE2 := Lib.hid (show l[k2] ≠ l'[k2] → sameT t t' = false from fun h => HNE.out (fun e => h (by simp only [e])))
          generalize l[k2] = z at *
          generalize l'[k2] = z' at *
          by_cases hz : z = z'
          · have HZ := Lib.hid hz
            have hne2 : ((z : Int) != (z' : Int)) = false := by rw [hz]; simp
            clear hz
            go_wp2_with fail
            go_quiet (fail)
            go_wp2_with fail
            go_roundw
            case rel => exact ⟨k2 + 1, _, by omega, by go_num, by first | rfl | rw [World.drewN_drewN], by rw [hT3.out, hT4.out, HTK2.out, HZ.out]⟩
            case measure => simp [intOf]; omega
          · have HRS := Lib.hid (HNE2.out hz)
            have hne2 : ((z : Int) != (z' : Int)) = true := by rw [bne_iff_ne]; omega
            clear hz
            go_wp2_with fail
            go_quiet (fail)
            go_wp2_with fail
            go_ret
            exact ⟨by rw [HRS.out]; rfl, (K3.out.drewN _).drewN _⟩
        · obtain rfl : k2 = m := by omega
          have HLL := Lib.hid (show l = l' from by
            have := HTK2.out
            rwa [List.take_of_length_le (by rw [← HM.out.1]; exact Nat.le_refl _), List.take_of_length_le (by rw [← HM.out.2]; exact Nat.le_refl _)] at this)
          go_wp2_with fail
          go_roundw
          case rel => exact ⟨k + 1, _, by omega, by go_num, rfl, by rw [hT1.out, hT2.out, HTK.out, HLL.out]⟩
          case measure => simp [intOf]; omega
    · obtain rfl : k = rn := by omega
      have HRS := Lib.hid (show sameT t t' = true from rows_decide HBS.out (by
        have := HTK.out
        rwa [List.take_of_length_le (by rw [HT.out.rlen]; exact Nat.le_refl _), List.take_of_length_le (by rw [HT'.out.rlen]; exact Nat.le_refl _)] at this))
      go_wp2_with fail
      go_ret
      exact ⟨by rw [HRS.out]; rfl, K3.out.drewN _⟩
end Go.Proofs.YtjgcfncganleoaaDoor
