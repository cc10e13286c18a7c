/-
  Package trace: Differ.
-/
import Derived.Test.YtjgcfncganleoaaDoorTrcD
namespace Go.Proofs.YtjgcfncganleoaaDoor
open Go.ChangeShapes Go.WideShapes Go.ChangeAt Go.RowKit
open Go.Maps (Keyed)
open Go.WideMaps
set_option linter.unusedVariables false
set_option linter.unusedSimpArgs false

variable {w w' : World} {S : List Nat}
theorem mayT_parts {t : Tb} (h : mayT t = true) : busesB t.bs = true ∧ rowsB t = true ∧ 1 ≤ t.bs.length ∧ t.bs.length ≤ 512 ∧ t.rs.length ≤ 4096 := by
  unfold mayT at h
  simp only [Bool.and_eq_true, decide_eq_true_eq] at h
  exact ⟨h.1, h.2.1, h.2.2.1, h.2.2.2.1, h.2.2.2.2⟩
theorem mayT_row {t : Tb} (h : mayT t = true) : ∀ r ∈ t.rs, r.length = t.bs.length := by
  intro r hr
  have h2 := (mayT_parts h).2.1
  unfold rowsB at h2
  rw [List.all_eq_true] at h2
  have := h2 r hr
  unfold rowB at this
  simp only [Bool.and_eq_true, decide_eq_true_eq] at this
  exact this.1
/-- the number at a row and a bus -/
def atT (t : Tb) (i k : Nat) : Nat := (t.rs.getD i []).getD k 0
/-- where two tables differ first -/
def DiffIs (t u : Tb) (r : Nat × Nat × Bool) : Prop :=
  (¬ (mayT t = true ∧ mayT u = true ∧ t.bs = u.bs) ∧ r = (0, 0, true)) ∨
  (mayT t = true ∧ mayT u = true ∧ t.bs = u.bs ∧
    ((∃ i k, i < min t.rs.length u.rs.length ∧ k < t.bs.length ∧ atT t i k ≠ atT u i k ∧ (∀ i', i' < i → ∀ k', k' < t.bs.length → atT t i' k' = atT u i' k') ∧ (∀ k', k' < k → atT t i k' = atT u i k') ∧ r = (i, k, true)) ∨
     ((∀ i', i' < min t.rs.length u.rs.length → ∀ k', k' < t.bs.length → atT t i' k' = atT u i' k') ∧
      (t.rs.length ≠ u.rs.length ∧ r = (min t.rs.length u.rs.length, 0, true) ∨ t.rs.length = u.rs.length ∧ r = (0, 0, false)))))
theorem DiffIs.unique {t u : Tb} {r s : Nat × Nat × Bool} (h : DiffIs t u r) (k : DiffIs t u s) : r = s := by
  rcases h with ⟨h1, rfl⟩ | ⟨a1, a2, a3, h⟩
  · rcases k with ⟨_, rfl⟩ | ⟨b1, b2, b3, _⟩
    · rfl
    · exact absurd ⟨b1, b2, b3⟩ h1
  · rcases k with ⟨k1, rfl⟩ | ⟨_, _, _, k⟩
    · exact absurd ⟨a1, a2, a3⟩ k1
    · rcases h with ⟨i, c, hi, hc, hne, hb, hk, rfl⟩ | ⟨ha, hx⟩
      · rcases k with ⟨i', c', hi', hc', hne', hb', hk', rfl⟩ | ⟨kb, _⟩
        · have hii : i = i' := by
            rcases Nat.lt_trichotomy i i' with h | h | h
            · exact absurd (hb' i h c hc) hne
            · exact h
            · exact absurd (hb i' h c' hc') hne'
          subst hii
          have hcc : c = c' := by
            rcases Nat.lt_trichotomy c c' with h | h | h
            · exact absurd (hk' c h) hne
            · exact h
            · exact absurd (hk c' h) hne'
          subst hcc
          rfl
        · exact absurd (kb i hi c hc) hne
      · rcases k with ⟨i', c', hi', hc', hne', _⟩ | ⟨_, kx⟩
        · exact absurd (ha i' hi' c' hc') hne'
        · rcases hx with ⟨h1, rfl⟩ | ⟨h1, rfl⟩ <;> rcases kx with ⟨k1, rfl⟩ | ⟨k1, rfl⟩
          · rfl
          · exact absurd k1 h1
          · exact absurd h1 k1
          · rfl
def DiffPost (t u : Tb) (w : World) (e : Ending) (w' : World) : Prop :=
  ∃ i k b, e = .returned (.tuple #[.int .i64 ((i : Nat) : Int), .int .i64 ((k : Nat) : Int), .bool b]) ∧ DiffIs t u (i, k, b) ∧ Kept [] w w'
set_option maxHeartbeats 3200000 in
set_option maxRecDepth 100000 in
theorem differ_c {ba ra ba' ra' : Option Addr} {bn bc rn rc bn' bc' rn' rc' : Nat} {t t' : Tb} {wl wl' : List WR} (h : TabV w ba bn bc ra rn rc t wl) (hok : t.ok) (h' : TabV w ba' bn' bc' ra' rn' rc' t' wl') (hok' : t'.ok) :
    Calls Tryd.prog 11 #[.agg #[.slice ba bn bc, .slice ra rn rc], .agg #[.slice ba' bn' bc', .slice ra' rn' rc']] w (DiffPost t t' w) := by
  have HT := Lib.hid h
  have HT' := Lib.hid h'
  have hbm : bn ≤ 140737488351232 := by rw [← h.bl]; exact hok.bl
  have hrm : rn ≤ 140737488351232 := by rw [← h.rlen]; exact hok.rl
  have hbm' : bn' ≤ 140737488351232 := by rw [← h'.bl]; exact hok'.bl
  have hrm' : rn' ≤ 140737488351232 := by rw [← h'.rlen]; exact hok'.rl
  have HB := Lib.hid (fun (W : World) (hW : Kept [] w W) => eq_buses ba ba' bn bn' bc bc' t.bs t'.bs W h.bl h'.bl hbm hbm' (h.bs.kept0 hW) (h'.bs.kept0 hW))
  have HM := Lib.hid (fun (W : World) (hW : Kept [] w W) => may_c (h.kept0 hW) hok)
  have HM' := Lib.hid (fun (W : World) (hW : Kept [] w W) => may_c (h'.kept0 hW) hok')
  clear h hok h' hok'
  go_enter Tryd.func11, Tryd.ntmps11; (try simp only [List.append])
  go_upto_region 1 with (fail)
  obtain ⟨p, hp⟩ : ∃ q, q = w.heap.size := ⟨_, rfl⟩
  obtain ⟨p', hp'⟩ : ∃ q, q = w.heap.size + 1 := ⟨_, rfl⟩
  obtain ⟨w2, hw2⟩ : ∃ W, W = (w.alloc (.cells #[.slice ba bn bc, .slice ra rn rc] 25)).alloc (.cells #[.slice ba' bn' bc', .slice ra' rn' rc'] 25) := ⟨_, rfl⟩
  have K2 := Lib.hid (show Kept [] w w2 from by rw [hw2]; exact ((Kept.refl [] w).alloc _).alloc _)
  have C0 := Lib.hid (show (w2.cell? ⟨p, 0, none⟩ = some (.slice ba bn bc) ∧ w2.cell? ⟨p, 1, none⟩ = some (.slice ra rn rc)) ∧ w2.cell? ⟨p', 0, none⟩ = some (.slice ba' bn' bc') ∧ w2.cell? ⟨p', 1, none⟩ = some (.slice ra' rn' rc') from by
    rw [hw2, hp, hp']
    refine ⟨⟨cell_alloc (blk_cell (heap_alloc_new w _) 0) _, cell_alloc (blk_cell (heap_alloc_new w _) 1) _⟩, ?_⟩
    have h := heap_alloc_new (w.alloc (.cells #[.slice ba bn bc, .slice ra rn rc] 25)) (.cells #[.slice ba' bn' bc', .slice ra' rn' rc'] 25)
    have hs : (w.alloc (.cells #[.slice ba bn bc, .slice ra rn rc] 25)).heap.size = w.heap.size + 1 := by simp
    rw [hs] at h
    exact ⟨blk_cell h 0, blk_cell h 1⟩)
  try rw [← hp']
  try rw [← hp]
  try rw [← hw2]
  clear hp hp' hw2
  go_cut [25] (fun bv wx => bv = .bool (!(mayT t && (mayT t' && decide (t.bs = t'.bs)))) ∧ Kept [] w2 wx)
  case first =>
    have c0 := C0.out.1.1
    have c1 := C0.out.1.2
    have c0' := C0.out.2.1
    have c1' := C0.out.2.2
    cases hm : mayT t with
    | false =>
      rw [hm] at HM
      have Hm := Lib.hid hm
      clear hm
      go_wp2_with fail
      refine (HM.out _ K2.out).mono ?_
      rintro e w3 ⟨rfl, k3⟩
      have K3 := Lib.hid k3
      clear k3
      go_wp2_with fail
      go_meet
      exact ⟨by rw [Hm.out]; rfl, K3.out⟩
    | true =>
      rw [hm] at HM
      have Hm := Lib.hid hm
      clear hm
      go_wp2_with fail
      refine (HM.out _ K2.out).mono ?_
      rintro e w3 ⟨rfl, k3⟩
      have K3 := Lib.hid k3
      have d0' := k3.cell c0' (by simp)
      have d1' := k3.cell c1' (by simp)
      have d0 := k3.cell c0 (by simp)
      clear k3
      cases hm' : mayT t' with
      | false =>
        rw [hm'] at HM'
        have Hm' := Lib.hid hm'
        clear hm'
        go_wp2_with fail
        refine (HM'.out _ (K2.out.trans K3.out)).mono ?_
        rintro e w4 ⟨rfl, k4⟩
        have K4 := Lib.hid (K3.out.trans k4)
        clear k4
        go_wp2_with fail
        go_meet
        exact ⟨by rw [Hm.out, Hm'.out]; rfl, K4.out⟩
      | true =>
        rw [hm'] at HM'
        have Hm' := Lib.hid hm'
        clear hm'
        cases hb : decide (t.bs = t'.bs) with
        | false =>
          have Hb := Lib.hid hb
          rw [hb] at HB
          clear hb
          go_wp2_with fail
          refine (HM'.out _ (K2.out.trans K3.out)).mono ?_
          rintro e w4 ⟨rfl, k4⟩
          have K4 := Lib.hid (K3.out.trans k4)
          have e0' := k4.cell d0' (by simp)
          have e0 := k4.cell d0 (by simp)
          clear k4
          go_wp2_with fail
          refine (HB.out _ (K2.out.trans K4.out)).mono ?_
          rintro e w5 ⟨rfl, q, rfl⟩
          go_wp2_with fail
          go_meet
          exact ⟨by rw [Hm.out, Hm'.out, Hb.out]; rfl, K4.out.drewN q⟩
        | true =>
          have Hb := Lib.hid hb
          rw [hb] at HB
          clear hb
          go_wp2_with fail
          refine (HM'.out _ (K2.out.trans K3.out)).mono ?_
          rintro e w4 ⟨rfl, k4⟩
          have K4 := Lib.hid (K3.out.trans k4)
          have e0' := k4.cell d0' (by simp)
          have e0 := k4.cell d0 (by simp)
          clear k4
          go_wp2_with fail
          refine (HB.out _ (K2.out.trans K4.out)).mono ?_
          rintro e w5 ⟨rfl, q, rfl⟩
          go_wp2_with fail
          go_meet
          exact ⟨by rw [Hm.out, Hm'.out, Hb.out]; rfl, K4.out.drewN q⟩
  case rest =>
    obtain ⟨rfl, hk3⟩ := hcut
    obtain ⟨w3, rfl⟩ : ∃ v : World, v = wc := ⟨_, rfl⟩
    have K3 := Lib.hid (K2.out.trans hk3)
    have c0 := hk3.cell C0.out.1.1 (by simp)
    have c1 := hk3.cell C0.out.1.2 (by simp)
    have c0' := hk3.cell C0.out.2.1 (by simp)
    have c1' := hk3.cell C0.out.2.2 (by simp)
    clear hk3 HM HM' HB
    cases hall : (mayT t && (mayT t' && decide (t.bs = t'.bs))) with
    | false =>
      have HD := Lib.hid (show DiffIs t t' (0, 0, true) from .inl ⟨fun h => by simp [h.1, h.2.1, h.2.2] at hall, rfl⟩)
      clear hall
      go_wp2_with fail
      refine bodyPost_ret (v := .tuple #[.int .i64 0, .int .i64 0, .bool true]) (by simp [results, Tryd.results11, go_sem]) rfl ?_
      exact ⟨0, 0, true, rfl, HD.out, K3.out⟩
    | true =>
      have HA := Lib.hid (show mayT t = true ∧ mayT t' = true ∧ t.bs = t'.bs from by simpa using hall)
      clear hall
      have hbb : bn' = bn := by have h1 := HT.out.bl; have h2 := HT'.out.bl; rw [← HA.out.2.2] at h2; omega
      subst hbb
      obtain ⟨m, hm⟩ : ∃ m, m = min rn rn' := ⟨_, rfl⟩
      have hm1 : m ≤ rn := by omega
      have hm2 : m ≤ rn' := by omega
      have HM3 := Lib.hid hm
      have HMN := Lib.hid (show m = min t.rs.length t'.rs.length from by rw [hm, HT.out.rlen, HT'.out.rlen])
      clear hm
      go_upto_region 3 with (fail)
      go_cut [7] (fun mv wx => mv = .int .i64 (m : Int) ∧ wx = w3)
      case first =>
        by_cases hrr : rn' < rn
        · go_wp2_with fail
          all_goals
            go_meet
            exact ⟨by rw [HM3.out]; congr 1; omega, rfl⟩
        · go_wp2_with fail
          all_goals
            go_meet
            exact ⟨by rw [HM3.out]; congr 1; omega, rfl⟩
      case rest =>
        obtain ⟨rfl, rfl⟩ := hcut
        obtain ⟨w3, rfl⟩ : ∃ v : World, v = wc := ⟨_, rfl⟩
        have C1 := Lib.hid (And.intro c0 (And.intro c1 (And.intro c0' c1')))
        go_wp2_with fail
        clear c0 c1 c0' c1'
        go_loopw [34] (fun i wr => ∃ (k q : Nat), k ≤ m ∧ i = .int .i64 k ∧ wr = w3.drewN q ∧ ∀ i', i' < k → ∀ k', k' < bn' → atT t i' k' = atT t' i' k') (fun i _ => m - (intOf i).toNat)
        case atStart => exact ⟨0, 0, Nat.zero_le _, rfl, rfl, fun i' hi' => by omega⟩
        case round =>
          obtain ⟨i, q, hi, rfl, rfl, hall⟩ := hrel
          have HALL := Lib.hid hall
          clear hall
          obtain ⟨c0, c1, c0', c1'⟩ := C1.out
          by_cases hlt : i < m
          · have hil : i < wl.length := by rw [HT.out.rl]; omega
            have hil' : i < wl'.length := by rw [HT'.out.rl]; omega
            have HX := Lib.hid ((HT.out.rs.kept0 K3.out) i hil)
            have HX' := Lib.hid ((HT'.out.rs.kept0 K3.out) i hil')
            have HL := Lib.hid (show wl[i].l.length = bn' ∧ wl'[i].l.length = bn' ∧ t.rs.getD i [] = wl[i].l ∧ t'.rs.getD i [] = wl'[i].l from by
              have h1 := HT.out.row i hil
              have h2 := HT'.out.row i hil'
              refine ⟨?_, ?_, by rw [List.getD_eq_getElem?_getD, h1]; rfl, by rw [List.getD_eq_getElem?_getD, h2]; rfl⟩
              · rw [mayT_row HA.out.1 _ (List.mem_of_getElem? h1), HT.out.bl]
              · rw [mayT_row HA.out.2.1 _ (List.mem_of_getElem? h2), HT'.out.bl])
            generalize wl[i] = u at *
            generalize wl'[i] = u' at *
            obtain ⟨l, la, lc⟩ := u
            obtain ⟨l', la', lc'⟩ := u'
            simp only at HX HX' HL
            have HN := Lib.hid (And.intro HL.out.1 HL.out.2.1)
            go_wp2_with fail
            clear c0 c1 c0' c1'
            go_loopw [40] (fun i2 wr => ∃ (k q : Nat), k ≤ bn' ∧ i2 = .int .i64 k ∧ wr = w3.drewN q ∧ ∀ k', k' < k → atT t i k' = atT t' i k') (fun i2 _ => bn' - (intOf i2).toNat)
            case atStart => exact ⟨0, q, Nat.zero_le _, rfl, rfl, fun k' hk' => by omega⟩
            case round =>
              obtain ⟨k, q, hk, rfl, rfl, hrow⟩ := hrel
              have HROW := Lib.hid hrow
              clear hrow
              obtain ⟨c0, c1, c0', c1'⟩ := C1.out
              by_cases hlt2 : k < bn'
              · obtain ⟨gb, go_, rfl, x0, x1⟩ := HX.out
                obtain ⟨gb', go_', rfl, x0', x1'⟩ := HX'.out
                have hkl : k < l.length := by rw [HL.out.1]; exact hlt2
                have hkl' : k < l'.length := by rw [HL.out.2.1]; exact hlt2
                rw [HN.out.1] at x0
                rw [HN.out.2] at x0'
                obtain ⟨ad, rfl, y⟩ := x1 k hkl
                obtain ⟨ad', rfl, y'⟩ := x1' k hkl'
                have HAT := Lib.hid (show atT t i k = l[k] ∧ atT t' i k = l'[k] from by
                  unfold atT
                  rw [HL.out.2.2.1, HL.out.2.2.2, List.getD_eq_getElem?_getD, List.getD_eq_getElem?_getD, List.getElem?_eq_getElem hkl, List.getElem?_eq_getElem hkl']
                  exact ⟨rfl, rfl⟩)
                clear x1 x1'
                generalize l[k] = z at *
                generalize l'[k] = z' at *
                have hir : i < rn := by omega
                have hir' : i < rn' := by omega
                by_cases hz : z = z'
                · have HZ := Lib.hid hz
                  have hne : ((z : Int) != (z' : Int)) = false := by rw [hz]; simp
                  clear hz
                  go_wp2_with fail
                  go_quiet (fail)
                  go_wp2_with fail
                  go_roundw
                  case rel => exact ⟨k + 1, _, by omega, by go_num, by first | rfl | rw [World.drewN_drewN], fun k' hk' => by
                    by_cases h : k' < k
                    · exact HROW.out k' h
                    · obtain rfl : k' = k := by omega
                      rw [HAT.out.1, HAT.out.2, HZ.out]⟩
                  case measure => simp [intOf]; omega
                · have HZ := Lib.hid hz
                  have hne : ((z : Int) != (z' : Int)) = true := by rw [bne_iff_ne]; omega
                  clear hz
                  have HD := Lib.hid (show DiffIs t t' (i, k, true) from .inr ⟨HA.out.1, HA.out.2.1, HA.out.2.2, .inl ⟨i, k, by rw [← HMN.out]; exact hlt, by rw [HT.out.bl]; exact hlt2, by rw [HAT.out.1, HAT.out.2]; exact HZ.out, fun i' hi' k' hk' => HALL.out i' hi' k' (by rw [← HT.out.bl]; exact hk'), HROW.out, rfl⟩⟩)
                  go_wp2_with fail
                  go_quiet (fail)
                  go_wp2_with fail
                  refine bodyPost_ret (v := .tuple #[.int .i64 (i : Int), .int .i64 (k : Int), .bool true]) (by simp [results, Tryd.results11, go_sem]) rfl ?_
                  exact ⟨i, k, true, rfl, HD.out, by first | exact K3.out.drewN _ | (rw [World.drewN_drewN]; exact K3.out.drewN _)⟩
              · obtain rfl : k = bn' := by omega
                go_wp2_with fail
                go_roundw
                case rel => exact ⟨i + 1, q, by omega, by go_num, rfl, fun i' hi' k' hk' => by
                  by_cases h : i' < i
                  · exact HALL.out i' h k' hk'
                  · obtain rfl : i' = i := by omega
                    exact HROW.out k' hk'⟩
                case measure => simp [intOf]; omega
          · obtain rfl : i = m := by omega
            have HEQ := Lib.hid (show ∀ i', i' < min t.rs.length t'.rs.length → ∀ k', k' < t.bs.length → atT t i' k' = atT t' i' k' from fun i' hi' k' hk' => HALL.out i' (by rw [HMN.out]; exact hi') k' (by rw [← HT.out.bl]; exact hk'))
            by_cases hrr : rn = rn'
            · have HD := Lib.hid (show DiffIs t t' (0, 0, false) from .inr ⟨HA.out.1, HA.out.2.1, HA.out.2.2, .inr ⟨HEQ.out, .inr ⟨by rw [HT.out.rlen, HT'.out.rlen]; exact hrr, rfl⟩⟩⟩)
              have hne : ((rn : Int) != (rn' : Int)) = false := by rw [hrr]; simp
              have HRR := Lib.hid hrr
              clear hrr
              go_wp2_with fail
              refine bodyPost_ret (v := .tuple #[.int .i64 0, .int .i64 0, .bool false]) (by simp [results, Tryd.results11, go_sem]) rfl ?_
              exact ⟨0, 0, false, rfl, HD.out, K3.out.drewN _⟩
            · have HD := Lib.hid (show DiffIs t t' (i, 0, true) from .inr ⟨HA.out.1, HA.out.2.1, HA.out.2.2, .inr ⟨HEQ.out, .inl ⟨by rw [HT.out.rlen, HT'.out.rlen]; exact hrr, by rw [← HMN.out]⟩⟩⟩)
              have hne : ((rn : Int) != (rn' : Int)) = true := by rw [bne_iff_ne]; omega
              clear hrr
              go_wp2_with fail
              refine bodyPost_ret (v := .tuple #[.int .i64 (i : Int), .int .i64 0, .bool true]) (by simp [results, Tryd.results11, go_sem]) rfl ?_
              exact ⟨i, 0, true, rfl, HD.out, K3.out.drewN _⟩
end Go.Proofs.YtjgcfncganleoaaDoor
