/-
  Joined: QRSwA, QRSwB, QRSwC.
-/
import Derived.Test.YtdmcdhkkbkgnbaaGreatP18
import Derived.Test.YtdmcdhkkbkgnbaaGreatP32
import Derived.BigQuiet
import Derived.Test.YtdmcdhkkbkgnbaaGreatP33
import Derived.Test.YtdmcdhkkbkgnbaaGreatP24
namespace Go.Proofs.YtdmcdhkkbkgnbaaGreat
open Go.ChangeShapes Go.WideShapes Go.ChangeAt Go.RowKit
open Go.Maps (Keyed)
open Go.WideMaps
set_option linter.unusedVariables false
set_option linter.unusedSimpArgs false

variable {w w' : World} {p n k q v : Nat} {F R S NF NR : List Nat} {g : Gr} {N : Nt}
theorem ref_tri (hg : RefAt w q R g) : ∃ gb cn, w.cell? ⟨q, 2, none⟩ = some (.slice (some ⟨gb, 0, none⟩) g.nodes.length cn) ∧ ∀ (k a b : Nat), g.nodes[k]? = some (a, b) →
    (a / 2 = k → w.cell? ⟨gb, k * 3, none⟩ = some (.bool (decide (k ≠ 0))) ∧ w.cell? ⟨gb, k * 3 + 1, none⟩ = some (.int .u32 0) ∧ w.cell? ⟨gb, k * 3 + 2, none⟩ = some (.int .u32 0)) ∧
    (a / 2 ≠ k → w.cell? ⟨gb, k * 3, none⟩ = some (.bool false) ∧ w.cell? ⟨gb, k * 3 + 1, none⟩ = some (.int .u32 (a : Int)) ∧ w.cell? ⟨gb, k * 3 + 2, none⟩ = some (.int .u32 (b : Int))) := by
  have hp := hg.wf.pos
  obtain ⟨an, cn, rfl, hc⟩ := hg
  have c2 := hc.c2
  obtain ⟨gb, rfl, hcell⟩ := own3_form hc.nodes (by omega)
  refine ⟨gb, cn, c2, fun k a b hk => ?_⟩
  have h0 := rcells_get hk 0 (by omega)
  have h1 := rcells_get hk 1 (by omega)
  have h2 := rcells_get hk 2 (by omega)
  rw [show 3 * k = k * 3 by omega] at h0 h1 h2
  unfold rnV at h0 h1 h2
  refine ⟨fun he => ?_, fun he => ?_⟩
  · rw [if_pos he] at h0 h1 h2
    exact ⟨hcell _ _ h0, hcell _ _ h1, hcell _ _ h2⟩
  · rw [if_neg he] at h0 h1 h2
    exact ⟨hcell _ _ h0, hcell _ _ h1, hcell _ _ h2⟩
theorem initTo_rev {ns : List (Nat × Nat)} {l : List Nat} (hl : ∀ x ∈ l, x / 2 < ns.length) : initTo ns.length l.reverse = initTo ns.length l := by
  have h1 := init_inv ns l.reverse (fun x hx => hl x (List.mem_reverse.1 hx))
  have h2 := init_inv ns l hl
  have e : ∀ m, (initTo ns.length l.reverse).getD m false = (initTo ns.length l).getD m false := fun m => by
    rw [Bool.eq_iff_iff, h1 m, h2 m]
    exact ⟨fun ⟨x, hx, h⟩ => ⟨x, List.mem_reverse.1 hx, h⟩, fun ⟨x, hx, h⟩ => ⟨x, List.mem_reverse.2 hx, h⟩⟩
  apply List.ext_getElem (by rw [initTo_length, initTo_length])
  intro i h3 h4
  have h := e i
  simpa [List.getD_eq_getElem?_getD, List.getElem?_eq_getElem h3, List.getElem?_eq_getElem h4] using h
def dnTo (n : Nat) (l : List Nat) (k : Nat) : List Bool := initTo n (l.drop k).reverse
theorem dnTo_succ (n : Nat) (l : List Nat) (k : Nat) (h : k < l.length) : dnTo n l k = (dnTo n l (k + 1)).set (l[k] / 2) true := by
  unfold dnTo
  rw [List.drop_eq_getElem_cons h, List.reverse_cons, initTo_snoc]
/-- numbers of one's own, new, and no error -/
def IntsNew (l : List Nat) (w : World) (e : Ending) (w' : World) : Prop := ∃ a c n, e = .returned (.tuple #[.slice a n c, .int .i64 0]) ∧ Own w' 3 a n c (nats .i64 l) ∧ Kept [] w w' ∧ ∀ b ∈ ft a, w.heap.size ≤ b
theorem pick_marks {ns : List (Nat × Nat)} {l : List Nat} {M : List Bool} (hp : 0 < ns.length) (hM : sweepD ns 1 M = sweepD ns ns.length (initTo ns.length l)) (hl : M.length = ns.length) : pick ns.length (fun n => decide (1 ≤ n) && M.getD n false) = reachL ns l := by
  have e : markAt ns M 0 = M := by unfold markAt gAt; simp
  have h1 : M = sweepD ns ns.length (initTo ns.length l) := by
    simp only [sweepD, e] at hM
    exact hM
  unfold reachL pick
  apply List.filter_congr
  intro i hi
  have hg : (marksL ns l).getD i false = if i = 0 then false else M.getD i false := by
    unfold marksL
    rw [← h1]
    exact getB_set (by rw [hl]; exact hp)
  rw [hg]
  cases i with
  | zero => simp
  | succ i => simp
set_option maxHeartbeats 3200000 in
set_option maxRecDepth 100000 in
theorem rreach_c (hg : RefAt w q R g) (hm : g.nodes.length ≤ 90000) (a : Option Addr) (c len : Nat) (l : List Nat) (hl : l.length = len) (hlm : len ≤ 1000000) (hs : SlN w .u32 a l) (hok : ∀ x ∈ l, g.ok x) :
    Calls Tryz.prog 53 #[.pointer (some ⟨q, 0, none⟩), .slice a len c] w (IntsNew (reachL g.nodes l) w) := by
  have hp := hg.wf.pos
  have HTH := Lib.hid (ref_there hg hm a c len l hl hlm hs hok)
  obtain ⟨rb, cn, hc2, hnd⟩ := ref_tri hg
  have HND := Lib.hid hnd
  have HL := Lib.hid hl
  have HS := Lib.hid hs
  have HOK := Lib.hid hok
  have HWF := Lib.hid hg.wf
  have HRV := Lib.hid (show initTo g.nodes.length l.reverse = initTo g.nodes.length l from initTo_rev (fun x hx => by have := hok x hx; unfold Gr.ok at this; omega))
  obtain ⟨n, hn⟩ : ∃ n, n = g.nodes.length := ⟨_, rfl⟩
  have HN := Lib.hid hn
  rw [← hn] at hc2 hm hp HRV
  have HC2 := Lib.hid hc2
  clear hl hs hok hg hnd hc2 hn
  go_enter Tryz.func53, Tryz.ntmps53
  go_wp2_with fail
  refine HTH.out.mono ?_
  rintro e w1 ⟨rfl, d1, h1⟩
  have K1 := Lib.hid (show Kept [] w w1 from by rw [h1]; exact (Kept.refl [] w).drewN d1)
  clear h1
  have e2 := K1.out.cell HC2.out (by simp)
  go_wp2_with (at_make; refine wpList_mk rfl rfl Tryz.underlying29 bool_info rfl rfl rfl (by omega) (by unfold maxLen; omega) ?_; intro w2 hown2 hst2; rw [bls_replicate] at hown2)
  obtain ⟨gb, hgb⟩ : ∃ gb, gb = w1.heap.size := ⟨_, rfl⟩
  rw [← hgb] at hown2 hst2 ⊢
  have hgw : w.heap.size ≤ gb := by rw [hgb]; exact K1.out.size
  have HO2 := Lib.hid hown2
  have HK2 := Lib.hid (K1.out.trans hst2.kept)
  clear hgb hown2 hst2 e2
  have hl1 : IntKind.i64.wrap ((len : Int) - 1) = (len : Int) - 1 := IntWalk.i64_in _ (by omega)
  go_loopw [7] (fun v wr => ∃ (i : Int) (k : Nat), i = (k : Int) - 1 ∧ k ≤ len ∧ v = .int .i64 i ∧ Own wr 4 (some ⟨gb, 0, none⟩) n n (bls (dnTo n l k)) ∧ Kept [] w wr) (fun v _ => (intOf v + 1).toNat)
  case atStart => exact ⟨(len : Int) - 1, len, rfl, Nat.le_refl _, rfl, by unfold dnTo; rw [List.drop_eq_nil_of_le (by rw [HL.out]; exact Nat.le_refl _)]; exact HO2.out, HK2.out⟩
  case round =>
    obtain ⟨i, k, hik, hk, rfl, hown, hkr⟩ := hrel
    obtain ⟨wa, rfl⟩ : ∃ v : World, v = wr := ⟨_, rfl⟩
    have HO3 := Lib.hid hown
    have HK3 := Lib.hid hkr
    clear hown hkr
    by_cases h0 : 0 ≤ i
    · obtain ⟨j, rfl⟩ := Int.eq_ofNat_of_zero_le h0
      have hkj : k = j + 1 := by omega
      subst hkj
      have hkl : j < l.length := by rw [HL.out]; omega
      obtain ⟨ad, rfl, hcx⟩ := (HS.out.kept0 HK3.out) j hkl
      have hx := HOK.out _ (List.getElem_mem hkl)
      have HT := Lib.hid (dnTo_succ n l j hkl)
      unfold Gr.ok at hx
      rw [← HN.out] at hx
      generalize l[j] = x at *
      have x32 : x < 4294967296 := by omega
      have i0 : (0 : Int) ≤ (x : Int) / 2 := by omega
      have i1 : (x : Int) / 2 < (n : Int) := by omega
      have i2 : ((x : Int) / 2).toNat = x / 2 := by omega
      have j1 : (j : Int) < (len : Int) := by omega
      have hw1 : IntKind.i64.wrap ((j : Int) - 1) = (j : Int) - 1 := IntWalk.i64_in _ (by omega)
      obtain ⟨⟨v0, q3⟩, q4, q5⟩ := HO3.out.store (j := x / 2) hx
      have HPUT := Lib.hid (own_put HO3.out HK3.out hgw hx true)
      clear q5 hkl hik
      go_wp2_with fail
      go_roundw
      case rel => exact ⟨(j : Int) - 1, j, rfl, by omega, rfl, by rw [HT.out]; exact HPUT.out.1, HPUT.out.2⟩
      case measure => simp [intOf]
    · obtain rfl : k = 0 := by omega
      have hE : dnTo n l 0 = initTo n l := by unfold dnTo; rw [List.drop_zero]; exact HRV.out
      rw [hE] at HO3
      clear hE
      have e2 := HK3.out.cell HC2.out (by simp)
      go_wp2_with fail
      clear e2
      have hn1 : IntKind.i64.wrap ((n : Int) - 1) = (n : Int) - 1 := IntWalk.i64_in _ (by omega)
      go_loopw [8] (fun v wr => ∃ (k : Nat) (M : List Bool), k < n ∧ v = .int .i64 k ∧ Hid (M.length = n ∧ sweepD g.nodes (k + 1) M = sweepD g.nodes n (initTo n l)) ∧ Own wr 4 (some ⟨gb, 0, none⟩) n n (bls M) ∧ Kept [] w wr) (fun v _ => (intOf v).toNat)
      case atStart => exact ⟨n - 1, initTo n l, by omega, by congr 1; omega, Lib.hid ⟨initTo_length _ _, by rw [show n - 1 + 1 = n by omega]⟩, HO3.out, HK3.out⟩
      case round =>
        obtain ⟨k, M, hk, rfl, HM, hown, hkr⟩ := hrel
        obtain ⟨wb, rfl⟩ : ∃ v : World, v = wr := ⟨_, rfl⟩
        have HO4 := Lib.hid hown
        have HK4 := Lib.hid hkr
        clear hown hkr
        by_cases hk0 : 0 < k
        · have hml : M.length = n := HM.out.1
          obtain ⟨gk, hgk⟩ : ∃ b, b = gAt g.nodes k := ⟨_, rfl⟩
          obtain ⟨mk, hmk⟩ : ∃ b, b = M.getD k false := ⟨_, rfl⟩
          have HMA := Lib.hid (show markAt g.nodes M k = if gk && mk then (M.set (gA g.nodes k / 2) true).set (gB g.nodes k / 2) true else M by rw [hgk, hmk]; rfl)
          have HGL := Lib.hid (fun (h : gk = true) => gAt_lt HWF.out (k := k) (by rw [← hgk]; exact h))
          have HSW := Lib.hid (show sweepD g.nodes k (markAt g.nodes M k) = sweepD g.nodes n (initTo n l) from HM.out.2)
          have ck : wb.cell? ⟨gb, k, none⟩ = some (.bool mk) := by
            have h := own_cell_b HO4.out k (by rw [hml]; exact hk)
            rw [← hmk] at h; exact h
          have hkn : k < g.nodes.length := by rw [← HN.out]; exact hk
          have hat : g.nodes[k]? = some (gA g.nodes k, gB g.nodes k) := by
            rw [List.getElem?_eq_getElem hkn]
            unfold gA gB
            rw [List.getD_eq_getElem?_getD, List.getElem?_eq_getElem hkn]
            rfl
          have hg1 : gk = decide (gA g.nodes k / 2 ≠ k) := by
            rw [hgk]; unfold gAt gA
            simp [show 1 ≤ k by omega, hkn]
          have HNK := Lib.hid (HND.out k _ _ hat)
          have HG1 := Lib.hid hg1
          have HML := Lib.hid hml
          clear hgk hmk hml hkn hat hg1
          generalize gA g.nodes k = x at *
          generalize gB g.nodes k = y at *
          have k0 : (0 : Int) ≤ (k : Int) := by omega
          have k1 : (k : Int) < (n : Int) := by omega
          have hw1 : IntKind.i64.wrap ((k : Int) - 1) = (k : Int) - 1 := IntWalk.i64_in _ (by omega)
          have e2 := HK4.out.cell HC2.out (by simp)
          cases mk
          · have hma : markAt g.nodes M k = M := by rw [HMA.out]; simp
            have HMM := Lib.hid hma
            clear hma
            go_wp2_with fail
            go_roundw
            case rel => exact ⟨k - 1, M, by omega, by congr 1; omega, Lib.hid ⟨HML.out, by rw [show k - 1 + 1 = k by omega]; rw [← HSW.out, HMM.out]⟩, HO4.out, HK4.out⟩
            case measure => simp [intOf]; omega
          · cases gk
            · have hx2 : x / 2 = k := by have := HG1.out; simpa using this
              obtain ⟨h3, _, _⟩ := HNK.out.1 hx2
              have h3' := HK4.out.cell h3 (by simp)
              rw [show decide (k ≠ 0) = true from by simp; omega] at h3'
              have hma : markAt g.nodes M k = M := by rw [HMA.out]; simp
              have HMM := Lib.hid hma
              clear hma h3 hx2
              go_wp2_with fail
              go_roundw
              case rel => exact ⟨k - 1, M, by omega, by congr 1; omega, Lib.hid ⟨HML.out, by rw [show k - 1 + 1 = k by omega]; rw [← HSW.out, HMM.out]⟩, HO4.out, HK4.out⟩
              case measure => simp [intOf]; omega
            · have hx2 : x / 2 ≠ k := by have := HG1.out; simpa using this
              obtain ⟨h3, h4, h5⟩ := HNK.out.2 hx2
              obtain ⟨ha, hb, _, _⟩ := HGL.out rfl
              have h3' := HK4.out.cell h3 (by simp)
              have h4' := HK4.out.cell h4 (by simp)
              have hma : markAt g.nodes M k = (M.set (x / 2) true).set (y / 2) true := by rw [HMA.out]; simp
              have HMM := Lib.hid hma
              have x0 : (0 : Int) ≤ (x : Int) / 2 := by omega
              have x1 : (x : Int) / 2 < (n : Int) := by omega
              have x2 : ((x : Int) / 2).toNat = x / 2 := by omega
              have y0 : (0 : Int) ≤ (y : Int) / 2 := by omega
              have y1 : (y : Int) / 2 < (n : Int) := by omega
              have y2 : ((y : Int) / 2).toNat = y / 2 := by omega
              obtain ⟨⟨v0, q3⟩, q4, _⟩ := HO4.out.store (j := x / 2) (by omega)
              have P1 := Lib.hid (own_put HO4.out HK4.out hgw (i := x / 2) (by omega) true)
              obtain ⟨⟨v1, q5⟩, q6, _⟩ := P1.out.1.store (j := y / 2) (by omega)
              have P2 := Lib.hid (own_put P1.out.1 P1.out.2 hgw (i := y / 2) (by omega) true)
              have f2 := P1.out.2.cell HC2.out (by simp)
              have f5 := P1.out.2.cell h5 (by simp)
              clear hma h3 h4 h5 hx2
              go_wp2_with fail
              go_roundw
              case rel => exact ⟨k - 1, _, by omega, by congr 1; omega, Lib.hid ⟨by rw [List.length_set, List.length_set]; exact HML.out, by rw [show k - 1 + 1 = k by omega]; rw [← HSW.out, HMM.out]⟩, P2.out.1, P2.out.2⟩
              case measure => simp [intOf]; omega
        · have hk00 : k = 0 := by omega
          have HPM := Lib.hid (pick_marks (ns := g.nodes) (l := l) (M := M) (by rw [← HN.out]; exact hp) (by have h := HM.out.2; rw [HN.out, hk00] at h; exact h) (by rw [← HN.out]; exact HM.out.1))
          have hkn0 : ¬ (0 : Int) < (k : Int) := by omega
          clear hk00
          have HML := Lib.hid HM.out.1
          go_wp2_with fail
          go_loopw [9, 10] (fun v i wr => ∃ (k len' : Nat) (a' : Option Addr) (c' : Nat), 1 ≤ k ∧ k ≤ n ∧ len' ≤ k ∧ i = .int .i64 k ∧ v = .slice a' len' c' ∧ Own wr 3 a' len' c' (nats .i64 (pick k (fun j => decide (1 ≤ j) && M.getD j false))) ∧ Stepped wb wr [] (ft a')) (fun _ i _ => n - (intOf i).toNat)
          case atStart => exact ⟨1, 0, none, 0, Nat.le_refl _, by omega, by omega, rfl, rfl, Own.nil _ _, .refl _ _⟩
          case round =>
            obtain ⟨k, len', a', c', hk1, hk, hlk, rfl, rfl, hown, hst⟩ := hrel
            obtain ⟨wc, rfl⟩ : ∃ v : World, v = wr := ⟨_, rfl⟩
            have HO5 := Lib.hid hown
            have HS5 := Lib.hid hst
            clear hown hst
            have e2 := (HK4.out.trans HS5.out.kept).cell HC2.out (by simp)
            by_cases hlt : k < n
            · have hc := own_cell_b (HO4.out.kept0 HS5.out.kept) k (by rw [HML.out]; exact hlt)
              have HPS := Lib.hid (pick_succ k (fun j => decide (1 ≤ j) && M.getD j false))
              have k0 : (0 : Int) ≤ (k : Int) := by omega
              have k1 : (k : Int) < (n : Int) := by omega
              obtain ⟨mk, hmk⟩ : ∃ b, b = M.getD k false := ⟨_, rfl⟩
              rw [← hmk] at hc
              have HMK := Lib.hid hmk
              clear hmk
              cases mk
              · have HPK := Lib.hid (show pick (k + 1) (fun j => decide (1 ≤ j) && M.getD j false) = pick k (fun j => decide (1 ≤ j) && M.getD j false) by rw [HPS.out, ← HMK.out]; simp)
                go_wp2_with fail
                go_roundw
                case rel => exact ⟨k + 1, len', a', c', by omega, by omega, by omega, by go_num, rfl, by rw [HPK.out]; exact HO5.out, HS5.out⟩
                case measure => simp [intOf]; omega
              · have HPK := Lib.hid (show pick (k + 1) (fun j => decide (1 ≤ j) && M.getD j false) = pick k (fun j => decide (1 ≤ j) && M.getD j false) ++ [k] by rw [HPS.out, ← HMK.out]; simp [hk1])
                go_wp2_with (at_builtin; refine wpList_push rfl rfl Tryz.underlying65 int_info rfl rfl rfl HO5.out rfl (by unfold maxLen; omega) (by omega) ?_; intro a1 c1 w5 hown5 hst5)
                go_roundw
                case rel => exact ⟨k + 1, len' + 1, a1, c1, by omega, by omega, by omega, by go_num, rfl, by rw [HPK.out, ← nats_append]; exact hown5, HS5.out.trans hst5⟩
                case measure => simp [intOf]; omega
            · have HE := Lib.hid (show pick k (fun j => decide (1 ≤ j) && M.getD j false) = reachL g.nodes l by rw [← HPM.out, ← HN.out, show k = n by omega])
              rw [HE.out] at HO5
              clear HE
              go_wp2_with fail
              go_ret2
              exact ⟨a', c', len', rfl, HO5.out, HK4.out.trans HS5.out.kept, fun b hb => (HS5.out.fresh b hb).elim (by simp) (fun h => Nat.le_trans HK4.out.size h)⟩
end Go.Proofs.YtdmcdhkkbkgnbaaGreat

namespace Go.Proofs.YtdmcdhkkbkgnbaaGreat
open Go.ChangeShapes Go.WideShapes Go.ChangeAt Go.RowKit
open Go.Maps (Keyed)
open Go.WideMaps
set_option linter.unusedVariables false
set_option linter.unusedSimpArgs false

variable {w w' : World} {p n k q v : Nat} {F R S NF NR : List Nat} {g : Gr} {N : Nt}
theorem reach_lt {ns : List (Nat × Nat)} (hw : WF ns) {l : List Nat} (hl : ∀ x ∈ l, x / 2 < ns.length) : ∀ m ∈ reachL ns l, 1 ≤ m ∧ m < ns.length := fun m hm => by
  have h := (List.mem_filter.1 hm).2
  have h2 := (marks_ok hw hl).why m (by simpa using h)
  omega
theorem support_filter (ns : List (Nat × Nat)) (l : List Nat) : supportL ns l = (reachL ns l).filter fun n => !gAt ns n := by
  unfold supportL reachL pick
  rw [List.filter_filter]
  apply List.filter_congr
  intro n _
  rw [Bool.and_comm]
set_option maxHeartbeats 3200000 in
set_option maxRecDepth 100000 in
theorem rsupport_c (hg : RefAt w q R g) (hm : g.nodes.length ≤ 90000) (a : Option Addr) (c len : Nat) (l : List Nat) (hl : l.length = len) (hlm : len ≤ 1000000) (hs : SlN w .u32 a l) (hok : ∀ x ∈ l, g.ok x) :
    Calls Tryz.prog 54 #[.pointer (some ⟨q, 0, none⟩), .slice a len c] w (IntsNew (supportL g.nodes l) w) := by
  have HRC := Lib.hid (rreach_c hg hm a c len l hl hlm hs hok)
  obtain ⟨rb, cn, hc2, hnd⟩ := ref_tri hg
  have HND := Lib.hid hnd
  have HRL := Lib.hid (reach_lt hg.wf (l := l) (fun x hx => by have := hok x hx; unfold Gr.ok at this; omega))
  have HSF := Lib.hid (support_filter g.nodes l)
  obtain ⟨n, hn⟩ : ∃ n, n = g.nodes.length := ⟨_, rfl⟩
  have HN := Lib.hid hn
  rw [← hn] at hc2 hm HRL
  have HC2 := Lib.hid hc2
  have hrn : (reachL g.nodes l).length ≤ n := by rw [hn]; exact pick_length _ _
  generalize reachL g.nodes l = rl at *
  generalize supportL g.nodes l = sl at *
  clear hl hs hok hg hnd hc2 hn
  go_enter Tryz.func54, Tryz.ntmps54
  go_wp2_with fail
  refine HRC.out.mono ?_
  rintro e w1 ⟨ra, rc, rn, rfl, hown, hk1, hf1⟩
  have HO1 := Lib.hid hown
  have K1 := Lib.hid hk1
  have hrl : rl.length = rn := by have := hown.len; simpa [nats] using this
  have HRN := Lib.hid hrl
  rw [hrl] at hrn
  clear hown hk1 hf1 hrl
  go_wp2_with fail
  go_loopw [8, 9] (fun v i wr => ∃ (k len' : Nat) (a' : Option Addr) (c' : Nat), k ≤ rn ∧ len' ≤ k ∧ i = .int .i64 k ∧ v = .slice a' len' c' ∧ Own wr 3 a' len' c' (nats .i64 ((rl.take k).filter fun n => !gAt g.nodes n)) ∧ Kept [] w1 wr ∧ ∀ b ∈ ft a', w1.heap.size ≤ b) (fun _ i _ => rn - (intOf i).toNat)
  case atStart => exact ⟨0, 0, none, 0, Nat.zero_le _, Nat.le_refl _, rfl, rfl, Own.nil _ _, .refl _ _, by simp [ft]⟩
  case round =>
    obtain ⟨k, len', a', c', hk, hlk, rfl, rfl, hown, hkr, hfr⟩ := hrel
    obtain ⟨wb, rfl⟩ : ∃ v : World, v = wr := ⟨_, rfl⟩
    have HO2 := Lib.hid hown
    have K2 := Lib.hid hkr
    have F2 := Lib.hid hfr
    clear hown hkr hfr
    by_cases hlt : k < rn
    · have hkl : k < rl.length := by rw [HRN.out]; exact hlt
      obtain ⟨ad, rfl, hcx⟩ := (HO1.out.kept0 K2.out).sln k hkl
      obtain ⟨x1, x2⟩ := HRL.out _ (List.getElem_mem hkl)
      have HTK := Lib.hid (show (rl.take (k + 1)).filter (fun n => !gAt g.nodes n) = (rl.take k).filter (fun n => !gAt g.nodes n) ++ (if gAt g.nodes rl[k] then [] else [rl[k]]) from by
        rw [List.take_succ_eq_append_getElem hkl, List.filter_append]
        congr 1
        cases h : gAt g.nodes rl[k] <;> simp [h])
      generalize rl[k] = x at *
      obtain ⟨gk, hgk⟩ : ∃ b, b = gAt g.nodes x := ⟨_, rfl⟩
      rw [← hgk] at HTK
      have e2 := (K1.out.trans K2.out).cell HC2.out (by simp)
      have hxn : x < g.nodes.length := by rw [← HN.out]; exact x2
      have hat : g.nodes[x]? = some (gA g.nodes x, gB g.nodes x) := by
        rw [List.getElem?_eq_getElem hxn]
        unfold gA gB
        rw [List.getD_eq_getElem?_getD, List.getElem?_eq_getElem hxn]
        rfl
      have hg1 : gk = decide (gA g.nodes x / 2 ≠ x) := by
        rw [hgk]; unfold gAt gA
        simp [show 1 ≤ x by omega, hxn]
      have e3 : wb.cell? ⟨rb, x * 3, none⟩ = some (.bool (!gk)) := by
        refine (K1.out.trans K2.out).cell ?_ (by simp)
        by_cases hx2 : gA g.nodes x / 2 = x
        · have h := ((HND.out x _ _ hat).1 hx2).1
          rw [h, hg1]; simp [hx2]; omega
        · have h := ((HND.out x _ _ hat).2 hx2).1
          rw [h, hg1]; simp [hx2]
      have k0 : (0 : Int) ≤ (k : Int) := by omega
      have k1 : (k : Int) < (rn : Int) := by omega
      have y0 : (0 : Int) ≤ (x : Int) := by omega
      have y1 : (x : Int) < (n : Int) := by omega
      clear hgk hxn hat hg1 hkl
      cases gk
      · simp only [Bool.not_false, Bool.false_eq_true, if_false] at e3 HTK
        go_wp2_with fail
        go_quiet (fail)
        have k3 := (show Kept [] wb (wb.drewN nq) from (Kept.refl [] wb).drewN nq)
        have hown3 := HO2.out.kept0 k3
        have hcx3 := k3.cell hcx (by simp)
        go_wp2_with (at_builtin; refine wpList_push rfl rfl Tryz.underlying65 int_info rfl rfl rfl hown3 rfl (by unfold maxLen; omega) (by omega) ?_; intro a1 c1 w5 hown5 hst5)
        go_roundw
        case rel => exact ⟨k + 1, len' + 1, a1, c1, by omega, by omega, by go_num, rfl, by rw [HTK.out, ← nats_append]; exact hown5, kept_up (K2.out.trans k3) hst5.kept F2.out, fun b hb => (hst5.fresh b hb).elim (F2.out b) (fun h => Nat.le_trans (K2.out.trans k3).size h)⟩
        case measure => simp [intOf]; omega
      · simp only [Bool.not_true, if_true] at e3 HTK
        go_wp2_with fail
        go_quiet (fail)
        go_wp2_with fail
        have k3 := (show Kept [] wb (wb.drewN nq) from (Kept.refl [] wb).drewN nq)
        go_roundw
        case rel => exact ⟨k + 1, len', a', c', by omega, by omega, by go_num, rfl, by rw [HTK.out, List.append_nil]; exact HO2.out.kept0 k3, K2.out.trans k3, F2.out⟩
        case measure => simp [intOf]; omega
    · have hE : (rl.take k).filter (fun n => !gAt g.nodes n) = sl := by rw [HSF.out, List.take_of_length_le (by rw [HRN.out]; omega)]
      rw [hE] at HO2
      clear hE
      go_wp2_with fail
      go_ret2
      exact ⟨a', c', len', rfl, HO2.out, K1.out.trans K2.out, fun b hb => Nat.le_trans K1.out.size (F2.out b hb)⟩
end Go.Proofs.YtdmcdhkkbkgnbaaGreat

namespace Go.Proofs.YtdmcdhkkbkgnbaaGreat
open Go.ChangeShapes Go.WideShapes Go.ChangeAt Go.RowKit
open Go.Maps (Keyed)
open Go.WideMaps
set_option linter.unusedVariables false
set_option linter.unusedSimpArgs false

variable {w w' : World} {p n k q v : Nat} {F R S NF NR : List Nat} {g : Gr} {N : Nt}
/-- a row of literals, new, and no error -/
def RRowNew (l : List Nat) (w : World) (e : Ending) (w' : World) : Prop := ∃ a c, e = .returned (.tuple #[.slice a l.length c, .int .i64 0]) ∧ Own w' 46 a l.length c (nats .u32 l) ∧ Kept [] w w' ∧ ∀ b ∈ ft a, w.heap.size ≤ b
theorem overL_lt {bys : List Nat} (h : ∀ x ∈ bys, x < 4294967296) (l : Nat) : overL bys l < 4294967296 := by
  unfold overL
  apply ifL_lt
  rw [List.getD_eq_getElem?_getD]
  cases h1 : bys[l / 2]? with
  | none => simp
  | some x => simpa using h x (List.mem_of_getElem? h1)
set_option maxHeartbeats 1600000 in
set_option maxRecDepth 100000 in
theorem rover_c (a : Option Addr) (c rn : Nat) (row : List Nat) (ab : Option Addr) (cb bn : Nat) (bys : List Nat) (w : World) (hrl : row.length = rn) (hbl : bys.length = bn) (hrm : rn ≤ 1000000) (hbm : bn ≤ 1000000) (hb0 : 0 < bn) (h0 : bys.getD 0 0 = 0)
    (hs : SlN w .u32 a row) (hbs : SlN w .u32 ab bys) (hin : ∀ x ∈ row, x / 2 < bn) (hbv : ∀ x ∈ bys, x < 4294967296) :
    Calls Tryz.prog 105 #[.slice a rn c, .slice ab bn cb] w (RRowNew (row.map (overL bys)) w) := by
  have HL := Lib.hid hrl
  have HBL := Lib.hid hbl
  have HS := Lib.hid hs
  have HBS := Lib.hid hbs
  have HIN := Lib.hid hin
  have HBV := Lib.hid hbv
  obtain ⟨bd, rfl, hc0⟩ := hbs 0 (by omega)
  rw [show bys[0] = 0 from by simpa [List.getD_eq_getElem?_getD, List.getElem?_eq_getElem (show 0 < bys.length by omega)] using h0] at hc0
  rw [show bd.add 0 = bd from rfl] at hc0
  have b1 : ((bn : Int) == 0) = false := by simp; omega
  have b2 : (0 : Int) < (bn : Int) := by omega
  clear hrl hbl hs hbs hin hbv h0
  go_enter Tryz.func105, Tryz.ntmps105
  go_wp2_with fail
  clear hc0
  go_loopw [6, 7] (fun v i wr => ∃ (k : Nat) (a' : Option Addr) (c' : Nat), k ≤ rn ∧ i = .int .i64 k ∧ v = .slice a' k c' ∧ Own wr 46 a' k c' (nats .u32 ((row.take k).map (overL bys))) ∧ Stepped w wr [] (ft a')) (fun _ i _ => rn - (intOf i).toNat)
  case atStart => exact ⟨0, none, 0, Nat.zero_le _, rfl, rfl, Own.nil _ _, .refl _ _⟩
  case round =>
    obtain ⟨k, a', c', hk, rfl, rfl, hown, hst⟩ := hrel
    obtain ⟨wb, rfl⟩ : ∃ v : World, v = wr := ⟨_, rfl⟩
    have HO := Lib.hid hown
    have HT := Lib.hid hst
    clear hown hst
    by_cases hlt : k < rn
    · have hkl : k < row.length := by rw [HL.out]; exact hlt
      obtain ⟨ad, rfl, hcx⟩ := (HS.out.kept0 HT.out.kept) k hkl
      have hx := HIN.out _ (List.getElem_mem hkl)
      have HTK := Lib.hid (show (row.take (k + 1)).map (overL bys) = (row.take k).map (overL bys) ++ [overL bys row[k]] from by rw [List.take_succ_eq_append_getElem hkl, List.map_append]; rfl)
      have hy : row[k] / 2 < bys.length := by rw [HBL.out]; exact hx
      obtain ⟨bd2, hbd, hcy⟩ := (HBS.out.kept0 HT.out.kept) (row[k] / 2) hy
      injection hbd with hbd
      subst hbd
      have hyv := HBV.out _ (List.getElem_mem hy)
      have hov : overL bys row[k] = ifL bys[row[k] / 2] (decide (row[k] % 2 = 1)) := by
        unfold overL
        rw [List.getD_eq_getElem?_getD, List.getElem?_eq_getElem hy]
        rfl
      rw [hov] at HTK
      generalize bys[row[k] / 2] = y at *
      generalize row[k] = x at *
      have x0 : (0 : Int) ≤ (x : Int) / 2 := by omega
      have x1 : (x : Int) / 2 < (bn : Int) := by omega
      have x2 : ((x : Int) / 2).toNat = x / 2 := by omega
      have x3 : ¬ (bn : Int) ≤ (x : Int) / 2 := by omega
      have x4 : IntKind.i64.wrap ((x : Int) / 2) = (x : Int) / 2 := IntWalk.i64_in _ (by omega)
      have k1 : (k : Int) < (rn : Int) := by omega
      have HNT := Lib.hid (fun W => ref_not y W hyv)
      have hown3 := HO.out
      clear hkl hy hov
      by_cases hm : x % 2 = 1
      · have m1 : ((x : Int) % 2 == 1) = true := by simp; omega
        have HV := Lib.hid (show ifL y (decide (x % 2 = 1)) = ntL y from by simp [ifL, hm])
        rw [HV.out] at HTK
        clear hm HV
        go_wp2_with fail
        refine (HNT.out _).mono ?_
        rintro e w2 ⟨rfl, rfl⟩
        go_wp2_with (at_builtin; refine wpList_push rfl rfl Tryz.underlying87 u32_info rfl rfl rfl hown3 rfl (by unfold maxLen; omega) (by omega) ?_; intro a1 c1 w5 hown5 hst5)
        go_roundw
        case rel => exact ⟨k + 1, a1, c1, by omega, by go_num, rfl, by rw [HTK.out, ← nats_append]; exact hown5, HT.out.trans hst5⟩
        case measure => simp [intOf]; omega
      · have m1 : ((x : Int) % 2 == 1) = false := by simp; omega
        have HV := Lib.hid (show ifL y (decide (x % 2 = 1)) = y from by simp [ifL, hm])
        rw [HV.out] at HTK
        clear hm HV
        go_wp2_with (at_builtin; refine wpList_push rfl rfl Tryz.underlying87 u32_info rfl rfl rfl hown3 rfl (by unfold maxLen; omega) (by omega) ?_; intro a1 c1 w5 hown5 hst5)
        go_roundw
        case rel => exact ⟨k + 1, a1, c1, by omega, by go_num, rfl, by rw [HTK.out, ← nats_append]; exact hown5, HT.out.trans hst5⟩
        case measure => simp [intOf]; omega
    · obtain rfl : rn = k := by omega
      have hE : row.take rn = row := List.take_of_length_le (by rw [HL.out]; exact Nat.le_refl _)
      rw [hE] at HO
      have HLE := Lib.hid (show (row.map (overL bys)).length = rn from by rw [List.length_map]; exact HL.out)
      clear hE
      go_wp2_with fail
      go_ret2
      unfold RRowNew
      rw [HLE.out]
      exact ⟨a', c', rfl, HO.out, HT.out.kept, fun b hb => (HT.out.fresh b hb).elim (by simp) id⟩
end Go.Proofs.YtdmcdhkkbkgnbaaGreat
