/-
  Package cone: marks; what literals lean on; their support.
  Contract of package cone: Depth.
-/
import Derived.Test.YtdmcdhkkbkgnbaaGreatP10
import Derived.Deep.RegionWith
import Derived.IntWalk
import Derived.Test.YtdmcdhkkbkgnbaaGreatP08
import Derived.Deep.LoopGhost
namespace Go.Proofs.YtdmcdhkkbkgnbaaGreat
open Go.ChangeShapes Go.WideShapes Go.ChangeAt Go.RowKit
open Go.Maps (Keyed)
open Go.WideMaps
set_option linter.unusedVariables false

variable {w w' : World} {p : Nat} {F S : List Nat} {g : Gr}

theorem own_cells_i {w : World} {e : TypeId} {gb n cap : Nat} {K : IntKind} {l : List Nat} (h : Own w e (some ⟨gb, 0, none⟩) n cap (nats K l)) (j : Nat) (hj : j < l.length) : w.cell? ⟨gb, j, none⟩ = some (.int K (l.getD j 0 : Nat)) := by
  have h1 := World.ownsRow.cellAt h j (by have := h.len; rw [nats_length] at this; omega)
  rw [h1]
  simp [nats, List.getD_eq_getElem?_getD, List.getElem?_eq_getElem hj]

theorem deepTo_le (g : Gr) (k : Nat) : ∀ v ∈ deepTo g k, v ≤ k := by
  induction k with
  | zero => intro v hv; simp [deepTo] at hv; omega
  | succ k ih =>
    have hd : ∀ l, dl (deepTo g k) l ≤ k := fun l => by
      unfold dl
      rw [List.getD_eq_getElem?_getD]
      cases hj : (deepTo g k)[l / 2]? with
      | none => simp
      | some v => simpa using ih v (List.mem_of_getElem? hj)
    intro v hv
    unfold deepTo at hv
    split at hv
    · rcases List.mem_or_eq_of_mem_set hv with h | h
      · have := ih v h; omega
      · subst h
        have h1 := hd (gateA g k).1
        have h2 := hd (gateA g k).2.1
        omega
    · have := ih v hv; omega
theorem getD_le {D : List Nat} {m : Nat} (h : ∀ v ∈ D, v ≤ m) (j : Nat) : D.getD j 0 ≤ m := by
  rw [List.getD_eq_getElem?_getD]
  cases hj : D[j]? with
  | none => simp
  | some v => simpa using h v (List.mem_of_getElem? hj)
def DepthPost (d : Nat) (w : World) (e : Ending) (w' : World) : Prop := e = .returned (.tuple #[.int .i64 (d : Int), .int .i64 0]) ∧ Kept [] w w'
end Go.Proofs.YtdmcdhkkbkgnbaaGreat

namespace Go.Proofs.YtdmcdhkkbkgnbaaGreat
open Go.ChangeShapes Go.WideShapes Go.ChangeAt Go.RowKit
open Go.Maps (Keyed)
open Go.WideMaps
set_option linter.unusedVariables false
set_option linter.unusedSimpArgs false

variable {w w' : World} {p : Nat} {F S : List Nat} {g : Gr}
def bls (l : List Bool) : List Value := l.map .bool
theorem bls_length (l : List Bool) : (bls l).length = l.length := by simp [bls]
theorem bls_set (l : List Bool) (i : Nat) (b : Bool) : (bls l).set i (.bool b) = bls (l.set i b) := by simp [bls, List.map_set]
theorem bls_replicate (n : Nat) : List.replicate n (Value.bool false) = bls (List.replicate n false) := by simp [bls]
theorem own_cell_b {e : TypeId} {gb n cap : Nat} {l : List Bool} (h : Own w e (some ⟨gb, 0, none⟩) n cap (bls l)) (j : Nat) (hj : j < l.length) : w.cell? ⟨gb, j, none⟩ = some (.bool (l.getD j false)) := by
  have h1 := World.ownsRow.cellAt h j (by have := h.len; rw [bls_length] at this; omega)
  rw [h1]
  simp [bls, List.getD_eq_getElem?_getD, List.getElem?_eq_getElem hj]
theorem bool_info : (Tryz.prog.info? 4).map (fun i => (i.zero, i.size, i.bytes)) = some (some (.bool false), 1, 1) := by kernel_rfl
def MarksPost (M : List Bool) (n : Nat) (w : World) (e : Ending) (w' : World) : Prop := ∃ gb, e = .returned (.slice (some ⟨gb, 0, none⟩) n n) ∧ Own w' 4 (some ⟨gb, 0, none⟩) n n (bls M) ∧ Kept [] w w' ∧ w.heap.size ≤ gb
/-- a store into one's own row -/
theorem own_put {w0 : World} {gb n : Nat} {M : List Bool} (h : Own w 4 (some ⟨gb, 0, none⟩) n n (bls M)) (hk : Kept [] w0 w) (hb : w0.heap.size ≤ gb) {i : Nat} (hi : i < n) (b : Bool) :
    Own (w.setCell ⟨gb, i, none⟩ (.bool b)) 4 (some ⟨gb, 0, none⟩) n n (bls (M.set i b)) ∧ Kept [] w0 (w.setCell ⟨gb, i, none⟩ (.bool b)) := by
  have h1 := (h.store hi).2.2 (.bool b)
  rw [bls_set] at h1
  exact ⟨h1, hk.setCell (p := ⟨gb, i, none⟩) (.inr hb) _⟩
set_option maxHeartbeats 1600000 in
set_option maxRecDepth 100000 in
theorem cone_marks (hg : GraphAt w p F g) (hm : g.nodes.length ≤ 200000) (a : Option Addr) (c len : Nat) (l : List Nat) (hl : l.length = len) (hlm : len ≤ 1000000) (hs : SlN w .u32 a l) (hok : ∀ x ∈ l, g.ok x) :
    Calls Tryz.prog 119 #[.pointer (some ⟨p, 0, none⟩), .slice a len c] w (MarksPost (marksL g.nodes l) g.nodes.length w) := by
  have hp := hg.wf.pos
  have hwf := hg.wf
  have HL := Lib.hid hl
  have HS := Lib.hid hs
  have HOK := Lib.hid hok
  have HG := Lib.hid hg
  have HGN := Lib.hid (fun (W : World) (hk : Kept [] w W) => aig_nodes (hg.kept0 hk) (by omega))
  have HWF := Lib.hid hwf
  clear hl hs hok hg hwf
  go_enter Tryz.func119, Tryz.ntmps119
  go_wp2_with fail
  refine (HGN.out _ (Kept.refl _ _)).mono ?_
  rintro e w' ⟨rfl, rfl⟩
  go_wp2_with (at_make; refine wpList_mk rfl rfl Tryz.underlying29 bool_info rfl rfl rfl (by omega) (by unfold maxLen; omega) ?_; intro w2 hown2 hst2; rw [bls_replicate] at hown2)
  obtain ⟨gb, hgb⟩ : ∃ gb, gb = w.heap.size := ⟨_, rfl⟩
  rw [← hgb] at hown2 hst2 ⊢
  have hgw : w.heap.size ≤ gb := by omega
  clear hgb
  obtain ⟨n, hn⟩ : ∃ n, n = g.nodes.length := ⟨_, rfl⟩
  have HN := Lib.hid hn
  rw [← hn] at hown2 hm hp ⊢
  have HO2 := Lib.hid hown2
  have HK2 := Lib.hid hst2.kept
  clear hn hown2 hst2
  -- the literals' own nodes
  go_loopw [17] (fun i wr => ∃ k : Nat, k ≤ len ∧ i = .int .i64 k ∧ Own wr 4 (some ⟨gb, 0, none⟩) n n (bls (initTo n (l.take k))) ∧ Kept [] w wr) (fun i _ => len - (intOf i).toNat)
  case atStart => exact ⟨0, Nat.zero_le _, rfl, HO2.out, HK2.out⟩
  case round =>
    obtain ⟨k, hk, rfl, hown, hkr⟩ := hrel
    have HO3 := Lib.hid hown
    have HK3 := Lib.hid hkr
    by_cases hlt : k < len
    · have hkl : k < l.length := by rw [HL.out]; exact hlt
      obtain ⟨ad, rfl, hcx⟩ := (HS.out.kept0 hkr) k hkl
      have hx := HOK.out _ (List.getElem_mem hkl)
      have HT := Lib.hid (show initTo n (l.take (k + 1)) = (initTo n (l.take k)).set (l[k] / 2) true by rw [List.take_succ_eq_append_getElem hkl, initTo_snoc])
      unfold Gr.ok at hx
      rw [← HN.out] at hx
      generalize l[k] = x at *
      have x32 : x < 4294967296 := by omega
      have i1 : (x : Int) / 2 < (n : Int) := by omega
      obtain ⟨⟨v0, q3⟩, q4, q5⟩ := hown.store (j := x / 2) hx
      have HPUT := Lib.hid (own_put HO3.out HK3.out hgw hx true)
      clear q5 hown hkr
      go_wp2_with fail
      refine (lit_node x _ x32).mono ?_
      rintro e w' ⟨rfl, rfl⟩
      go_wp2_with fail
      go_roundw
      case rel => exact ⟨k + 1, by omega, by go_num, by rw [HT.out]; exact HPUT.out.1, HPUT.out.2⟩
      case measure => simp [intOf]; omega
    · have HE := Lib.hid (show l.take k = l from List.take_of_length_le (by rw [HL.out]; omega))
      rw [HE.out] at HO3
      clear hown hkr HE
      obtain ⟨w3, rfl⟩ : ∃ w3 : World, w3 = wr := ⟨_, rfl⟩
      go_wp2_with fail
      -- from above down
      go_loopw [8] (fun i wr => ∃ (k : Nat) (M : List Bool), k < n ∧ i = .int .i64 k ∧ Hid (M.length = n ∧ sweepD g.nodes (k + 1) M = sweepD g.nodes n (initTo n l)) ∧ Own wr 4 (some ⟨gb, 0, none⟩) n n (bls M) ∧ Kept [] w wr) (fun i _ => (intOf i).toNat)
      case atStart => exact ⟨n - 1, initTo n l, by omega, by congr 1; omega, Lib.hid ⟨initTo_length _ _, by rw [show n - 1 + 1 = n by omega]⟩, HO3.out, HK3.out⟩
      case round =>
        obtain ⟨k, M, hk, rfl, HM, hown, hkr⟩ := hrel
        have HO4 := Lib.hid hown
        have HK4 := Lib.hid hkr
        by_cases h0 : 0 < k
        · have HGT := Lib.hid (aig_gateOf (HG.out.kept0 hkr) (show g.nodes.length ≤ 1000000 by rw [← HN.out]; omega) (k : Int) (by omega) (by omega))
          rw [gateA_nat] at HGT
          have hml : M.length = n := HM.out.1
          obtain ⟨gk, hgk⟩ : ∃ b, b = gAt g.nodes k := ⟨_, rfl⟩
          obtain ⟨mk, hmk⟩ : ∃ b, b = M.getD k false := ⟨_, rfl⟩
          rw [← hgk] at HGT
          have HMA := Lib.hid (show markAt g.nodes M k = if gk && mk then (M.set (gA g.nodes k / 2) true).set (gB g.nodes k / 2) true else M by rw [hgk, hmk]; rfl)
          have HGL := Lib.hid (fun (h : gk = true) => gAt_lt HWF.out (k := k) (by rw [← hgk]; exact h))
          have HSW := Lib.hid (show sweepD g.nodes k (markAt g.nodes M k) = sweepD g.nodes n (initTo n l) from HM.out.2)
          have HCK := Lib.hid (fun (W : World) (hk' : Kept [] wr W) => (by
            have h := own_cell_b (HO4.out.kept0 hk') k (by rw [hml]; exact hk)
            rw [← hmk] at h; exact h : W.cell? ⟨gb, k, none⟩ = some (.bool mk)))
          have HML := Lib.hid hml
          clear hgk hmk hml hown hkr
          have k1 : (k : Int) < (n : Int) := by omega
          cases gk
          · simp only [Bool.false_and, Bool.false_eq_true, if_false] at HGT HMA
            go_wp2_with fail
            refine HGT.out.mono ?_
            rintro e w4 ⟨rfl, hk4⟩
            have HK5 := Lib.hid (HK4.out.trans hk4)
            have HO5 := Lib.hid (HO4.out.kept0 hk4)
            clear hk4
            go_wp2_with fail
            go_roundw
            case rel => exact ⟨k - 1, M, by omega, by congr 1; omega, Lib.hid ⟨HML.out, by rw [show k - 1 + 1 = k by omega]; rw [← HSW.out, HMA.out]⟩, HO5.out, HK5.out⟩
            case measure => simp [intOf]; omega
          · obtain ⟨ha, hb, _, _⟩ := HGL.out rfl
            simp only [if_true] at HGT
            cases mk
            · simp only [Bool.and_false, Bool.false_eq_true, if_false] at HMA
              clear ha hb
              go_wp2_with fail
              refine HGT.out.mono ?_
              rintro e w4 ⟨rfl, hk4⟩
              have HK5 := Lib.hid (HK4.out.trans hk4)
              have HO5 := Lib.hid (HO4.out.kept0 hk4)
              have ck := HCK.out _ hk4
              clear hk4
              go_wp2_with fail
              go_roundw
              case rel => exact ⟨k - 1, M, by omega, by congr 1; omega, Lib.hid ⟨HML.out, by rw [show k - 1 + 1 = k by omega]; rw [← HSW.out, HMA.out]⟩, HO5.out, HK5.out⟩
              case measure => simp [intOf]; omega
            · simp only [Bool.and_true, if_true] at HMA
              generalize gA g.nodes k = x at *
              generalize gB g.nodes k = y at *
              have x32 : x < 4294967296 := by omega
              have y32 : y < 4294967296 := by omega
              have i1 : (x : Int) / 2 < (n : Int) := by omega
              have i2 : (y : Int) / 2 < (n : Int) := by omega
              go_wp2_with fail
              refine HGT.out.mono ?_
              rintro e w4 ⟨rfl, hk4⟩
              have HK5 := Lib.hid (HK4.out.trans hk4)
              have HO5 := Lib.hid (HO4.out.kept0 hk4)
              have ck := HCK.out _ hk4
              obtain ⟨⟨v0, q3⟩, q4, _⟩ := HO5.out.store (j := x / 2) (by omega)
              have P1 := Lib.hid (own_put HO5.out HK5.out hgw (i := x / 2) (by omega) true)
              obtain ⟨⟨v1, q5⟩, q6, _⟩ := P1.out.1.store (j := y / 2) (by omega)
              have P2 := Lib.hid (own_put P1.out.1 P1.out.2 hgw (i := y / 2) (by omega) true)
              clear hk4
              go_wp2_with fail
              refine (lit_node x _ x32).mono ?_
              rintro e w' ⟨rfl, rfl⟩
              go_wp2_with fail
              refine (lit_node y _ y32).mono ?_
              rintro e w' ⟨rfl, rfl⟩
              go_wp2_with fail
              go_roundw
              case rel => exact ⟨k - 1, _, by omega, by congr 1; omega, Lib.hid ⟨by rw [List.length_set, List.length_set]; exact HML.out, by rw [show k - 1 + 1 = k by omega]; rw [← HSW.out, HMA.out]⟩, P2.out.1, P2.out.2⟩
              case measure => simp [intOf]; omega
        · obtain rfl : k = 0 := by omega
          obtain ⟨⟨v0, q3⟩, q4, _⟩ := hown.store (j := 0) hp
          have P1 := Lib.hid (own_put HO4.out HK4.out hgw hp false)
          have HF := Lib.hid (show M.set 0 false = marksL g.nodes l by
            have h := HM.out.2
            have e : markAt g.nodes M 0 = M := by unfold markAt gAt; simp
            simp only [sweepD, e] at h
            rw [h]; unfold marksL; rw [← HN.out])
          clear hown hkr
          go_wp2_with fail
          go_ret
          rw [← HN.out]
          exact ⟨gb, rfl, by rw [← HF.out]; exact P1.out.1, P1.out.2, hgw⟩
/-- numbers of one's own, and no error -/
def IntsPost (l : List Nat) (w : World) (e : Ending) (w' : World) : Prop := ∃ a c n, e = .returned (.tuple #[.slice a n c, .int .i64 0]) ∧ Own w' 3 a n c (nats .i64 l) ∧ Kept [] w w'
theorem Stepped.keep0' {a b c : World} {F F' : List Nat} (h : Stepped a b F F') (hk : Kept [] b c) : Stepped a c F F' := h.trans (⟨hk.more (by simp), fun _ h => .inl h⟩ : Stepped b c F' F')
theorem reach_always (i : Int) (w : World) : Calls Tryz.prog 72 #[.int .i64 i] w fun e w' => e = .returned (.bool true) ∧ w = w' := by
  go_enter Tryz.func72, Tryz.ntmps72
  go_wp2
  go_ret
  exact ⟨rfl, rfl⟩
theorem support_is (hg : GraphAt w p F g) (hm : g.nodes.length ≤ 1000000) (b k : Nat) (hk : k ≤ 1000000) (hb : w.cell? ⟨b, 0, none⟩ = some (.pointer (some ⟨p, 0, none⟩))) : Calls Tryz.prog 101 #[.int .i64 k, .pointer (some ⟨b, 0, none⟩)] w fun e w' => e = .returned (.bool (!gAt g.nodes k)) ∧ Kept [] w w' := by
  have HG := Lib.hid (aig_gateOf hg hm (k : Int) (by omega) (by omega))
  rw [gateA_nat] at HG
  clear hg
  obtain ⟨gk, hgk⟩ : ∃ b, b = gAt g.nodes k := ⟨_, rfl⟩
  rw [← hgk] at HG ⊢
  clear hgk
  cases gk
  · simp only [Bool.false_eq_true, if_false] at HG
    go_enter Tryz.func101, Tryz.ntmps101
    go_wp2_with fail
    refine HG.out.mono ?_
    rintro e w1 ⟨rfl, hk1⟩
    have HK := Lib.hid hk1
    clear hk1
    go_wp2_with fail
    go_ret
    exact ⟨rfl, HK.out⟩
  · simp only [if_true] at HG
    go_enter Tryz.func101, Tryz.ntmps101
    go_wp2_with fail
    refine HG.out.mono ?_
    rintro e w1 ⟨rfl, hk1⟩
    have HK := Lib.hid hk1
    clear hk1
    go_wp2_with fail
    go_ret
    exact ⟨rfl, HK.out⟩

set_option maxHeartbeats 1600000 in
set_option maxRecDepth 100000 in
theorem nodes_reach (hg : GraphAt w p F g) (hm : g.nodes.length ≤ 200000) (a : Option Addr) (c len : Nat) (l : List Nat) (hl : l.length = len) (hlm : len ≤ 1000000) (hs : SlN w .u32 a l) (hok : ∀ x ∈ l, g.ok x) :
    Calls Tryz.prog 71 #[.pointer (some ⟨p, 0, none⟩), .slice a len c, .func (.func 72) #[] #[]] w (IntsPost (reachL g.nodes l) w) := by
  have hp := hg.wf.pos
  have HA := Lib.hid (cone_asks_ok hg hm a c len l hl (by omega) hs hok)
  have HM := Lib.hid (fun (W : World) (hk : Kept [] w W) => cone_marks (hg.kept0 hk) hm a c len l hl hlm (hs.kept0 hk) hok)
  have HML := Lib.hid (marksL_length g.nodes l)
  clear hg hl hs hok
  obtain ⟨n, hn⟩ : ∃ n, n = g.nodes.length := ⟨_, rfl⟩
  have HN := Lib.hid hn
  rw [← hn] at hm hp HM HML
  clear hn
  go_enter Tryz.func71, Tryz.ntmps71
  go_wp2_with fail
  refine HA.out.mono ?_
  rintro e w1 ⟨rfl, hk1⟩
  have HK1 := Lib.hid hk1
  clear hk1
  go_wp2_with fail
  refine (HM.out _ HK1.out).mono ?_
  rintro e w2 ⟨gb, rfl, hown, hk2, _⟩
  have HOW := Lib.hid hown
  have HK2 := Lib.hid (HK1.out.trans hk2)
  clear hown hk2 HM HA HK1
  obtain ⟨M, hM⟩ : ∃ M, M = marksL g.nodes l := ⟨_, rfl⟩
  rw [← hM] at HOW HML
  have HMM := Lib.hid hM
  clear hM
  go_wp2_with fail
  go_loopw [9, 22] (fun v i wr => ∃ (k len' : Nat) (a' : Option Addr) (c' : Nat), k ≤ n ∧ len' ≤ k ∧ i = .int .i64 k ∧ v = .slice a' len' c' ∧ Own wr 3 a' len' c' (nats .i64 (pick k (fun j => M.getD j false))) ∧ Stepped w2 wr [] (ft a')) (fun _ i _ => n - (intOf i).toNat)
  case atStart => exact ⟨0, 0, none, 0, Nat.zero_le _, Nat.le_refl _, rfl, rfl, Own.nil _ _, .refl _ _⟩
  case round =>
    obtain ⟨k, len', a', c', hk, hlk, rfl, rfl, hown, hst⟩ := hrel
    have HO3 := Lib.hid hown
    have HS3 := Lib.hid hst
    by_cases hlt : k < n
    · have hc := own_cell_b (HOW.out.kept0 hst.kept) k (by rw [HML.out]; exact hlt)
      have HPS := Lib.hid (pick_succ k (fun j => M.getD j false))
      have k1 : (k : Int) < (n : Int) := by omega
      obtain ⟨mk, hmk⟩ : ∃ b, b = M.getD k false := ⟨_, rfl⟩
      rw [← hmk] at hc
      have HMK := Lib.hid hmk
      clear hown hst hmk
      cases mk
      · have HPK := Lib.hid (show pick (k + 1) (fun j => M.getD j false) = pick k (fun j => M.getD j false) by rw [HPS.out, ← HMK.out]; simp)
        go_wp2_with fail
        go_roundw
        case rel => exact ⟨k + 1, len', a', c', by omega, by omega, by go_num, rfl, by rw [HPK.out]; exact HO3.out, HS3.out⟩
        case measure => simp [intOf]; omega
      · go_wp2_with fail
        refine (reach_always _ _).mono ?_
        rintro e w' ⟨rfl, rfl⟩
        have HPK := Lib.hid (show pick (k + 1) (fun j => M.getD j false) = pick k (fun j => M.getD j false) ++ [k] by rw [HPS.out, ← HMK.out]; simp)
        go_wp2_with (at_builtin; refine wpList_push rfl rfl Tryz.underlying65 int_info rfl rfl rfl HO3.out rfl (by unfold maxLen; omega) (by omega) ?_; intro a1 c1 w5 hown5 hst5)
        go_roundw
        case rel => exact ⟨k + 1, len' + 1, a1, c1, by omega, by omega, by go_num, rfl, by rw [HPK.out, ← nats_append]; exact hown5, HS3.out.trans hst5⟩
        case measure => simp [intOf]; omega
    · have HE := Lib.hid (show pick k (fun j => M.getD j false) = reachL g.nodes l by unfold reachL; rw [← HMM.out, ← HN.out, show k = n by omega])
      rw [HE.out] at HO3
      clear hown hst HE
      go_wp2_with fail
      go_ret2
      exact ⟨a', c', len', rfl, HO3.out, HK2.out.trans HS3.out.kept⟩

set_option maxHeartbeats 1600000 in
set_option maxRecDepth 100000 in
theorem nodes_support (hg : GraphAt w p F g) (hm : g.nodes.length ≤ 200000) (a : Option Addr) (c len : Nat) (l : List Nat) (hl : l.length = len) (hlm : len ≤ 1000000) (hs : SlN w .u32 a l) (hok : ∀ x ∈ l, g.ok x) (bx : Nat) (hbx : w.cell? ⟨bx, 0, none⟩ = some (.pointer (some ⟨p, 0, none⟩))) :
    Calls Tryz.prog 71 #[.pointer (some ⟨p, 0, none⟩), .slice a len c, .func (.func 101) #[] #[.pointer (some ⟨bx, 0, none⟩)]] w (IntsPost (supportL g.nodes l) w) := by
  have hp := hg.wf.pos
  have HA := Lib.hid (cone_asks_ok hg hm a c len l hl (by omega) hs hok)
  have HM := Lib.hid (fun (W : World) (hk : Kept [] w W) => cone_marks (hg.kept0 hk) hm a c len l hl hlm (hs.kept0 hk) hok)
  have HML := Lib.hid (marksL_length g.nodes l)
  have HSUP := Lib.hid (fun (W : World) (hk : Kept [] w W) (k : Nat) (hk2 : k ≤ 1000000) => support_is (hg.kept0 hk) (by omega) bx k hk2 (hk.cell hbx (by simp)))
  clear hg hl hs hok
  obtain ⟨n, hn⟩ : ∃ n, n = g.nodes.length := ⟨_, rfl⟩
  have HN := Lib.hid hn
  rw [← hn] at hm hp HM HML
  clear hn
  go_enter Tryz.func71, Tryz.ntmps71
  go_wp2_with fail
  refine HA.out.mono ?_
  rintro e w1 ⟨rfl, hk1⟩
  have HK1 := Lib.hid hk1
  clear hk1
  go_wp2_with fail
  refine (HM.out _ HK1.out).mono ?_
  rintro e w2 ⟨gb, rfl, hown, hk2, _⟩
  have HOW := Lib.hid hown
  have HK2 := Lib.hid (HK1.out.trans hk2)
  clear hown hk2 HM HA HK1
  obtain ⟨M, hM⟩ : ∃ M, M = marksL g.nodes l := ⟨_, rfl⟩
  rw [← hM] at HOW HML
  have HMM := Lib.hid hM
  clear hM
  go_wp2_with fail
  go_loopw [9, 22] (fun v i wr => ∃ (k len' : Nat) (a' : Option Addr) (c' : Nat), k ≤ n ∧ len' ≤ k ∧ i = .int .i64 k ∧ v = .slice a' len' c' ∧ Own wr 3 a' len' c' (nats .i64 (pick k (fun j => M.getD j false && !gAt g.nodes j))) ∧ Stepped w2 wr [] (ft a')) (fun _ i _ => n - (intOf i).toNat)
  case atStart => exact ⟨0, 0, none, 0, Nat.zero_le _, Nat.le_refl _, rfl, rfl, Own.nil _ _, .refl _ _⟩
  case round =>
    obtain ⟨k, len', a', c', hk, hlk, rfl, rfl, hown, hst⟩ := hrel
    have HO3 := Lib.hid hown
    have HS3 := Lib.hid hst
    by_cases hlt : k < n
    · have hc := own_cell_b (HOW.out.kept0 hst.kept) k (by rw [HML.out]; exact hlt)
      have HPS := Lib.hid (pick_succ k (fun j => M.getD j false && !gAt g.nodes j))
      have k1 : (k : Int) < (n : Int) := by omega
      obtain ⟨mk, hmk⟩ : ∃ b, b = M.getD k false := ⟨_, rfl⟩
      rw [← hmk] at hc
      have HMK := Lib.hid hmk
      clear hown hst hmk
      cases mk
      · have HPK := Lib.hid (show pick (k + 1) (fun j => M.getD j false && !gAt g.nodes j) = pick k (fun j => M.getD j false && !gAt g.nodes j) by rw [HPS.out, ← HMK.out]; simp)
        go_wp2_with fail
        go_roundw
        case rel => exact ⟨k + 1, len', a', c', by omega, by omega, by go_num, rfl, by rw [HPK.out]; exact HO3.out, HS3.out⟩
        case measure => simp [intOf]; omega
      · go_wp2_with fail
        refine (HSUP.out _ (HK2.out.trans HS3.out.kept) k (by omega)).mono ?_
        rintro e w4 ⟨rfl, hk4⟩
        have HO4 := Lib.hid (HO3.out.kept0 hk4)
        have HS4 := Lib.hid (Stepped.keep0' HS3.out hk4)
        clear hk4
        obtain ⟨gk, hgk⟩ : ∃ b, b = gAt g.nodes k := ⟨_, rfl⟩
        rw [← hgk]
        have HGK := Lib.hid hgk
        clear hgk
        cases gk
        · have HPK := Lib.hid (show pick (k + 1) (fun j => M.getD j false && !gAt g.nodes j) = pick k (fun j => M.getD j false && !gAt g.nodes j) ++ [k] by rw [HPS.out, ← HMK.out, ← HGK.out]; simp)
          go_wp2_with (at_builtin; refine wpList_push rfl rfl Tryz.underlying65 int_info rfl rfl rfl HO4.out rfl (by unfold maxLen; omega) (by omega) ?_; intro a1 c1 w5 hown5 hst5)
          go_roundw
          case rel => exact ⟨k + 1, len' + 1, a1, c1, by omega, by omega, by go_num, rfl, by rw [HPK.out, ← nats_append]; exact hown5, HS4.out.trans hst5⟩
          case measure => simp [intOf]; omega
        · have HPK := Lib.hid (show pick (k + 1) (fun j => M.getD j false && !gAt g.nodes j) = pick k (fun j => M.getD j false && !gAt g.nodes j) by rw [HPS.out, ← HMK.out, ← HGK.out]; simp)
          go_wp2_with fail
          go_roundw
          case rel => exact ⟨k + 1, len', a', c', by omega, by omega, by go_num, rfl, by rw [HPK.out]; exact HO4.out, HS4.out⟩
          case measure => simp [intOf]; omega
    · have HE := Lib.hid (show pick k (fun j => M.getD j false && !gAt g.nodes j) = supportL g.nodes l by unfold supportL; rw [← HMM.out, ← HN.out, show k = n by omega])
      rw [HE.out] at HO3
      clear hown hst HE
      go_wp2_with fail
      go_ret2
      exact ⟨a', c', len', rfl, HO3.out, HK2.out.trans HS3.out.kept⟩
end Go.Proofs.YtdmcdhkkbkgnbaaGreat
