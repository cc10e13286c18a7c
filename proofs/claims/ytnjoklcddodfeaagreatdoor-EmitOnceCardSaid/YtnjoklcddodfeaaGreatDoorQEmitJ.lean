/-
  Package emit: registers' lines, gates' lines.
-/
import Derived.Test.YtnjoklcddodfeaaGreatDoorQEmitI
namespace Go.Proofs.YtnjoklcddodfeaaGreatDoor
open Go.ChangeShapes Go.WideShapes Go.ChangeAt Go.RowKit Go.Shelf
attribute [local go_sem] Oper.semAt_some
set_option linter.unusedVariables false
set_option linter.unusedSimpArgs false

variable {w w' w1 W W' : World} {n₀ : Nat}
theorem reg_cell {a : Option Addr} {c n : Nat} {l : List Rg} (h : w.ownsRow 0 76 4 (.slice a n c) n (rgCells l)) (hn : l.length = n) (k : Nat) (hk : k < l.length) : ∃ g, a = some ⟨g, 0, none⟩ ∧ w.cell? ⟨g, k * 4, none⟩ = some (.int .u32 ((l[k]'hk).q : Int)) ∧ w.cell? ⟨g, k * 4 + 1, none⟩ = some (.int .u32 ((l[k]'hk).d : Int)) ∧ w.cell? ⟨g, k * 4 + 2, none⟩ = some (.int .u32 ((l[k]'hk).en : Int)) ∧ w.cell? ⟨g, k * 4 + 3, none⟩ = some (.bool (l[k]'hk).init) := by
  have hg := rgCells_get l k _ (List.getElem?_eq_getElem hk)
  rcases h.2 with ⟨hv, hn0⟩ | ⟨g, cap', cur, hv, _⟩
  · omega
  · injection hv with hv
    subst hv
    refine ⟨g, rfl, ?_, ?_, ?_, ?_⟩
    · rw [World.ownsRow.cellAt h (k * 4) (by omega), Nat.mul_comm, hg.1]
    · rw [World.ownsRow.cellAt h (k * 4 + 1) (by omega), Nat.mul_comm k 4, hg.2.1]
    · rw [World.ownsRow.cellAt h (k * 4 + 2) (by omega), Nat.mul_comm k 4, hg.2.2.1]
    · rw [World.ownsRow.cellAt h (k * 4 + 3) (by omega), Nat.mul_comm k 4, hg.2.2.2]
set_option maxHeartbeats 3200000 in
set_option maxRecDepth 100000 in
theorem latches_in (n l : Nat) (T : List (List UInt8)) (J Jx : List (List UInt8) → World → Prop) (hY : ∀ m, Yld m l J Jx n₀ T) (hJ : ∀ s A B, J s A → Kept [] A B → J s B)
    (a : Option Addr) (c len : Nat) (rs : List Rg) (W : World) (hlen : rs.length = len) (hb : W.ownsRow 0 76 4 (.slice a len c) len (rgCells rs)) (hl1 : ∀ b ∈ ft a, b < n₀)
    (hbs : ∀ r ∈ rs, r.q < 4294967296 ∧ r.d < 4294967296 ∧ r.en < 4294967296) (hlm : len ≤ 1000000) (hL : PowLaid W) (hg : 3 < n₀) (hn0 : n₀ ≤ W.heap.size) (pre : List (List UInt8)) (h0 : J pre W) (hN : pre ++ rs.map latchL <+: T) :
    CallsIn Fence.wide n Tryz.prog 47 #[.slice a len c, .func (.yield l) #[] #[]] W (HandOn J Jx n₀ pre (rs.map latchL) W) := by
  have HY := Lib.hid hY
  have HJ := Lib.hid hJ
  have HB := Lib.hid hb
  have HBS := Lib.hid hbs
  have HL := Lib.hid hL
  have H1 := Lib.hid hl1
  have HLEN := Lib.hid hlen
  have H0 := Lib.hid h0
  clear hY hJ hb hbs hL hl1 hlen h0
  refine callsIn_of_wp Tryz.func47 rfl trivial ?_ rfl
  simp only [Tryz.ntmps47, List.size_toArray, List.length_cons, List.length_nil, Nat.reduceAdd, Nat.reduceSub, Array.replicate_succ, Array.replicate_zero, List.push_toArray, List.append_toArray, List.nil_append, List.cons_append]
  gi_wp2_with fail
  gi_loopw [9] (fun v wr => ∃ k : Nat, k ≤ len ∧ v = .int .i64 k ∧ J (pre ++ (rs.take k).map latchL) wr ∧ Below n₀ W wr) (fun v _ => len - (intOf v).toNat)
  case atStart => exact ⟨0, Nat.zero_le _, rfl, by simpa using H0.out, Below.refl _ _⟩
  case round =>
    obtain ⟨k, hk, rfl, hj, hbl⟩ := hrel
    have HJR := Lib.hid hj
    have KR := Lib.hid hbl
    clear hj hbl
    by_cases hlt : k < len
    · have hkb : k < rs.length := by rw [HLEN.out]; exact hlt
      obtain ⟨g, rfl, e0, e1, e2, e3⟩ := reg_cell (own_kept HB.out (kept_up0 KR.out) (fun b hb => not_up (H1.out b hb))) HLEN.out k hkb
      have HTK := Lib.hid (show rs.take (k + 1) = rs.take k ++ [rs[k]'hkb] from List.take_succ_eq_append_getElem hkb)
      have HBK := Lib.hid (HBS.out _ (List.getElem_mem hkb))
      obtain ⟨r, hrr⟩ : ∃ r, r = rs[k]'hkb := ⟨_, rfl⟩
      rw [← hrr] at e0 e1 e2 e3 HTK HBK
      have q0 : (0 : Int) ≤ (k : Int) := by omega
      have q1 : (k : Int) < (len : Int) := by omega
      clear hrr hkb
      have HPW := Lib.hid (HL.out.below KR.out hg)
      have hsz := KR.out.size
      have HLN := Lib.hid (fun V (hV : Kept [] wr V) => latch_c r HBK.out.1 HBK.out.2.1 HBK.out.2.2 V (HPW.out.kept0 hV))
      gi_wp2_with fail
      refine ⟨trivial, (fun h => nomatch h), ?_⟩
      refine (callsIn_wide.2 (HLN.out _ ((Kept.refl [] wr).alloc _))).mono ?_
      rintro e W2 ⟨rfl, k2⟩
      have K2 := Lib.hid (show Kept [] wr W2 from ((Kept.refl [] wr).alloc (.cells #[.int .u32 (r.q : Int), .int .u32 (r.d : Int), .int .u32 (r.en : Int), .bool r.init] 76)).trans k2)
      clear k2
      have HPX := Lib.hid (show (rs.take k).map latchL ++ [latchL r] <+: rs.map latchL from by
        have h : (rs.take (k + 1)).map latchL <+: rs.map latchL := (List.take_prefix _ _).map _
        rw [HTK.out, List.map_append] at h
        exact h)
      obtain ⟨fn, tmps, assign, body, hy, hR⟩ := HY.out (n - 1) _ (latchL r) W2 (HJ.out _ _ _ HJR.out K2.out) (by rw [List.append_assoc]; exact pre_on HPX.out hN)
      have HR := Lib.hid hR
      have HT2 := Lib.hid (show pre ++ (rs.take (k + 1)).map latchL = pre ++ (rs.take k).map latchL ++ [latchL r] from by
        rw [HTK.out, List.map_append, List.append_assoc]
        rfl)
      have KB2 := Lib.hid (show Below n₀ wr W2 from K2.out.below.mono (by omega))
      clear hR e0 e1 e2 e3
      gi_wp2_with fail
      refine ⟨(fun h => nomatch h), ?_⟩
      refine HR.out.mono ?_
      rintro e W3 (⟨rfl, hJ3, hb3⟩ | ⟨rfl, hx3⟩)
      · have HJ3 := Lib.hid hJ3
        have KB3 := Lib.hid (KR.out.trans (KB2.out.trans hb3))
        clear hJ3 hb3
        gi_wp2_with fail
        go_roundw
        case rel => exact ⟨k + 1, by omega, by go_num, by rw [HT2.out]; exact HJ3.out, KB3.out⟩
        case measure => simp [intOf]; omega
      · have HX3 := Lib.hid hx3
        clear hx3
        gi_wp2_with fail
        go_ret
        exact .inr ⟨rfl, _, HPX.out, by rw [← List.append_assoc]; exact HX3.out⟩
    · obtain rfl : k = len := by omega
      have HFIN := Lib.hid (show rs.take k = rs from by rw [← HLEN.out]; exact List.take_length)
      gi_wp2_with fail
      go_ret
      refine .inl ⟨rfl, ?_, KR.out⟩
      have h := HJR.out
      rw [HFIN.out] at h
      exact h
/-! gates -/
theorem gateA_at (g : Gr) (hw : WF g.nodes) (k : Nat) : gateA g (k : Int) = match gateAt g k with
    | some p => (p.1, p.2, true)
    | none => (0, 0, false) := by
  unfold gateA gateAt
  by_cases h0 : k = 0
  · subst h0
    rw [if_neg (by omega), hw.zero]
    rfl
  · by_cases hlt : k < g.nodes.length
    · rw [if_pos (by omega)]
      simp only [Int.toNat_natCast]
      rw [List.getElem?_eq_getElem hlt]
      simp only
      split <;> rfl
    · rw [if_neg (by omega), List.getElem?_eq_none (by omega)]
set_option maxHeartbeats 3200000 in
set_option maxRecDepth 100000 in
theorem gates_in (n l : Nat) (T : List (List UInt8)) (J Jx : List (List UInt8) → World → Prop) (hY : ∀ m, Yld m l J Jx n₀ T) (hJ : ∀ s A B, J s A → Kept [] A B → J s B)
    (nb p : Nat) (G : List Nat) (g : Gr) (W : World) (hc : W.cell? ⟨nb, 0, none⟩ = some (.pointer (some ⟨p, 0, none⟩))) (hgr : GraphAt W p G g) (hnb : nb < n₀) (hG : ∀ b ∈ G, b < n₀)
    (hm : g.nodes.length ≤ 1000000) (hL : PowLaid W) (hg : 3 < n₀) (hn0 : n₀ ≤ W.heap.size) (pre : List (List UInt8)) (h0 : J pre W) (hN : pre ++ gatesL g g.nodes.length <+: T) :
    CallsIn Fence.wide n Tryz.prog 48 #[.pointer (some ⟨nb, 0, none⟩), .func (.yield l) #[] #[]] W (HandOn J Jx n₀ pre (gatesL g g.nodes.length) W) := by
  have HY := Lib.hid hY
  have HJ := Lib.hid hJ
  have HGR := Lib.hid hgr
  have HL := Lib.hid hL
  have HG := Lib.hid hG
  have H0 := Lib.hid h0
  have HC := Lib.hid hc
  have HNN := Lib.hid hN
  have hwf := hgr.wf
  have HWF := Lib.hid hwf
  obtain ⟨len, hlen⟩ : ∃ len, len = g.nodes.length := ⟨_, rfl⟩
  have HLEN := Lib.hid hlen
  have HND := Lib.hid (aig_nodes hgr hm)
  rw [← hlen] at hm HNN HND ⊢
  have hsub := (show ∀ k, k ≤ len → gatesL g k <+: gatesL g len from fun k hk => by
    unfold gatesL
    refine List.IsPrefix.filterMap _ ?_
    obtain ⟨d, rfl⟩ : ∃ d, len = k + d := ⟨len - k, by omega⟩
    rw [List.range_add]
    exact List.prefix_append _ _)
  have HSUB := Lib.hid hsub
  clear hY hJ hgr hL hG h0 hN hwf hlen hsub
  refine callsIn_of_wp Tryz.func48 rfl trivial ?_ rfl
  simp only [Tryz.ntmps48, List.size_toArray, List.length_cons, List.length_nil, Nat.reduceAdd, Nat.reduceSub, Array.replicate_succ, Array.replicate_zero, List.push_toArray, List.append_toArray, List.nil_append, List.cons_append]
  gi_wp2_with fail
  refine ⟨trivial, (fun h => nomatch h), ?_⟩
  refine (callsIn_wide.2 HND.out).mono ?_
  rintro e W2 ⟨rfl, rfl⟩
  gi_wp2_with fail
  clear hc
  gi_loopw [16] (fun v wr => ∃ k : Nat, k ≤ len ∧ v = .int .i64 k ∧ J (pre ++ gatesL g k) wr ∧ Below n₀ W wr) (fun v _ => len - (intOf v).toNat)
  case atStart => exact ⟨0, Nat.zero_le _, rfl, by simpa [gatesL] using H0.out, Below.refl _ _⟩
  case round =>
    obtain ⟨k, hk, rfl, hj, hbl⟩ := hrel
    have HJR := Lib.hid hj
    have KR := Lib.hid hbl
    clear hj hbl
    by_cases hlt : k < len
    · have hc : wr.cell? ⟨nb, 0, none⟩ = some (.pointer (some ⟨p, 0, none⟩)) := (kept_up0 KR.out).cell HC.out (not_up hnb)
      have HGA := Lib.hid (aig_gateOf (HGR.out.kept (kept_up0 KR.out) (fun b hb => not_up (HG.out b hb))) (by rw [← HLEN.out]; exact hm) (k : Int) (by omega) (by omega))
      have HGE := Lib.hid (gateA_at g HWF.out k)
      have HSC := Lib.hid (gatesL_succ g k)
      have hsz := KR.out.size
      cases hgt : gateAt g k with
      | none =>
        have HGP := Lib.hid (show Calls Tryz.prog 9 #[.pointer (some ⟨p, 0, none⟩), .int .i64 (k : Int)] wr (GatePost (0, 0, false) wr) from by
          have h := HGA.out
          rw [HGE.out, hgt] at h
          exact h)
        have HS2 := Lib.hid (show gatesL g (k + 1) = gatesL g k from by rw [HSC.out, hgt]; simp)
        clear hgt
        gi_wp2_with fail
        refine ⟨trivial, (fun h => nomatch h), ?_⟩
        refine (callsIn_wide.2 HGP.out).mono ?_
        rintro e W2 ⟨rfl, k2⟩
        have K2 := Lib.hid k2
        clear k2 hc
        gi_wp2_with fail
        go_roundw
        case rel => exact ⟨k + 1, by omega, by go_num, by rw [HS2.out]; exact HJ.out _ _ _ HJR.out K2.out, KR.out.trans (K2.out.below.mono (by omega))⟩
        case measure => simp [intOf]; omega
      | some q =>
        obtain ⟨x, y⟩ := q
        obtain ⟨g1, g2, g3⟩ := gateAt_lt HWF.out hgt
        have HGP := Lib.hid (show Calls Tryz.prog 9 #[.pointer (some ⟨p, 0, none⟩), .int .i64 (k : Int)] wr (GatePost (x, y, true) wr) from by
          have h := HGA.out
          rw [HGE.out, hgt] at h
          exact h)
        have HS2 := Lib.hid (show gatesL g (k + 1) = gatesL g k ++ [lineB wAnd [] [2 * k, x, y]] from by rw [HSC.out, hgt])
        have HPX := Lib.hid (show gatesL g k ++ [lineB wAnd [] [2 * k, x, y]] <+: gatesL g len from by rw [← HS2.out]; exact HSUB.out (k + 1) (by omega))
        have HOF := Lib.hid (fun V => (show Calls Tryz.prog 35 #[.int .i64 (k : Int), .bool false] V (fun e w' => e = .returned (.tuple #[.int .u32 ((2 * k : Nat) : Int), .int .i64 0]) ∧ V = w') from by
          have h := lit_of (k : Int) false V
          have e1 : ofV (k : Int) false = 2 * k := by unfold ofV; rw [if_pos (by omega)]; simp [ifL]
          have e2 : ofE (k : Int) = 0 := by unfold ofE; rw [if_pos (by omega)]
          rw [e1, e2] at h
          exact h))
        obtain ⟨k2, hk2⟩ : ∃ k2, k2 = 2 * k := ⟨_, rfl⟩
        have HK2 := Lib.hid hk2
        rw [← hk2] at HOF HS2 HPX
        have hlt3 : x < 4294967296 ∧ y < 4294967296 ∧ k2 < 4294967296 := by omega
        have HLT := Lib.hid (show ∀ z ∈ [k2, x, y], z < 4294967296 from fun z hz => by
          simp only [List.mem_cons, List.not_mem_nil, or_false] at hz
          rcases hz with rfl | rfl | rfl <;> omega)
        have HPW := Lib.hid (HL.out.below KR.out hg)
        clear hgt hk2
        gi_wp2_with fail
        refine ⟨trivial, (fun h => nomatch h), ?_⟩
        refine (callsIn_wide.2 HGP.out).mono ?_
        rintro e W2 ⟨rfl, k2'⟩
        have K2 := Lib.hid k2'
        clear k2' hc
        gi_wp2_with fail
        refine ⟨trivial, (fun h => nomatch h), ?_⟩
        refine (callsIn_wide.2 (HOF.out _)).mono ?_
        rintro e W3 ⟨rfl, rfl⟩
        have HLN := Lib.hid (show Calls Tryz.prog 45 #[.string ⟨#[46, 97, 110, 100]⟩, .string ⟨#[]⟩, .slice (some ⟨W2.heap.size, 0, none⟩) 3 3] (W2.alloc (.cells #[.int .u32 (k2 : Int), .int .u32 (x : Int), .int .u32 (y : Int)] 39)) (TxtIs (lineB wAnd [] [k2, x, y]) (W2.alloc (.cells #[.int .u32 (k2 : Int), .int .u32 (x : Int), .int .u32 (y : Int)] 39))) from
          line_c wAnd [] _ 3 3 [k2, x, y] _ (HPW.out.kept0 (K2.out.alloc _)) rfl (sln_new W2 .u32 [k2, x, y] 39) HLT.out (by decide) (by decide) (by decide))
        gi_wp2_with fail
        refine ⟨trivial, (fun h => nomatch h), ?_⟩
        refine (callsIn_wide.2 HLN.out).mono ?_
        rintro e W4 ⟨rfl, k4⟩
        have K4 := Lib.hid (show Kept [] wr W4 from (K2.out.alloc _).trans k4)
        clear k4
        obtain ⟨fn, tmps, assign, body, hy, hR⟩ := HY.out (n - 1) _ (lineB wAnd [] [k2, x, y]) W4 (HJ.out _ _ _ HJR.out K4.out) (by rw [List.append_assoc]; exact pre_on HPX.out HNN.out)
        have HR := Lib.hid hR
        have KB4 := Lib.hid (show Below n₀ wr W4 from K4.out.below.mono (by omega))
        clear hR
        gi_wp2_with fail
        refine ⟨(fun h => nomatch h), ?_⟩
        refine HR.out.mono ?_
        rintro e W5 (⟨rfl, hJ5, hb5⟩ | ⟨rfl, hx5⟩)
        · have HJ5 := Lib.hid hJ5
          have KB5 := Lib.hid (KR.out.trans (KB4.out.trans hb5))
          clear hJ5 hb5
          gi_wp2_with fail
          go_roundw
          case rel => exact ⟨k + 1, by omega, by go_num, by rw [HS2.out, ← List.append_assoc]; exact HJ5.out, KB5.out⟩
          case measure => simp [intOf]; omega
        · have HX5 := Lib.hid hx5
          clear hx5
          gi_wp2_with fail
          go_ret
          exact .inr ⟨rfl, _, HPX.out, by rw [← List.append_assoc]; exact HX5.out⟩
    · obtain rfl : k = len := by omega
      gi_wp2_with fail
      go_ret
      exact .inl ⟨rfl, HJR.out, KR.out⟩
end Go.Proofs.YtnjoklcddodfeaaGreatDoor
