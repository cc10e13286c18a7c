/-
  CompareNumbers: rows compared, as numbers, in each lane. For any options, width and numbers. No condition.
-/
import Derived.Test.YtfngfoabknbgdaaCmpNum
import Derived.Test.YtfngfoabknbgdaaOptsOpen
import Derived.Deep.LoopGhost
namespace Go.Proofs.Ytfngfoabknbgdaa
open Go.ChangeShapes Go.WideShapes Go.ChangeAt Go.RowKit
open Go.Maps (Keyed)
open Go.WideMaps
set_option linter.unusedVariables false
set_option linter.unusedSimpArgs false

variable {w w' : World}
/-- what one bit tells -/
theorem num_bit (rb mb : Nat) (a : Option Addr) (c at' t : Nat) (row : List Nat) (i : Int) (hi : i = at') (h6 : row.length = 6) (hat : at' < 6) (ht : t < 64) (hr : w.cell? ⟨rb, 0, none⟩ = some (.slice a 6 c)) (hm : w.cell? ⟨mb, 0, none⟩ = some (.int .i64 t)) (hs : SlN w .u64 a row) (hw : Words row) :
    Calls Try.prog 30 #[.int .i64 i, .pointer (some ⟨rb, 0, none⟩), .pointer (some ⟨mb, 0, none⟩)] w fun e w' => e = .returned (.bool ((row.getD at' 0).testBit t)) ∧ ∃ k, w' = w.drewN k := by
  subst hi
  obtain ⟨ad, rfl, hc⟩ := hs.getD (k := at') (by omega)
  have hx : row.getD at' 0 < 18446744073709551616 := words_getD hw at'
  have HB := Lib.hid (bit_spell (row.getD at' 0) t hx)
  generalize row.getD at' 0 = x at *
  clear hs hw h6
  go_enter Try.func30, Try.ntmps30
  go_wp2_with fail
  go_quiet (fail)
  go_wp2_with fail
  go_ret
  exact ⟨by rw [HB.out]; cases x.testBit t <;> rfl, _, rfl⟩
/-- what was given: both rows of words, and a word of nothing -/
def GivenPost (n : Nat) (w : World) (a : Option Addr) (c : Nat) (w' : World) : Prop := ∃ l, Own w' 45 a (n + n + 1) c (nats .u64 l) ∧ l.length = n + n + 1 ∧ Words l ∧ Kept [] w w'

def NumLaw (n : Nat) (inp : List Nat) (row : List Nat) : Prop := row.length = 6 ∧ Words row ∧ ∀ t, t < 64 →
    (row.getD 0 0).testBit t = decide (laneN (inp.take n) t = laneN ((inp.drop n).take n) t) ∧ (row.getD 1 0).testBit t = decide (laneN (inp.take n) t < laneN ((inp.drop n).take n) t) ∧
    (row.getD 2 0).testBit t = decide (laneN ((inp.drop n).take n) t < laneN (inp.take n) t) ∧ (row.getD 3 0).testBit t = decide (laneI (inp.take n) t < laneI ((inp.drop n).take n) t) ∧
    (row.getD 4 0).testBit t = decide (laneI ((inp.drop n).take n) t < laneI (inp.take n) t) ∧ (row.getD 5 0).testBit t = decide (laneN (inp.take n) t = 0)

theorem Own.cap {w : World} {e : TypeId} {g n cap : Nat} {xs : List Value} (h : Own w e (some ⟨g, 0, none⟩) n cap xs) : n ≤ cap := by
  rcases h.2 with ⟨hv, h0⟩ | ⟨g', cap', cur, hv, hb, hg, hle, rest⟩
  · cases hv
  · injection hv with _ _ hc
    subst hc
    exact hle
theorem sln_mid {w : World} {K : IntKind} {g n : Nat} {l : List Nat} (h : SlN w K (some ⟨g, 0, none⟩) l) (m : Nat) : SlN w K (some ⟨g, n, none⟩) ((l.drop n).take m) := fun k hk => by
  rw [List.length_take, List.length_drop] at hk
  obtain ⟨ad, h1, h2⟩ := h (n + k) (by omega)
  injection h1 with h1
  subst h1
  refine ⟨_, rfl, ?_⟩
  have e1 : (⟨g, n, none⟩ : Addr).add k = ⟨g, n + k, none⟩ := by unfold Addr.add; split <;> simp_all
  have e2 : (⟨g, 0, none⟩ : Addr).add (n + k) = ⟨g, n + k, none⟩ := by unfold Addr.add; split <;> simp_all
  rw [e1, ← e2, h2]
  simp
theorem words_take {l : List Nat} (h : Words l) (n : Nat) : Words (l.take n) := fun x hx => h x (List.mem_of_mem_take hx)
theorem words_drop {l : List Nat} (h : Words l) (n : Nat) : Words (l.drop n) := fun x hx => h x (List.mem_of_mem_drop hx)
theorem row_cell {w : World} {g : Nat} {row : List Nat} (h : SlN w .u64 (some ⟨g, 0, none⟩) row) (i : Nat) (hi : i < row.length) : w.cell? ⟨g, i, none⟩ = some (.int .u64 (row.getD i 0 : Nat)) := by
  obtain ⟨ad, h1, h2⟩ := h.getD (k := i) hi
  injection h1 with h1
  subst h1
  rw [← h2]
  congr 1
  unfold Addr.add; split <;> simp_all
set_option maxHeartbeats 6400000 in
set_option maxRecDepth 100000 in
theorem cmpnum_walk (o1 o2 : Bool) (k : Nat) (ax : Option Addr) (cx : Nat) (xs : List Nat) (ay : Option Addr) (cy : Nat) (ys : List Nat) (w : World) (hk : k < 256) (hcx : xs.length ≤ cx) (zx : cx * 8 ≤ 140737488351232) (sx : SlN w .u64 ax xs) (mx : ∀ n ∈ xs, n < 18446744073709551616)
    (hcy : ys.length ≤ cy) (zy : cy * 8 ≤ 140737488351232) (sy : SlN w .u64 ay ys) (my : ∀ n ∈ ys, n < 18446744073709551616) :
    Calls Try.prog 6 #[.agg #[.bool o1, .bool o2], .int .u8 k, .slice ax xs.length cx, .slice ay ys.length cy] w fun e w' => e = .returned (.bool true) ∧ Below w.heap.size w w' := by
  obtain ⟨n, hn⟩ : ∃ n, n = 1 + k % 64 := ⟨_, rfl⟩
  have hnb : 1 ≤ n ∧ n ≤ 64 := by omega
  have hni : (1 : Int) + (k : Int) % 64 = (n : Int) := by omega
  have HNI := Lib.hid hni
  obtain ⟨n1, n64⟩ := hnb
  have SX := Lib.hid sx
  have SY := Lib.hid sy
  have MX := Lib.hid mx
  have MY := Lib.hid my
  clear hn hni sx sy mx my
  obtain ⟨g1, g2, g3, g4, g5, g6, x1, x2, x3, x4, x5, x6, hsix⟩ := six o1 o2 n n1
  have SIX := Lib.hid hsix
  have l1 := hsix.l1
  have l2 := hsix.l2
  have l3 := hsix.l3
  have l4 := hsix.l4
  have l5 := hsix.l5
  have l6 := hsix.l6
  clear hsix
  obtain ⟨lx, hlx⟩ : ∃ lx, lx = xs.length := ⟨_, rfl⟩
  obtain ⟨ly, hly⟩ : ∃ ly, ly = ys.length := ⟨_, rfl⟩
  rw [← hlx, ← hly]
  have HLX := Lib.hid hlx.symm
  have HLY := Lib.hid hly.symm
  have blx : lx ≤ 17592186043904 := by omega
  have bly : ly ≤ 17592186043904 := by omega
  clear hlx hly hcx hcy zx zy
  go_enter Try.func6, Try.ntmps6; (try simp only [List.append])
  go_wp2_with fail
  rw [HNI.out]
  clear HNI hk
  refine (fresh_c o1 o2 n _ n1 n64).mono ?_
  rintro e w1 ⟨p, F, a, ca, b, cb, rfl, hg, ho1, ho2, hst⟩
  have H1 := Lib.hid (fresh_rows hg ho1 ho2)
  have HST1 := Lib.hid (show Stepped w w1 [] F from ((Stepped.refl w []).alloc _).trans hst)
  have HK1 := Lib.hid (show Kept [] w w1 from ((Kept.refl [] w).alloc _).trans (hst.kept))
  clear hg ho1 ho2 hst
  go_wp2_with fail
  refine (words14 ax cx lx xs n _ HLX.out (by omega) (SX.out.kept0 HK1.out) MX.out n1 n64).mono ?_
  rintro e w2 ⟨gx, l1', rfl, ll1, lw1, own1, k1, gx1⟩
  have K2 := Lib.hid k1
  have O1 := Lib.hid own1
  have LL1 := Lib.hid ll1
  have LW1 := Lib.hid lw1
  clear k1 own1 ll1 lw1
  go_wp2_with fail
  refine (words14 ay cy ly ys n _ HLY.out (by omega) ((SY.out.kept0 HK1.out).kept0 K2.out) MY.out n1 n64).mono ?_
  rintro e w3 ⟨gy, l2', rfl, ll2, lw2, own2, k2, gy1⟩
  have K3 := Lib.hid (K2.out.trans k2)
  have O12 := Lib.hid (O1.out.kept0 k2)
  have O2 := Lib.hid own2
  have LL2 := Lib.hid ll2
  have LW2 := Lib.hid lw2
  have hk1s := HK1.out.size
  clear k2 own2 ll2 lw2 O1 K2
  have HNEWS := Lib.hid (show ∀ j u, (nats .u64 l2')[j]? = some u → w3.cell? ((⟨gy, 0, none⟩ : Addr).add j) = some u from fun j u hu => by
    obtain ⟨hj, rfl⟩ := List.getElem?_eq_some_iff.1 hu
    obtain ⟨ad', h1, h2⟩ := O2.out.cell hj
    injection h1 with h1
    subst h1
    exact h2)
  go_wp2_with (first
    | (at_builtin; refine wpList_cat (news := nats .u64 l2') rfl rfl Try.underlying48 u64_info2 rfl (by omega) rfl rfl O12.out (by rw [nats_length, LL2.out, Nat.mul_one]) HNEWS.out (nats_one _ _) (by unfold maxLen; omega) (by omega) ?_; intro a4 c4 w4 hown4 hst4)
    | (at_builtin; refine wpList_push rfl rfl Try.underlying48 u64_info2 rfl rfl rfl hown4 rfl (by unfold maxLen; omega) (by omega) ?_; intro a5 c5 w5 hown5 hst5))
  obtain ⟨inp, hinp⟩ : ∃ inp, inp = l1' ++ l2' ++ [0] := ⟨_, rfl⟩
  have hgiven : Own w5 45 a5 (n + n + 1) c5 (nats .u64 inp) := by
    rw [hinp, ← nats_append, show nats .u64 (l1' ++ l2') = nats .u64 l1' ++ nats .u64 l2' from by simp [nats]]
    exact hown5
  have hil : inp.length = 2 * n + 1 := by rw [hinp]; simp [LL1.out, LL2.out]; omega
  have hiw : Words inp := by
    rw [hinp]
    intro x hx
    simp only [List.mem_append, List.mem_singleton] at hx
    rcases hx with (hx | hx) | hx
    · exact LW1.out x hx
    · exact LW2.out x hx
    · omega
  have hk5 : Kept [] w1 w5 := kept_up (S := [gx]) K3.out (show Kept [gx] w3 w5 from (hst4.trans hst5).kept) (fun b hb => by simp at hb; omega)
  obtain ⟨ga, rfl⟩ := hgiven.form (by omega)
  have hcap := hgiven.cap
  have GIV := Lib.hid hgiven
  have HIL := Lib.hid hil
  have HIW := Lib.hid hiw
  have H5 := Lib.hid (H1.out.kept0 hk5)
  have HST5 := Lib.hid (HST1.out.keep hk5)
  clear hgiven hil hiw hk5 hinp hown4 hown5 hst4 hst5 HNEWS O12 O2 K3 LL1 LL2 LW1 LW2 H1 HST1 HK1 SX SY MX MY HLX HLY blx bly gx1 gy1 hk1s
  have C1 := Lib.hid (rows_equal H5.out n1 n64 (by rw [freshG_length]; omega))
  rw [SIX.out.e1] at C1
  refine C1.out.mono ?_
  rintro e v1 ⟨F1, rfl, h, hs⟩
  have R1 := Lib.hid h
  have HS1 := Lib.hid (HST5.out.trans hs)
  have GV1 := Lib.hid (GIV.out.kept hs.kept (GIV.out.apart_g H5.out.graph (by decide) (by decide) (by decide)))
  clear h hs C1 H5 HST5 GIV
  go_wp2_with fail
  have C2 := Lib.hid (rows_less R1.out false n1 n64 (show g1.nodes.length ≤ 179000 by omega))
  rw [SIX.out.e2] at C2
  refine C2.out.mono ?_
  rintro e v2 ⟨F2, rfl, h, hs⟩
  have R2 := Lib.hid h
  have HS2 := Lib.hid (HS1.out.trans hs)
  have GV2 := Lib.hid (GV1.out.kept hs.kept (GV1.out.apart_g R1.out.graph (by decide) (by decide) (by decide)))
  clear h hs C2 R1 HS1 GV1
  go_wp2_with fail
  have C3 := Lib.hid (rows_less R2.out.turn false n1 n64 (show g2.nodes.length ≤ 179000 by omega))
  rw [SIX.out.e3] at C3
  refine C3.out.mono ?_
  rintro e v3 ⟨F3, rfl, h, hs⟩
  have R3 := Lib.hid h.turn
  have HS3 := Lib.hid (HS2.out.trans hs)
  have GV3 := Lib.hid (GV2.out.kept hs.kept (GV2.out.apart_g R2.out.graph (by decide) (by decide) (by decide)))
  clear h hs C3 R2 HS2 GV2
  go_wp2_with fail
  have C4 := Lib.hid (rows_less R3.out true n1 n64 (show g3.nodes.length ≤ 179000 by omega))
  rw [SIX.out.e4] at C4
  refine C4.out.mono ?_
  rintro e v4 ⟨F4, rfl, h, hs⟩
  have R4 := Lib.hid h
  have HS4 := Lib.hid (HS3.out.trans hs)
  have GV4 := Lib.hid (GV3.out.kept hs.kept (GV3.out.apart_g R3.out.graph (by decide) (by decide) (by decide)))
  clear h hs C4 R3 HS3 GV3
  go_wp2_with fail
  have C5 := Lib.hid (rows_less R4.out.turn true n1 n64 (show g4.nodes.length ≤ 179000 by omega))
  rw [SIX.out.e5] at C5
  refine C5.out.mono ?_
  rintro e v5 ⟨F5, rfl, h, hs⟩
  have R5 := Lib.hid h.turn
  have HS5 := Lib.hid (HS4.out.trans hs)
  have GV5 := Lib.hid (GV4.out.kept hs.kept (GV4.out.apart_g R4.out.graph (by decide) (by decide) (by decide)))
  clear h hs C5 R4 HS4 GV4
  go_wp2_with fail
  have C6 := Lib.hid (zero_c R5.out.graph a n1 n64 R5.out.lenA (show g5.nodes.length ≤ 179000 by omega) R5.out.oa.sln (R5.out.oa.apart_g R5.out.graph (by decide) (by decide) (by decide)) R5.out.ka (ca := ca))
  rw [SIX.out.e6] at C6
  refine C6.out.mono ?_
  rintro e v6 ⟨F6, rfl, h, hs⟩
  have R6 := Lib.hid h
  have HS6 := Lib.hid (HS5.out.trans hs)
  have GV6 := Lib.hid (GV5.out.kept hs.kept (GV5.out.apart_g R5.out.graph (by decide) (by decide) (by decide)))
  clear h hs C6 R5 HS5 GV5
  go_wp2_with fail
  have C7 := Lib.hid (cone_words (w := v6.alloc (.cells (nats .u32 [x1, x2, x3, x4, x5, x6]).toArray 24)) (R6.out.kept0 ((Kept.refl [] v6).alloc _)) (show g6.nodes.length ≤ 200000 by omega) (some ⟨ga, 0, none⟩) c5 (n + n + 1) inp (by rw [HIL.out]; omega) (by rw [SIX.out.ins]; omega) (GV6.out.sln.kept0 ((Kept.refl [] v6).alloc _)) HIW.out
    (some ⟨v6.heap.size, 0, none⟩) 6 6 [x1, x2, x3, x4, x5, x6] rfl (by omega) (sln_new v6 .u32 _ _) (by
      intro x hx
      simp only [List.mem_cons, List.not_mem_nil, or_false] at hx
      rcases hx with rfl | rfl | rfl | rfl | rfl | rfl
      · exact SIX.out.x61
      · exact SIX.out.x62
      · exact SIX.out.x63
      · exact SIX.out.x64
      · exact SIX.out.x65
      · exact SIX.out.x66))
  obtain ⟨row, hrow⟩ : ∃ row, row = [x1, x2, x3, x4, x5, x6].map (lw inp g6) := ⟨_, rfl⟩
  rw [← hrow] at C7
  have LAW := Lib.hid (show NumLaw n inp row from by
    refine ⟨by rw [hrow]; rfl, ?_, fun t ht => ?_⟩
    · rw [hrow]; intro x hx
      obtain ⟨y, _, rfl⟩ := List.mem_map.1 hx
      exact lw_lt HIW.out _ _
    · rw [hrow]
      exact SIX.out.val inp t HIW.out ht (by rw [HIL.out]; omega))
  refine C7.out.mono ?_
  rintro e v7 ⟨ar, cr, rfl, hr, hs⟩
  obtain ⟨gr, rfl⟩ := hr.form (by omega)
  have ROW := Lib.hid hr
  have HS7 := Lib.hid ((HS6.out.alloc _).keep hs.kept)
  have GV7 := Lib.hid ((GV6.out.kept0 ((Kept.refl [] v6).alloc _)).kept0 hs.kept)
  clear hr hs C7 R6 HS6 GV6 SIX hrow l1 l2 l3 l4 l5 l6
  go_wp2_with fail
  have hkw := Lib.hid (show Kept [] v7 ((v7.alloc (.cells #[.slice (some ⟨gr, 0, none⟩) 6 cr] 48))) from (Kept.refl [] v7).alloc _)
  have hW0 : ∃ w0, w0 = v7.alloc (.cells #[.slice (some ⟨gr, 0, none⟩) 6 cr] 48) := ⟨_, rfl⟩
  obtain ⟨w0, hw0⟩ := hW0
  have hz0 : w0.heap.size = v7.heap.size + 1 := by rw [hw0]; exact size_new _ _
  have hk0 : Kept [] v7 w0 := by rw [hw0]; exact (Kept.refl [] v7).alloc _
  have hb0 : w0.heap[v7.heap.size]? = some (.cells #[.slice (some ⟨gr, 0, none⟩) 6 cr] 48 (0, 0)) := by rw [hw0]; exact (Mine.new (F := []) rfl (by simp)).heap
  have B0 := Lib.hid hb0
  have ROW0 := Lib.hid (ROW.out.kept0 hk0).sln
  have GV0 := Lib.hid (GV7.out.kept0 hk0).sln
  have HS0 := Lib.hid (HS7.out.keep hk0)
  have HZ0 := Lib.hid hz0
  rw [← hw0]
  have HBM := Lib.hid (show (w0.alloc (.cells #[.int .i64 0] 3)).heap[v7.heap.size + 1]? = some (.cells #[.int .i64 ((0 : Nat) : Int)] 3 (0, 0)) from by
    rw [← hz0]; exact (Mine.new (F := []) rfl (by simp)).heap)
  clear hw0 hk0 hb0 hkw ROW GV7 HS7 hz0
  go_loopg [29] 64 (fun gk s wr => ∃ (m bm : Nat), gk = 64 - m ∧ m ≤ 64 ∧ s = .pointer (some ⟨bm, 0, none⟩) ∧ wr.heap[bm]? = some (.cells #[.int .i64 (m : Int)] 3 (0, 0)) ∧ Kept [] w0 wr)
  case atStart => exact ⟨0, v7.heap.size + 1, rfl, by omega, rfl, HBM.out, (Kept.refl [] w0).alloc _⟩
  case round =>
    clear HBM
    obtain ⟨m, bm, rfl, hm, rfl, hbm, hkr⟩ := hrel
    have HKR := Lib.hid hkr
    have c27 : wr.cell? ⟨v7.heap.size, 0, none⟩ = some (.slice (some ⟨gr, 0, none⟩) 6 cr) := blk_cell (hkr.heap B0.out (by simp)) 0
    have c29 : wr.cell? ⟨bm, 0, none⟩ = some (.int .i64 (m : Int)) := blk_cell hbm 0
    have HRW := Lib.hid (ROW0.out.kept0 hkr)
    have HGV := Lib.hid (GV0.out.kept0 hkr)
    clear hbm hkr
    by_cases hm64 : m < 64
    · obtain ⟨r6, rw', hall⟩ := LAW.out
      obtain ⟨t0, t1, t2, t3, t4, t5⟩ := hall m hm64
      have L1 := Lib.hid (fun k => lane14 (some ⟨ga, 0, none⟩) c5 n m true (inp.take n) (wr.drewN k) (by rw [List.length_take, HIL.out]; omega) n1 n64 hm64 ((HGV.out.take n).drewN k) (words_take HIW.out n))
      have L2 := Lib.hid (fun k => lane14 (some ⟨ga, n, none⟩) (c5 - n) n m true ((inp.drop n).take n) (wr.drewN k) (by rw [List.length_take, List.length_drop, HIL.out]; omega) n1 n64 hm64 ((sln_mid HGV.out n).drewN k) (words_take (words_drop HIW.out n) n))
      have NB := Lib.hid (fun (k : Nat) (i : Int) (at' : Nat) (hi : i = at') (hat : at' < 6) => num_bit (w := wr.drewN k) v7.heap.size bm (some ⟨gr, 0, none⟩) cr at' m row i hi r6 hat hm64 c27 c29 (HRW.out.drewN k) rw')
      have T0 := Lib.hid t0
      have T1 := Lib.hid t1
      have T2 := Lib.hid t2
      have T3 := Lib.hid t3
      have T4 := Lib.hid t4
      have T5 := Lib.hid t5
      clear t0 t1 t2 t3 t4 t5 r6 rw' hall
      have u1 : (n : Int) ≤ (c5 : Int) := by omega
      have u2 : 2 * (n : Int) ≤ (c5 : Int) := by omega
      have u3 : IntKind.i64.wrap (2 * (n : Int)) = 2 * (n : Int) := IntWalk.i64_in _ (by omega)
      have u4 : (2 * (n : Int)).toNat = 2 * n := by omega
      have u5 : 2 * n - n = n := by omega
      go_wp2_with fail
      go_quiet ((go_at_call 29; exact q_drew (L1.out _)))
      go_wp2_with fail
      go_quiet ((go_at_call 29; exact q_drew2 (L2.out _)))
      clear L1 L2
      generalize laneN (inp.take n) m = P at *
      generalize laneN ((inp.drop n).take n) m = Q at *
      generalize laneI (inp.take n) m = R at *
      generalize laneI ((inp.drop n).take n) m = S at *
      obtain ⟨b0, hb0⟩ : ∃ b, b = decide (P = Q) := ⟨_, rfl⟩
      obtain ⟨b1, hb1⟩ : ∃ b, b = decide (P < Q) := ⟨_, rfl⟩
      obtain ⟨b2, hb2⟩ : ∃ b, b = decide (Q < P) := ⟨_, rfl⟩
      obtain ⟨b3, hb3⟩ : ∃ b, b = decide (R < S) := ⟨_, rfl⟩
      obtain ⟨b4, hb4⟩ : ∃ b, b = decide (S < R) := ⟨_, rfl⟩
      obtain ⟨b5, hb5⟩ : ∃ b, b = decide (P = 0) := ⟨_, rfl⟩
      rw [← hb0] at T0
      rw [← hb1] at T1
      rw [← hb2] at T2
      rw [← hb3] at T3
      rw [← hb4] at T4
      rw [← hb5] at T5
      have d0 : ((P : Int) == (Q : Int)) = b0 := by rw [hb0, Bool.eq_iff_iff]; simp; omega
      have d1 : decide ((P : Int) < (Q : Int)) = b1 := by rw [hb1, Bool.eq_iff_iff]; simp
      have d1' : decide (P < Q) = b1 := hb1.symm
      have d2 : decide ((Q : Int) < (P : Int)) = b2 := by rw [hb2, Bool.eq_iff_iff]; simp
      have d2' : decide (Q < P) = b2 := hb2.symm
      have d3 : decide (R < S) = b3 := hb3.symm
      have d4 : decide (S < R) = b4 := hb4.symm
      have d5 : ((P : Int) == 0) = b5 := by rw [hb5, Bool.eq_iff_iff]; simp
      clear hb0 hb1 hb2 hb3 hb4 hb5
      go_wp2_with fail
      refine (NB.out _ 0 0 rfl (by omega)).mono ?_
      rw [T0.out]
      rintro e w' ⟨rfl, k1, rfl⟩
      go_wp2_with fail
      (try rw [World.drewN_drewN])
      refine (NB.out _ 1 1 rfl (by omega)).mono ?_
      rw [T1.out]
      rintro e w' ⟨rfl, k2, rfl⟩
      go_wp2_with fail
      (try rw [World.drewN_drewN])
      refine (NB.out _ 2 2 rfl (by omega)).mono ?_
      rw [T2.out]
      rintro e w' ⟨rfl, k3, rfl⟩
      go_wp2_with fail
      (try rw [World.drewN_drewN])
      refine (NB.out _ 3 3 rfl (by omega)).mono ?_
      rw [T3.out]
      rintro e w' ⟨rfl, k4, rfl⟩
      go_wp2_with fail
      (try rw [World.drewN_drewN])
      refine (NB.out _ 4 4 rfl (by omega)).mono ?_
      rw [T4.out]
      rintro e w' ⟨rfl, k5, rfl⟩
      go_wp2_with fail
      (try rw [World.drewN_drewN])
      refine (NB.out _ 5 5 rfl (by omega)).mono ?_
      rw [T5.out]
      rintro e wz ⟨rfl, k6, hw6⟩
      have z29 : wz.cell? ⟨bm, 0, none⟩ = some (.int .i64 (m : Int)) := by rw [hw6]; exact c29
      have HKZ := Lib.hid (show Kept [] wr wz from by rw [hw6]; exact ((Kept.refl [] wr).drewN _).drewN _)
      have HW6 := Lib.hid hw6
      clear hw6 c27 c29 NB
      go_wp2_with fail
      go_roundg (64 - (m + 1))
      case measure => omega
      case rel => exact ⟨m + 1, wz.heap.size, rfl, by omega, rfl, (Mine.new (F := []) rfl (by simp)).heap, (HKR.out.trans HKZ.out).alloc _⟩
    · obtain rfl : m = 64 := by omega
      obtain ⟨r6, rw', hall⟩ := LAW.out
      have hj := just_one (words_getD rw' 0) (words_getD rw' 1) (words_getD rw' 2) (fun t => laneN (inp.take n) t) (fun t => laneN ((inp.drop n).take n) t) (fun t ht => ⟨(hall t ht).1, (hall t ht).2.1, (hall t ht).2.2.1⟩)
      have q0 := row_cell HRW.out 0 (by omega)
      have q1 := row_cell HRW.out 1 (by omega)
      have q2 := row_cell HRW.out 2 (by omega)
      have g0 := words_getD rw' 0
      have g1 := words_getD rw' 1
      have g2 := words_getD rw' 2
      generalize row.getD 0 0 = r0 at *
      generalize row.getD 1 0 = r1 at *
      generalize row.getD 2 0 = r2 at *
      have y1 : bits .xor .u64 (bits .xor .u64 (r0 : Int) (r1 : Int)) (r2 : Int) = 18446744073709551615 := by
        rw [u64_xor_nat _ _ g0 g1, u64_xor_nat _ _ (xor_word g0 g1) g2, hj.1]; rfl
      have y2 : bits .or .u64 (bits .or .u64 (bits .and .u64 (r0 : Int) (r1 : Int)) (bits .and .u64 (r0 : Int) (r2 : Int))) (bits .and .u64 (r1 : Int) (r2 : Int)) = 0 := by
        rw [u64_and_nat _ _ g0 g1, u64_and_nat _ _ g0 g2, u64_and_nat _ _ g1 g2, u64_or_nat _ _ (and_word g0) (and_word g0), u64_or_nat _ _ (or_word (and_word g0) (and_word g0)) (and_word g1), hj.2]; rfl
      clear hj hall rw' r6 g0 g1 g2
      have HRR := Lib.hid HKR.out
      go_wp2_with fail
      go_region_held3 (fun w' => w'.cell? ⟨v7.heap.size, 0, none⟩ = some (.slice (some ⟨gr, 0, none⟩) 6 cr) ∧ w'.cell? ⟨gr, 0, none⟩ = some (.int .u64 (r0 : Int)) ∧ w'.cell? ⟨gr, 1, none⟩ = some (.int .u64 (r1 : Int)) ∧ w'.cell? ⟨gr, 2, none⟩ = some (.int .u64 (r2 : Int)))
        (first | exact ⟨t1, t2, t3, t4⟩ | go_keep)
        (first | (go_at_call 19; refine (cmp_tells _).mono ?_; rintro e wt ⟨rfl, hkt⟩; have t1 := hkt.cell (p := ⟨v7.heap.size, 0, none⟩) c27 (by simp); have t2 := hkt.cell (p := ⟨gr, 0, none⟩) q0 (by simp); have t3 := hkt.cell (p := ⟨gr, 1, none⟩) q1 (by simp); have t4 := hkt.cell (p := ⟨gr, 2, none⟩) q2 (by simp); have HKT := Lib.hid hkt; clear hkt))
      all_goals
        go_wp2_with fail
        go_ret
        exact ⟨rfl, (HS0.out.keep (HRR.out.drew.trans HKT.out)).kept.below⟩

set_option maxRecDepth 100000 in
theorem cmpnum_lifted (os : Os) (started : os.Started) (H : Type) (enc : TypeId × Value → H) :
    ReturnsInHanded {} Try.checked os 6 .any (Rows.compareNumbersSpec.pre6 enc Try.prog Try.f6 Rows.compareNumbersRow.domain false) (Rows.compareNumbersSpec.post enc Try.prog Try.f6 false true false false) := by
  refine returnsInHanded_of_change_sized (C := Try.checked) own started (by kernel_rfl) Try.func6
    (ChangeSpec.witness6 (enc := enc) (C := Try.checked) false ⟨#[], #[.agg #[.bool false, .bool false], .int .u8 0, .slice none 0 0, .slice none 0 0], []⟩ 8 (by kernel_rfl) (by kernel_rfl) (by kernel_rfl) (by kernel_rfl)) ?_
  intro W base args ds gs before hval0 hW _ hsz0 _
  have hval : ∀ (j : Nat) t v, Try.f6.params[j]? = some t → args[j]? = some v → Value.okWide Try.prog W .any base t v := hval0
  have hend := fun W' (hb : Below W.heap.size W W') => law_post (s := Rows.compareNumbersSpec) (fn := Try.f6) laidOut (by kernel_rfl) rfl ⟨4, rfl, Try.underlying4⟩ (fun l hl => by match l, hl with | [_, _, _, _], _ => rfl) hW hb
  obtain ⟨p, q, hA0, hV, rfl, hfz, hnd⟩ := hW
  have hA : DataW.TrodAll enc Try.prog W 0 (fun _ => true) true Try.f6.params.toList args.toList ds p := hA0
  have hsz : (DataW.weightsEach Try.prog (Try.f6.params.toList ++ Rows.compareNumbersSpec.plain.varTypes Try.prog) (ds ++ gs)).all (· ≤ reachBytes) = true := hsz0
  rw [Try.params6] at hA hval hsz
  obtain ⟨v0, vs0, d0, ds0, p0, q0, hargs, rfl, rfl, h0, r0⟩ := trodAll_cons hA
  obtain ⟨v1, vs1, d1, ds1, p1, q1, rfl, rfl, rfl, h1, r1⟩ := trodAll_cons r0
  obtain ⟨v2, vs2, d2, ds2, p2, q2, rfl, rfl, rfl, h2, r2⟩ := trodAll_cons r1
  obtain ⟨v3, vs3, d3, ds3, p3, q3, rfl, rfl, rfl, h3, r3⟩ := trodAll_cons r2
  obtain ⟨rfl, rfl, rfl⟩ := trodAll_nil r3
  obtain rfl : args = #[v0, v1, v2, v3] := by cases args; simp_all
  obtain ⟨rfl, rfl⟩ := trodVars_none hV
  obtain ⟨oa0, ob0, rfl⟩ := open_opts (hval 0 32 v0 rfl rfl) h0 (Sized.arg (j := 0) hsz rfl rfl)
  obtain ⟨a1, rfl, rfl, rfl, f1⟩ := open_int Try.underlying5 (hval 1 5 v1 rfl rfl) h1
  obtain ⟨a1, rfl, w1⟩ := wf_nat (m := 256) rfl rfl f1
  obtain ⟨a2, cap2, l2, rfl, hc2, hs2, hm2, hd2⟩ := open_nats (m := 18446744073709551616) Try.underlying48 Try.underlying45 (by kernel_rfl) rfl rfl (hval 2 48 v2 rfl rfl) h2
  have z2 := cap_reach (bytes := 8) (j := 2) hsz rfl rfl Try.underlying48 (by kernel_rfl) hd2
  obtain ⟨a3, cap3, l3, rfl, hc3, hs3, hm3, hd3⟩ := open_nats (m := 18446744073709551616) Try.underlying48 Try.underlying45 (by kernel_rfl) rfl rfl (hval 3 48 v3 rfl rfl) h3
  have z3 := cap_reach (bytes := 8) (j := 3) hsz rfl rfl Try.underlying48 (by kernel_rfl) hd3
  refine (cmpnum_walk oa0 ob0 a1 a2 cap2 l2 a3 cap3 l3 W w1 hc2 z2 hs2 hm2 hc3 z3 hs3 hm3).mono fun e W' ⟨he, hb⟩ => ?_
  subst he
  exact hend W' hb

theorem cmpnum_over : Rows.compareNumbersRow.holds Try.pinned (OpenSpec.ofChange Rows.compareNumbersSpec) :=
  OpenClaim.holds_of_wide 6 Try.f6 rfl rfl rfl rfl rfl rfl rfl ⟨rfl, rfl, rfl, rfl, rfl⟩ rfl rfl rfl rfl rfl (by kernel_rfl) Try.func6 (by kernel_rfl)
    (of_decide_eq_true (by kernel_rfl)) (by unfold Func.isWrapper; first | (rw [if_pos (by decide +kernel)]; kernel_rfl) | (rw [if_neg (by decide +kernel)]; exact ⟨rfl, rfl⟩))
    (fun os started H enc _ => cmpnum_lifted os started H enc)

theorem compareNumbers_holds : Rows.CompareNumbersSaid := cmpnum_over
end Go.Proofs.Ytfngfoabknbgdaa
