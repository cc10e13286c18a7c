/-
  Package trace: Pack: the walk.
-/
import Derived.Test.YtjgcfncganleoaaDoorTpA
import Derived.Test.YtjgcfncganleoaaDoorTpM
import Derived.Deep.DeepCutAuto
import Derived.Deep.CutBlock
namespace Go.Proofs.YtjgcfncganleoaaDoor
open Go.ChangeShapes Go.WideShapes Go.ChangeAt Go.RowKit
open Go.Maps (Keyed)
open Go.WideMaps
set_option linter.unusedVariables false
set_option linter.unusedSimpArgs false

variable {w w' w1 W : World}
/-- 'make([]T, n)', elements of one cell -/
theorem wpList_mkT {P : Program} {ops : Array Oper} {rest : List Oper} {o : Oper} {act : Act} {Q : Exit → Act → World → Prop} {l c : Operand} {t e : TypeId} {z : Value} {bytes n : Nat}
    (hg : o.guard = none) (hop : o.op = Op.makeSlice t l c) (ht : P.underlying t = some (.slice e)) (hinfo : (P.info? e).map (fun i => (i.zero, i.size, i.bytes)) = some (some z, 1, bytes)) (hz : z.cells = #[z])
    (hl : act.eval l = .int .i64 (n : Int)) (hc : act.eval c = .int .i64 (n : Int)) (hb : bytes * n ≤ 281474976710656) (hn : n ≤ maxLen)
    (h : ∀ w', Own w' e (some ⟨w.heap.size, 0, none⟩) n n (List.replicate n z) → Stepped w w' [] [w.heap.size] → wpList P ops Q rest (act.put o.dst (.slice (some ⟨w.heap.size, 0, none⟩) n n)) w') :
    wpList P ops Q (o :: rest) act w := by
  obtain ⟨i, hi, hiz, hisz, hib⟩ := info3 hinfo
  subst hib
  refine wpList_make_full w hg l c t hop 0 e i z 1 ht hi hiz hisz .i64 .i64 n n n hl hc rfl rfl hb hn (Nat.zero_le _) fun w' h1 h2 => h w' ?_ ?_
  · have : (madeCells z.cells (n * 1)).toList = List.replicate n z := by rw [hz]; simp [madeCells, Nat.mod_one, List.map_const']
    rw [this] at h1
    exact h1
  · exact ⟨⟨h2.os, h2.tape, h2.output, h2.size, fun k hk _ => h2.block k hk (by simp)⟩, fun b hb => by simp at hb; exact .inr (by omega)⟩
theorem nats_replT (K : IntKind) (n : Nat) : List.replicate n (Value.int K 0) = nats K (List.replicate n 0) := by simp [nats]
theorem own_wholeT {e : TypeId} {gb n : Nat} {xs : List Value} (h : Own w e (some ⟨gb, 0, none⟩) n n xs) : w.heap[gb]? = some (.cells xs.toArray e (0, 0)) := by
  rcases h.2 with ⟨hv, _⟩ | ⟨g, c, cur, hv, _, hg, hle, _, hsz, htk⟩
  · cases hv
  · injection hv with h1 h2 h3
    injection h1 with h1
    injection h1 with h1
    subst h1 h3
    rw [hg]
    have hl : cur.toList.length = n := by rw [Array.length_toList, hsz, Nat.mul_one]
    have h4 : cur.toList = xs := by
      have := htk
      rw [Nat.mul_one, List.take_of_length_le (by omega)] at this
      exact this
    rw [← h4]
theorem blk_sln {p : Nat} {l : List Nat} {ty : TypeId} (h : w.heap[p]? = some (.cells (sqV l) ty (0, 0))) : SlN w .u64 (some ⟨p, 0, none⟩) l := by
  intro j hj
  refine ⟨_, rfl, ?_⟩
  rw [add_at, blk_cell h (0 + j), Nat.zero_add, sqV_get hj, List.getD_eq_getElem?_getD, List.getElem?_eq_getElem hj, Option.getD_some]
theorem cell_lt {p : Addr} {u : Value} (h : w.cell? p = some u) : p.block < w.heap.size := by
  rcases Nat.lt_or_ge p.block w.heap.size with h1 | h1
  · exact h1
  · simp [World.cell?, Array.getElem?_eq_none h1] at h
def PacksPost (at_ : Int) (ts : List Tb) (w : World) (e : Ending) (w' : World) : Prop :=
  (packBad ts = true ∧ e = .returned (.tuple #[.slice none 0 0, .int .i64 1]) ∧ Kept [] w w') ∨
  (packBad ts = false ∧ packNone at_ ts = true ∧ e = .returned (.tuple #[.slice none 0 0, .int .i64 6]) ∧ Kept [] w w') ∨
  (packBad ts = false ∧ packNone at_ ts = false ∧ ∃ oa oc rs, e = .returned (.tuple #[.slice oa (bs0 ts).length oc, .int .i64 0]) ∧ WRows w' oa (bs0 ts).length oc rs ∧ rs.map (·.l) = colsTo at_.toNat ts (bs0 ts).length ∧ Kept [] w w')
theorem SlTab.first {a : Option Addr} {l : List TV} (h : SlTab w a l) (hl : 0 < l.length) : ∃ b o a0 c0, a = some ⟨b, o, none⟩ ∧ w.cell? ⟨b, o, none⟩ = some (.slice a0 (bs0 (l.map (·.t))).length c0) ∧ SlBus w a0 (bs0 (l.map (·.t))) ∧ (bs0 (l.map (·.t))).length ≤ 140737488351232 := by
  match l, hl with
  | x :: l, _ =>
    obtain ⟨b, o, rfl, h1, h2, h3, h4⟩ := h 0 (by simp)
    refine ⟨b, o, x.ba, x.bc, rfl, ?_, ?_, ?_⟩
    · simpa [bs0] using h1
    · simpa [bs0] using TabV.bs h3
    · simpa [bs0] using h4.bl
set_option maxHeartbeats 6400000 in
set_option maxRecDepth 100000 in
theorem packs_c (at_ : Int) (a : Option Addr) (c n : Nat) (l : List TV) (w : World) (hl : l.length = n) (hn : n ≤ 1000000) (hs : SlTab w a l) (hat : -9223372036854775808 ≤ at_ ∧ at_ ≤ 9223372036854775807) :
    Calls Tryd.prog 24 #[.int .i64 at_, .slice a n c] w (PacksPost at_ (l.map (·.t)) w) := by
  have HS := Lib.hid hs
  have HL := Lib.hid hl
  have hmf : ∀ (fn : Fn) (first cap : Array Value) (w : World), (Instr.makeFunc fn first cap).run Tryd.prog w = .ok (.func fn first cap) w := fun _ _ _ _ => rfl
  clear hs hl
  go_enter Tryd.func24, Tryd.ntmps24; (try simp only [List.append])
  go_upto_region 1 with (fail)
  obtain ⟨w2, hw2⟩ : ∃ W, W = (w.alloc (.cells #[.int .i64 at_] 3)).alloc (.cells #[.slice a n c] 59) := ⟨_, rfl⟩
  obtain ⟨q, hq⟩ : ∃ q, q = w.heap.size := ⟨_, rfl⟩
  obtain ⟨s, hs⟩ : ∃ q, q = w.heap.size + 1 := ⟨_, rfl⟩
  have K2 := Lib.hid (show Kept [] w w2 from by rw [hw2]; exact ((Kept.refl [] w).alloc _).alloc _)
  have C := Lib.hid (show w2.cell? ⟨q, 0, none⟩ = some (.int .i64 at_) ∧ w2.cell? ⟨s, 0, none⟩ = some (.slice a n c) from by
    rw [hw2, hq, hs]
    refine ⟨cell_alloc (blk_cell (heap_alloc_new w _) 0) _, ?_⟩
    have h := heap_alloc_new (w.alloc (.cells #[.int .i64 at_] 3)) (.cells #[.slice a n c] 59)
    have hs : (w.alloc (.cells #[.int .i64 at_] 3)).heap.size = w.heap.size + 1 := by simp
    rw [hs] at h
    exact blk_cell h 0)
  try rw [← hs]
  try rw [← hq]
  try rw [← hw2]
  clear hs hq hw2
  have c0 := C.out.1
  have c1 := C.out.2
  have HTL := Lib.hid (show (l.map (·.t)).length = n from by rw [List.length_map, HL.out])
  by_cases hn0 : n = 0
  · have HB := Lib.hid (show packBad (l.map (·.t)) = true from by unfold packBad; rw [HTL.out, decide_eq_true hn0]; rfl)
    subst hn0
    go_wp2_with fail
    go_ret2
    exact .inl ⟨HB.out, rfl, K2.out⟩
  by_cases hn64 : n ≤ 64
  rotate_left
  · have HB := Lib.hid (show packBad (l.map (·.t)) = true from by unfold packBad; rw [HTL.out, decide_eq_true (show 64 < n by omega)]; simp)
    have hb0 : ((n : Int) == 0) = false := by rw [beq_eq_false_iff_ne]; omega
    go_wp2_with fail
    go_ret2
    exact .inl ⟨HB.out, rfl, K2.out⟩
  have hb0 : ((n : Int) == 0) = false := by rw [beq_eq_false_iff_ne]; omega
  have hnpos : 0 < n := by omega
  obtain ⟨tb, to_, a0, cc0, rfl, y0, ysb, ybl⟩ := HS.out.first (by rw [HL.out]; exact hnpos)
  have HY0 := Lib.hid y0
  have HYB := Lib.hid ysb
  have HC1 := Lib.hid (fun (V : World) (hV : Kept [] w2 V) => contains_tab 51 Tryd.call51 (.pointer (some ⟨s, 0, none⟩)) (fun t => !(mayT t && decide (t.bs = bs0 (l.map (·.t))))) (some ⟨tb, to_, none⟩) c n l V HL.out (by omega) ((HS.out.kept0 K2.out).kept0 hV)
    (fun x hx U hU => by
      obtain ⟨k, hk, rfl⟩ := List.getElem_of_mem hx
      obtain ⟨b, o, hbo, _, _, h3, h4⟩ := HS.out k hk
      have hk2 := (K2.out.trans hV).trans hU
      exact pack1_c _ _ _ _ _ _ s tb to_ n c a0 cc0 _ U (h3.kept0 hk2) h4 ((hV.trans hU).cell C.out.2 (by simp)) hnpos (hk2.cell HY0.out (by simp)) (HYB.out.kept0 hk2) ybl))
  have HC2 := Lib.hid (fun (V : World) (hV : Kept [] w2 V) => contains_tab 52 Tryd.call52 (.pointer (some ⟨q, 0, none⟩)) (fun t => decide (at_ < (t.rs.length : Int))) (some ⟨tb, to_, none⟩) c n l V HL.out (by omega) ((HS.out.kept0 K2.out).kept0 hV)
    (fun x hx U hU => pack2_c _ _ _ _ _ at_ q U hat ((hV.trans hU).cell C.out.1 (by simp))))
  clear y0 ysb
  have HBE := Lib.hid (show packBad (l.map (·.t)) = (l.map (·.t)).any (fun t => !(mayT t && decide (t.bs = bs0 (l.map (·.t))))) from by
    unfold packBad
    rw [HTL.out, decide_eq_false hn0, decide_eq_false (show ¬ 64 < n by omega)]
    rfl)
  rw [← HBE.out] at HC1
  cases hbad : packBad (l.map (·.t)) with
  | true =>
    have HB := Lib.hid hbad
    rw [hbad] at HC1
    clear hbad
    go_wp2_with fail
    refine (HC1.out _ (Kept.refl [] w2)).mono ?_
    rintro e w3 ⟨rfl, k3⟩
    have K3 := Lib.hid (K2.out.trans k3)
    clear k3
    go_wp2_with fail
    go_ret2
    exact .inl ⟨HB.out, rfl, K3.out⟩
  | false =>
  have HB := Lib.hid hbad
  rw [hbad] at HC1
  clear hbad HBE
  by_cases ha0 : at_ < 0
  · have HN := Lib.hid (show packNone at_ (l.map (·.t)) = true from by unfold packNone; rw [decide_eq_true ha0]; rfl)
    go_wp2_with fail
    refine (HC1.out _ (Kept.refl [] w2)).mono ?_
    rintro e w3 ⟨rfl, k3⟩
    have K3 := Lib.hid (K2.out.trans k3)
    have d0 := k3.cell c0 (by simp)
    clear k3
    go_wp2_with fail
    go_ret2
    exact .inr (.inl ⟨HB.out, HN.out, rfl, K3.out⟩)
  obtain ⟨i, rfl⟩ : ∃ i : Nat, at_ = (i : Int) := ⟨at_.toNat, by omega⟩
  have HNE := Lib.hid (show packNone (i : Int) (l.map (·.t)) = !((l.map (·.t)).any fun t => decide ((i : Int) < (t.rs.length : Int))) from by unfold packNone; rw [decide_eq_false ha0]; rfl)
  have hi63 : (i : Int) ≤ 9223372036854775807 := hat.2
  clear ha0 hat
  go_wp2_with fail
  refine (HC1.out _ (Kept.refl [] w2)).mono ?_
  rintro e w3 ⟨rfl, k3⟩
  have K3 := Lib.hid k3
  have d0 := k3.cell c0 (by simp)
  have d1 := k3.cell c1 (by simp)
  clear k3 c0 c1 HC1
  cases hnone : ((l.map (·.t)).any fun t => decide ((i : Int) < (t.rs.length : Int))) with
  | false =>
    have HN := Lib.hid (show packNone (i : Int) (l.map (·.t)) = true from by rw [HNE.out, hnone]; rfl)
    rw [hnone] at HC2
    clear hnone
    go_wp2_with fail
    refine (HC2.out _ K3.out).mono ?_
    rintro e w4 ⟨rfl, k4⟩
    have K4 := Lib.hid ((K2.out.trans K3.out).trans k4)
    clear k4
    go_wp2_with fail
    go_ret2
    exact .inr (.inl ⟨HB.out, HN.out, rfl, K4.out⟩)
  | true =>
  have HN := Lib.hid (show packNone (i : Int) (l.map (·.t)) = false from by rw [HNE.out, hnone]; rfl)
  rw [hnone] at HC2
  clear hnone HNE
  go_wp2_with fail
  refine (HC2.out _ K3.out).mono ?_
  rintro e w4 ⟨rfl, k4⟩
  have K4 := Lib.hid (K3.out.trans k4)
  have KW := Lib.hid ((K2.out.trans K3.out).trans k4)
  have D0 := Lib.hid (k4.cell d0 (by simp))
  have D1 := Lib.hid (k4.cell d1 (by simp))
  have e0 := D0.out
  have e1 := D1.out
  have y0 := KW.out.cell HY0.out (by simp)
  obtain ⟨bn, hbn⟩ : ∃ bn, bn = (bs0 (l.map (·.t))).length := ⟨_, rfl⟩
  have HBN := Lib.hid hbn
  rw [← hbn] at y0
  have hbn5 : bn ≤ 512 := by
    obtain ⟨h1, h2, h3⟩ := packBad_parts HB.out
    have h4 := h3 _ (List.getElem_mem (show 0 < (l.map (·.t)).length by rw [HTL.out]; exact hnpos))
    have h5 := (mayT_parts h4.1).2.2.2.1
    rw [h4.2, ← hbn] at h5
    exact h5
  clear k4 d0 d1 HC2 hbn
  go_wp2_with fail
  clear e0 e1 y0
  go_loopw [6, 40] (fun ov iv wr => ∃ (k : Nat) (oa : Option Addr) (oc : Nat) (rs : List WR), k ≤ bn ∧ iv = .int .i64 k ∧ ov = .slice oa k oc ∧ WRows wr oa k oc rs ∧ rs.map (·.l) = colsTo i (l.map (·.t)) k ∧ Stepped w4 wr [] (ft oa) ∧ ∀ b ∈ wrBlocks rs, b ∉ ft oa) (fun _ iv _ => bn - (intOf iv).toNat)
  case atStart => exact ⟨0, none, 0, [], Nat.zero_le _, rfl, rfl, WRows.nil _, rfl, .refl _ _, by simp [wrBlocks]⟩
  case round =>
    obtain ⟨k, oa, oc, rs, hk, rfl, rfl, hrows, hrm, hst, hap⟩ := hrel
    have HR := Lib.hid (And.intro hrows (And.intro hrm hap))
    have KR := Lib.hid hst
    have f0 := hst.kept.cell D0.out (by simp)
    have f1 := hst.kept.cell D1.out (by simp)
    clear hrows hrm hst hap
    by_cases hlt : k < bn
    · have hkb : k < (bs0 (l.map (·.t))).length := by rw [← HBN.out]; exact hlt
      have HCP := Lib.hid (col_pack HB.out i k hkb)
      have HCF := Lib.hid (col_fits HB.out i k hkb).1
      have HSU := Lib.hid (colsTo_succ i (l.map (·.t)) k)
      have HWD := Lib.hid (show widthAt (bs0 (l.map (·.t))) k = (bs0 (l.map (·.t)))[k].2 from by unfold widthAt; rw [List.getElem?_eq_getElem hkb]; rfl)
      obtain ⟨gb, go_, rfl, x0, x1⟩ := ((HYB.out.kept0 KW.out).kept0 KR.out.kept) k hkb
      obtain ⟨nm, hnm⟩ : ∃ x, x = (bs0 (l.map (·.t)))[k].1 := ⟨_, rfl⟩
      obtain ⟨wd, hwd⟩ : ∃ x, x = (bs0 (l.map (·.t)))[k].2 := ⟨_, rfl⟩
      rw [← hnm] at x0
      rw [← hwd] at x1
      rw [← hwd] at HWD
      rw [HWD.out] at HCP HCF HSU
      clear hnm hwd
      go_upto_region 9 with (fail)
      obtain ⟨w5, hw5⟩ : ∃ W, W = wr.alloc (.cells #[.string nm, .int .i64 wd] 35) := ⟨_, rfl⟩
      obtain ⟨pb, hpb⟩ : ∃ q, q = wr.heap.size := ⟨_, rfl⟩
      have K5 := Lib.hid (show Kept [] wr w5 from by rw [hw5]; exact (Kept.refl [] wr).alloc _)
      have E5 := Lib.hid (show w5.cell? ⟨pb, 1, none⟩ = some (.int .i64 wd) from by
        rw [hw5, hpb]
        exact blk_cell (heap_alloc_new wr _) 1)
      try rw [← hpb]
      try rw [← hw5]
      clear hw5 hpb x0 x1
      have g0 := K5.out.cell f0 (by simp)
      have g1 := K5.out.cell f1 (by simp)
      clear f0 f1
      go_upto_region 10 with (at_make; refine wpList_mkT rfl rfl Tryd.underlying33 u64_info rfl rfl rfl (by omega) (by unfold maxLen; omega) ?_; intro w6 hown6 hst6; rw [nats_replT] at hown6)
      obtain ⟨g, hg⟩ : ∃ g, g = w5.heap.size := ⟨_, rfl⟩
      try rw [← hg]
      rw [← hg] at hown6 hst6
      have HG := Lib.hid (show w.heap.size ≤ g ∧ pb ≠ g ∧ q ≠ g ∧ s ≠ g ∧ wr.heap.size ≤ g from by
        have h1 := cell_lt E5.out
        have h2 := cell_lt g0
        have h3 := cell_lt g1
        have h4 := KW.out.size
        have h5 := KR.out.kept.size
        have h6 := K5.out.size
        simp only at h1 h2 h3
        refine ⟨?_, ?_, ?_, ?_, ?_⟩ <;> omega)
      have B6 := Lib.hid (show w6.heap[g]? = some (.cells (sqV (wordsTo i k (l.map (·.t)) 0)) 27 (0, 0)) from by
        rw [wordsTo_zero, HTL.out]
        exact own_wholeT hown6)
      have K6 := Lib.hid (K5.out.trans hst6.kept)
      have G0 := Lib.hid (hst6.kept.cell g0 (by simp))
      have G1 := Lib.hid (hst6.kept.cell g1 (by simp))
      have GE := Lib.hid (hst6.kept.cell E5.out (by simp))
      have KW6 := Lib.hid ((KW.out.trans KR.out.kept).trans K6.out)
      have e1 := G1.out
      clear hg hown6 hst6 g0 g1
      go_wp2_with fail
      clear e1
      obtain ⟨wA, rfl⟩ : ∃ v : World, v = wr := ⟨_, rfl⟩
      obtain ⟨w6, rfl⟩ : ∃ v : World, v = w6 := ⟨_, rfl⟩
      go_loopw [50] (fun jv wq => ∃ (j : Nat), j ≤ n ∧ jv = .int .i64 j ∧ wq.heap[g]? = some (.cells (sqV (wordsTo i k (l.map (·.t)) j)) 27 (0, 0)) ∧ Kept [g] w6 wq) (fun jv _ => n - (intOf jv).toNat)
      case atStart => exact ⟨0, Nat.zero_le _, rfl, B6.out, .refl _ _⟩
      case round =>
        obtain ⟨j, hj, rfl, hbq, hkq⟩ := hrel
        have BQ := Lib.hid hbq
        have KQ := Lib.hid hkq
        have KWQ := Lib.hid (show Kept [] w wr from kept_up KW6.out hkq (by simpa using HG.out.1))
        have g0 := hkq.cell G0.out (by simpa using HG.out.2.2.1)
        have g1 := hkq.cell G1.out (by simpa using HG.out.2.2.2.1)
        have gE := hkq.cell GE.out (by simpa using HG.out.2.1)
        clear hbq hkq
        by_cases hjn : j < n
        · have hjl : j < l.length := by rw [HL.out]; exact hjn
          have hjt : j < (l.map (·.t)).length := by rw [HTL.out]; exact hjn
          have HTJ := Lib.hid (show (l.map (·.t))[j] = l[j].t from by simp)
          have HMJ := Lib.hid ((packBad_parts HB.out).2.2 _ (List.getElem_mem hjt))
          have HWS := Lib.hid (wordsTo_succ (i := i) (k := k) hjt)
          have HWK := Lib.hid (wordsTo_skip (i := i) (k := k) hjt)
          have HWL := Lib.hid (wordsTo_len (i := i) (k := k) (ts := l.map (·.t)) (j := j) (by omega))
          obtain ⟨b, o, hbo, x0, x1, xt, xok⟩ := (HS.out.kept0 KWQ.out) j hjl
          injection hbo with hbo
          injection hbo with hbo1 hbo2
          subst hbo1 hbo2
          rw [HTJ.out] at HMJ HWS HWK
          have XT := Lib.hid xt
          clear xt HTJ
          generalize l[j] = x at *
          obtain ⟨t, tba, tbc, tra, trc, twl⟩ := x
          simp only at x0 x1 XT xok HMJ HWS HWK
          obtain ⟨tn, htn⟩ : ∃ n, n = t.rs.length := ⟨_, rfl⟩
          rw [← htn] at x1
          generalize htbl : t.bs.length = tbl at x0
          have HTN := Lib.hid htn
          have htn5 : tn ≤ 140737488351232 := by rw [htn]; exact xok.rl
          clear htn htbl
          go_upto_region 13 with (fail)
          obtain ⟨w7, hw7⟩ : ∃ W, W = wr.alloc (.cells #[.slice tba tbl tbc, .slice tra tn trc] 25) := ⟨_, rfl⟩
          obtain ⟨pt, hpt⟩ : ∃ q, q = wr.heap.size := ⟨_, rfl⟩
          have K7 := Lib.hid (show Kept [] wr w7 from by rw [hw7]; exact (Kept.refl [] wr).alloc _)
          have E7 := Lib.hid (show w7.cell? ⟨pt, 1, none⟩ = some (.slice tra tn trc) from by
            rw [hw7, hpt]
            exact blk_cell (heap_alloc_new wr _) 1)
          try rw [← hpt]
          try rw [← hw7]
          clear hw7 hpt x0 x1
          have h0 := K7.out.cell g0 (by simp)
          have h7 := E7.out
          have B7 := Lib.hid (K7.out.heap BQ.out (by simp))
          clear g0 g1 gE
          by_cases hir : i < tn
          · have hil : i < twl.length := by rw [XT.out.rl, ← HTN.out]; exact hir
            obtain ⟨rb, ro, rfl, z0, z1⟩ := XT.out.rs i hil
            have HRW := Lib.hid (XT.out.row i hil)
            have HRL := Lib.hid (show twl[i].l.length = bn from by rw [mayT_row HMJ.out.1 _ (List.mem_of_getElem? HRW.out), HMJ.out.2, ← HBN.out])
            have hkl : k < twl[i].l.length := by rw [HRL.out]; exact hlt
            obtain ⟨ad, had, z2⟩ := z1 k hkl
            have HNA := Lib.hid (show numAt i k t = twl[i].l[k] from by
              unfold numAt atT
              rw [if_pos (by rw [← HTN.out]; exact hir), List.getD_eq_getElem?_getD (l := t.rs), HRW.out, Option.getD_some, List.getD_eq_getElem?_getD, List.getElem?_eq_getElem hkl, Option.getD_some])
            have z0' := K7.out.cell z0 (by simp)
            have z2' := K7.out.cell z2 (by simp)
            rw [HRL.out] at z0'
            rw [had] at z0'
            obtain ⟨v, hv⟩ : ∃ v, v = twl[i].l[k] := ⟨_, rfl⟩
            rw [← hv] at z2' HNA
            clear hv z0 z1 z2 HRW HRL hkl
            generalize twl[i].c = rc at *
            obtain ⟨cw, hcw⟩ : ∃ cw, w7.cell? ⟨g, j, none⟩ = some cw := ⟨_, by rw [blk_cell B7.out j]; exact sqV_get (by rw [HWL.out, HTL.out]; exact hjn)⟩
            have hfw := blk_free B7.out j
            clear had hjl hjt hil
            go_wp2_with fail
            go_roundw
            case rel =>
              refine ⟨j + 1, by omega, by go_num, ?_, (KQ.out.trans (K7.out.more (by simp))).setCell (.inl (by simp)) _⟩
              rw [HWS.out, HNA.out, ← sqV_set]
              exact blk_set B7.out j _
            case measure => simp [intOf]; omega
          · have HSK := Lib.hid (HWK.out (by rw [← HTN.out]; exact hir))
            clear hjl hjt
            go_wp2_with fail
            go_roundw
            case rel => exact ⟨j + 1, by omega, by go_num, by rw [HSK.out]; exact B7.out, KQ.out.trans (K7.out.more (by simp))⟩
            case measure => simp [intOf]; omega
        · obtain rfl : j = n := by omega
          have HWA := Lib.hid (show wordsTo i k (l.map (·.t)) j = colW i (l.map (·.t)) k from by rw [← HTL.out]; exact wordsTo_all _ _ _)
          have hbq := BQ.out
          rw [HWA.out] at hbq
          have HPC := Lib.hid (pack_c wd (some ⟨g, 0, none⟩) j j (colW i (l.map (·.t)) k) wr (by rw [colW, List.length_map, HTL.out]) (by omega) (blk_sln hbq) HCP.out.2)
          clear hbq g0 g1
          go_wp2_with fail
          refine HPC.out.mono ?_
          intro e w8 hp
          rcases hp with ⟨h1, _⟩ | ⟨_, a8, c8, rfl, ho8, hk8, hf8⟩
          · exact absurd h1 (by rw [HCP.out.1]; decide)
          have H8 := Lib.hid (And.intro ho8 (And.intro hk8 hf8))
          have K8 := Lib.hid (show Kept [] wA w8 from (kept_up K6.out KQ.out (by simpa using HG.out.2.2.2.2)).trans hk8)
          have HLP := Lib.hid (packT_len (k := wd.toNat) (l := colW i (l.map (·.t)) k) (by have := HCF.out; omega) (by rw [colW, List.length_map, HTL.out]; omega) HCP.out.2)
          have HOWN := Lib.hid (HR.out.1.own.kept0 K8.out)
          have HQS := Lib.hid (show wA.heap.size ≤ wr.heap.size from Nat.le_trans K6.out.size KQ.out.size)
          generalize wd.toNat = wn at *
          generalize packT wn (colW i (l.map (·.t)) k) = P at *
          clear ho8 hk8 hf8
          go_wp2_with (at_builtin; refine wpList_push rfl rfl Tryd.underlying23 row_info rfl rfl rfl HOWN.out rfl (by unfold maxLen; omega) (by omega) ?_; intro a9 c9 w9 hown9 hst9)
          go_roundw
          case rel =>
            obtain ⟨r1, r2, r3⟩ := HR.out
            have ho9 : Own w9 33 a9 (k + 1) c9 (wrCells rs ++ [.slice a8 P.length c8]) := by rw [HLP.out]; exact hown9
            have hs := WRows.snoc (w0 := wA) (r := ⟨P, a8, c8⟩) r1 K8.out ho9 hst9 H8.out.1.sln (fun b hb => ⟨H8.out.1.lt b hb, fun hx => by have h1 := r1.own.lt b hx; have h2 := H8.out.2.2 b hb; have h3 := HQS.out; omega⟩) r3
            refine ⟨k + 1, a9, c9, rs ++ [⟨P, a8, c8⟩], by omega, by go_num, rfl, hs.1, ?_, ?_, hs.2⟩
            · rw [List.map_append, r2, HSU.out]; rfl
            · exact (KR.out.trans ⟨K8.out.more (by simp), fun b hb => .inl hb⟩).trans hst9
          case measure => simp [intOf]; omega
    · obtain rfl : k = bn := by omega
      go_wp2_with fail
      go_ret2
      refine .inr (.inr ⟨HB.out, HN.out, oa, oc, rs, ?_, ?_, ?_, KW.out.trans KR.out.kept⟩)
      · rw [← HBN.out]; rfl
      · rw [← HBN.out]; exact HR.out.1
      · rw [← HBN.out]; exact HR.out.2.1
end Go.Proofs.YtjgcfncganleoaaDoor
