/-
  Package emit: lines gone through: buses, registers, gates (each hands its lines to yield).
-/
import Derived.Test.YtnjoklcddodfeaaGreatDoorQEmitL
import Derived.Test.YtnjoklcddodfeaaGreatDoorP08
import Derived.Test.YtnjoklcddodfeaaGreatDoorP03
import Derived.Test.YtnjoklcddodfeaaGreatDoorP06
import Derived.RangeFuncNested
import Derived.RangeFuncBound
import Derived.RangeFuncCalls
import Derived.RangeFuncLeaves
import Derived.Shelf.Abstract
import Derived.Shelf.RegionOpen
import Derived.OwnWalkIn
import Derived.TacticsInMore
import Derived.LoopNIn
import Derived.LoopIn
import Derived.Deep.RegionHeld3
namespace Go.Proofs.YtnjoklcddodfeaaGreatDoor
open Go.ChangeShapes Go.WideShapes Go.ChangeAt Go.RowKit Go.Shelf
attribute [local go_sem] Oper.semAt_some
set_option linter.unusedVariables false
set_option linter.unusedSimpArgs false

variable {w w' w1 W W' : World} {n₀ : Nat}
/-! what lies below a block -/
def upS (n₀ : Nat) (W : World) : List Nat := (List.range W.heap.size).filter fun b => decide (n₀ ≤ b)
theorem kept_up0 (h : Below n₀ W W') : Kept (upS n₀ W) W W' := ⟨h.os, h.tape, h.output, h.size, fun k hk hn => h.block k (by
  apply Nat.lt_of_not_le
  intro hle
  exact hn (List.mem_filter.2 ⟨List.mem_range.2 hk, decide_eq_true hle⟩))⟩
theorem not_up {b : Nat} (h : b < n₀) : b ∉ upS n₀ W := fun hm => by
  have := of_decide_eq_true (List.mem_filter.1 hm).2
  omega
theorem PowLaid.below (h : PowLaid w) (hk : Below n₀ w w') (hg : 3 < n₀) : PowLaid w' := by
  unfold PowLaid Lib.TabIs at *
  simp only [World.var?, gPow, Option.bind_some] at h ⊢
  split at h
  · rename_i c t fr hb
    rw [hk.block _ hg, hb]
    exact h
  · cases h
theorem YieldAt.any {m : Nat} (m' : Nat) {l : Nat} {args : Array Value} {W : World} {R : Ending → World → Prop} (h : YieldAt Fence.wide m Tryz.prog l args W R) : YieldAt Fence.wide m' Tryz.prog l args W R := by
  obtain ⟨fn, tmps, assign, body, hy, hR⟩ := h
  exact ⟨fn, tmps, assign, body, hy, hR.1, fun c cs _ => hR.2 c cs (fun d h => nomatch h)⟩
/-- a round at a line: it goes on, or it says 'no more' -/
def Yld (m l : Nat) (J Jx : List (List UInt8) → World → Prop) (n₀ : Nat) (T : List (List UInt8)) : Prop := ∀ pre x W, J pre W → pre ++ [x] <+: T → YieldAt Fence.wide m Tryz.prog l #[.string ⟨x.toArray⟩] W fun e W' => (e = .returned (.bool true) ∧ J (pre ++ [x]) W' ∧ Below n₀ W W') ∨ (e = .returned (.bool false) ∧ Jx (pre ++ [x]) W')
/-- lines handed on: all of them, or a part, behind which a round has said 'no more' -/
def HandOn (J Jx : List (List UInt8) → World → Prop) (n₀ : Nat) (pre ls : List (List UInt8)) (W : World) (e : Ending) (W' : World) : Prop :=
  (e = .returned (.bool true) ∧ J (pre ++ ls) W' ∧ Below n₀ W W') ∨ (e = .returned (.bool false) ∧ ∃ q, q <+: ls ∧ Jx (pre ++ q) W')
theorem pre_on {α : Type} {A q L T : List α} (h : q <+: L) (hT : A ++ L <+: T) : A ++ q <+: T := by
  obtain ⟨t, rfl⟩ := h
  exact List.IsPrefix.trans ⟨t, by simp⟩ hT
theorem bus_cell {a : Option Addr} {c : Nat} {l : List Bus} {rs : List BR} (h : BusesAt w a c l rs) (k : Nat) (hk : k < l.length) : ∃ g, a = some ⟨g, 0, none⟩ ∧ ∃ ra rc, w.cell? ⟨g, k * 2, none⟩ = some (.string (l[k]'hk).name) ∧ w.cell? ⟨g, k * 2 + 1, none⟩ = some (.slice ra (l[k]'hk).lits.length rc) ∧ SlN w .u32 ra (l[k]'hk).lits := by
  have his := h.is
  have hr : k < rs.length := by have := congrArg List.length his; simp at this; omega
  have hb : (rs[k]'hr).b = l[k]'hk := by
    have := congrArg (fun l => l[k]?) his
    simpa [hr, hk] using this
  rcases h.own.2 with ⟨hv, hn⟩ | ⟨g, cap', cur, hv, _⟩
  · omega
  · injection hv with hv
    subst hv
    have hg := brCells_get rs k _ (List.getElem?_eq_getElem hr)
    rw [hb] at hg
    refine ⟨g, rfl, (rs[k]'hr).a, (rs[k]'hr).c, ?_, ?_, ?_⟩
    · rw [World.ownsRow.cellAt h.own (k * 2) (by omega), Nat.mul_comm, hg.1]
    · rw [World.ownsRow.cellAt h.own (k * 2 + 1) (by omega), Nat.mul_comm k 2, hg.2]
    · have := (h.rows _ (List.getElem_mem hr)).1
      rwa [hb] at this
theorem bytesL_mk (s : ByteArray) : (⟨(bytesL s).toArray⟩ : ByteArray) = s := rfl
set_option maxHeartbeats 3200000 in
set_option maxRecDepth 100000 in
theorem buses_in (n l : Nat) (T : List (List UInt8)) (J Jx : List (List UInt8) → World → Prop) (hY : ∀ m, Yld m l J Jx n₀ T) (hJ : ∀ s A B, J s A → Kept [] A B → J s B)
    (word : List UInt8) (hw : word.length ≤ 1000) (a : Option Addr) (c len : Nat) (bs : List Bus) (rs : List BR) (W : World) (hlen : bs.length = len) (hb : BusesAt W a c bs rs) (hl1 : ∀ b ∈ ft a, b < n₀) (hl2 : ∀ b ∈ rowsOf rs, b < n₀)
    (hbs : ∀ b ∈ bs, b.lits.length ≤ 1000 ∧ (bytesL b.name).length ≤ 1000 ∧ ∀ x ∈ b.lits, x < 4294967296) (hlm : len ≤ 1000000) (hL : PowLaid W) (hg : 3 < n₀) (hn0 : n₀ ≤ W.heap.size) (pre : List (List UInt8)) (h0 : J pre W) (hN : pre ++ bs.map (busL word) <+: T) :
    CallsIn Fence.wide n Tryz.prog 46 #[.string ⟨word.toArray⟩, .slice a len c, .func (.yield l) #[] #[]] W (HandOn J Jx n₀ pre (bs.map (busL word)) W) := by
  have HY := Lib.hid hY
  have HJ := Lib.hid hJ
  have HB := Lib.hid hb
  have HBS := Lib.hid hbs
  have HL := Lib.hid hL
  have H1 := Lib.hid hl1
  have H2 := Lib.hid hl2
  have HLEN := Lib.hid hlen
  have H0 := Lib.hid h0
  clear hY hJ hb hbs hL hl1 hl2 hlen h0
  refine callsIn_of_wp Tryz.func46 rfl trivial ?_ rfl
  simp only [Tryz.ntmps46, List.size_toArray, List.length_cons, List.length_nil, Nat.reduceAdd, Nat.reduceSub, Array.replicate_succ, Array.replicate_zero, List.push_toArray, List.append_toArray, List.nil_append, List.cons_append]
  gi_wp2_with fail
  gi_loopw [11] (fun v wr => ∃ k : Nat, k ≤ len ∧ v = .int .i64 k ∧ J (pre ++ (bs.take k).map (busL word)) wr ∧ Below n₀ W wr) (fun v _ => len - (intOf v).toNat)
  case atStart => exact ⟨0, Nat.zero_le _, rfl, by simpa using H0.out, Below.refl _ _⟩
  case round =>
    obtain ⟨k, hk, rfl, hj, hbl⟩ := hrel
    have HJR := Lib.hid hj
    have KR := Lib.hid hbl
    clear hj hbl
    by_cases hlt : k < len
    · have hkb : k < bs.length := by rw [HLEN.out]; exact hlt
      have HBR := Lib.hid (HB.out.kept (kept_up0 KR.out) (fun b hb => not_up (H1.out b hb)) (fun b hb => not_up (H2.out b hb)))
      obtain ⟨g, rfl, ra, rc, e0, e1, hs⟩ := bus_cell HBR.out k hkb
      have HS := Lib.hid hs
      have HTK := Lib.hid (show bs.take (k + 1) = bs.take k ++ [bs[k]'hkb] from List.take_succ_eq_append_getElem hkb)
      have HBK := Lib.hid (HBS.out _ (List.getElem_mem hkb))
      obtain ⟨b, hbb⟩ : ∃ b, b = bs[k]'hkb := ⟨_, rfl⟩
      rw [← hbb] at e0 e1 HS HTK HBK
      have q0 : (0 : Int) ≤ (k : Int) := by omega
      have q1 : (k : Int) < (len : Int) := by omega
      clear hs hbb hkb HBR
      have HPW := Lib.hid (HL.out.below KR.out hg)
      have hsz := KR.out.size
      have HLN := Lib.hid (fun V (hV : Kept [] wr V) => (show Calls Tryz.prog 45 #[.string ⟨word.toArray⟩, .string b.name, .slice ra b.lits.length rc] V (TxtIs (busL word b) V) from by
        have h := line_c word (bytesL b.name) ra rc b.lits.length b.lits V (HPW.out.kept0 hV) rfl (HS.out.kept0 hV) HBK.out.2.2 (by have := HBK.out.1; omega) hw HBK.out.2.1
        rw [bytesL_mk] at h
        exact h))
      gi_wp2_with fail
      refine ⟨trivial, (fun h => nomatch h), ?_⟩
      refine (callsIn_wide.2 (HLN.out _ ((Kept.refl [] wr).alloc _))).mono ?_
      rintro e W2 ⟨rfl, k2⟩
      have K2 := Lib.hid (show Kept [] wr W2 from ((Kept.refl [] wr).alloc (.cells #[.string b.name, .slice ra b.lits.length rc] 79)).trans k2)
      clear k2
      have HPX := Lib.hid (show (bs.take k).map (busL word) ++ [busL word b] <+: bs.map (busL word) from by
        have h : (bs.take (k + 1)).map (busL word) <+: bs.map (busL word) := (List.take_prefix _ _).map _
        rw [HTK.out, List.map_append] at h
        exact h)
      obtain ⟨fn, tmps, assign, body, hy, hR⟩ := HY.out (n - 1) _ (busL word b) W2 (HJ.out _ _ _ HJR.out K2.out) (by rw [List.append_assoc]; exact pre_on HPX.out hN)
      have HR := Lib.hid hR
      clear hR e0 e1
      have HT2 := Lib.hid (show pre ++ (bs.take (k + 1)).map (busL word) = pre ++ (bs.take k).map (busL word) ++ [busL word b] from by
        rw [HTK.out, List.map_append, List.append_assoc]
        rfl)
      have KB2 := Lib.hid (show Below n₀ wr W2 from K2.out.below.mono (by omega))
      gi_wp2_with fail
      refine ⟨(fun h => nomatch h), ?_⟩
      refine HR.out.mono ?_
      rintro e W3 (⟨rfl, hJ3, hb3⟩ | ⟨rfl, hx3⟩)
      · have HJ3 := Lib.hid hJ3
        have KB3 := Lib.hid (KR.out.trans (KB2.out.trans hb3))
        clear hJ3 hb3
        gi_wp2_with fail
        go_roundw
        case rel => exact ⟨k + 1, by omega, by go_num, by rw [HT2.out]; exact HJ3.out, KB3.out⟩
        case measure => simp [intOf]; omega
      · have HX3 := Lib.hid hx3
        clear hx3
        gi_wp2_with fail
        go_ret
        exact .inr ⟨rfl, _, HPX.out, by rw [← List.append_assoc]; exact HX3.out⟩
    · obtain rfl : k = len := by omega
      have HFIN := Lib.hid (show bs.take k = bs from by rw [← HLEN.out]; exact List.take_length)
      gi_wp2_with fail
      go_ret
      refine .inl ⟨rfl, ?_, KR.out⟩
      have h := HJR.out
      rw [HFIN.out] at h
      exact h
/-! a register's line -/
theorem cell_alloc' {a : Addr} {v : Value} (h : w.cell? a = some v) (o : Obj) : (w.alloc o).cell? a = some v := ((Kept.refl [] w).alloc o).cell h (by simp)
theorem cell_drew' {a : Addr} {v : Value} (h : w.cell? a = some v) : w.drew.cell? a = some v := h
set_option maxHeartbeats 3200000 in
set_option maxRecDepth 100000 in
theorem latch_c (r : Rg) (hq : r.q < 4294967296) (hd : r.d < 4294967296) (he : r.en < 4294967296) (w : World) (hL : PowLaid w) :
    Calls Tryz.prog 92 #[.agg #[.int .u32 (r.q : Int), .int .u32 (r.d : Int), .int .u32 (r.en : Int), .bool r.init]] w (TxtIs (latchL r) w) := by
  obtain ⟨q, d, en, init⟩ := r
  simp only at hq hd he ⊢
  have HL := Lib.hid hL
  have HIF := Lib.hid (fun V => (show Calls Tryz.prog 80 #[.int .u32 0, .bool init] V (fun e w' => e = .returned (.int .u32 ((if init then 1 else 0 : Nat) : Int)) ∧ V = w') from by
    have h := lit_if 0 init V (by decide)
    cases init <;> exact h))
  obtain ⟨ti, hti⟩ : ∃ ti : Nat, ti = if init then 1 else 0 := ⟨_, rfl⟩
  have hti2 : ti < 4294967296 := by rw [hti]; split <;> decide
  rw [← hti] at HIF
  have HLT := Lib.hid (show ∀ x ∈ [q, d, en, ti], x < 4294967296 from fun x hx => by
    simp only [List.mem_cons, List.not_mem_nil, or_false] at hx
    rcases hx with rfl | rfl | rfl | rfl <;> assumption)
  have HTX := Lib.hid (show latchL ⟨q, d, en, init⟩ = lineB wLatch [] [q, d, en, ti] from by rw [hti]; rfl)
  clear hL hti
  go_enter Tryz.func92, Tryz.ntmps92
  go_wp2_with fail
  obtain ⟨g, hg⟩ : ∃ g, g = w.heap.size := ⟨_, rfl⟩
  obtain ⟨wA, hwA⟩ : ∃ V, V = w.alloc (.cells #[.int .u32 (q : Int), .int .u32 (d : Int), .int .u32 (en : Int), .bool init] 76) := ⟨_, rfl⟩
  have KA := Lib.hid (show Kept [] w wA from hwA ▸ (Kept.refl [] w).alloc _)
  have hb := (show wA.heap[g]? = some (.cells #[.int .u32 (q : Int), .int .u32 (d : Int), .int .u32 (en : Int), .bool init] 76 (0, 0)) from by rw [hwA, hg]; show (w.heap.push _)[w.heap.size]? = _; simp)
  rw [← hg, ← hwA]
  clear hg hwA
  have d0 := blk_cell hb 0
  have d1 := blk_cell hb 1
  have d2 := blk_cell hb 2
  have d3 := blk_cell hb 3
  simp only [List.getElem?_toArray, List.getElem?_cons_zero, List.getElem?_cons_succ] at d0 d1 d2 d3
  clear hb
  have HLN := Lib.hid (fun V => (fun (h : V = (wA.alloc (.cells #[.int .u32 (q : Int), .int .u32 (d : Int), .int .u32 (en : Int), .int .u32 (ti : Int)] 39)).drew) => h ▸ (show Calls Tryz.prog 45 #[.string ⟨#[46, 108, 97, 116, 99, 104]⟩, .string ⟨#[]⟩, .slice (some ⟨wA.heap.size, 0, none⟩) 4 4] (wA.alloc (.cells #[.int .u32 (q : Int), .int .u32 (d : Int), .int .u32 (en : Int), .int .u32 (ti : Int)] 39)).drew (TxtIs (lineB wLatch [] [q, d, en, ti]) (wA.alloc (.cells #[.int .u32 (q : Int), .int .u32 (d : Int), .int .u32 (en : Int), .int .u32 (ti : Int)] 39)).drew) from
    line_c wLatch [] _ 4 4 [q, d, en, ti] _ (HL.out.kept0 (KA.out.trans (((Kept.refl [] wA).alloc _).drew))) rfl (sln_new wA .u32 [q, d, en, ti] 39) HLT.out (by decide) (by decide) (by decide))))
  go_region_held3 (fun V => V.cell? ⟨g, 0, none⟩ = some (.int .u32 (q : Int)) ∧ V.cell? ⟨g, 1, none⟩ = some (.int .u32 (d : Int)) ∧ V.cell? ⟨g, 2, none⟩ = some (.int .u32 (en : Int)) ∧ V.cell? ⟨g, 3, none⟩ = some (.bool init))
    (refine ⟨?_, ?_, ?_, ?_⟩ <;> (repeat (first | with_reducible assumption | with_reducible refine cell_alloc' ?_ _ | with_reducible refine cell_drew' ?_ | with_reducible refine Kept.cell k6 ?_ List.not_mem_nil)))
    (first
      | (go_at_call 80; (with_reducible refine (HIF.out _).mono ?_); rintro e w6 ⟨rfl, rfl⟩)
      | (go_at_call 45; (with_reducible refine (HLN.out _ rfl).mono ?_); rintro e w6 ⟨rfl, k6⟩))
  have K6 := Lib.hid k6
  clear k6 d0 d1 d2 d3
  go_wp2_with fail
  go_ret
  refine ⟨?_, KA.out.trans ((((Kept.refl [] wA).alloc _).drew).trans K6.out)⟩
  rw [HTX.out]
  rfl
end Go.Proofs.YtnjoklcddodfeaaGreatDoor
