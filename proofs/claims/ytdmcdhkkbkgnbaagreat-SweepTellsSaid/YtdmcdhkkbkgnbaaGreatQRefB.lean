/-
  Joined: QRSwH, QRSwI, QRSwJ.
-/
import Derived.Test.YtdmcdhkkbkgnbaaGreatQRSwG
import Derived.Test.YtdmcdhkkbkgnbaaGreatQRSimK
import Derived.BigQuiet
import Derived.Test.YtdmcdhkkbkgnbaaGreatP30
namespace Go.Proofs.YtdmcdhkkbkgnbaaGreat
open Go.ChangeShapes Go.WideShapes Go.ChangeAt Go.RowKit
open Go.Maps (Keyed)
open Go.WideMaps
set_option linter.unusedVariables false
set_option linter.unusedSimpArgs false

variable {w w' W : World} {p n k : Nat} {F R S : List Nat} {g : Gr} {N : Nt}
def RNone (c : Nat) (w : World) (e : Ending) (w' : World) : Prop := e = .returned (.tuple #[.pointer none, .int .i64 (c : Nat)]) ∧ Kept [] w w'
set_option maxRecDepth 100000 in
theorem ronce_bad (h : RNetAt w n F R N) (hf : NtFine k N) (hk : k ≤ 700) (hz : checkN N ≠ 0) : Calls Tryz.prog 11 #[.pointer (some ⟨n, 0, none⟩)] w (RNone (checkN N) w) := by
  have HC := Lib.hid (check06g h hf hk)
  generalize checkN N = c at *
  have h1 : ¬ (c : Int) = 0 := by omega
  go_enter Tryz.func11, Tryz.ntmps11; (try simp only [List.append])
  go_wp2_with fail
  refine HC.out.mono ?_
  intro e w1 hx
  have he := hx.1
  subst he
  have K1 := Lib.hid (show Kept [] w w1 from by
    first
    | exact hx.2
    | (obtain ⟨_, d, hd⟩ := hx; rw [hd]; exact (Kept.refl [] w).drewN d))
  clear hx
  go_wp2_with fail
  go_ret2
  exact ⟨rfl, K1.out⟩
set_option maxRecDepth 100000 in
theorem rall_bad (h : RNetAt w n F R N) (hf : NtFine k N) (hk : k ≤ 700) (hz : checkN N ≠ 0) : Calls Tryz.prog 13 #[.pointer (some ⟨n, 0, none⟩)] w (RNone (checkN N) w) := by
  have HC := Lib.hid (ronce_bad h hf hk hz)
  generalize checkN N = c at *
  have h1 : ¬ (c : Int) = 0 := by omega
  go_enter Tryz.func13, Tryz.ntmps13; (try simp only [List.append])
  go_wp2_with fail
  go_loopw [0] (fun v wr => v = .pointer (some ⟨n, 0, none⟩) ∧ w = wr) (fun _ _ => 0)
  case atStart => exact ⟨rfl, rfl⟩
  case round =>
    obtain ⟨rfl, rfl⟩ := hrel
    go_wp2_with fail
    refine HC.out.mono ?_
    rintro e w1 ⟨rfl, k1⟩
    have K1 := Lib.hid k1
    clear k1
    go_wp2_with fail
    go_ret2
    exact ⟨rfl, K1.out⟩
end Go.Proofs.YtdmcdhkkbkgnbaaGreat

namespace Go.Proofs.YtdmcdhkkbkgnbaaGreat
open Go.ChangeShapes Go.WideShapes Go.ChangeAt Go.RowKit
open Go.Maps (Keyed)
open Go.WideMaps
set_option linter.unusedVariables false
set_option linter.unusedSimpArgs false

variable {w w' W : World} {p n k : Nat} {F R S : List Nat} {g : Gr} {N : Nt}
set_option maxRecDepth 100000 in
theorem bools_c (ga gb m c d : Nat) (l : List Bool) (w : World) (hl : l.length = m) (hm : m ≤ 1000000) (ha : Own w 4 (some ⟨ga, 0, none⟩) m c (bls l)) (hb : Own w 4 (some ⟨gb, 0, none⟩) m d (bls l)) :
    Calls Tryz.prog 18 #[.slice (some ⟨ga, 0, none⟩) m c, .slice (some ⟨gb, 0, none⟩) m d] w fun e w' => e = .returned (.bool true) ∧ Kept [] w w' := by
  have HL := Lib.hid hl
  have HA := Lib.hid ha
  have HB := Lib.hid hb
  clear hl ha hb
  go_enter Tryz.func18, Tryz.ntmps18
  go_wp2_with fail
  go_loopw [5] (fun v wr => ∃ i : Nat, i ≤ m ∧ v = .int .i64 i ∧ Kept [] w wr) (fun v _ => m - (intOf v).toNat)
  case atStart => exact ⟨0, Nat.zero_le _, rfl, .refl _ _⟩
  case round =>
    obtain ⟨i, hi, rfl, hkr⟩ := hrel
    have KR := Lib.hid hkr
    clear hkr
    by_cases hlt : i < m
    · have c1 := own_cell_b (HA.out.kept0 KR.out) i (by rw [HL.out]; exact hlt)
      have c2 := own_cell_b (HB.out.kept0 KR.out) i (by rw [HL.out]; exact hlt)
      generalize l.getD i false = b at *
      have i0 : (0 : Int) ≤ (i : Int) := by omega
      have i1 : (i : Int) < (m : Int) := by omega
      go_wp2_with fail
      go_quiet (fail)
      have k3 := Lib.hid (show Kept [] wr (wr.drewN nq) from (Kept.refl [] wr).drewN nq)
      go_wp2_with fail
      go_roundw
      case rel => exact ⟨i + 1, by omega, by go_num, KR.out.trans k3.out⟩
      case measure => simp [intOf]; omega
    · obtain rfl : m = i := by omega
      go_wp2_with fail
      go_ret
      exact ⟨rfl, KR.out⟩
end Go.Proofs.YtdmcdhkkbkgnbaaGreat

namespace Go.Proofs.YtdmcdhkkbkgnbaaGreat
open Go.ChangeShapes Go.WideShapes Go.ChangeAt Go.RowKit
open Go.Maps (Keyed)
open Go.WideMaps
set_option linter.unusedVariables false
set_option linter.unusedSimpArgs false

variable {w w' W w0 : World} {p n n' k : Nat} {F R S S' F' R' : List Nat} {g : Gr} {N M M' : Nt}
/-- a row of numbers is none of what the document's netlist writes -/
theorem rnet_lits (h : RNetAt w n F R N) {a : Option Addr} {m c : Nat} {xs : List Value} (ho : Own w 46 a m c xs) : ∀ b ∈ ft a, b ∉ F := by
  obtain ⟨p, G, ia, ic, ra, rc, oa, oc, ri, ro, rfl, rfl, hc⟩ := h
  intro b hb hx
  simp only [List.mem_cons, List.mem_append] at hx
  rcases hx with rfl | hx | hx | hx | hx
  · exact blk_apart hc.blk ho (by decide) hb
  · exact hc.gr.apart ho (by decide) (by decide) b hb hx
  · exact owns_apart ho hc.ib.own (by decide) b hb hx
  · exact owns_apart ho hc.rb (by decide) b hb hx
  · exact owns_apart ho hc.ob.own (by decide) b hb hx
theorem rnet_bools (h : RNetAt w n F R N) {a : Option Addr} {m c : Nat} {xs : List Value} (ho : Own w 4 a m c xs) : ∀ b ∈ ft a, b ∉ F := by
  obtain ⟨p, G, ia, ic, ra, rc, oa, oc, ri, ro, rfl, rfl, hc⟩ := h
  intro b hb hx
  simp only [List.mem_cons, List.mem_append] at hx
  rcases hx with rfl | hx | hx | hx | hx
  · exact blk_apart hc.blk ho (by decide) hb
  · exact hc.gr.apart ho (by decide) (by decide) b hb hx
  · exact owns_apart ho hc.ib.own (by decide) b hb hx
  · exact owns_apart ho hc.rb (by decide) b hb hx
  · exact owns_apart ho hc.ob.own (by decide) b hb hx
structure NowAt (w0 w : World) (n' : Nat) (F R : List Nat) (M : Nt) : Prop where
  net : RNetAt w n' F R M
  kept : Kept [] w0 w
  new : ∀ b ∈ F ++ R, w0.heap.size ≤ b
theorem NowAt.kept0 (h : NowAt w0 w n' F R M) (hk : Kept [] w w') : NowAt w0 w' n' F R M := ⟨h.net.kept0 hk, h.kept.trans hk, h.new⟩
theorem NowAt.newF (h : NowAt w0 w n' F R M) : ∀ b ∈ F, w0.heap.size ≤ b := fun b hb => h.new b (List.mem_append_left _ hb)
theorem NowAt.step (h : NowAt w0 w n' F R M) (hn : RNetAt w' n' F' R' M') (hs : NStep w w' F R F' R') : NowAt w0 w' n' F' R' M' :=
  ⟨hn, kept_up h.kept hs.st.kept h.newF, fun b hb => by
    rcases List.mem_append.1 hb with hb | hb
    · rcases hs.st.fresh b hb with h1 | h1
      · exact h.new b (List.mem_append_left _ h1)
      · exact Nat.le_trans h.kept.size h1
    · rcases hs.rows b hb with h1 | h1
      · exact h.new b (List.mem_append_right _ h1)
      · exact Nat.le_trans h.kept.size h1⟩
theorem NowAt.own (h : NowAt w0 w n' F R M) (hs : NStep w w' F R F' R') {a : Option Addr} {m c : Nat} {xs : List Value} (ho : Own w 46 a m c xs) : Own w' 46 a m c xs :=
  ho.kept hs.st.kept (rnet_lits h.net ho)
theorem NowAt.ownB (h : NowAt w0 w n' F R M) (hs : NStep w w' F R F' R') {a : Option Addr} {m c : Nat} {xs : List Value} (ho : Own w 4 a m c xs) : Own w' 4 a m c xs :=
  ho.kept hs.st.kept (rnet_bools h.net ho)
/-- a row written that is none of the netlist's -/
theorem NowAt.row (h : NowAt w0 w n' F R M) (hs : Stepped w w' S S') (h1 : ∀ b ∈ S, b ∉ F) (h2 : ∀ b ∈ S, b ∉ R) (h3 : ∀ b ∈ S, w0.heap.size ≤ b) : NowAt w0 w' n' F R M :=
  ⟨h.net.kept hs.kept (fun b hb hx => h1 b hx hb) (fun b hb hx => h2 b hx hb), kept_up h.kept hs.kept h3, h.new⟩
theorem elem_u32 : Tryz.prog.elem 87 = 46 := by kernel_rfl
theorem size_u32 (V : World) : (sizeOf 46).run Tryz.prog V = .ok 1 V := by kernel_rfl
theorem slice_mid (w : World) (a : Option Addr) (n c i j : Nat) (l : List Nat) (hij : i ≤ j) (hi : j ≤ l.length) (hn : n = l.length) (hc : n ≤ c) (hs : SlN w .u32 a l) :
    ∃ a' c', (∀ V : World, (Instr.sliceAt 87 (.slice a n c) (some (.int .i64 (i : Int))) (some (.int .i64 (j : Int))) none).run Tryz.prog V = .ok (.slice a' (j - i) c') V) ∧ SlN w .u32 a' ((l.drop i).take (j - i)) ∧ j - i ≤ c' ∧ ∀ b ∈ ft a', b ∈ ft a := by
  have hz : ∀ V, (Instr.sliceAt 87 (.slice a n c) (some (.int .i64 (i : Int))) (some (.int .i64 (j : Int))) none).run Tryz.prog V = .ok (sliced a i j c 1) V := fun V => by
    rw [run_sliceAt_slice (P := Tryz.prog) V _ _ _ _ _ (by rw [elem_u32]; exact Tryz.underlying87), run_slice_lh (P := Tryz.prog) V _ a n c (by rw [elem_u32]; exact Tryz.underlying87) .i64 .i64 (i : Int) (j : Int) (by omega) (by omega) (by omega), elem_u32, size_u32]
    simp only [Result.andThen_ok, Int.toNat_natCast]
  unfold sliced at hz
  refine ⟨_, _, hz, fun k hk => ?_, by omega, fun b hb => ?_⟩
  · rw [List.length_take, List.length_drop] at hk
    obtain ⟨ad, rfl, h2⟩ := hs (i + k) (by omega)
    split
    · exact absurd ‹_› (by omega)
    · refine ⟨ad.add (i * 1), rfl, ?_⟩
      rw [add_add2, Nat.mul_one, h2, List.getElem_take, List.getElem_drop]
  · split at hb
    · exact hb
    · cases a with
      | none => exact hb
      | some ad =>
        simp only [Option.map_some, ft, Option.toList_some, List.mem_singleton] at hb ⊢
        rw [hb, block_add]
/-- the graph of the netlist, a step further -/
theorem NowAt.graph (h : NowAt w0 w n' F R M) : ∃ p G, w.cell? ⟨n', 0, none⟩ = some (.pointer (some ⟨p, 0, none⟩)) ∧ n' ∉ G ∧ (∀ b ∈ G, b ∈ F) ∧ RefAt w p G M.g ∧
    ∀ {w1 w2 : World} {G' : List Nat} {g' : Gr}, Kept [] w w1 → RefAt w2 p G' g' → Stepped w1 w2 G G' → ∃ F', NowAt w0 w2 n' F' R { M with g := g' } ∧ NStep w1 w2 F R F' R := by
  obtain ⟨p, G, ia, ic, ra, rc, oa, oc, ri, ro, hF, hR, hc⟩ := h.net
  refine ⟨p, G, hc.c0, hc.apart.1, fun b hb => by rw [hF]; simp [hb], hc.gr, fun {w1 w2 G' g'} hk hg hs => ?_⟩
  have hst := RNetC.graph_step (n := n') (ia := ia) (ra := ra) (oa := oa) (ri := ri) (ro := ro) hs
  rw [← hF, ← hR] at hst
  refine ⟨_, (h.kept0 hk).step ?_ hst, hst⟩
  exact ⟨p, G', ia, ic, ra, rc, oa, oc, ri, ro, rfl, hR, (hc.kept hk (by simp) (by simp)).graph hg hs⟩
/-- what stands for the first registers -/
def standL (N : Nt) (j : Nat) : List Nat := (List.range j).map (standR N)
theorem standL_length (N : Nt) (j : Nat) : (standL N j).length = j := by simp [standL]
theorem standL_succ (N : Nt) (j : Nat) : standL N (j + 1) = standL N j ++ [standR N j] := by simp [standL, List.range_succ]
theorem standL_get (N : Nt) {i j : Nat} (h : i < j) : (standL N j)[i]? = some (standR N i) := by
  unfold standL
  rw [List.getElem?_map, List.getElem?_range h]
  rfl
theorem row_two (N : Nt) {j : Nat} {r : Rg} (h : (goingL N)[j]? = some r) : (rowN N)[(outLits N N.outb.length).length + 2 * j]? = some (overL (copyN N).2 r.d) ∧ (rowN N)[(outLits N N.outb.length).length + (2 * j + 1)]? = some (overL (copyN N).2 r.en) := by
  have h1 := two_get (goingL N) (copyN N).2 h
  rw [← rowTo_all] at h1
  unfold rowTo at h1
  rw [List.getElem?_drop, List.getElem?_drop] at h1
  exact h1
/-- the netlist being made, and the rows of what is wanted and of what stands for registers -/
structure Rows3 (w0 w : World) (n' gb nR : Nat) (N M : Nt) (F R T S : List Nat) (a : Option Addr) (c tl : Nat) (a2 : Option Addr) (c2 j : Nat) : Prop where
  ot : Own w 46 a tl c (nats .u32 T)
  os : Own w 46 a2 j c2 (nats .u32 S)
  ob : Own w 4 (some ⟨gb, 0, none⟩) nR nR (bls (neededN N))
  nw : NowAt w0 w n' F R M
  at1 : ∀ x ∈ ft a, w0.heap.size ≤ x ∧ x ∉ R ∧ x ∉ ft a2
  as1 : ∀ x ∈ ft a2, w0.heap.size ≤ x ∧ x ∉ R
section
variable {gb nR c tl c2 j : Nat} {T S2 : List Nat} {a a2 : Option Addr}
theorem Rows3.keep0 (h : Rows3 w0 w n' gb nR N M F R T S2 a c tl a2 c2 j) (hk : Kept [] w w') : Rows3 w0 w' n' gb nR N M F R T S2 a c tl a2 c2 j :=
  ⟨h.ot.kept0 hk, h.os.kept0 hk, h.ob.kept0 hk, h.nw.kept0 hk, h.at1, h.as1⟩
theorem Rows3.net (h : Rows3 w0 w n' gb nR N M F R T S2 a c tl a2 c2 j) (hn : RNetAt w' n' F' R M') (hs : NStep w w' F R F' R) : Rows3 w0 w' n' gb nR N M' F' R T S2 a c tl a2 c2 j :=
  ⟨h.nw.own hs h.ot, h.nw.own hs h.os, h.nw.ownB hs h.ob, h.nw.step hn hs, h.at1, h.as1⟩
theorem Rows3.pushT (h : Rows3 w0 w n' gb nR N M F R T S2 a c tl a2 c2 j) {a' : Option Addr} {c' tl' : Nat} {T' : List Nat} (ho : Own w' 46 a' tl' c' (nats .u32 T')) (hs : Stepped w w' (ft a) (ft a')) : Rows3 w0 w' n' gb nR N M F R T' S2 a' c' tl' a2 c2 j :=
  ⟨ho, h.os.kept hs.kept (fun b hb hx => (h.at1 b hx).2.2 hb), h.ob.kept hs.kept (owns_apart h.ob h.ot (by decide)), h.nw.row hs (rnet_lits h.nw.net h.ot) (fun b hb => (h.at1 b hb).2.1) (fun b hb => (h.at1 b hb).1),
    fun x hx => (hs.fresh x hx).elim (h.at1 x) (fun h1 => ⟨Nat.le_trans h.nw.kept.size h1, fun hr => by have h2 := h.nw.net.lt.2 x hr; omega, fun hr => by have h2 := h.os.lt x hr; omega⟩), h.as1⟩
theorem Rows3.pushS (h : Rows3 w0 w n' gb nR N M F R T S2 a c tl a2 c2 j) {a' : Option Addr} {c' j' : Nat} {S' : List Nat} (ho : Own w' 46 a' j' c' (nats .u32 S')) (hs : Stepped w w' (ft a2) (ft a')) : Rows3 w0 w' n' gb nR N M F R T S' a c tl a' c' j' :=
  ⟨h.ot.kept hs.kept (fun b hb => (h.at1 b hb).2.2), ho, h.ob.kept hs.kept (owns_apart h.ob h.os (by decide)), h.nw.row hs (rnet_lits h.nw.net h.os) (fun b hb => (h.as1 b hb).2) (fun b hb => (h.as1 b hb).1),
    fun x hx => ⟨(h.at1 x hx).1, (h.at1 x hx).2.1, fun hy => (hs.fresh x hy).elim (h.at1 x hx).2.2 (fun h1 => by have h2 := h.ot.lt x hx; omega)⟩,
    fun x hx => (hs.fresh x hx).elim (h.as1 x) (fun h1 => ⟨Nat.le_trans h.nw.kept.size h1, fun hr => by have h2 := h.nw.net.lt.2 x hr; omega⟩)⟩
end
def ROnceNew (N : Nt) (w : World) (e : Ending) (w' : World) : Prop := ∃ n' F' R', e = .returned (.tuple #[.pointer (some ⟨n', 0, none⟩), .int .i64 0]) ∧ RNetAt w' n' F' R' (onceN N) ∧ Kept [] w w' ∧ ∀ b ∈ F' ++ R', w.heap.size ≤ b
end Go.Proofs.YtdmcdhkkbkgnbaaGreat
