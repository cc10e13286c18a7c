/-
  Netlists in memory.
  append of many, inside a region that draws its order.
  Blocks of one's own: a block that is there, that holds this, and that no list of owned blocks has. Chains of worlds are gone through backwards.
  slices.Clone of pairs, maps.Clone of a graph's map; Graph.Copy.
  slices.Clone of ints; Graph.Inputs.
-/
import Derived.Test.YtdmcdhkkbkgnbaaGreatP07
import Derived.Outline
import Derived.Shelf.SlMaps.Clone
import Derived.Deep.RegionHeld3
import Derived.Test.YtdmcdhkkbkgnbaaGreatP00
import Derived.RegionTactic
import Derived.Laws.Rows
import Derived.Laws.Tables
import Derived.Test.YtdmcdhkkbkgnbaaGreatP02
import Derived.Test.YtdmcdhkkbkgnbaaGreatP05
import Derived.Test.YtdmcdhkkbkgnbaaGreatP06
namespace Go.Proofs.YtdmcdhkkbkgnbaaGreat
open Go.ChangeShapes Go.WideShapes Go.ChangeAt Go.RowKit
open Go.Maps (Keyed)
open Go.WideMaps
set_option linter.unusedVariables false

variable {w w' : World} {p : Nat} {F S : List Nat} {g : Gr}
/-- append(own, src...) -/
theorem wpList_cat {P : Program} {ops : Array Oper} {rest : List Oper} {o : Oper} {act : Act} {Q : Exit → Act → World → Prop} {s x : Operand} {t e : TypeId} {z : Value} {size bytes : Nat} {a : Option Addr} {n cap : Nat} {xs news : List Value} {ad : Addr} {m c : Nat}
    (hgd : o.guard = none) (ho : o.op = .call { callee := .builtin .append, args := #[s, x], argTypes := #[t, t] })
    (ht : P.underlying t = some (.slice e)) (hinfo : (P.info? e).map (fun i => (i.zero, i.size, i.bytes)) = some (some z, size, bytes)) (hz : z.cells.size = size) (hsz : 0 < size)
    (hs : act.eval s = .slice a n cap) (hx : act.eval x = .slice (some ad) m c)
    (hown : w.ownsRow 0 e size (.slice a n cap) n xs) (hl : news.length = m * size) (hnews : ∀ j u, news[j]? = some u → w.cell? (ad.add j) = some u) (hu : ∀ u ∈ news, u.oneCell' = true) (h63 : n + m ≤ maxLen) (hbytes : (n + m) * bytes ≤ 140737488355328)
    (h : ∀ a' cap' w', w'.ownsRow 0 e size (.slice a' (n + m) cap') (n + m) (xs ++ news) → Stepped w w' (ft a) (ft a') → wpList P ops Q rest (act.put o.dst (.slice a' (n + m) cap')) w') : wpList P ops Q (o :: rest) act w := by
  obtain ⟨i, hi, hiz, hisz, hib⟩ := info3 hinfo
  refine wpList_append_own_at w hgd s x t ho 0 e i z size bytes ht hi hiz hisz hib hz hsz (.slice a n cap) n xs hs hown ad m c news hx hl hnews hu h63 hbytes (Nat.zero_le _) ?_
  intro v' w' hown' hg _ hat
  have hform : ∃ a' cap', v' = .slice a' (n + m) cap' := by
    rcases hown'.2 with ⟨hv, h0⟩ | ⟨g, c, cur, hv, _⟩
    · exact ⟨none, 0, by rw [hv, h0]⟩
    · exact ⟨_, _, hv⟩
  obtain ⟨a', cap', rfl⟩ := hform
  refine h a' cap' w' hown' ⟨⟨hg.os, hg.tape, hg.output, hg.size, fun k hk hn => ?_⟩, fun b hb => ?_⟩
  · exact hg.block k hk fun e' => hn ((ownBlock_ft _ _ _ _).1 e'.symm)
  · have hb' := (ownBlock_ft a' (n + m) cap' b).2 hb
    rcases hat with h1 | h1
    · rw [h1] at hb'
      exact .inl ((ownBlock_ft _ _ _ _).1 hb')
    · rw [h1] at hb'
      simp at hb'
      exact .inr (by omega)
theorem own_empty (w : World) (e : TypeId) (size : Nat) : (w.alloc (.cells #[] e)).ownsRow 0 e size (.slice (some ⟨w.heap.size, 0, none⟩) 0 0) 0 [] :=
  ⟨by simp, .inr ⟨w.heap.size, 0, #[], rfl, Nat.zero_le _, heap_alloc_new w _, Nat.le_refl _, by decide, by simp, by simp⟩⟩
theorem nats_one (K : IntKind) (l : List Nat) : ∀ u ∈ nats K l, u.oneCell' = true := by
  intro u hu
  obtain ⟨n, _, rfl⟩ := List.mem_map.1 hu
  rfl
def NewInts (l : List Nat) (n : Nat) (w : World) (e : Ending) (w' : World) : Prop := ∃ a c, e = .returned (.slice a n c) ∧ Own w' 3 a n c (nats .i64 l) ∧ Stepped w w' [] (ft a)
theorem clone_ints (a : Option Addr) (c n : Nat) (l : List Nat) (w : World) (ho : Own w 3 a n c (nats .i64 l)) (hm : n ≤ 1000000) :
    Calls Tryz.prog 117 #[.slice a n c] w (NewInts l n w) := by
  have q := fun (w : World) (a : Option Addr) (n c : Nat) => Lib.run_eql_slice_nil (P := Tryz.prog) w 65 3 a n c 0 0 Tryz.underlying65
  have hl := ho.len
  rw [nats_length] at hl
  have HO := Lib.hid ho; clear ho
  have HL := Lib.hid hl; clear hl
  cases a with
  | none =>
    have h0 : n = 0 := by
      rcases HO.out.2 with ⟨hv, h0⟩ | ⟨g, cap', cur, hv, _⟩
      · exact h0
      · cases hv
    subst h0
    have hl0 : l = [] := List.eq_nil_of_length_eq_zero HL.out
    subst hl0
    go_enter Tryz.func117, Tryz.ntmps117
    go_wp2
    go_ret
    exact ⟨none, 0, rfl, Own.nil _ _, .refl _ _⟩
  | some ad =>
    have HC := Lib.hid (show ∀ j u, (nats .i64 l)[j]? = some u → (w.alloc (.cells #[] 3)).cell? (ad.add j) = some u from fun j u hu => by
      obtain ⟨hj, rfl⟩ := List.getElem?_eq_some_iff.1 hu
      obtain ⟨ad', h1, h2⟩ := HO.out.cell hj
      injection h1 with h1
      subst h1
      exact cell_alloc h2 _)
    go_enter Tryz.func117, Tryz.ntmps117
    go_wp2_with (at_builtin; refine wpList_cat (news := nats .i64 l) rfl rfl Tryz.underlying65 int_info rfl (by omega) rfl rfl (own_empty w 3 1) (by rw [nats_length, HL.out, Nat.mul_one]) HC.out (nats_one _ _) (by unfold maxLen; omega) (by omega) ?_; intro a' c' w1 hown1 hst1)
    go_ret
    refine ⟨a', c', by simp [go_sem], by simpa [Own] using hown1, ?_⟩
    have := (((Stepped.refl w []).allocOwn (.cells #[] 3))).trans (by simpa [ft] using hst1)
    exact this

theorem aig_inputs (hg : GraphAt w p F g) (hm : g.nodes.length ≤ 1000000) : Calls Tryz.prog 68 #[.pointer (some ⟨p, 0, none⟩)] w (NewInts (ins g.nodes) (ins g.nodes).length w) := by
  have hile : (ins g.nodes).length ≤ g.nodes.length := insFrom_length 0 g.nodes
  obtain ⟨an, cn, ai, ci, m, f, rfl, hc⟩ := hg
  have c3 := hc.c3
  have c4 := hc.c4
  have HI := Lib.hid hc.inputs
  clear hc
  go_enter Tryz.func68, Tryz.ntmps68
  go_wp2_with (first
    | (go_at_call 70; refine (aig_none p m _ (by assumption)).mono ?_; rintro e w' ⟨rfl, rfl⟩)
    | (go_at_call 117; refine (clone_ints _ _ _ _ _ HI.out (by omega)).mono ?_; rintro e w' ⟨a', c', rfl, ho, hst⟩))
  go_ret
  exact ⟨a', c', rfl, ho, hst⟩
end Go.Proofs.YtdmcdhkkbkgnbaaGreat

namespace Go.Proofs.YtdmcdhkkbkgnbaaGreat
open Go.ChangeShapes Go.WideShapes Go.ChangeAt Go.RowKit
open Go.Maps (Keyed)
open Go.WideMaps
set_option linter.unusedVariables false

variable {w w' : World} {p : Nat} {F S : List Nat} {g : Gr}
theorem pcells_one (l : List (Nat × Nat)) : ∀ u ∈ pcells l, u.oneCell' = true := by
  intro u hu
  simp only [pcells, List.mem_flatMap, List.mem_cons, List.not_mem_nil, or_false] at hu
  obtain ⟨p, _, rfl | rfl⟩ := hu <;> rfl
/-- the cells of a row of the call's own -/
theorem row_cells {w : World} {e : TypeId} {size n cap : Nat} {ad : Addr} {xs : List Value} (h : w.ownsRow 0 e size (.slice (some ad) n cap) n xs) : ∀ j u, xs[j]? = some u → w.cell? (ad.add j) = some u := by
  intro j u hu
  rcases h.2 with ⟨hv, _⟩ | ⟨g, cap', cur, hv, hb, hg, rest⟩
  · cases hv
  · have := World.ownsRow.cells h (g := g) (by rw [hv]; rfl) j u hu
    injection hv with hv
    injection hv with hv
    subst hv
    exact this
def NewPairs (l : List (Nat × Nat)) (n : Nat) (w : World) (e : Ending) (w' : World) : Prop := ∃ a c, e = .returned (.slice a n c) ∧ Own2 w' 143 a n c (pcells l) ∧ Stepped w w' [] (ft a)
set_option maxRecDepth 100000 in
theorem clone_pairs (a : Option Addr) (c n : Nat) (l : List (Nat × Nat)) (w : World) (ho : Own2 w 143 a n c (pcells l)) (hm : n ≤ 1000000) :
    Calls Tryz.prog 122 #[.slice a n c] w (NewPairs l n w) := by
  have q := fun (w : World) (a : Option Addr) (n c : Nat) => Lib.run_eql_slice_nil (P := Tryz.prog) w 136 143 a n c 0 0 Tryz.underlying136
  have hl : (pcells l).length = n * 2 := ho.1
  have HO := Lib.hid ho; clear ho
  have HL := Lib.hid hl; clear hl
  cases a with
  | none =>
    have h0 : n = 0 := by
      rcases HO.out.2 with ⟨hv, h0⟩ | ⟨g, cap', cur, hv, _⟩
      · exact h0
      · cases hv
    subst h0
    have hl0 : l = [] := List.eq_nil_of_length_eq_zero (by have := HL.out; rw [pcells_length] at this; omega)
    subst hl0
    go_enter Tryz.func122, Tryz.ntmps122
    go_wp2
    go_ret
    exact ⟨none, 0, rfl, World.ownsRow_nil _ _ _ _, .refl _ _⟩
  | some ad =>
    have HC := Lib.hid (show ∀ j u, (pcells l)[j]? = some u → (w.alloc (.cells #[] 143)).cell? (ad.add j) = some u from fun j u hu => cell_alloc (row_cells HO.out j u hu) _)
    go_enter Tryz.func122, Tryz.ntmps122
    go_wp2_with (at_builtin; refine wpList_cat (news := pcells l) rfl rfl Tryz.underlying136 pair_info rfl (by omega) rfl rfl (own_empty w 143 2) (by rw [HL.out]) HC.out (pcells_one _) (by unfold maxLen; omega) (by omega) ?_; intro a' c' w1 hown1 hst1)
    go_ret
    refine ⟨a', c', by simp [go_sem], by simpa [Own2] using hown1, ?_⟩
    have := (((Stepped.refl w []).allocOwn (.cells #[] 143))).trans (by simpa [ft] using hst1)
    exact this
set_option maxHeartbeats 1600000 in
set_option maxRecDepth 100000 in
theorem clone_map (b : Nat) (es : Array MapEntry) (clock : Nat) (w : World) (hb : w.heap[b]? = some (.map es clock)) :
    Calls Tryz.prog 123 #[.map (some b)] w fun e w' => e = .returned (.map (some w.heap.size)) ∧ w' = w.alloc (.map es clock) := by
  have hq := fun w => run_eql_map_nil_sl (P := Tryz.prog) w 137 _ _ (some b) Tryz.underlying137
  have HB := Lib.hid hb; clear hb
  go_enter Tryz.func123, Tryz.ntmps123
  go_wp2
  rw [run_callFunc_extern Tryz.func143 (by kernel_rfl) (by kernel_rfl) (by kernel_rfl) (e := Extern.MapsClone.clone) (by kernel_rfl), run_maps_clone_sl w _ HB.out]
  simp only [Result.andThen]
  rw [Oper.upon_value]
  go_wp2
  rw [run_typeAssert_map_sl _ _ _ _ _ _ Tryz.underlying137]
  simp only [Result.andThen]
  rw [Oper.upon_value]
  go_wp2
  go_ret
  exact ⟨rfl, rfl⟩
theorem clone_mapV {m : Nat} {f : Value → Option Value} (h : MapV w Tryz.prog 143 m f) :
    Calls Tryz.prog 123 #[.map (some m)] w fun e w' => ∃ m', e = .returned (.map (some m')) ∧ MapV w' Tryz.prog 143 m' f ∧ Stepped w w' [] [m'] := by
  obtain ⟨es, clock, hb, h2⟩ := h
  refine (clone_map m es clock w hb).mono ?_
  rintro e w' ⟨rfl, rfl⟩
  exact ⟨w.heap.size, rfl, ⟨es, clock, heap_alloc_new w _, h2⟩, by simpa using (Stepped.refl w []).allocOwn (.map es clock)⟩

theorem keep5 {w w' : World} {a0 a1 a2 a3 a4 : Addr} {v0 v1 v2 v3 v4 : Value} (hk : Kept [] w w') (h0 : w.cell? a0 = some v0) (h1 : w.cell? a1 = some v1) (h2 : w.cell? a2 = some v2) (h3 : w.cell? a3 = some v3) (h4 : w.cell? a4 = some v4) :
    Kept [] w w' ∧ w'.cell? a0 = some v0 ∧ w'.cell? a1 = some v1 ∧ w'.cell? a2 = some v2 ∧ w'.cell? a3 = some v3 ∧ w'.cell? a4 = some v4 :=
  ⟨hk, hk.cell h0 (by simp), hk.cell h1 (by simp), hk.cell h2 (by simp), hk.cell h3 (by simp), hk.cell h4 (by simp)⟩
/-- a graph of its own beside the old one -/
def CopyPost (g : Gr) (w : World) (e : Ending) (w' : World) : Prop := ∃ p' F', e = .returned (.pointer (some ⟨p', 0, none⟩)) ∧ GraphAt w' p' F' g ∧ Stepped w w' [] F'
set_option maxHeartbeats 3200000 in
set_option maxRecDepth 100000 in
theorem aig_copy (hg : GraphAt w p F g) (hm : g.nodes.length ≤ 1000000) : Calls Tryz.prog 78 #[.pointer (some ⟨p, 0, none⟩)] w (CopyPost g w) := by
  have hile : (ins g.nodes).length ≤ g.nodes.length := insFrom_length 0 g.nodes
  obtain ⟨an, cn, ai, ci, m, f, rfl, hc⟩ := hg
  have c0 : w.cell? ⟨p, 0, none⟩ = some (.bool g.fold) := blk_cell hc.blk 0
  have c1 : w.cell? ⟨p, 1, none⟩ = some (.bool g.hash) := blk_cell hc.blk 1
  have c2 := hc.c2
  have c3 := hc.c3
  have c4 := hc.c4
  have HN := Lib.hid hc.nodes
  have HI := Lib.hid hc.inputs
  have HM := Lib.hid hc.made
  have HIS := Lib.hid hc.is
  have HWF := Lib.hid hc.wf
  clear hc
  go_enter Tryz.func78, Tryz.ntmps78
  go_wp2_with (go_at_call 70; refine (aig_none p m _ (by assumption)).mono ?_; rintro e w' ⟨rfl, rfl⟩)
  go_region_held3 (fun w' => Kept [] w w' ∧ w'.cell? ⟨p, 0, none⟩ = some (.bool g.fold) ∧ w'.cell? ⟨p, 1, none⟩ = some (.bool g.hash) ∧ w'.cell? ⟨p, 2, none⟩ = some (.slice an g.nodes.length cn) ∧ w'.cell? ⟨p, 3, none⟩ = some (.slice ai (ins g.nodes).length ci) ∧ w'.cell? ⟨p, 4, none⟩ = some (.map (some m)))
    (first
      | (refine keep5 ?_ c0 c1 c2 c3 c4; (try go_split_ands); ((repeat (first | with_reducible exact Kept.refl _ _ | with_reducible assumption | with_reducible apply Kept.drew | with_reducible apply Kept.alloc | refine Kept.trans ?_ hs1.kept | refine Kept.trans ?_ hs2.kept | refine Kept.trans ?_ hs3.kept))); done)
      | go_keep)
    (first
      | (go_at_call 122; refine (clone_pairs _ _ _ _ _ (own_kept HN.out (F := []) (by go_split_ands; (repeat (first | with_reducible exact Kept.refl _ _ | with_reducible assumption | with_reducible apply Kept.drew | with_reducible apply Kept.alloc | refine Kept.trans ?_ hs1.kept | refine Kept.trans ?_ hs2.kept | refine Kept.trans ?_ hs3.kept))) (by simp)) (by omega)).mono ?_; rintro e u1 ⟨a1, k1, rfl, ho1, hs1⟩)
      | (go_at_call 117; refine (clone_ints _ _ _ _ _ (HI.out.kept0 (by go_split_ands; (repeat (first | with_reducible exact Kept.refl _ _ | with_reducible assumption | with_reducible apply Kept.drew | with_reducible apply Kept.alloc | refine Kept.trans ?_ hs1.kept | refine Kept.trans ?_ hs2.kept | refine Kept.trans ?_ hs3.kept)))) (by omega)).mono ?_; rintro e u2 ⟨a2, k2, rfl, ho2, hs2⟩)
      | (go_at_call 123; refine (clone_mapV (HM.out.kept (F := []) (by go_split_ands; (repeat (first | with_reducible exact Kept.refl _ _ | with_reducible assumption | with_reducible apply Kept.drew | with_reducible apply Kept.alloc | refine Kept.trans ?_ hs1.kept | refine Kept.trans ?_ hs2.kept | refine Kept.trans ?_ hs3.kept))) (by simp))).mono ?_; rintro e u3 ⟨m3, rfl, ho3, hs3⟩))
  go_wp2
  go_ret
  obtain ⟨cs, hcs⟩ : ∃ cs, cs = gCells g a1 k1 a2 k2 m3 := ⟨_, rfl⟩
  have hk12 := hs1.kept.trans hs2.kept
  have hkA : Kept [] u1 (u3.alloc (.cells cs 139)) := (hs2.kept.trans hs3.kept).alloc _
  have hkB : Kept [] u2 (u3.alloc (.cells cs 139)) := hs3.kept.alloc _
  have hkC : Kept [] u3 (u3.alloc (.cells cs 139)) := (Kept.refl [] _).alloc _
  have hkw : Kept [] w (u3.alloc (.cells cs 139)) := (((Kept.refl [] w).drew.trans hs1.kept).trans (hs2.kept.trans hs3.kept)).alloc _
  have z1 : w.heap.size ≤ u1.heap.size := hs1.kept.size
  have z2 := hs2.kept.size
  have z3 := hs3.kept.size
  have hblk : (u3.alloc (.cells cs 139)).heap[u3.heap.size]? = some (.cells cs 139 (0, 0)) := heap_alloc_new u3 _
  subst hcs
  refine ⟨u3.heap.size, gFoot u3.heap.size m3 a1 a2, by simp [go_sem], ⟨a1, k1, a2, k2, m3, f, rfl, ⟨hblk, own_kept ho1 hkA (by simp), ho2.kept0 hkB, ho3.kept hkC (by simp), HIS.out, HWF.out⟩⟩, ⟨hkw, fun b hb => .inr ?_⟩⟩
  simp only [gFoot, List.mem_cons, List.mem_append] at hb
  rcases hb with rfl | rfl | hb | hb
  · omega
  · rcases hs3.fresh b (by simp) with h | h
    · simp at h
    · omega
  · rcases hs1.fresh b hb with h | h
    · simp at h
    · exact h
  · rcases hs2.fresh b hb with h | h
    · simp at h
    · omega
end Go.Proofs.YtdmcdhkkbkgnbaaGreat

namespace Go.Proofs.YtdmcdhkkbkgnbaaGreat
open Go.ChangeShapes Go.WideShapes Go.ChangeAt Go.RowKit
set_option linter.unusedVariables false

variable {w w' : World} {F F' : List Nat} {b : Nat} {o o' : Obj}
structure Mine (w : World) (F : List Nat) (b : Nat) (o : Obj) : Prop where
  heap : w.heap[b]? = some o
  out : b ∉ F
theorem Mine.lt (h : Mine w F b o) : b < w.heap.size := (Array.getElem?_eq_some_iff.1 h.heap).1
theorem Mine.step (h : Mine w F b o) (hst : Stepped w w' F F') : Mine w' F' b o :=
  ⟨hst.kept.heap h.heap h.out, fun hm => (hst.fresh _ hm).elim h.out fun h1 => absurd h.lt (by omega)⟩
theorem Mine.alloc (h : Mine w F b o) (o' : Obj) : Mine (w.alloc o') F b o :=
  ⟨((Kept.refl [] w).alloc o').heap h.heap (by simp), h.out⟩
theorem Mine.drew (h : Mine w F b o) : Mine w.drew F b o := ⟨h.heap, h.out⟩
theorem Mine.drewN (h : Mine w F b o) (n : Nat) : Mine (w.drewN n) F b o := ⟨h.heap, h.out⟩
theorem Mine.new (hb : b = w.heap.size) (hF : ∀ x ∈ F, x < w.heap.size) : Mine (w.alloc o) F b o := by
  subst hb
  exact ⟨by show (w.heap.push _)[w.heap.size]? = _; simp, fun hm => absurd (hF _ hm) (Nat.lt_irrefl _)⟩
theorem Mine.other (h : Mine w F b o) {p : Addr} (hp : p.block ≠ b) (v : Value) : Mine (w.setCell p v) F b o :=
  ⟨(Below.heap_setCell _ _ _ _ (fun e => hp e.symm)).trans h.heap, h.out⟩
theorem blk_set' {w : World} {b : Nat} {cs : Array Value} {t : TypeId} {fr : Nat × Nat} (h : w.heap[b]? = some (.cells cs t fr)) (j : Nat) (v : Value) : (w.setCell ⟨b, j, none⟩ v).heap[b]? = some (.cells (cs.setIfInBounds j v) t fr) := by
  simp [World.setCell, Array.getElem?_modify, h]
theorem Mine.set2 {x0 x1 a0 a1 : Value} {t : TypeId} (h : Mine w F b (.cells #[x0, x1] t (0, 0))) : Mine ((w.setCell ⟨b, 0, none⟩ a0).setCell ⟨b, 1, none⟩ a1) F b (.cells #[a0, a1] t (0, 0)) :=
  ⟨blk_set' (blk_set' h.heap 0 a0) 1 a1, h.out⟩
theorem Mine.more (h : Mine w F b o) (hF : b ∉ F') : Mine w F' b o := ⟨h.heap, hF⟩
theorem Stepped.setNew {a w : World} (h : Stepped a w F F') {p : Addr} (hp : a.heap.size ≤ p.block) (v : Value) : Stepped a (w.setCell p v) F F' := ⟨h.kept.setCell (.inr hp) v, h.fresh⟩
/-- The whole block written. -/
theorem Kept.setRow {a w : World} (h : Kept F a w) {g : Nat} (hp : g ∈ F ∨ a.heap.size ≤ g) (cs : Array Value) : Kept F a (w.setRow g cs) :=
  ⟨h.os, h.tape, h.output, by simpa using h.size, fun k hk hn => (setRow_other _ _ _ _ (by rintro rfl; rcases hp with h | h; exact hn h; omega)).trans (h.block k hk hn)⟩
theorem Stepped.rowNew {a w : World} (h : Stepped a w F F') {g : Nat} (hp : a.heap.size ≤ g) (cs : Array Value) : Stepped a (w.setRow g cs) F F' := ⟨h.kept.setRow (.inr hp) cs, h.fresh⟩
theorem Stepped.rowOwn {a w : World} (h : Stepped a w F F') {g : Nat} (hp : g ∈ F') (cs : Array Value) : Stepped a (w.setRow g cs) F F' := ⟨h.kept.setRow (h.fresh _ hp) cs, h.fresh⟩
theorem Mine.row {old cs : Array Value} {t : TypeId} {fr : Nat × Nat} (h : Mine w F b (.cells old t fr)) : Mine (w.setRow b cs) F b (.cells cs t fr) := ⟨setRow_heap _ _ _ _ _ _ h.heap, h.out⟩
theorem Mine.rowOther {g : Nat} {cs : Array Value} (h : Mine w F b o) (hne : b ≠ g) : Mine (w.setRow g cs) F b o := ⟨(setRow_other _ _ _ _ hne).trans h.heap, h.out⟩
/-- A store of a whole struct into a block of one's own, inside a region that draws its order. -/
theorem step_row {P : Program} {w : World} {ops : Array Oper} {o : Oper} {act : Act} {K : Act → World → Prop} {Q : Exit → Act → World → Prop} {E : Prop} {s x : Operand} {e t : TypeId} {b : Nat} {cells old : Array Value}
    (hgd : o.guard = none) (ho : o.op = .store e s x) (hs : act.eval s = .pointer (some ⟨b, 0, none⟩)) (hx : act.eval x = .agg cells)
    (hi : (P.info? e).map (·.size) = some cells.size) (hold : old.size = cells.size) (h1 : cells.all (·.oneCell') = true) (hb : w.heap[b]? = some (.cells old t (0, 0)))
    (h : K (act.put o.dst undef) (w.setRow b cells)) :
    if Region.wanted o (yielded ops act.tmps) = true then Oper.wp P o act w K Q else E := by
  rw [if_pos (by simp [Region.wanted, hgd])]
  exact wp_store_row e s x ho b cells hs hx t old hb hi hold h1 h
end Go.Proofs.YtdmcdhkkbkgnbaaGreat

namespace Go.Proofs.YtdmcdhkkbkgnbaaGreat
open Go.ChangeShapes Go.WideShapes Go.ChangeAt Go.RowKit
open Go.Maps (Keyed)
open Go.WideMaps
set_option linter.unusedVariables false

theorem step_cat {P : Program} {w : World} {ops : Array Oper} {o : Oper} {act : Act} {K : Act → World → Prop} {Q : Exit → Act → World → Prop} {E : Prop} {s x : Operand} {t e : TypeId} {z : Value} {size bytes : Nat} {a : Option Addr} {n cap : Nat} {xs news : List Value} {ad : Addr} {m c : Nat}
    (hgd : o.guard = none) (ho : o.op = .call { callee := .builtin .append, args := #[s, x], argTypes := #[t, t] })
    (ht : P.underlying t = some (.slice e)) (hinfo : (P.info? e).map (fun i => (i.zero, i.size, i.bytes)) = some (some z, size, bytes)) (hz : z.cells.size = size) (hsz : 0 < size)
    (hs : act.eval s = .slice a n cap) (hx : act.eval x = .slice (some ad) m c)
    (hown : w.ownsRow 0 e size (.slice a n cap) n xs) (hl : news.length = m * size) (hnews : ∀ j u, news[j]? = some u → w.cell? (ad.add j) = some u) (hu : ∀ u ∈ news, u.oneCell' = true) (h63 : n + m ≤ maxLen) (hbytes : (n + m) * bytes ≤ 140737488355328)
    (h : ∀ a' cap' w', w'.ownsRow 0 e size (.slice a' (n + m) cap') (n + m) (xs ++ news) → Stepped w w' (ft a) (ft a') → K (act.put o.dst (.slice a' (n + m) cap')) w') :
    if Region.wanted o (yielded ops act.tmps) = true then Oper.wp P o act w K Q else E := by
  rw [if_pos (by simp [Region.wanted, hgd])]
  obtain ⟨i, hi, hiz, hisz, hib⟩ := info3 hinfo
  obtain ⟨v', w', hr, hown', hg, _, hat⟩ := run_append_own_at (P := P) w 0 t o.type e i z size bytes ht hi hiz hisz hib hz hsz (.slice a n cap) n xs hown ad m c news hl hnews hu h63 hbytes (Nat.zero_le _)
  unfold Oper.wp execOp
  simp only [ho, resolve, invoke, builtin, Sem.run_bind, Sem.run_pure, Result.andThen_ok, List.map_toArray, List.map_cons, List.map_nil, hs, hx, hr]
  have hform : ∃ a' cap', v' = .slice a' (n + m) cap' := by
    rcases hown'.2 with ⟨hv, h0⟩ | ⟨g, c, cur, hv, _⟩
    · exact ⟨none, 0, by rw [hv, h0]⟩
    · exact ⟨_, _, hv⟩
  obtain ⟨a', cap', rfl⟩ := hform
  refine h a' cap' w' hown' ⟨⟨hg.os, hg.tape, hg.output, hg.size, fun k hk hn => ?_⟩, fun b hb => ?_⟩
  · exact hg.block k hk fun e' => hn ((ownBlock_ft _ _ _ _).1 e'.symm)
  · have hb' := (ownBlock_ft a' (n + m) cap' b).2 hb
    rcases hat with h1 | h1
    · rw [h1] at hb'
      exact .inl ((ownBlock_ft _ _ _ _).1 hb')
    · rw [h1] at hb'
      simp at hb'
      exact .inr (by omega)
end Go.Proofs.YtdmcdhkkbkgnbaaGreat

namespace Go.Proofs.YtdmcdhkkbkgnbaaGreat
open Go.ChangeShapes Go.WideShapes Go.ChangeAt Go.RowKit
open Go.Maps (Keyed)
open Go.WideMaps
set_option linter.unusedVariables false
set_option linter.unusedSimpArgs false

/-- a bus, and where its literals lie -/
structure BR where
  b : Bus
  a : Option Addr
  c : Nat
def brCells (l : List BR) : List Value := l.flatMap fun r => [.string r.b.name, .slice r.a r.b.lits.length r.c]
def rgCells (l : List Rg) : List Value := l.flatMap fun r => [.int .u32 (r.q : Int), .int .u32 (r.d : Int), .int .u32 (r.en : Int), .bool r.init]
theorem brCells_length (l : List BR) : (brCells l).length = 2 * l.length := by
  induction l with
  | nil => rfl
  | cons r l ih => simp [brCells] at ih ⊢; omega
theorem rgCells_length (l : List Rg) : (rgCells l).length = 4 * l.length := by
  induction l with
  | nil => rfl
  | cons r l ih => simp [rgCells] at ih ⊢; omega
theorem brCells_snoc (l : List BR) (r : BR) : brCells l ++ [.string r.b.name, .slice r.a r.b.lits.length r.c] = brCells (l ++ [r]) := by simp [brCells]
theorem rgCells_snoc (l : List Rg) (r : Rg) : rgCells l ++ [.int .u32 (r.q : Int), .int .u32 (r.d : Int), .int .u32 (r.en : Int), .bool r.init] = rgCells (l ++ [r]) := by simp [rgCells]
theorem brCells_get (l : List BR) (i : Nat) (r : BR) (h : l[i]? = some r) : (brCells l)[2 * i]? = some (.string r.b.name) ∧ (brCells l)[2 * i + 1]? = some (.slice r.a r.b.lits.length r.c) := by
  induction l generalizing i with
  | nil => simp at h
  | cons q l ih =>
    cases i with
    | zero => simp at h; subst h; simp [brCells]
    | succ i =>
      have := ih i (by simpa using h)
      have e1 : 2 * (i + 1) = (2 * i) + 1 + 1 := by omega
      rw [e1]
      simpa [brCells] using this
theorem rgCells_get (l : List Rg) (i : Nat) (r : Rg) (h : l[i]? = some r) : (rgCells l)[4 * i]? = some (.int .u32 (r.q : Int)) ∧ (rgCells l)[4 * i + 1]? = some (.int .u32 (r.d : Int)) ∧ (rgCells l)[4 * i + 2]? = some (.int .u32 (r.en : Int)) ∧ (rgCells l)[4 * i + 3]? = some (.bool r.init) := by
  induction l generalizing i with
  | nil => simp at h
  | cons q l ih =>
    cases i with
    | zero => simp at h; subst h; simp [rgCells]
    | succ i =>
      have := ih i (by simpa using h)
      have e1 : 4 * (i + 1) = (4 * i) + 1 + 1 + 1 + 1 := by omega
      rw [e1]
      simpa [rgCells] using this

/-- buses in memory: where the row lies, its capacity, what each refers to -/
structure BusesAt (w : World) (a : Option Addr) (c : Nat) (l : List Bus) (rs : List BR) : Prop where
  own : w.ownsRow 0 60 2 (.slice a l.length c) l.length (brCells rs)
  is : rs.map (·.b) = l
  rows : ∀ r ∈ rs, SlN w .u32 r.a r.b.lits ∧ (∀ b ∈ ft r.a, b < w.heap.size)
def rowsOf (rs : List BR) : List Nat := rs.flatMap fun r => ft r.a
theorem mem_rowsOf {rs : List BR} {b : Nat} : b ∈ rowsOf rs ↔ ∃ r ∈ rs, b ∈ ft r.a := by simp [rowsOf]
variable {w w' : World} {p n : Nat} {F R S : List Nat} {g : Gr} {N : Nt}
theorem BusesAt.kept {a : Option Addr} {c : Nat} {l : List Bus} {rs : List BR} (h : BusesAt w a c l rs) (hk : Kept S w w') (h1 : ∀ b ∈ ft a, b ∉ S) (h2 : ∀ b ∈ rowsOf rs, b ∉ S) : BusesAt w' a c l rs :=
  ⟨own_kept h.own hk h1, h.is, fun r hr => ⟨(h.rows r hr).1.kept hk (fun b hb => h2 b (mem_rowsOf.2 ⟨r, hr, hb⟩)), fun b hb => Nat.lt_of_lt_of_le ((h.rows r hr).2 b hb) hk.size⟩⟩
theorem BusesAt.lt {a : Option Addr} {c : Nat} {l : List Bus} {rs : List BR} (h : BusesAt w a c l rs) : (∀ b ∈ ft a, b < w.heap.size) ∧ ∀ b ∈ rowsOf rs, b < w.heap.size :=
  ⟨owns_lt h.own, fun b hb => by obtain ⟨r, hr, hb⟩ := mem_rowsOf.1 hb; exact (h.rows r hr).2 b hb⟩
def nCells (p : Nat) (N : Nt) (ia : Option Addr) (ic : Nat) (ra : Option Addr) (rc : Nat) (oa : Option Addr) (oc : Nat) : Array Value :=
  #[.pointer (some ⟨p, 0, none⟩), .string N.name, .slice ia N.inb.length ic, .slice ra N.regs.length rc, .slice oa N.outb.length oc]
structure NetC (w : World) (n : Nat) (N : Nt) (p : Nat) (G : List Nat) (ia : Option Addr) (ic : Nat) (ra : Option Addr) (rc : Nat) (oa : Option Addr) (oc : Nat) (ri ro : List BR) : Prop where
  blk : w.heap[n]? = some (.cells (nCells p N ia ic ra rc oa oc) 57 (0, 0))
  gr : GraphAt w p G N.g
  ib : BusesAt w ia ic N.inb ri
  rb : w.ownsRow 0 63 4 (.slice ra N.regs.length rc) N.regs.length (rgCells N.regs)
  ob : BusesAt w oa oc N.outb ro
  io : ∀ b ∈ ft ia, b ∉ ft oa
  fr : ∀ b ∈ rowsOf ri ++ rowsOf ro, b ∉ n :: (G ++ (ft ia ++ (ft ra ++ ft oa)))
/-- what may be written, what is referred to -/
def NetAt (w : World) (n : Nat) (F R : List Nat) (N : Nt) : Prop :=
  ∃ p G ia ic ra rc oa oc ri ro, F = n :: (G ++ (ft ia ++ (ft ra ++ ft oa))) ∧ R = rowsOf ri ++ rowsOf ro ∧ NetC w n N p G ia ic ra rc oa oc ri ro
theorem GraphAt.apart_blk (h : GraphAt w p F g) {b : Nat} {cs : Array Value} {t : TypeId} (hb : w.heap[b]? = some (.cells cs t (0, 0))) (h1 : t ≠ 139) (h2 : t ≠ 143) (h3 : t ≠ 3) : b ∉ F := by
  obtain ⟨an, cn, ai, ci, m, f, rfl, hc⟩ := h
  intro hf
  simp only [gFoot, List.mem_cons, List.mem_append] at hf
  rcases hf with rfl | rfl | hf | hf
  · rw [hc.blk] at hb; injection hb with hb; injection hb with _ ht; exact h1 ht.symm
  · exact hc.made.nocell hb rfl
  · exact blk_apart hb hc.nodes h2.symm hf
  · exact blk_apart hb hc.inputs h3.symm hf
theorem NetC.kept {G : List Nat} {ia ra oa : Option Addr} {ic rc oc : Nat} {ri ro : List BR} (h : NetC w n N p G ia ic ra rc oa oc ri ro) (hk : Kept S w w') (h1 : ∀ b ∈ n :: (G ++ (ft ia ++ (ft ra ++ ft oa))), b ∉ S) (h2 : ∀ b ∈ rowsOf ri ++ rowsOf ro, b ∉ S) : NetC w' n N p G ia ic ra rc oa oc ri ro :=
  ⟨hk.heap h.blk (h1 _ (by simp)), h.gr.kept hk (fun b hb => h1 b (by simp [hb])), h.ib.kept hk (fun b hb => h1 b (by simp [hb])) (fun b hb => h2 b (by simp [hb])), own_kept h.rb hk (fun b hb => h1 b (by simp [hb])),
    h.ob.kept hk (fun b hb => h1 b (by simp [hb])) (fun b hb => h2 b (by simp [hb])), h.io, h.fr⟩
theorem NetAt.kept (h : NetAt w n F R N) (hk : Kept S w w') (h1 : ∀ b ∈ F, b ∉ S) (h2 : ∀ b ∈ R, b ∉ S) : NetAt w' n F R N := by
  obtain ⟨p, G, ia, ic, ra, rc, oa, oc, ri, ro, rfl, rfl, hc⟩ := h
  exact ⟨p, G, ia, ic, ra, rc, oa, oc, ri, ro, rfl, rfl, hc.kept hk h1 h2⟩
theorem NetAt.kept0 (h : NetAt w n F R N) (hk : Kept [] w w') : NetAt w' n F R N := h.kept hk (by simp) (by simp)
theorem NetC.lt {G : List Nat} {ia ra oa : Option Addr} {ic rc oc : Nat} {ri ro : List BR} (h : NetC w n N p G ia ic ra rc oa oc ri ro) : (∀ b ∈ n :: (G ++ (ft ia ++ (ft ra ++ ft oa))), b < w.heap.size) ∧ ∀ b ∈ rowsOf ri ++ rowsOf ro, b < w.heap.size := by
  refine ⟨fun b hb => ?_, fun b hb => ?_⟩
  · simp only [List.mem_cons, List.mem_append] at hb
    rcases hb with rfl | hb | hb | hb | hb
    · exact blk_lt h.blk
    · exact h.gr.lt b hb
    · exact h.ib.lt.1 b hb
    · exact owns_lt h.rb b hb
    · exact h.ob.lt.1 b hb
  · rcases List.mem_append.1 hb with hb | hb
    · exact h.ib.lt.2 b hb
    · exact h.ob.lt.2 b hb
theorem NetAt.lt (h : NetAt w n F R N) : (∀ b ∈ F, b < w.heap.size) ∧ ∀ b ∈ R, b < w.heap.size := by
  obtain ⟨p, G, ia, ic, ra, rc, oa, oc, ri, ro, rfl, rfl, hc⟩ := h
  exact hc.lt
theorem NetC.apart {G : List Nat} {ia ra oa : Option Addr} {ic rc oc : Nat} {ri ro : List BR} (h : NetC w n N p G ia ic ra rc oa oc ri ro) :
    n ∉ G ∧ n ∉ ft ia ∧ n ∉ ft ra ∧ n ∉ ft oa ∧ (∀ b ∈ ft ia, b ∉ G) ∧ (∀ b ∈ ft ra, b ∉ G) ∧ (∀ b ∈ ft oa, b ∉ G) ∧ (∀ b ∈ ft ra, b ∉ ft ia) ∧ (∀ b ∈ ft ra, b ∉ ft oa) :=
  ⟨h.gr.apart_blk h.blk (by decide) (by decide) (by decide), blk_apart h.blk h.ib.own (by decide), blk_apart h.blk h.rb (by decide), blk_apart h.blk h.ob.own (by decide),
    h.gr.apart h.ib.own (by decide) (by decide) (by decide), h.gr.apart h.rb (by decide) (by decide) (by decide), h.gr.apart h.ob.own (by decide) (by decide) (by decide), owns_apart h.rb h.ib.own (by decide), owns_apart h.rb h.ob.own (by decide)⟩
section
variable {G : List Nat} {ia ra oa : Option Addr} {ic rc oc : Nat} {ri ro : List BR}
theorem NetC.c0 (h : NetC w n N p G ia ic ra rc oa oc ri ro) : w.cell? ⟨n, 0, none⟩ = some (.pointer (some ⟨p, 0, none⟩)) := blk_cell h.blk 0
theorem NetC.c1 (h : NetC w n N p G ia ic ra rc oa oc ri ro) : w.cell? ⟨n, 1, none⟩ = some (.string N.name) := blk_cell h.blk 1
theorem NetC.c2 (h : NetC w n N p G ia ic ra rc oa oc ri ro) : w.cell? ⟨n, 2, none⟩ = some (.slice ia N.inb.length ic) := blk_cell h.blk 2
theorem NetC.c3 (h : NetC w n N p G ia ic ra rc oa oc ri ro) : w.cell? ⟨n, 3, none⟩ = some (.slice ra N.regs.length rc) := blk_cell h.blk 3
theorem NetC.c4 (h : NetC w n N p G ia ic ra rc oa oc ri ro) : w.cell? ⟨n, 4, none⟩ = some (.slice oa N.outb.length oc) := blk_cell h.blk 4
/-- a step of the graph -/
theorem NetC.graph {G' : List Nat} {g' : Gr} (h : NetC w n N p G ia ic ra rc oa oc ri ro) (hg : GraphAt w' p G' g') (hst : Stepped w w' G G') : NetC w' n { N with g := g' } p G' ia ic ra rc oa oc ri ro := by
  obtain ⟨a1, a2, a3, a4, a5, a6, a7, a8, a9⟩ := h.apart
  have fr := h.fr
  have lt := h.lt
  simp only [List.mem_cons, List.mem_append, not_or] at fr
  refine ⟨hst.kept.heap h.blk a1, hg, h.ib.kept hst.kept a5 (fun b hb => (fr b (.inl hb)).2.1), own_kept h.rb hst.kept a6, h.ob.kept hst.kept a7 (fun b hb => (fr b (.inr hb)).2.1), h.io, fun b hb => ?_⟩
  have f := fr b (List.mem_append.1 hb)
  have l := lt.2 b hb
  simp only [List.mem_cons, List.mem_append, not_or]
  exact ⟨f.1, fun hx => by rcases hst.fresh b hx with hx | hx; exact f.2.1 hx; omega, f.2.2⟩
/-- what a step keeps and makes -/
structure NStep (w w' : World) (F R F' R' : List Nat) : Prop where
  st : Stepped w w' F F'
  rows : ∀ b ∈ R', b ∈ R ∨ w.heap.size ≤ b
theorem NStep.refl (w : World) (F R : List Nat) : NStep w w F R F R := ⟨.refl _ _, fun _ h => .inl h⟩
theorem NStep.trans {a b c : World} {F R F' R' F'' R'' : List Nat} (h : NStep a b F R F' R') (k : NStep b c F' R' F'' R'') : NStep a c F R F'' R'' :=
  ⟨h.st.trans k.st, fun x hx => by
    rcases k.rows x hx with h1 | h1
    · exact h.rows x h1
    · exact .inr (Nat.le_trans h.st.kept.size h1)⟩
theorem NStep.keep {a b c : World} {F R F' R' : List Nat} (h : NStep a b F R F' R') (k : Kept [] b c) : NStep a c F R F' R' :=
  h.trans ⟨⟨k.more (by simp), fun _ h => .inl h⟩, fun _ h => .inl h⟩
theorem NetC.graph_step {G' : List Nat} (hst : Stepped w w' G G') : NStep w w' (n :: (G ++ (ft ia ++ (ft ra ++ ft oa)))) (rowsOf ri ++ rowsOf ro) (n :: (G' ++ (ft ia ++ (ft ra ++ ft oa)))) (rowsOf ri ++ rowsOf ro) := by
  refine ⟨⟨hst.kept.more (fun b hb => by simp [hb]), fun b hb => ?_⟩, fun b hb => .inl hb⟩
  simp only [List.mem_cons, List.mem_append] at hb ⊢
  rcases hb with hb | hb | hb
  · exact .inl (.inl hb)
  · rcases hst.fresh b hb with h | h
    · exact .inl (.inr (.inl h))
    · exact .inr h
  · exact .inl (.inr (.inr hb))
end
end Go.Proofs.YtdmcdhkkbkgnbaaGreat
