/-
  append of many, inside a region that draws its order.
  Blocks of one's own: a block that is there, that holds this, and that no list of owned blocks has. Chains of worlds are gone through backwards.
  slices.Clone of pairs, maps.Clone of a graph's map; Graph.Copy.
  slices.Clone of ints; Graph.Inputs.
-/
import Derived.Test.YtdmcdhkkbkgnbaaP11
import Derived.Outline
import Derived.Shelf.SlMaps.Clone
import Derived.Deep.RegionHeld3
import Derived.Test.YtdmcdhkkbkgnbaaP01
import Derived.RegionTactic
import Derived.Laws.Rows
import Derived.Laws.Tables
namespace Go.Proofs.Ytdmcdhkkbkgnbaa
open Go.ChangeShapes Go.WideShapes Go.ChangeAt Go.RowKit
open Go.Maps (Keyed)
open Go.WideMaps
set_option linter.unusedVariables false

variable {w w' : World} {p : Nat} {F S : List Nat} {g : Gr}
/-- append(own, src...) -/
theorem wpList_cat {P : Program} {ops : Array Oper} {rest : List Oper} {o : Oper} {act : Act} {Q : Exit → Act → World → Prop} {s x : Operand} {t e : TypeId} {z : Value} {size bytes : Nat} {a : Option Addr} {n cap : Nat} {xs news : List Value} {ad : Addr} {m c : Nat}
    (hgd : o.guard = none) (ho : o.op = .call { callee := .builtin .append, args := #[s, x], argTypes := #[t, t] })
    (ht : P.underlying t = some (.slice e)) (hinfo : (P.info? e).map (fun i => (i.zero, i.size, i.bytes)) = some (some z, size, bytes)) (hz : z.cells.size = size) (hsz : 0 < size)
    (hs : act.eval s = .slice a n cap) (hx : act.eval x = .slice (some ad) m c)
    (hown : w.ownsRow 0 e size (.slice a n cap) n xs) (hl : news.length = m * size) (hnews : ∀ j u, news[j]? = some u → w.cell? (ad.add j) = some u) (hu : ∀ u ∈ news, u.oneCell' = true) (h63 : n + m ≤ maxLen) (hbytes : (n + m) * bytes ≤ 140737488355328)
    (h : ∀ a' cap' w', w'.ownsRow 0 e size (.slice a' (n + m) cap') (n + m) (xs ++ news) → Stepped w w' (ft a) (ft a') → wpList P ops Q rest (act.put o.dst (.slice a' (n + m) cap')) w') : wpList P ops Q (o :: rest) act w := by
  obtain ⟨i, hi, hiz, hisz, hib⟩ := info3 hinfo
  refine wpList_append_own_at w hgd s x t ho 0 e i z size bytes ht hi hiz hisz hib hz hsz (.slice a n cap) n xs hs hown ad m c news hx hl hnews hu h63 hbytes (Nat.zero_le _) ?_
  intro v' w' hown' hg _ hat
  have hform : ∃ a' cap', v' = .slice a' (n + m) cap' := by
    rcases hown'.2 with ⟨hv, h0⟩ | ⟨g, c, cur, hv, _⟩
    · exact ⟨none, 0, by rw [hv, h0]⟩
    · exact ⟨_, _, hv⟩
  obtain ⟨a', cap', rfl⟩ := hform
  refine h a' cap' w' hown' ⟨⟨hg.os, hg.tape, hg.output, hg.size, fun k hk hn => ?_⟩, fun b hb => ?_⟩
  · exact hg.block k hk fun e' => hn ((ownBlock_ft _ _ _ _).1 e'.symm)
  · have hb' := (ownBlock_ft a' (n + m) cap' b).2 hb
    rcases hat with h1 | h1
    · rw [h1] at hb'
      exact .inl ((ownBlock_ft _ _ _ _).1 hb')
    · rw [h1] at hb'
      simp at hb'
      exact .inr (by omega)
theorem own_empty (w : World) (e : TypeId) (size : Nat) : (w.alloc (.cells #[] e)).ownsRow 0 e size (.slice (some ⟨w.heap.size, 0, none⟩) 0 0) 0 [] :=
  ⟨by simp, .inr ⟨w.heap.size, 0, #[], rfl, Nat.zero_le _, heap_alloc_new w _, Nat.le_refl _, by decide, by simp, by simp⟩⟩
theorem nats_one (K : IntKind) (l : List Nat) : ∀ u ∈ nats K l, u.oneCell' = true := by
  intro u hu
  obtain ⟨n, _, rfl⟩ := List.mem_map.1 hu
  rfl
def NewInts (l : List Nat) (n : Nat) (w : World) (e : Ending) (w' : World) : Prop := ∃ a c, e = .returned (.slice a n c) ∧ Own w' 3 a n c (nats .i64 l) ∧ Stepped w w' [] (ft a)
theorem clone_ints (a : Option Addr) (c n : Nat) (l : List Nat) (w : World) (ho : Own w 3 a n c (nats .i64 l)) (hm : n ≤ 1000000) :
    Calls Try.prog 67 #[.slice a n c] w (NewInts l n w) := by
  have q := fun (w : World) (a : Option Addr) (n c : Nat) => Lib.run_eql_slice_nil (P := Try.prog) w 67 3 a n c 0 0 Try.underlying67
  have hl := ho.len
  rw [nats_length] at hl
  have HO := Lib.hid ho; clear ho
  have HL := Lib.hid hl; clear hl
  cases a with
  | none =>
    have h0 : n = 0 := by
      rcases HO.out.2 with ⟨hv, h0⟩ | ⟨g, cap', cur, hv, _⟩
      · exact h0
      · cases hv
    subst h0
    have hl0 : l = [] := List.eq_nil_of_length_eq_zero HL.out
    subst hl0
    go_enter Try.func67, Try.ntmps67
    go_wp2
    go_ret
    exact ⟨none, 0, rfl, Own.nil _ _, .refl _ _⟩
  | some ad =>
    have HC := Lib.hid (show ∀ j u, (nats .i64 l)[j]? = some u → (w.alloc (.cells #[] 3)).cell? (ad.add j) = some u from fun j u hu => by
      obtain ⟨hj, rfl⟩ := List.getElem?_eq_some_iff.1 hu
      obtain ⟨ad', h1, h2⟩ := HO.out.cell hj
      injection h1 with h1
      subst h1
      exact cell_alloc h2 _)
    go_enter Try.func67, Try.ntmps67
    go_wp2_with (at_builtin; refine wpList_cat (news := nats .i64 l) rfl rfl Try.underlying67 int_info rfl (by omega) rfl rfl (own_empty w 3 1) (by rw [nats_length, HL.out, Nat.mul_one]) HC.out (nats_one _ _) (by unfold maxLen; omega) (by omega) ?_; intro a' c' w1 hown1 hst1)
    go_ret
    refine ⟨a', c', by simp [go_sem], by simpa [Own] using hown1, ?_⟩
    have := (((Stepped.refl w []).allocOwn (.cells #[] 3))).trans (by simpa [ft] using hst1)
    exact this

theorem aig_inputs (hg : GraphAt w p F g) (hm : g.nodes.length ≤ 1000000) : Calls Try.prog 47 #[.pointer (some ⟨p, 0, none⟩)] w (NewInts (ins g.nodes) (ins g.nodes).length w) := by
  have hile : (ins g.nodes).length ≤ g.nodes.length := insFrom_length 0 g.nodes
  obtain ⟨an, cn, ai, ci, m, f, rfl, hc⟩ := hg
  have c3 := hc.c3
  have c4 := hc.c4
  have HI := Lib.hid hc.inputs
  clear hc
  go_enter Try.func47, Try.ntmps47
  go_wp2_with (first
    | (go_at_call 41; refine (aig_none p m _ (by assumption)).mono ?_; rintro e w' ⟨rfl, rfl⟩)
    | (go_at_call 67; refine (clone_ints _ _ _ _ _ HI.out (by omega)).mono ?_; rintro e w' ⟨a', c', rfl, ho, hst⟩))
  go_ret
  exact ⟨a', c', rfl, ho, hst⟩
end Go.Proofs.Ytdmcdhkkbkgnbaa

namespace Go.Proofs.Ytdmcdhkkbkgnbaa
open Go.ChangeShapes Go.WideShapes Go.ChangeAt Go.RowKit
open Go.Maps (Keyed)
open Go.WideMaps
set_option linter.unusedVariables false

variable {w w' : World} {p : Nat} {F S : List Nat} {g : Gr}
theorem pcells_one (l : List (Nat × Nat)) : ∀ u ∈ pcells l, u.oneCell' = true := by
  intro u hu
  simp only [pcells, List.mem_flatMap, List.mem_cons, List.not_mem_nil, or_false] at hu
  obtain ⟨p, _, rfl | rfl⟩ := hu <;> rfl
/-- the cells of a row of the call's own -/
theorem row_cells {w : World} {e : TypeId} {size n cap : Nat} {ad : Addr} {xs : List Value} (h : w.ownsRow 0 e size (.slice (some ad) n cap) n xs) : ∀ j u, xs[j]? = some u → w.cell? (ad.add j) = some u := by
  intro j u hu
  rcases h.2 with ⟨hv, _⟩ | ⟨g, cap', cur, hv, hb, hg, rest⟩
  · cases hv
  · have := World.ownsRow.cells h (g := g) (by rw [hv]; rfl) j u hu
    injection hv with hv
    injection hv with hv
    subst hv
    exact this
def NewPairs (l : List (Nat × Nat)) (n : Nat) (w : World) (e : Ending) (w' : World) : Prop := ∃ a c, e = .returned (.slice a n c) ∧ Own2 w' 105 a n c (pcells l) ∧ Stepped w w' [] (ft a)

theorem keep5 {w w' : World} {a0 a1 a2 a3 a4 : Addr} {v0 v1 v2 v3 v4 : Value} (hk : Kept [] w w') (h0 : w.cell? a0 = some v0) (h1 : w.cell? a1 = some v1) (h2 : w.cell? a2 = some v2) (h3 : w.cell? a3 = some v3) (h4 : w.cell? a4 = some v4) :
    Kept [] w w' ∧ w'.cell? a0 = some v0 ∧ w'.cell? a1 = some v1 ∧ w'.cell? a2 = some v2 ∧ w'.cell? a3 = some v3 ∧ w'.cell? a4 = some v4 :=
  ⟨hk, hk.cell h0 (by simp), hk.cell h1 (by simp), hk.cell h2 (by simp), hk.cell h3 (by simp), hk.cell h4 (by simp)⟩
/-- a graph of its own beside the old one -/
def CopyPost (g : Gr) (w : World) (e : Ending) (w' : World) : Prop := ∃ p' F', e = .returned (.pointer (some ⟨p', 0, none⟩)) ∧ GraphAt w' p' F' g ∧ Stepped w w' [] F'
end Go.Proofs.Ytdmcdhkkbkgnbaa

namespace Go.Proofs.Ytdmcdhkkbkgnbaa
open Go.ChangeShapes Go.WideShapes Go.ChangeAt Go.RowKit
set_option linter.unusedVariables false

variable {w w' : World} {F F' : List Nat} {b : Nat} {o o' : Obj}
structure Mine (w : World) (F : List Nat) (b : Nat) (o : Obj) : Prop where
  heap : w.heap[b]? = some o
  out : b ∉ F
theorem Mine.lt (h : Mine w F b o) : b < w.heap.size := (Array.getElem?_eq_some_iff.1 h.heap).1
theorem Mine.step (h : Mine w F b o) (hst : Stepped w w' F F') : Mine w' F' b o :=
  ⟨hst.kept.heap h.heap h.out, fun hm => (hst.fresh _ hm).elim h.out fun h1 => absurd h.lt (by omega)⟩
theorem Mine.alloc (h : Mine w F b o) (o' : Obj) : Mine (w.alloc o') F b o :=
  ⟨((Kept.refl [] w).alloc o').heap h.heap (by simp), h.out⟩
theorem Mine.drew (h : Mine w F b o) : Mine w.drew F b o := ⟨h.heap, h.out⟩
theorem Mine.drewN (h : Mine w F b o) (n : Nat) : Mine (w.drewN n) F b o := ⟨h.heap, h.out⟩
theorem Mine.new (hb : b = w.heap.size) (hF : ∀ x ∈ F, x < w.heap.size) : Mine (w.alloc o) F b o := by
  subst hb
  exact ⟨by show (w.heap.push _)[w.heap.size]? = _; simp, fun hm => absurd (hF _ hm) (Nat.lt_irrefl _)⟩
theorem Mine.other (h : Mine w F b o) {p : Addr} (hp : p.block ≠ b) (v : Value) : Mine (w.setCell p v) F b o :=
  ⟨(Below.heap_setCell _ _ _ _ (fun e => hp e.symm)).trans h.heap, h.out⟩
theorem blk_set' {w : World} {b : Nat} {cs : Array Value} {t : TypeId} {fr : Nat × Nat} (h : w.heap[b]? = some (.cells cs t fr)) (j : Nat) (v : Value) : (w.setCell ⟨b, j, none⟩ v).heap[b]? = some (.cells (cs.setIfInBounds j v) t fr) := by
  simp [World.setCell, Array.getElem?_modify, h]
theorem Mine.set2 {x0 x1 a0 a1 : Value} {t : TypeId} (h : Mine w F b (.cells #[x0, x1] t (0, 0))) : Mine ((w.setCell ⟨b, 0, none⟩ a0).setCell ⟨b, 1, none⟩ a1) F b (.cells #[a0, a1] t (0, 0)) :=
  ⟨blk_set' (blk_set' h.heap 0 a0) 1 a1, h.out⟩
theorem Mine.more (h : Mine w F b o) (hF : b ∉ F') : Mine w F' b o := ⟨h.heap, hF⟩
theorem Stepped.setNew {a w : World} (h : Stepped a w F F') {p : Addr} (hp : a.heap.size ≤ p.block) (v : Value) : Stepped a (w.setCell p v) F F' := ⟨h.kept.setCell (.inr hp) v, h.fresh⟩
/-- The whole block written. -/
theorem Kept.setRow {a w : World} (h : Kept F a w) {g : Nat} (hp : g ∈ F ∨ a.heap.size ≤ g) (cs : Array Value) : Kept F a (w.setRow g cs) :=
  ⟨h.os, h.tape, h.output, by simpa using h.size, fun k hk hn => (setRow_other _ _ _ _ (by rintro rfl; rcases hp with h | h; exact hn h; omega)).trans (h.block k hk hn)⟩
theorem Stepped.rowNew {a w : World} (h : Stepped a w F F') {g : Nat} (hp : a.heap.size ≤ g) (cs : Array Value) : Stepped a (w.setRow g cs) F F' := ⟨h.kept.setRow (.inr hp) cs, h.fresh⟩
theorem Stepped.rowOwn {a w : World} (h : Stepped a w F F') {g : Nat} (hp : g ∈ F') (cs : Array Value) : Stepped a (w.setRow g cs) F F' := ⟨h.kept.setRow (h.fresh _ hp) cs, h.fresh⟩
theorem Mine.row {old cs : Array Value} {t : TypeId} {fr : Nat × Nat} (h : Mine w F b (.cells old t fr)) : Mine (w.setRow b cs) F b (.cells cs t fr) := ⟨setRow_heap _ _ _ _ _ _ h.heap, h.out⟩
theorem Mine.rowOther {g : Nat} {cs : Array Value} (h : Mine w F b o) (hne : b ≠ g) : Mine (w.setRow g cs) F b o := ⟨(setRow_other _ _ _ _ hne).trans h.heap, h.out⟩
/-- A store of a whole struct into a block of one's own, inside a region that draws its order. -/
theorem step_row {P : Program} {w : World} {ops : Array Oper} {o : Oper} {act : Act} {K : Act → World → Prop} {Q : Exit → Act → World → Prop} {E : Prop} {s x : Operand} {e t : TypeId} {b : Nat} {cells old : Array Value}
    (hgd : o.guard = none) (ho : o.op = .store e s x) (hs : act.eval s = .pointer (some ⟨b, 0, none⟩)) (hx : act.eval x = .agg cells)
    (hi : (P.info? e).map (·.size) = some cells.size) (hold : old.size = cells.size) (h1 : cells.all (·.oneCell') = true) (hb : w.heap[b]? = some (.cells old t (0, 0)))
    (h : K (act.put o.dst undef) (w.setRow b cells)) :
    if Region.wanted o (yielded ops act.tmps) = true then Oper.wp P o act w K Q else E := by
  rw [if_pos (by simp [Region.wanted, hgd])]
  exact wp_store_row e s x ho b cells hs hx t old hb hi hold h1 h
end Go.Proofs.Ytdmcdhkkbkgnbaa

namespace Go.Proofs.Ytdmcdhkkbkgnbaa
open Go.ChangeShapes Go.WideShapes Go.ChangeAt Go.RowKit
open Go.Maps (Keyed)
open Go.WideMaps
set_option linter.unusedVariables false

theorem step_cat {P : Program} {w : World} {ops : Array Oper} {o : Oper} {act : Act} {K : Act → World → Prop} {Q : Exit → Act → World → Prop} {E : Prop} {s x : Operand} {t e : TypeId} {z : Value} {size bytes : Nat} {a : Option Addr} {n cap : Nat} {xs news : List Value} {ad : Addr} {m c : Nat}
    (hgd : o.guard = none) (ho : o.op = .call { callee := .builtin .append, args := #[s, x], argTypes := #[t, t] })
    (ht : P.underlying t = some (.slice e)) (hinfo : (P.info? e).map (fun i => (i.zero, i.size, i.bytes)) = some (some z, size, bytes)) (hz : z.cells.size = size) (hsz : 0 < size)
    (hs : act.eval s = .slice a n cap) (hx : act.eval x = .slice (some ad) m c)
    (hown : w.ownsRow 0 e size (.slice a n cap) n xs) (hl : news.length = m * size) (hnews : ∀ j u, news[j]? = some u → w.cell? (ad.add j) = some u) (hu : ∀ u ∈ news, u.oneCell' = true) (h63 : n + m ≤ maxLen) (hbytes : (n + m) * bytes ≤ 140737488355328)
    (h : ∀ a' cap' w', w'.ownsRow 0 e size (.slice a' (n + m) cap') (n + m) (xs ++ news) → Stepped w w' (ft a) (ft a') → K (act.put o.dst (.slice a' (n + m) cap')) w') :
    if Region.wanted o (yielded ops act.tmps) = true then Oper.wp P o act w K Q else E := by
  rw [if_pos (by simp [Region.wanted, hgd])]
  obtain ⟨i, hi, hiz, hisz, hib⟩ := info3 hinfo
  obtain ⟨v', w', hr, hown', hg, _, hat⟩ := run_append_own_at (P := P) w 0 t o.type e i z size bytes ht hi hiz hisz hib hz hsz (.slice a n cap) n xs hown ad m c news hl hnews hu h63 hbytes (Nat.zero_le _)
  unfold Oper.wp execOp
  simp only [ho, resolve, invoke, builtin, Sem.run_bind, Sem.run_pure, Result.andThen_ok, List.map_toArray, List.map_cons, List.map_nil, hs, hx, hr]
  have hform : ∃ a' cap', v' = .slice a' (n + m) cap' := by
    rcases hown'.2 with ⟨hv, h0⟩ | ⟨g, c, cur, hv, _⟩
    · exact ⟨none, 0, by rw [hv, h0]⟩
    · exact ⟨_, _, hv⟩
  obtain ⟨a', cap', rfl⟩ := hform
  refine h a' cap' w' hown' ⟨⟨hg.os, hg.tape, hg.output, hg.size, fun k hk hn => ?_⟩, fun b hb => ?_⟩
  · exact hg.block k hk fun e' => hn ((ownBlock_ft _ _ _ _).1 e'.symm)
  · have hb' := (ownBlock_ft a' (n + m) cap' b).2 hb
    rcases hat with h1 | h1
    · rw [h1] at hb'
      exact .inl ((ownBlock_ft _ _ _ _).1 hb')
    · rw [h1] at hb'
      simp at hb'
      exact .inr (by omega)
end Go.Proofs.Ytdmcdhkkbkgnbaa
