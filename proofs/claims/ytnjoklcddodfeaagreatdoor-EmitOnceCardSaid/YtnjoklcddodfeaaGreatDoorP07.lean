/-
  append of many, inside a region that draws its order.
  Blocks of one's own: a block that is there, that holds this, and that no list of owned blocks has. Chains of worlds are gone through backwards.
  slices.Clone of pairs, maps.Clone of a graph's map; Graph.Copy.
  slices.Clone of ints; Graph.Inputs.
  Contracts of package aig: Eval, Inputs. What Eval answers, as a plain function, and that it is the gates' solution.
-/
import Derived.Test.YtnjoklcddodfeaaGreatDoorP06
import Derived.Outline
import Derived.Shelf.SlMaps.Clone
import Derived.Deep.RegionHeld3
import Derived.Test.YtnjoklcddodfeaaGreatDoorP01
import Derived.RegionTactic
import Derived.Laws.Rows
import Derived.Laws.Tables
namespace Go.Proofs.YtnjoklcddodfeaaGreatDoor
open Go.ChangeShapes Go.WideShapes Go.ChangeAt Go.RowKit
open Go.Maps (Keyed)
open Go.WideMaps
set_option linter.unusedVariables false

variable {w w' : World} {p : Nat} {F S : List Nat} {g : Gr}

def setTo (is vs ws : List Nat) : Nat → List Nat
  | 0 => ws
  | k + 1 => (setTo is vs ws k).set (is.getD k 0) (vs.getD k 0)
def evalTo (g : Gr) (ws : List Nat) : Nat → List Nat
  | 0 => ws
  | k + 1 => if (gateA g k).2.2 then (evalTo g ws k).set k (wd (evalTo g ws k) (gateA g k).1 &&& wd (evalTo g ws k) (gateA g k).2.1) else evalTo g ws k
def evalG (g : Gr) (inp : List Nat) : List Nat := evalTo g (setTo (ins g.nodes) inp (List.replicate g.nodes.length 0) (ins g.nodes).length) g.nodes.length
theorem setTo_length (is vs ws : List Nat) (k : Nat) : (setTo is vs ws k).length = ws.length := by
  induction k with
  | zero => rfl
  | succ k ih => simp [setTo, ih]
theorem evalTo_length (g : Gr) (ws : List Nat) (k : Nat) : (evalTo g ws k).length = ws.length := by
  induction k with
  | zero => rfl
  | succ k ih => unfold evalTo; split <;> simp [ih]
theorem evalG_length (g : Gr) (inp : List Nat) : (evalG g inp).length = g.nodes.length := by simp [evalG, evalTo_length, setTo_length]
theorem words_set {ws : List Nat} (h : Words ws) (k : Nat) {v : Nat} (hv : v < 18446744073709551616) : Words (ws.set k v) := by
  intro x hx
  rcases List.mem_or_eq_of_mem_set hx with h1 | h1
  · exact h x h1
  · exact h1 ▸ hv
theorem words_getD {ws : List Nat} (h : Words ws) (k : Nat) : ws.getD k 0 < 18446744073709551616 := by
  rw [List.getD_eq_getElem?_getD]
  cases hk : ws[k]? with
  | none => simp
  | some v => simpa using h v (List.mem_of_getElem? hk)
theorem setTo_words {vs ws : List Nat} (is : List Nat) (hv : Words vs) (hw : Words ws) (k : Nat) : Words (setTo is vs ws k) := by
  induction k with
  | zero => exact hw
  | succ k ih => exact words_set ih _ (words_getD hv k)
theorem and_lt {a b : Nat} (ha : a < 18446744073709551616) : a &&& b < 18446744073709551616 := Nat.lt_of_le_of_lt Nat.and_le_left ha
theorem evalTo_words {ws : List Nat} (g : Gr) (hw : Words ws) (k : Nat) : Words (evalTo g ws k) := by
  induction k with
  | zero => exact hw
  | succ k ih => unfold evalTo; split; exact words_set ih _ (and_lt (wd_lt ih _)); exact ih
theorem zeros_words (n : Nat) : Words (List.replicate n 0) := fun x hx => by rw [(List.mem_replicate.1 hx).2]; omega
theorem evalG_words (g : Gr) {inp : List Nat} (h : Words inp) : Words (evalG g inp) := evalTo_words g (setTo_words _ h (zeros_words _) _) _

theorem gateA_lt (g : Gr) (k : Nat) (hw : WF g.nodes) (hm : g.nodes.length ≤ 1000000) : (gateA g k).1 < 4294967296 ∧ (gateA g k).2.1 < 4294967296 := by
  unfold gateA
  split
  · simp only [Int.toNat_natCast]
    cases hk : g.nodes[k]? with
    | none => simp
    | some q =>
      obtain ⟨a, b⟩ := q
      have h1 := hw.lit hk
      have h2 := (List.getElem?_eq_some_iff.1 hk).1
      simp only
      split <;> simp <;> omega
  · simp

theorem u64_info : (Tryz.prog.info? 66).map (fun i => (i.zero, i.size, i.bytes)) = some (some (.int .u64 0), 1, 8) := by kernel_rfl
/-- 'make([]T, n)', elements of one cell. -/
theorem wpList_mk {P : Program} {ops : Array Oper} {rest : List Oper} {o : Oper} {act : Act} {Q : Exit → Act → World → Prop} {l c : Operand} {t e : TypeId} {z : Value} {bytes n : Nat}
    (hg : o.guard = none) (hop : o.op = Op.makeSlice t l c) (ht : P.underlying t = some (.slice e)) (hinfo : (P.info? e).map (fun i => (i.zero, i.size, i.bytes)) = some (some z, 1, bytes)) (hz : z.cells = #[z])
    (hl : act.eval l = .int .i64 (n : Int)) (hc : act.eval c = .int .i64 (n : Int)) (hb : bytes * n ≤ 281474976710656) (hn : n ≤ maxLen)
    (h : ∀ w', Own w' e (some ⟨w.heap.size, 0, none⟩) n n (List.replicate n z) → Stepped w w' [] [w.heap.size] → wpList P ops Q rest (act.put o.dst (.slice (some ⟨w.heap.size, 0, none⟩) n n)) w') :
    wpList P ops Q (o :: rest) act w := by
  obtain ⟨i, hi, hiz, hisz, hib⟩ := info3 hinfo
  subst hib
  refine wpList_make_full w hg l c t hop 0 e i z 1 ht hi hiz hisz .i64 .i64 n n n hl hc rfl rfl hb hn (Nat.zero_le _) fun w' h1 h2 => h w' ?_ ?_
  · have : (madeCells z.cells (n * 1)).toList = List.replicate n z := by rw [hz]; simp [madeCells, Nat.mod_one, List.map_const']
    rw [this] at h1
    exact h1
  · exact ⟨⟨h2.os, h2.tape, h2.output, h2.size, fun k hk _ => h2.block k hk (by simp)⟩, fun b hb => by simp at hb; exact .inr (by omega)⟩
theorem nats_replicate (K : IntKind) (n : Nat) : List.replicate n (Value.int K 0) = nats K (List.replicate n 0) := by simp [nats]

def EvalPost (ws : List Nat) (n : Nat) (w : World) (e : Ending) (w' : World) : Prop :=
  ∃ a c, e = .returned (.tuple #[.slice a n c, .int .i64 0]) ∧ Own w' 66 a n c (nats .u64 ws) ∧ Stepped w w' [] (ft a)
end Go.Proofs.YtnjoklcddodfeaaGreatDoor

namespace Go.Proofs.YtnjoklcddodfeaaGreatDoor
open Go.ChangeShapes Go.WideShapes Go.ChangeAt Go.RowKit
open Go.Maps (Keyed)
open Go.WideMaps
set_option linter.unusedVariables false

variable {w w' : World} {p : Nat} {F S : List Nat} {g : Gr}
/-- append(own, src...) -/
theorem wpList_cat {P : Program} {ops : Array Oper} {rest : List Oper} {o : Oper} {act : Act} {Q : Exit → Act → World → Prop} {s x : Operand} {t e : TypeId} {z : Value} {size bytes : Nat} {a : Option Addr} {n cap : Nat} {xs news : List Value} {ad : Addr} {m c : Nat}
    (hgd : o.guard = none) (ho : o.op = .call { callee := .builtin .append, args := #[s, x], argTypes := #[t, t] })
    (ht : P.underlying t = some (.slice e)) (hinfo : (P.info? e).map (fun i => (i.zero, i.size, i.bytes)) = some (some z, size, bytes)) (hz : z.cells.size = size) (hsz : 0 < size)
    (hs : act.eval s = .slice a n cap) (hx : act.eval x = .slice (some ad) m c)
    (hown : w.ownsRow 0 e size (.slice a n cap) n xs) (hl : news.length = m * size) (hnews : ∀ j u, news[j]? = some u → w.cell? (ad.add j) = some u) (hu : ∀ u ∈ news, u.oneCell' = true) (h63 : n + m ≤ maxLen) (hbytes : (n + m) * bytes ≤ 140737488355328)
    (h : ∀ a' cap' w', w'.ownsRow 0 e size (.slice a' (n + m) cap') (n + m) (xs ++ news) → Stepped w w' (ft a) (ft a') → wpList P ops Q rest (act.put o.dst (.slice a' (n + m) cap')) w') : wpList P ops Q (o :: rest) act w := by
  obtain ⟨i, hi, hiz, hisz, hib⟩ := info3 hinfo
  refine wpList_append_own_at w hgd s x t ho 0 e i z size bytes ht hi hiz hisz hib hz hsz (.slice a n cap) n xs hs hown ad m c news hx hl hnews hu h63 hbytes (Nat.zero_le _) ?_
  intro v' w' hown' hg _ hat
  have hform : ∃ a' cap', v' = .slice a' (n + m) cap' := by
    rcases hown'.2 with ⟨hv, h0⟩ | ⟨g, c, cur, hv, _⟩
    · exact ⟨none, 0, by rw [hv, h0]⟩
    · exact ⟨_, _, hv⟩
  obtain ⟨a', cap', rfl⟩ := hform
  refine h a' cap' w' hown' ⟨⟨hg.os, hg.tape, hg.output, hg.size, fun k hk hn => ?_⟩, fun b hb => ?_⟩
  · exact hg.block k hk fun e' => hn ((ownBlock_ft _ _ _ _).1 e'.symm)
  · have hb' := (ownBlock_ft a' (n + m) cap' b).2 hb
    rcases hat with h1 | h1
    · rw [h1] at hb'
      exact .inl ((ownBlock_ft _ _ _ _).1 hb')
    · rw [h1] at hb'
      simp at hb'
      exact .inr (by omega)
theorem own_empty (w : World) (e : TypeId) (size : Nat) : (w.alloc (.cells #[] e)).ownsRow 0 e size (.slice (some ⟨w.heap.size, 0, none⟩) 0 0) 0 [] :=
  ⟨by simp, .inr ⟨w.heap.size, 0, #[], rfl, Nat.zero_le _, heap_alloc_new w _, Nat.le_refl _, by decide, by simp, by simp⟩⟩
theorem nats_one (K : IntKind) (l : List Nat) : ∀ u ∈ nats K l, u.oneCell' = true := by
  intro u hu
  obtain ⟨n, _, rfl⟩ := List.mem_map.1 hu
  rfl
def NewInts (l : List Nat) (n : Nat) (w : World) (e : Ending) (w' : World) : Prop := ∃ a c, e = .returned (.slice a n c) ∧ Own w' 3 a n c (nats .i64 l) ∧ Stepped w w' [] (ft a)
theorem clone_ints (a : Option Addr) (c n : Nat) (l : List Nat) (w : World) (ho : Own w 3 a n c (nats .i64 l)) (hm : n ≤ 1000000) :
    Calls Tryz.prog 82 #[.slice a n c] w (NewInts l n w) := by
  have q := fun (w : World) (a : Option Addr) (n c : Nat) => Lib.run_eql_slice_nil (P := Tryz.prog) w 92 3 a n c 0 0 Tryz.underlying92
  have hl := ho.len
  rw [nats_length] at hl
  have HO := Lib.hid ho; clear ho
  have HL := Lib.hid hl; clear hl
  cases a with
  | none =>
    have h0 : n = 0 := by
      rcases HO.out.2 with ⟨hv, h0⟩ | ⟨g, cap', cur, hv, _⟩
      · exact h0
      · cases hv
    subst h0
    have hl0 : l = [] := List.eq_nil_of_length_eq_zero HL.out
    subst hl0
    go_enter Tryz.func82, Tryz.ntmps82
    go_wp2
    go_ret
    exact ⟨none, 0, rfl, Own.nil _ _, .refl _ _⟩
  | some ad =>
    have HC := Lib.hid (show ∀ j u, (nats .i64 l)[j]? = some u → (w.alloc (.cells #[] 3)).cell? (ad.add j) = some u from fun j u hu => by
      obtain ⟨hj, rfl⟩ := List.getElem?_eq_some_iff.1 hu
      obtain ⟨ad', h1, h2⟩ := HO.out.cell hj
      injection h1 with h1
      subst h1
      exact cell_alloc h2 _)
    go_enter Tryz.func82, Tryz.ntmps82
    go_wp2_with (at_builtin; refine wpList_cat (news := nats .i64 l) rfl rfl Tryz.underlying92 int_info rfl (by omega) rfl rfl (own_empty w 3 1) (by rw [nats_length, HL.out, Nat.mul_one]) HC.out (nats_one _ _) (by unfold maxLen; omega) (by omega) ?_; intro a' c' w1 hown1 hst1)
    go_ret
    refine ⟨a', c', by simp [go_sem], by simpa [Own] using hown1, ?_⟩
    have := (((Stepped.refl w []).allocOwn (.cells #[] 3))).trans (by simpa [ft] using hst1)
    exact this

theorem aig_inputs (hg : GraphAt w p F g) (hm : g.nodes.length ≤ 1000000) : Calls Tryz.prog 52 #[.pointer (some ⟨p, 0, none⟩)] w (NewInts (ins g.nodes) (ins g.nodes).length w) := by
  have hile : (ins g.nodes).length ≤ g.nodes.length := insFrom_length 0 g.nodes
  obtain ⟨an, cn, ai, ci, m, f, rfl, hc⟩ := hg
  have c3 := hc.c3
  have c4 := hc.c4
  have HI := Lib.hid hc.inputs
  clear hc
  go_enter Tryz.func52, Tryz.ntmps52
  go_wp2_with (first
    | (go_at_call 31; refine (aig_none p m _ (by assumption)).mono ?_; rintro e w' ⟨rfl, rfl⟩)
    | (go_at_call 82; refine (clone_ints _ _ _ _ _ HI.out (by omega)).mono ?_; rintro e w' ⟨a', c', rfl, ho, hst⟩))
  go_ret
  exact ⟨a', c', rfl, ho, hst⟩
end Go.Proofs.YtnjoklcddodfeaaGreatDoor

namespace Go.Proofs.YtnjoklcddodfeaaGreatDoor
open Go.ChangeShapes Go.WideShapes Go.ChangeAt Go.RowKit
open Go.Maps (Keyed)
open Go.WideMaps
set_option linter.unusedVariables false

variable {w w' : World} {p : Nat} {F S : List Nat} {g : Gr}
theorem pcells_one (l : List (Nat × Nat)) : ∀ u ∈ pcells l, u.oneCell' = true := by
  intro u hu
  simp only [pcells, List.mem_flatMap, List.mem_cons, List.not_mem_nil, or_false] at hu
  obtain ⟨p, _, rfl | rfl⟩ := hu <;> rfl
/-- the cells of a row of the call's own -/
theorem row_cells {w : World} {e : TypeId} {size n cap : Nat} {ad : Addr} {xs : List Value} (h : w.ownsRow 0 e size (.slice (some ad) n cap) n xs) : ∀ j u, xs[j]? = some u → w.cell? (ad.add j) = some u := by
  intro j u hu
  rcases h.2 with ⟨hv, _⟩ | ⟨g, cap', cur, hv, hb, hg, rest⟩
  · cases hv
  · have := World.ownsRow.cells h (g := g) (by rw [hv]; rfl) j u hu
    injection hv with hv
    injection hv with hv
    subst hv
    exact this
def NewPairs (l : List (Nat × Nat)) (n : Nat) (w : World) (e : Ending) (w' : World) : Prop := ∃ a c, e = .returned (.slice a n c) ∧ Own2 w' 97 a n c (pcells l) ∧ Stepped w w' [] (ft a)
set_option maxRecDepth 100000 in
theorem clone_pairs (a : Option Addr) (c n : Nat) (l : List (Nat × Nat)) (w : World) (ho : Own2 w 97 a n c (pcells l)) (hm : n ≤ 1000000) :
    Calls Tryz.prog 81 #[.slice a n c] w (NewPairs l n w) := by
  have q := fun (w : World) (a : Option Addr) (n c : Nat) => Lib.run_eql_slice_nil (P := Tryz.prog) w 91 97 a n c 0 0 Tryz.underlying91
  have hl : (pcells l).length = n * 2 := ho.1
  have HO := Lib.hid ho; clear ho
  have HL := Lib.hid hl; clear hl
  cases a with
  | none =>
    have h0 : n = 0 := by
      rcases HO.out.2 with ⟨hv, h0⟩ | ⟨g, cap', cur, hv, _⟩
      · exact h0
      · cases hv
    subst h0
    have hl0 : l = [] := List.eq_nil_of_length_eq_zero (by have := HL.out; rw [pcells_length] at this; omega)
    subst hl0
    go_enter Tryz.func81, Tryz.ntmps81
    go_wp2
    go_ret
    exact ⟨none, 0, rfl, World.ownsRow_nil _ _ _ _, .refl _ _⟩
  | some ad =>
    have HC := Lib.hid (show ∀ j u, (pcells l)[j]? = some u → (w.alloc (.cells #[] 97)).cell? (ad.add j) = some u from fun j u hu => cell_alloc (row_cells HO.out j u hu) _)
    go_enter Tryz.func81, Tryz.ntmps81
    go_wp2_with (at_builtin; refine wpList_cat (news := pcells l) rfl rfl Tryz.underlying91 pair_info rfl (by omega) rfl rfl (own_empty w 97 2) (by rw [HL.out]) HC.out (pcells_one _) (by unfold maxLen; omega) (by omega) ?_; intro a' c' w1 hown1 hst1)
    go_ret
    refine ⟨a', c', by simp [go_sem], by simpa [Own2] using hown1, ?_⟩
    have := (((Stepped.refl w []).allocOwn (.cells #[] 97))).trans (by simpa [ft] using hst1)
    exact this
set_option maxHeartbeats 1600000 in
set_option maxRecDepth 100000 in
theorem clone_map (b : Nat) (es : Array MapEntry) (clock : Nat) (w : World) (hb : w.heap[b]? = some (.map es clock)) :
    Calls Tryz.prog 83 #[.map (some b)] w fun e w' => e = .returned (.map (some w.heap.size)) ∧ w' = w.alloc (.map es clock) := by
  have hq := fun w => run_eql_map_nil_sl (P := Tryz.prog) w 93 _ _ (some b) Tryz.underlying93
  have HB := Lib.hid hb; clear hb
  go_enter Tryz.func83, Tryz.ntmps83
  go_wp2
  rw [run_callFunc_extern Tryz.func115 (by kernel_rfl) (by kernel_rfl) (by kernel_rfl) (e := Extern.MapsClone.clone) (by kernel_rfl), run_maps_clone_sl w _ HB.out]
  simp only [Result.andThen]
  rw [Oper.upon_value]
  go_wp2
  rw [run_typeAssert_map_sl _ _ _ _ _ _ Tryz.underlying93]
  simp only [Result.andThen]
  rw [Oper.upon_value]
  go_wp2
  go_ret
  exact ⟨rfl, rfl⟩
theorem clone_mapV {m : Nat} {f : Value → Option Value} (h : MapV w Tryz.prog 97 m f) :
    Calls Tryz.prog 83 #[.map (some m)] w fun e w' => ∃ m', e = .returned (.map (some m')) ∧ MapV w' Tryz.prog 97 m' f ∧ Stepped w w' [] [m'] := by
  obtain ⟨es, clock, hb, h2⟩ := h
  refine (clone_map m es clock w hb).mono ?_
  rintro e w' ⟨rfl, rfl⟩
  exact ⟨w.heap.size, rfl, ⟨es, clock, heap_alloc_new w _, h2⟩, by simpa using (Stepped.refl w []).allocOwn (.map es clock)⟩

theorem keep5 {w w' : World} {a0 a1 a2 a3 a4 : Addr} {v0 v1 v2 v3 v4 : Value} (hk : Kept [] w w') (h0 : w.cell? a0 = some v0) (h1 : w.cell? a1 = some v1) (h2 : w.cell? a2 = some v2) (h3 : w.cell? a3 = some v3) (h4 : w.cell? a4 = some v4) :
    Kept [] w w' ∧ w'.cell? a0 = some v0 ∧ w'.cell? a1 = some v1 ∧ w'.cell? a2 = some v2 ∧ w'.cell? a3 = some v3 ∧ w'.cell? a4 = some v4 :=
  ⟨hk, hk.cell h0 (by simp), hk.cell h1 (by simp), hk.cell h2 (by simp), hk.cell h3 (by simp), hk.cell h4 (by simp)⟩
/-- a graph of its own beside the old one -/
def CopyPost (g : Gr) (w : World) (e : Ending) (w' : World) : Prop := ∃ p' F', e = .returned (.pointer (some ⟨p', 0, none⟩)) ∧ GraphAt w' p' F' g ∧ Stepped w w' [] F'
set_option maxHeartbeats 3200000 in
set_option maxRecDepth 100000 in
theorem aig_copy (hg : GraphAt w p F g) (hm : g.nodes.length ≤ 1000000) : Calls Tryz.prog 38 #[.pointer (some ⟨p, 0, none⟩)] w (CopyPost g w) := by
  have hile : (ins g.nodes).length ≤ g.nodes.length := insFrom_length 0 g.nodes
  obtain ⟨an, cn, ai, ci, m, f, rfl, hc⟩ := hg
  have c0 : w.cell? ⟨p, 0, none⟩ = some (.bool g.fold) := blk_cell hc.blk 0
  have c1 : w.cell? ⟨p, 1, none⟩ = some (.bool g.hash) := blk_cell hc.blk 1
  have c2 := hc.c2
  have c3 := hc.c3
  have c4 := hc.c4
  have HN := Lib.hid hc.nodes
  have HI := Lib.hid hc.inputs
  have HM := Lib.hid hc.made
  have HIS := Lib.hid hc.is
  have HWF := Lib.hid hc.wf
  clear hc
  go_enter Tryz.func38, Tryz.ntmps38
  go_wp2_with (go_at_call 31; refine (aig_none p m _ (by assumption)).mono ?_; rintro e w' ⟨rfl, rfl⟩)
  go_region_held3 (fun w' => Kept [] w w' ∧ w'.cell? ⟨p, 0, none⟩ = some (.bool g.fold) ∧ w'.cell? ⟨p, 1, none⟩ = some (.bool g.hash) ∧ w'.cell? ⟨p, 2, none⟩ = some (.slice an g.nodes.length cn) ∧ w'.cell? ⟨p, 3, none⟩ = some (.slice ai (ins g.nodes).length ci) ∧ w'.cell? ⟨p, 4, none⟩ = some (.map (some m)))
    (first
      | (refine keep5 ?_ c0 c1 c2 c3 c4; (try go_split_ands); ((repeat (first | with_reducible exact Kept.refl _ _ | with_reducible assumption | with_reducible apply Kept.drew | with_reducible apply Kept.alloc | refine Kept.trans ?_ hs1.kept | refine Kept.trans ?_ hs2.kept | refine Kept.trans ?_ hs3.kept))); done)
      | go_keep)
    (first
      | (go_at_call 81; refine (clone_pairs _ _ _ _ _ (own_kept HN.out (F := []) (by go_split_ands; (repeat (first | with_reducible exact Kept.refl _ _ | with_reducible assumption | with_reducible apply Kept.drew | with_reducible apply Kept.alloc | refine Kept.trans ?_ hs1.kept | refine Kept.trans ?_ hs2.kept | refine Kept.trans ?_ hs3.kept))) (by simp)) (by omega)).mono ?_; rintro e u1 ⟨a1, k1, rfl, ho1, hs1⟩)
      | (go_at_call 82; refine (clone_ints _ _ _ _ _ (HI.out.kept0 (by go_split_ands; (repeat (first | with_reducible exact Kept.refl _ _ | with_reducible assumption | with_reducible apply Kept.drew | with_reducible apply Kept.alloc | refine Kept.trans ?_ hs1.kept | refine Kept.trans ?_ hs2.kept | refine Kept.trans ?_ hs3.kept)))) (by omega)).mono ?_; rintro e u2 ⟨a2, k2, rfl, ho2, hs2⟩)
      | (go_at_call 83; refine (clone_mapV (HM.out.kept (F := []) (by go_split_ands; (repeat (first | with_reducible exact Kept.refl _ _ | with_reducible assumption | with_reducible apply Kept.drew | with_reducible apply Kept.alloc | refine Kept.trans ?_ hs1.kept | refine Kept.trans ?_ hs2.kept | refine Kept.trans ?_ hs3.kept))) (by simp))).mono ?_; rintro e u3 ⟨m3, rfl, ho3, hs3⟩))
  go_wp2
  go_ret
  obtain ⟨cs, hcs⟩ : ∃ cs, cs = gCells g a1 k1 a2 k2 m3 := ⟨_, rfl⟩
  have hk12 := hs1.kept.trans hs2.kept
  have hkA : Kept [] u1 (u3.alloc (.cells cs 95)) := (hs2.kept.trans hs3.kept).alloc _
  have hkB : Kept [] u2 (u3.alloc (.cells cs 95)) := hs3.kept.alloc _
  have hkC : Kept [] u3 (u3.alloc (.cells cs 95)) := (Kept.refl [] _).alloc _
  have hkw : Kept [] w (u3.alloc (.cells cs 95)) := (((Kept.refl [] w).drew.trans hs1.kept).trans (hs2.kept.trans hs3.kept)).alloc _
  have z1 : w.heap.size ≤ u1.heap.size := hs1.kept.size
  have z2 := hs2.kept.size
  have z3 := hs3.kept.size
  have hblk : (u3.alloc (.cells cs 95)).heap[u3.heap.size]? = some (.cells cs 95 (0, 0)) := heap_alloc_new u3 _
  subst hcs
  refine ⟨u3.heap.size, gFoot u3.heap.size m3 a1 a2, by simp [go_sem], ⟨a1, k1, a2, k2, m3, f, rfl, ⟨hblk, own_kept ho1 hkA (by simp), ho2.kept0 hkB, ho3.kept hkC (by simp), HIS.out, HWF.out⟩⟩, ⟨hkw, fun b hb => .inr ?_⟩⟩
  simp only [gFoot, List.mem_cons, List.mem_append] at hb
  rcases hb with rfl | rfl | hb | hb
  · omega
  · rcases hs3.fresh b (by simp) with h | h
    · simp at h
    · omega
  · rcases hs1.fresh b hb with h | h
    · simp at h
    · exact h
  · rcases hs2.fresh b hb with h | h
    · simp at h
    · omega
end Go.Proofs.YtnjoklcddodfeaaGreatDoor

namespace Go.Proofs.YtnjoklcddodfeaaGreatDoor
open Go.ChangeShapes Go.WideShapes Go.ChangeAt Go.RowKit
set_option linter.unusedVariables false

variable {w w' : World} {F F' : List Nat} {b : Nat} {o o' : Obj}
structure Mine (w : World) (F : List Nat) (b : Nat) (o : Obj) : Prop where
  heap : w.heap[b]? = some o
  out : b ∉ F
theorem Mine.lt (h : Mine w F b o) : b < w.heap.size := (Array.getElem?_eq_some_iff.1 h.heap).1
theorem Mine.step (h : Mine w F b o) (hst : Stepped w w' F F') : Mine w' F' b o :=
  ⟨hst.kept.heap h.heap h.out, fun hm => (hst.fresh _ hm).elim h.out fun h1 => absurd h.lt (by omega)⟩
theorem Mine.alloc (h : Mine w F b o) (o' : Obj) : Mine (w.alloc o') F b o :=
  ⟨((Kept.refl [] w).alloc o').heap h.heap (by simp), h.out⟩
theorem Mine.drew (h : Mine w F b o) : Mine w.drew F b o := ⟨h.heap, h.out⟩
theorem Mine.drewN (h : Mine w F b o) (n : Nat) : Mine (w.drewN n) F b o := ⟨h.heap, h.out⟩
theorem Mine.new (hb : b = w.heap.size) (hF : ∀ x ∈ F, x < w.heap.size) : Mine (w.alloc o) F b o := by
  subst hb
  exact ⟨by show (w.heap.push _)[w.heap.size]? = _; simp, fun hm => absurd (hF _ hm) (Nat.lt_irrefl _)⟩
theorem Mine.other (h : Mine w F b o) {p : Addr} (hp : p.block ≠ b) (v : Value) : Mine (w.setCell p v) F b o :=
  ⟨(Below.heap_setCell _ _ _ _ (fun e => hp e.symm)).trans h.heap, h.out⟩
theorem blk_set' {w : World} {b : Nat} {cs : Array Value} {t : TypeId} {fr : Nat × Nat} (h : w.heap[b]? = some (.cells cs t fr)) (j : Nat) (v : Value) : (w.setCell ⟨b, j, none⟩ v).heap[b]? = some (.cells (cs.setIfInBounds j v) t fr) := by
  simp [World.setCell, Array.getElem?_modify, h]
theorem Mine.set2 {x0 x1 a0 a1 : Value} {t : TypeId} (h : Mine w F b (.cells #[x0, x1] t (0, 0))) : Mine ((w.setCell ⟨b, 0, none⟩ a0).setCell ⟨b, 1, none⟩ a1) F b (.cells #[a0, a1] t (0, 0)) :=
  ⟨blk_set' (blk_set' h.heap 0 a0) 1 a1, h.out⟩
theorem Mine.more (h : Mine w F b o) (hF : b ∉ F') : Mine w F' b o := ⟨h.heap, hF⟩
theorem Stepped.setNew {a w : World} (h : Stepped a w F F') {p : Addr} (hp : a.heap.size ≤ p.block) (v : Value) : Stepped a (w.setCell p v) F F' := ⟨h.kept.setCell (.inr hp) v, h.fresh⟩
/-- The whole block written. -/
theorem Kept.setRow {a w : World} (h : Kept F a w) {g : Nat} (hp : g ∈ F ∨ a.heap.size ≤ g) (cs : Array Value) : Kept F a (w.setRow g cs) :=
  ⟨h.os, h.tape, h.output, by simpa using h.size, fun k hk hn => (setRow_other _ _ _ _ (by rintro rfl; rcases hp with h | h; exact hn h; omega)).trans (h.block k hk hn)⟩
theorem Stepped.rowNew {a w : World} (h : Stepped a w F F') {g : Nat} (hp : a.heap.size ≤ g) (cs : Array Value) : Stepped a (w.setRow g cs) F F' := ⟨h.kept.setRow (.inr hp) cs, h.fresh⟩
theorem Stepped.rowOwn {a w : World} (h : Stepped a w F F') {g : Nat} (hp : g ∈ F') (cs : Array Value) : Stepped a (w.setRow g cs) F F' := ⟨h.kept.setRow (h.fresh _ hp) cs, h.fresh⟩
theorem Mine.row {old cs : Array Value} {t : TypeId} {fr : Nat × Nat} (h : Mine w F b (.cells old t fr)) : Mine (w.setRow b cs) F b (.cells cs t fr) := ⟨setRow_heap _ _ _ _ _ _ h.heap, h.out⟩
theorem Mine.rowOther {g : Nat} {cs : Array Value} (h : Mine w F b o) (hne : b ≠ g) : Mine (w.setRow g cs) F b o := ⟨(setRow_other _ _ _ _ hne).trans h.heap, h.out⟩
/-- A store of a whole struct into a block of one's own, inside a region that draws its order. -/
theorem step_row {P : Program} {w : World} {ops : Array Oper} {o : Oper} {act : Act} {K : Act → World → Prop} {Q : Exit → Act → World → Prop} {E : Prop} {s x : Operand} {e t : TypeId} {b : Nat} {cells old : Array Value}
    (hgd : o.guard = none) (ho : o.op = .store e s x) (hs : act.eval s = .pointer (some ⟨b, 0, none⟩)) (hx : act.eval x = .agg cells)
    (hi : (P.info? e).map (·.size) = some cells.size) (hold : old.size = cells.size) (h1 : cells.all (·.oneCell') = true) (hb : w.heap[b]? = some (.cells old t (0, 0)))
    (h : K (act.put o.dst undef) (w.setRow b cells)) :
    if Region.wanted o (yielded ops act.tmps) = true then Oper.wp P o act w K Q else E := by
  rw [if_pos (by simp [Region.wanted, hgd])]
  exact wp_store_row e s x ho b cells hs hx t old hb hi hold h1 h
end Go.Proofs.YtnjoklcddodfeaaGreatDoor

namespace Go.Proofs.YtnjoklcddodfeaaGreatDoor
open Go.ChangeShapes Go.WideShapes Go.ChangeAt Go.RowKit
open Go.Maps (Keyed)
open Go.WideMaps
set_option linter.unusedVariables false

theorem step_cat {P : Program} {w : World} {ops : Array Oper} {o : Oper} {act : Act} {K : Act → World → Prop} {Q : Exit → Act → World → Prop} {E : Prop} {s x : Operand} {t e : TypeId} {z : Value} {size bytes : Nat} {a : Option Addr} {n cap : Nat} {xs news : List Value} {ad : Addr} {m c : Nat}
    (hgd : o.guard = none) (ho : o.op = .call { callee := .builtin .append, args := #[s, x], argTypes := #[t, t] })
    (ht : P.underlying t = some (.slice e)) (hinfo : (P.info? e).map (fun i => (i.zero, i.size, i.bytes)) = some (some z, size, bytes)) (hz : z.cells.size = size) (hsz : 0 < size)
    (hs : act.eval s = .slice a n cap) (hx : act.eval x = .slice (some ad) m c)
    (hown : w.ownsRow 0 e size (.slice a n cap) n xs) (hl : news.length = m * size) (hnews : ∀ j u, news[j]? = some u → w.cell? (ad.add j) = some u) (hu : ∀ u ∈ news, u.oneCell' = true) (h63 : n + m ≤ maxLen) (hbytes : (n + m) * bytes ≤ 140737488355328)
    (h : ∀ a' cap' w', w'.ownsRow 0 e size (.slice a' (n + m) cap') (n + m) (xs ++ news) → Stepped w w' (ft a) (ft a') → K (act.put o.dst (.slice a' (n + m) cap')) w') :
    if Region.wanted o (yielded ops act.tmps) = true then Oper.wp P o act w K Q else E := by
  rw [if_pos (by simp [Region.wanted, hgd])]
  obtain ⟨i, hi, hiz, hisz, hib⟩ := info3 hinfo
  obtain ⟨v', w', hr, hown', hg, _, hat⟩ := run_append_own_at (P := P) w 0 t o.type e i z size bytes ht hi hiz hisz hib hz hsz (.slice a n cap) n xs hown ad m c news hl hnews hu h63 hbytes (Nat.zero_le _)
  unfold Oper.wp execOp
  simp only [ho, resolve, invoke, builtin, Sem.run_bind, Sem.run_pure, Result.andThen_ok, List.map_toArray, List.map_cons, List.map_nil, hs, hx, hr]
  have hform : ∃ a' cap', v' = .slice a' (n + m) cap' := by
    rcases hown'.2 with ⟨hv, h0⟩ | ⟨g, c, cur, hv, _⟩
    · exact ⟨none, 0, by rw [hv, h0]⟩
    · exact ⟨_, _, hv⟩
  obtain ⟨a', cap', rfl⟩ := hform
  refine h a' cap' w' hown' ⟨⟨hg.os, hg.tape, hg.output, hg.size, fun k hk hn => ?_⟩, fun b hb => ?_⟩
  · exact hg.block k hk fun e' => hn ((ownBlock_ft _ _ _ _).1 e'.symm)
  · have hb' := (ownBlock_ft a' (n + m) cap' b).2 hb
    rcases hat with h1 | h1
    · rw [h1] at hb'
      exact .inl ((ownBlock_ft _ _ _ _).1 hb')
    · rw [h1] at hb'
      simp at hb'
      exact .inr (by omega)
end Go.Proofs.YtnjoklcddodfeaaGreatDoor
