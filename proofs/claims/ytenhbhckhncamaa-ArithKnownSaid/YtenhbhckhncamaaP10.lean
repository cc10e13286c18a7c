/-
  Contracts of package aig: New, Input, Mux, Raw, Gate, Inputs.
-/
import Derived.Test.YtenhbhckhncamaaP09
namespace Go.Proofs.Ytenhbhckhncamaa
open Go.ChangeShapes Go.WideShapes Go.ChangeAt Go.RowKit
open Go.Maps (Keyed)
open Go.WideMaps
set_option linter.unusedVariables false

variable {w w' : World} {p : Nat} {F S : List Nat} {g : Gr}

theorem sln_new (w : World) (K : IntKind) (l : List Nat) (t : TypeId) : SlN (w.alloc (.cells (nats K l).toArray t)) K (some ⟨w.heap.size, 0, none⟩) l := fun k hk => by
  have hadd : (⟨w.heap.size, 0, none⟩ : Addr).add k = ⟨w.heap.size, k, none⟩ := by unfold Addr.add; split <;> simp_all
  refine ⟨_, rfl, ?_⟩
  rw [hadd, blk_cell (heap_alloc_new w _)]
  simp [nats, hk]

set_option maxHeartbeats 400000 in
theorem aig_mux {c a b : Nat} (hg : GraphAt w p F g) (hm : g.nodes.length ≤ 199000) (hc : g.ok c) (ha : g.ok a) (hb : g.ok b) :
    Calls Try.prog 33 #[.pointer (some ⟨p, 0, none⟩), .int .u32 c, .int .u32 a, .int .u32 b] w (Twos (muxG g c a b) w p F) := by
  have HCl := Lib.hid (Gr.ok_lt hc (by omega))
  have hok : ∀ x ∈ [c, a, b], g.ok x := by simp [hc, ha, hb]
  have hg1 := hg.kept0 ((Kept.refl [] w).alloc (.cells #[.int .u32 (c : Int), .int .u32 (a : Int), .int .u32 (b : Int)] 34))
  have HAS := Lib.hid (aig_asks hg1 (by omega) (some ⟨w.heap.size, 0, none⟩) 3 3 [c, a, b] rfl (by omega) (sln_new w .u32 [c, a, b] 34) (fun x hx => Gr.ok_lt (hok x hx) (by omega)))
  have HE := Lib.hid (asksE_ok hok)
  have HB := Lib.hid (fun (w : World) (F : List Nat) (h : GraphAt w p F g) => aig_both h hm hc ha (ok_nt hc) hb)
  have HG1 := Lib.hid hg1
  clear hg hc ha hb hok hg1
  go_enter Try.func33, Try.ntmps33
  go_wp2_with (first
    | (go_at_call 56; refine HAS.out.mono ?_; rintro e w1 ⟨rfl, hk1⟩; rw [HE.out])
    | (go_at_call 47; refine (lit_not c _ HCl.out).mono ?_; rintro e w' ⟨rfl, rfl⟩)
    | (go_at_call 57; refine (HB.out _ _ (HG1.out.kept0 hk1)).mono ?_; rintro e w2 ⟨F2, rfl, hg2, hst2⟩))
  go_ret2
  exact ⟨F2, rfl, hg2, (⟨(((Kept.refl [] w).alloc _).trans hk1).more (by simp), fun b hb => .inl hb⟩ : Stepped w w1 F F).trans hst2⟩

theorem aig_add_i (p : Nat) (bf bh : Bool) (an : Option Addr) (n cn : Nat) (vi vm : Value) (ns : List (Nat × Nat)) (a b : Nat) (x y : Int) (hx : x = a) (hy : y = b) (w : World) (hn : ns.length = n) (hm : n ≤ 1000000)
    (hp : w.heap[p]? = some (.cells #[.bool bf, .bool bh, .slice an n cn, vi, vm] 48 (0, 0))) (ho : Own2 w 97 an n cn (pcells ns)) :
    Calls Try.prog 60 #[.pointer (some ⟨p, 0, none⟩), .agg #[.int .u32 x, .int .u32 y]] w fun e w' => ∃ an' cn', e = .returned (.tuple #[.int .u32 (2 * n : Nat), .int .i64 0]) ∧
      w'.heap[p]? = some (.cells #[.bool bf, .bool bh, .slice an' (n + 1) cn', vi, vm] 48 (0, 0)) ∧ Own2 w' 97 an' (n + 1) cn' (pcells (ns ++ [(a, b)])) ∧ Stepped w w' (p :: ft an) (p :: ft an') := by
  subst hx hy
  exact aig_add p bf bh an n cn vi vm ns a b w hn hm hp ho
/-- the inputs' row has grown and stands in the struct again -/
theorem graph_in1 {an ai a' : Option Addr} {cn ci m c' : Nat} {f : Value → Option Value} {w1 : World} (hc : GraphC w p g an cn ai ci m f) (hst1 : Stepped w w1 (ft ai) (ft a')) (ho : Own w1 3 a' ((ins g.nodes).length + 1) c' (nats .i64 (ins g.nodes) ++ [.int .i64 (g.nodes.length : Int)])) :
    let w2 := w1.setCell ⟨p, 3, none⟩ (.slice a' ((ins g.nodes).length + 1) c')
    w2.heap[p]? = some (.cells #[.bool g.fold, .bool g.hash, .slice an g.nodes.length cn, .slice a' ((ins g.nodes).length + 1) c', .map (some m)] 48 (0, 0)) ∧
    Own2 w2 97 an g.nodes.length cn (pcells g.nodes) ∧ Own w2 3 a' ((ins g.nodes).length + 1) c' (nats .i64 (ins g.nodes ++ [g.nodes.length])) ∧ MapV w2 Try.prog 97 m f ∧ Stepped w w2 (p :: ft ai) (p :: ft a') := by
  intro w2
  have hpai : p ∉ ft ai := blk_apart hc.blk hc.inputs (by decide)
  have hnai : ∀ b ∈ ft an, b ∉ ft ai := owns_apart hc.nodes hc.inputs (by decide)
  have hpan : p ∉ ft an := blk_apart hc.blk hc.nodes (by decide)
  have hmp : m ≠ p := fun h => hc.made.nocell hc.blk h.symm
  have hmai : m ∉ ft ai := map_apart hc.made hc.inputs
  have hb1 := hst1.kept.heap hc.blk hpai
  have hpa' : p ∉ ft a' := blk_apart hb1 ho (by decide)
  have hk2 : Kept [p] w1 w2 := (Kept.refl [p] w1).setCell (p := ⟨p, 3, none⟩) (.inl (by simp)) _
  refine ⟨by simpa [gCells] using blk_set hb1 3 (.slice a' ((ins g.nodes).length + 1) c'), (hc.nodes.kept hst1.kept hnai).kept hk2 (fun b hb h => hpan (by simp at h; exact h ▸ hb)), ?_, (hc.made.kept hst1.kept hmai).kept hk2 (by simpa using hmp), ?_⟩
  · rw [← nats_append]
    exact ho.kept hk2 (fun b hb h => hpa' (by simp at h; exact h ▸ hb))
  · exact (hst1.behind [p]).setCell (p := ⟨p, 3, none⟩) (by simp) _
theorem graph_in2 {an a' an' : Option Addr} {cn m c' cn' : Nat} {f : Value → Option Value} {w2 w3 : World} (hw : WF g.nodes)
    (hb2 : w2.heap[p]? = some (.cells #[.bool g.fold, .bool g.hash, .slice an g.nodes.length cn, .slice a' ((ins g.nodes).length + 1) c', .map (some m)] 48 (0, 0)))
    (hn2 : Own2 w2 97 an g.nodes.length cn (pcells g.nodes)) (hi2 : Own w2 3 a' ((ins g.nodes).length + 1) c' (nats .i64 (ins g.nodes ++ [g.nodes.length]))) (hm2 : MapV w2 Try.prog 97 m f)
    (hf : ∀ a b, f (pairV a b) = (look g.nodes a b).map lv)
    (hb3 : w3.heap[p]? = some (.cells #[.bool g.fold, .bool g.hash, .slice an' (g.nodes.length + 1) cn', .slice a' ((ins g.nodes).length + 1) c', .map (some m)] 48 (0, 0)))
    (hn3 : Own2 w3 97 an' (g.nodes.length + 1) cn' (pcells (g.nodes ++ [(2 * g.nodes.length, 2 * g.nodes.length)]))) (hst : Stepped w2 w3 (p :: ft an) (p :: ft an')) :
    GraphAt w3 p (gFoot p m an' a') (inputG g).1 ∧ Stepped w2 w3 (gFoot p m an a') (gFoot p m an' a') := by
  have hs := inputG_spec hw
  have hia : ∀ b ∈ ft a', b ∉ p :: ft an := fun b hb h => by
    rcases List.mem_cons.1 h with h | h
    · subst h; exact blk_apart hb2 hi2 (by decide) hb
    · exact owns_apart hi2 hn2 (by decide) b hb h
  have hma : m ∉ p :: ft an := fun h => by
    rcases List.mem_cons.1 h with h | h
    · exact hm2.nocell hb2 h.symm
    · exact map_apart hm2 hn2 h
  refine ⟨⟨an', cn', a', c', m, f, rfl, ⟨?_, ?_, ?_, hm2.kept hst.kept hma, ?_, hs.1⟩⟩, ?_⟩
  · have e : (inputG g).1.nodes.length = g.nodes.length + 1 := by simp [inputG]
    have e2 : (ins (inputG g).1.nodes).length = (ins g.nodes).length + 1 := by rw [hs.2.2]; simp
    unfold gCells
    rw [e, e2]
    exact hb3
  · have e : (inputG g).1.nodes.length = g.nodes.length + 1 := by simp [inputG]
    rw [e]
    exact hn3
  · rw [hs.2.2]
    have := hi2.kept hst.kept hia
    simpa using this
  · intro a b
    show _ = (look (g.nodes ++ [_]) a b).map lv
    rw [look_snoc, hf, if_neg]
    · simp
    · rintro ⟨h, h2⟩
      simp only [Prod.mk.injEq] at h
      omega
  · refine ⟨hst.kept.more fun b hb => ?_, fun b hb => ?_⟩
    · rcases List.mem_cons.1 hb with h | h
      · subst h; simp [gFoot]
      · simp [gFoot, h]
    · simp only [gFoot, List.mem_cons, List.mem_append] at hb ⊢
      rcases hb with h | h | h | h
      · exact .inl (.inl h)
      · exact .inl (.inr (.inl h))
      · rcases hst.fresh b (by simp [h]) with h1 | h1
        · rcases List.mem_cons.1 h1 with h2 | h2
          · exact .inl (.inl h2)
          · exact .inl (.inr (.inr (.inl h2)))
        · exact .inr h1
      · exact .inl (.inr (.inr (.inr h)))

set_option maxHeartbeats 800000 in
theorem aig_input (hg : GraphAt w p F g) (hm : g.nodes.length ≤ 199000) :
    Calls Try.prog 38 #[.pointer (some ⟨p, 0, none⟩)] w (Twos (inputG g) w p F) := by
  have hpos := hg.wf.pos
  have hile : (ins g.nodes).length ≤ g.nodes.length := insFrom_length 0 g.nodes
  have HSP := Lib.hid (inputG_spec hg.wf)
  have HI := Lib.hid (show inputG g = ({ g with nodes := g.nodes ++ [(2 * g.nodes.length, 2 * g.nodes.length)] }, 2 * g.nodes.length) from rfl)
  have HO := Lib.hid (show ofV (g.nodes.length : Int) false = 2 * g.nodes.length ∧ ofE (g.nodes.length : Int) = 0 from ⟨by unfold ofV ifL; rw [if_pos (by omega)]; simp, by unfold ofE; rw [if_pos (by omega)]⟩)
  obtain ⟨an, cn, ai, ci, m, f, rfl, hc⟩ := hg
  have c2 := hc.c2
  have c3 := hc.c3
  have f3 : w.frozen? ⟨p, 3, none⟩ = false := blk_free hc.blk 3
  have hlt := blk_lt hc.blk
  have d3 : ∀ o, (w.alloc o).cell? ⟨p, 3, none⟩ = some (.slice ai (ins g.nodes).length ci) := fun o => cell_alloc c3 o
  have d2 : ∀ o, (w.alloc o).cell? ⟨p, 2, none⟩ = some (.slice an g.nodes.length cn) := fun o => cell_alloc c2 o
  have fz1 : ∀ o, (w.alloc o).frozen? ⟨p, 3, none⟩ = false := fun o => (((Kept.refl [] w).alloc o).frozen hlt (by simp)).trans f3
  have HC := Lib.hid hc; clear hc
  have HPI := Lib.hid (show p ∉ ft ai from blk_apart HC.out.blk HC.out.inputs (by decide))
  go_enter Try.func38, Try.ntmps38
  go_wp2_with (first
    | (go_at_call 37; refine (aig_none p m _ HC.out.c4).mono ?_; rintro e w' ⟨rfl, rfl⟩)
    | (go_at_call 59; refine (lit_of _ _ _).mono ?_; rintro e w' ⟨rfl, rfl⟩; rw [HO.out.1, HO.out.2]))
  go_region_law ((refine step_push (by rfl) (by rfl) Try.underlying45 int_info rfl (by omega) (by rfl) (by rfl) (news := [.int .i64 (g.nodes.length : Int)]) (own_kept (w := w) HC.out.inputs (((Kept.refl [] w).alloc _).drew) (by simp)) rfl (news_blk (t := 3) (by exact heap_alloc_new w (.cells #[.int .i64 (g.nodes.length : Int)] 3))) (by simp [Value.oneCell']) (by unfold maxLen; omega) (by omega) ?_; intro a' c' w1 hown1 hst1; have cw3 : w1.cell? ⟨p, 3, none⟩ = some (.slice ai (ins g.nodes).length ci) := hst1.kept.cell (d3 _) HPI.out; have fw3 : w1.frozen? ⟨p, 3, none⟩ = false := (hst1.kept.frozen (by simp [go_sem]; omega) HPI.out).trans (fz1 _)))
  all_goals
    have HIN := Lib.hid (graph_in1 HC.out (((Stepped.refl w _).alloc _).drew.trans hst1) hown1)
    go_wp2_with (go_at_call 60; refine (aig_add_i p g.fold g.hash an g.nodes.length cn (.slice a' ((ins g.nodes).length + 1) c') (.map (some m)) g.nodes (2 * g.nodes.length) (2 * g.nodes.length) _ _ (by omega) (by omega) _ rfl (by omega) HIN.out.1 HIN.out.2.1).mono ?_; rintro e w3 ⟨an', cn', rfl, hb3, hn3, hst3⟩)
    go_ret2
    obtain ⟨h1, h2⟩ := graph_in2 HC.out.wf HIN.out.1 HIN.out.2.1 HIN.out.2.2.1 HIN.out.2.2.2.1 HC.out.is hb3 hn3 hst3
    refine ⟨_, by rw [HI.out]; rfl, h1, Stepped.trans ?_ h2⟩
    have h3 := (HIN.out.2.2.2.2.behind (m :: ft an))
    exact h3.weak (by simp [gFoot]; grind) (by simp [gFoot]; grind)

theorem graph_new {w W : World} {s m p : Nat} {bf bh : Bool} (hs : W.heap[s]? = some (.cells #[.int .u32 0, .int .u32 0] 97 (0, 0))) (hm : W.heap[m]? = some (.map #[] 0))
    (hp : W.heap[p]? = some (.cells #[.bool bf, .bool bh, .slice (some ⟨s, 0, none⟩) 1 1, .slice none 0 0, .map (some m)] 48 (0, 0))) (h1 : w.heap.size ≤ s) (h2 : w.heap.size ≤ m) (h3 : w.heap.size ≤ p) (hk : Kept [] w W) :
    ∃ F, GraphAt W p F { fold := bf, hash := bh, nodes := [(0, 0)] } ∧ Stepped w W [] F := by
  refine ⟨gFoot p m (some ⟨s, 0, none⟩) none, ⟨_, 1, none, 0, m, fun _ => none, rfl, ⟨?_, ?_, ?_, ⟨#[], 0, hm, by simp, by simp, by simp⟩, ?_, ⟨rfl, ?_⟩⟩⟩, hk, ?_⟩
  · simpa [gCells, ins, insFrom, inAt] using hp
  · exact ⟨by simp [pcells], .inr ⟨s, 1, _, rfl, Nat.zero_le _, hs, Nat.le_refl _, by decide, by simp, by simp [pcells]⟩⟩
  · have : ins [(0, 0)] = [] := by simp [ins, insFrom, inAt]
    show Own W _ none (ins [(0, 0)]).length 0 (nats .i64 (ins [(0, 0)]))
    rw [this]
    exact Own.nil _ _
  · intro a b
    have : look [(0, 0)] a b = none := by
      simp only [look, lookFrom]
      rw [if_neg]
      rintro ⟨h, h2⟩
      simp only [Prod.mk.injEq] at h
      omega
    rw [this]; rfl
  · intro i a b hi
    cases i with
    | zero => simp at hi; omega
    | succ i => simp at hi
  · intro b hb
    simp [gFoot, ft] at hb
    rcases hb with h | h | h <;> subst h <;> exact .inr (by assumption)

theorem new_end1 (w : World) (bf bh : Bool) : ∃ F, GraphAt ((((w.alloc (.cells #[.bool bf, .bool bh] 43)).alloc (Obj.cells #[.int .u32 0, .int .u32 0] 97)).alloc (Obj.map #[] 0)).alloc (Obj.cells #[.bool bf, .bool bh, .slice (some ⟨w.heap.size + 1, 0, none⟩) 1 1, .slice none 0 0, .map (some (w.heap.size + 1 + 1))] 48)).drew (w.heap.size + 1 + 1 + 1) F { fold := bf, hash := bh, nodes := [(0, 0)] } ∧
    Stepped w ((((w.alloc (.cells #[.bool bf, .bool bh] 43)).alloc (Obj.cells #[.int .u32 0, .int .u32 0] 97)).alloc (Obj.map #[] 0)).alloc (Obj.cells #[.bool bf, .bool bh, .slice (some ⟨w.heap.size + 1, 0, none⟩) 1 1, .slice none 0 0, .map (some (w.heap.size + 1 + 1))] 48)).drew [] F := by
  refine graph_new (s := w.heap.size + 1) (m := w.heap.size + 1 + 1) (p := w.heap.size + 1 + 1 + 1) ?_ ?_ ?_ (by omega) (by omega) (by omega) ((((((Kept.refl [] w).alloc _).alloc _).alloc _).alloc _).drew)
  · show ((((w.heap.push _).push (Obj.cells #[.int .u32 0, .int .u32 0] 97)).push (Obj.map #[] 0)).push (Obj.cells #[.bool bf, .bool bh, .slice (some ⟨w.heap.size + 1, 0, none⟩) 1 1, .slice none 0 0, .map (some (w.heap.size + 1 + 1))] 48))[w.heap.size + 1]? = _
    simp [Array.getElem_push]
  · show ((((w.heap.push _).push (Obj.cells #[.int .u32 0, .int .u32 0] 97)).push (Obj.map #[] 0)).push (Obj.cells #[.bool bf, .bool bh, .slice (some ⟨w.heap.size + 1, 0, none⟩) 1 1, .slice none 0 0, .map (some (w.heap.size + 1 + 1))] 48))[w.heap.size + 1 + 1]? = _
    simp [Array.getElem_push]
  · show ((((w.heap.push _).push (Obj.cells #[.int .u32 0, .int .u32 0] 97)).push (Obj.map #[] 0)).push (Obj.cells #[.bool bf, .bool bh, .slice (some ⟨w.heap.size + 1, 0, none⟩) 1 1, .slice none 0 0, .map (some (w.heap.size + 1 + 1))] 48))[w.heap.size + 1 + 1 + 1]? = _
    simp [Array.getElem_push]
theorem new_end2 (w : World) (bf bh : Bool) : ∃ F, GraphAt ((((w.alloc (.cells #[.bool bf, .bool bh] 43)).alloc (Obj.map #[] 0)).alloc (Obj.cells #[.int .u32 0, .int .u32 0] 97)).alloc (Obj.cells #[.bool bf, .bool bh, .slice (some ⟨w.heap.size + 1 + 1, 0, none⟩) 1 1, .slice none 0 0, .map (some (w.heap.size + 1))] 48)).drew (w.heap.size + 1 + 1 + 1) F { fold := bf, hash := bh, nodes := [(0, 0)] } ∧
    Stepped w ((((w.alloc (.cells #[.bool bf, .bool bh] 43)).alloc (Obj.map #[] 0)).alloc (Obj.cells #[.int .u32 0, .int .u32 0] 97)).alloc (Obj.cells #[.bool bf, .bool bh, .slice (some ⟨w.heap.size + 1 + 1, 0, none⟩) 1 1, .slice none 0 0, .map (some (w.heap.size + 1))] 48)).drew [] F := by
  refine graph_new (s := w.heap.size + 1 + 1) (m := w.heap.size + 1) (p := w.heap.size + 1 + 1 + 1) ?_ ?_ ?_ (by omega) (by omega) (by omega) ((((((Kept.refl [] w).alloc _).alloc _).alloc _).alloc _).drew)
  · show ((((w.heap.push _).push (Obj.map #[] 0)).push (Obj.cells #[.int .u32 0, .int .u32 0] 97)).push (Obj.cells #[.bool bf, .bool bh, .slice (some ⟨w.heap.size + 1 + 1, 0, none⟩) 1 1, .slice none 0 0, .map (some (w.heap.size + 1))] 48))[w.heap.size + 1 + 1]? = _
    simp [Array.getElem_push]
  · show ((((w.heap.push _).push (Obj.map #[] 0)).push (Obj.cells #[.int .u32 0, .int .u32 0] 97)).push (Obj.cells #[.bool bf, .bool bh, .slice (some ⟨w.heap.size + 1 + 1, 0, none⟩) 1 1, .slice none 0 0, .map (some (w.heap.size + 1))] 48))[w.heap.size + 1]? = _
    simp [Array.getElem_push]
  · show ((((w.heap.push _).push (Obj.map #[] 0)).push (Obj.cells #[.int .u32 0, .int .u32 0] 97)).push (Obj.cells #[.bool bf, .bool bh, .slice (some ⟨w.heap.size + 1 + 1, 0, none⟩) 1 1, .slice none 0 0, .map (some (w.heap.size + 1))] 48))[w.heap.size + 1 + 1 + 1]? = _
    simp [Array.getElem_push]
set_option maxHeartbeats 400000 in
theorem aig_new (bf bh : Bool) (w : World) : Calls Try.prog 12 #[.agg #[.bool bf, .bool bh]] w fun e w' => ∃ p F, e = .returned (.pointer (some ⟨p, 0, none⟩)) ∧ GraphAt w' p F { fold := bf, hash := bh, nodes := [(0, 0)] } ∧ Stepped w w' [] F := by
  have hmm := @run_makeMap Try.prog
  have hmk : ∀ w, (Instr.makeSlice 44 (.int .i64 1) (.int .i64 1)).run Try.prog w = .ok (.slice (some ⟨w.heap.size, 0, none⟩) 1 1) (w.alloc (.cells #[.int .u32 0, .int .u32 0] 97)) := fun _ => by kernel_rfl
  go_enter Try.func12, Try.ntmps12
  go_wp2
  go_region
  all_goals
    go_wp2
    go_ret
    first
      | (obtain ⟨F, h1, h2⟩ := new_end1 w bf bh; exact ⟨_, F, rfl, h1, h2⟩)
      | (obtain ⟨F, h1, h2⟩ := new_end2 w bf bh; exact ⟨_, F, rfl, h1, h2⟩)

theorem own2_form {w : World} {e : TypeId} {a : Option Addr} {n cap : Nat} {xs : List Value} (h : Own2 w e a n cap xs) (hn : 0 < n) : ∃ gb, a = some ⟨gb, 0, none⟩ ∧ ∀ j, j < 2 * n → w.cell? ⟨gb, j, none⟩ = xs[j]? := by
  rcases h.2 with ⟨hv, h0⟩ | ⟨gb, cap', cur, hv, _⟩
  · omega
  · injection hv with hv
    subst hv
    exact ⟨gb, rfl, fun j hj => World.ownsRow.cellAt h j (by omega)⟩
def gateA (g : Gr) (x : Int) : Nat × Nat × Bool :=
  if 1 ≤ x ∧ x < g.nodes.length then (match g.nodes[x.toNat]? with | some (a, b) => if a / 2 = x.toNat then (0, 0, false) else (a, b, true) | none => (0, 0, false)) else (0, 0, false)
def GatePost (r : Nat × Nat × Bool) (w : World) (e : Ending) (w' : World) : Prop := e = .returned (.tuple #[.int .u32 (r.1 : Nat), .int .u32 (r.2.1 : Nat), .bool r.2.2]) ∧ Kept [] w w'
end Go.Proofs.Ytenhbhckhncamaa
