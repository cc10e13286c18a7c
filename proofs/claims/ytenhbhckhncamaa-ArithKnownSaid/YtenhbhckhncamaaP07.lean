/-
  Graphs in memory, and the contracts of package aig.
-/
import Derived.Test.YtenhbhckhncamaaP01
import Derived.Test.YtenhbhckhncamaaP04
import Derived.Test.YtenhbhckhncamaaP06
import Derived.WideKeyPair
import Derived.Deep.RegionHeld3
import Derived.Deep.RegionWith
import Derived.Deep.AppendLies
import Derived.Deep.RegionLaw
import Derived.Deep.DrawnRows
import Derived.Outline
namespace Go.Proofs.Ytenhbhckhncamaa
open Go.ChangeShapes Go.WideShapes Go.ChangeAt Go.RowKit
open Go.Maps (Keyed)
open Go.WideMaps
set_option linter.unusedVariables false

/-! ### A block that is known whole -/
theorem blk_cell {w : World} {p : Nat} {cs : Array Value} {t : TypeId} (h : w.heap[p]? = some (.cells cs t (0, 0))) (i : Nat) : w.cell? ⟨p, i, none⟩ = cs[i]? := cell_of_row w p i cs t (0, 0) h
theorem blk_free {w : World} {p : Nat} {cs : Array Value} {t : TypeId} (h : w.heap[p]? = some (.cells cs t (0, 0))) (i : Nat) : w.frozen? ⟨p, i, none⟩ = false := by simp [World.frozen?, h]
theorem blk_set {w : World} {p : Nat} {cs : Array Value} {t : TypeId} (h : w.heap[p]? = some (.cells cs t (0, 0))) (i : Nat) (u : Value) : (w.setCell ⟨p, i, none⟩ u).heap[p]? = some (.cells (cs.setIfInBounds i u) t (0, 0)) := by
  simp [World.setCell, Array.getElem?_modify, h]
theorem blk_lt {w : World} {p : Nat} {o : Obj} (h : w.heap[p]? = some o) : p < w.heap.size := (Array.getElem?_eq_some_iff.1 h).1
/-- an own slice of another element type lies elsewhere -/
theorem blk_apart {w : World} {p : Nat} {cs : Array Value} {t e : TypeId} {size n cap : Nat} {a : Option Addr} {xs : List Value} (h : w.heap[p]? = some (.cells cs t (0, 0))) (ho : w.ownsRow 0 e size (.slice a n cap) n xs) (hne : e ≠ t) : p ∉ ft a := by
  intro hp
  rcases ho.2 with ⟨hv, _⟩ | ⟨g, c, cur, hv, _, hg, _⟩
  · injection hv with hv; subst hv; simp [ft] at hp
  · injection hv with hv; subst hv; rw [mem_ft] at hp; subst hp
    rw [h] at hg
    injection hg with hg
    injection hg with _ ht
    exact hne ht.symm
theorem owns_apart {w : World} {e e' : TypeId} {size size' n n' cap cap' : Nat} {a a' : Option Addr} {xs xs' : List Value} (h : w.ownsRow 0 e size (.slice a n cap) n xs) (ho : w.ownsRow 0 e' size' (.slice a' n' cap') n' xs') (hne : e ≠ e') : ∀ b ∈ ft a, b ∉ ft a' := by
  intro b hb
  rcases h.2 with ⟨hv, _⟩ | ⟨g, c, cur, hv, _, hg, _⟩
  · injection hv with hv; subst hv; simp [ft] at hb
  · injection hv with hv; subst hv; rw [mem_ft] at hb; subst hb
    exact blk_apart hg ho hne.symm
theorem owns_lt {w : World} {e : TypeId} {size n cap : Nat} {a : Option Addr} {xs : List Value} (h : w.ownsRow 0 e size (.slice a n cap) n xs) : ∀ b ∈ ft a, b < w.heap.size := fun b hb =>
  (World.ownsRow.lt h b ((ownBlock_ft _ _ _ _).2 hb)).2
theorem map_apart {w : World} {P : Program} {k m : Nat} {f : Value → Option Value} {e : TypeId} {size n cap : Nat} {a : Option Addr} {xs : List Value} (hm : MapV w P k m f) (ho : w.ownsRow 0 e size (.slice a n cap) n xs) : m ∉ ft a := by
  intro hb
  rcases ho.2 with ⟨hv, _⟩ | ⟨g, c, cur, hv, _, hg, _⟩
  · injection hv with hv; subst hv; simp [ft] at hb
  · injection hv with hv; subst hv; rw [mem_ft] at hb; exact hm.nocell hg hb.symm

/-! ### Append of one element of whatever size, at an operation -/
section
variable {P : Program}
theorem wp_push {w : World} {o : Oper} {act : Act} {K : Act → World → Prop} {Q : Exit → Act → World → Prop} {s x : Operand} {t e : TypeId} {z : Value} {size bytes : Nat} {a : Option Addr} {n cap : Nat} {xs news : List Value} {ad : Addr} {c : Nat}
    (ho : o.op = .call { callee := .builtin .append, args := #[s, x], argTypes := #[t, t] })
    (ht : P.underlying t = some (.slice e)) (hinfo : (P.info? e).map (fun i => (i.zero, i.size, i.bytes)) = some (some z, size, bytes)) (hz : z.cells.size = size) (hsz : 0 < size)
    (hs : act.eval s = .slice a n cap) (hx : act.eval x = .slice (some ad) 1 c)
    (hown : w.ownsRow 0 e size (.slice a n cap) n xs) (hl : news.length = size) (hnews : ∀ j u, news[j]? = some u → w.cell? (ad.add j) = some u) (hu : ∀ u ∈ news, u.oneCell' = true) (h63 : n + 1 ≤ maxLen) (hbytes : (n + 1) * bytes ≤ 140737488355328)
    (h : ∀ a' cap' w', w'.ownsRow 0 e size (.slice a' (n + 1) cap') (n + 1) (xs ++ news) → Stepped w w' (ft a) (ft a') → K (act.put o.dst (.slice a' (n + 1) cap')) w') :
    o.wp P act w K Q := by
  obtain ⟨i, hi, hiz, hisz, hib⟩ := info3 hinfo
  obtain ⟨v', w', hr, hown', hg, _, hat⟩ := run_append_own_at (P := P) w 0 t o.type e i z size bytes ht hi hiz hisz hib hz hsz (.slice a n cap) n xs hown ad 1 c news (by omega) hnews hu h63 hbytes (Nat.zero_le _)
  unfold Oper.wp execOp
  simp only [ho, resolve, invoke, builtin, Sem.run_bind, Sem.run_pure, Result.andThen_ok, List.map_toArray, List.map_cons, List.map_nil, hs, hx, hr]
  have hform : ∃ a' cap', v' = .slice a' (n + 1) cap' := by
    rcases hown'.2 with ⟨_, h0⟩ | ⟨g, c, cur, hv, _⟩
    · omega
    · exact ⟨_, _, hv⟩
  obtain ⟨a', cap', rfl⟩ := hform
  refine h a' cap' w' hown' ⟨⟨hg.os, hg.tape, hg.output, hg.size, fun k hk hn => ?_⟩, fun b hb => ?_⟩
  · exact hg.block k hk fun e' => hn ((ownBlock_ft _ _ _ _).1 e'.symm)
  · have hb' := (ownBlock_ft a' (n + 1) cap' b).2 hb
    rcases hat with h1 | h1
    · rw [h1] at hb'
      exact .inl ((ownBlock_ft _ _ _ _).1 hb')
    · rw [h1] at hb'
      simp at hb'
      exact .inr (by omega)
theorem step_push {w : World} {ops : Array Oper} {o : Oper} {act : Act} {K : Act → World → Prop} {Q : Exit → Act → World → Prop} {E : Prop} {s x : Operand} {t e : TypeId} {z : Value} {size bytes : Nat} {a : Option Addr} {n cap : Nat} {xs news : List Value} {ad : Addr} {c : Nat}
    (hgd : o.guard = none) (ho : o.op = .call { callee := .builtin .append, args := #[s, x], argTypes := #[t, t] })
    (ht : P.underlying t = some (.slice e)) (hinfo : (P.info? e).map (fun i => (i.zero, i.size, i.bytes)) = some (some z, size, bytes)) (hz : z.cells.size = size) (hsz : 0 < size)
    (hs : act.eval s = .slice a n cap) (hx : act.eval x = .slice (some ad) 1 c)
    (hown : w.ownsRow 0 e size (.slice a n cap) n xs) (hl : news.length = size) (hnews : ∀ j u, news[j]? = some u → w.cell? (ad.add j) = some u) (hu : ∀ u ∈ news, u.oneCell' = true) (h63 : n + 1 ≤ maxLen) (hbytes : (n + 1) * bytes ≤ 140737488355328)
    (h : ∀ a' cap' w', w'.ownsRow 0 e size (.slice a' (n + 1) cap') (n + 1) (xs ++ news) → Stepped w w' (ft a) (ft a') → K (act.put o.dst (.slice a' (n + 1) cap')) w') :
    if Region.wanted o (yielded ops act.tmps) = true then Oper.wp P o act w K Q else E := by
  rw [if_pos (by simp [Region.wanted, hgd])]
  exact wp_push ho ht hinfo hz hsz hs hx hown hl hnews hu h63 hbytes h
end

theorem wpList_pushG {P : Program} {w : World} {ops : Array Oper} {rest : List Oper} {o : Oper} {act : Act} {Q : Exit → Act → World → Prop} {s x : Operand} {t e : TypeId} {z : Value} {size bytes : Nat} {a : Option Addr} {n cap : Nat} {xs news : List Value} {ad : Addr} {c : Nat}
    (hgd : o.guard = none) (ho : o.op = .call { callee := .builtin .append, args := #[s, x], argTypes := #[t, t] })
    (ht : P.underlying t = some (.slice e)) (hinfo : (P.info? e).map (fun i => (i.zero, i.size, i.bytes)) = some (some z, size, bytes)) (hz : z.cells.size = size) (hsz : 0 < size)
    (hs : act.eval s = .slice a n cap) (hx : act.eval x = .slice (some ad) 1 c)
    (hown : w.ownsRow 0 e size (.slice a n cap) n xs) (hl : news.length = size) (hnews : ∀ j u, news[j]? = some u → w.cell? (ad.add j) = some u) (hu : ∀ u ∈ news, u.oneCell' = true) (h63 : n + 1 ≤ maxLen) (hbytes : (n + 1) * bytes ≤ 140737488355328)
    (h : ∀ a' cap' w', w'.ownsRow 0 e size (.slice a' (n + 1) cap') (n + 1) (xs ++ news) → Stepped w w' (ft a) (ft a') → wpList P ops Q rest (act.put o.dst (.slice a' (n + 1) cap')) w') : wpList P ops Q (o :: rest) act w :=
  wpList_plain hgd fun _ hK => wp_push ho ht hinfo hz hsz hs hx hown hl hnews hu h63 hbytes fun a' c' w' h1 h2 => hK _ _ (h a' c' w' h1 h2)
/-- APPEND OF ONE ELEMENT that has just been laid into a block of its own; the world's draws may stand outermost. -/
theorem wpList_push2 {P : Program} {w w1 : World} {ops : Array Oper} {rest : List Oper} {o : Oper} {act : Act} {Q : Exit → Act → World → Prop} {s x : Operand} {t e : TypeId} {z : Value} {size bytes : Nat} {a : Option Addr} {n cap : Nat} {xs news : List Value} {c g : Nat}
    (hgd : o.guard = none) (ho : o.op = .call { callee := .builtin .append, args := #[s, x], argTypes := #[t, t] })
    (ht : P.underlying t = some (.slice e)) (hinfo : (P.info? e).map (fun i => (i.zero, i.size, i.bytes)) = some (some z, size, bytes)) (hz : z.cells.size = size) (hsz : 0 < size)
    (hs : act.eval s = .slice a n cap) (hg : w.heap.size = g) (hx : act.eval x = .slice (some ⟨g, 0, none⟩) 1 c)
    (hown : w.ownsRow 0 e size (.slice a n cap) n xs) (hl : news.length = size) (hu : ∀ u ∈ news, u.oneCell' = true) (h63 : n + 1 ≤ maxLen) (hbytes : (n + 1) * bytes ≤ 140737488355328)
    (hw1 : w1 = w.alloc (.cells news.toArray e))
    (h : ∀ a' cap' w', w'.ownsRow 0 e size (.slice a' (n + 1) cap') (n + 1) (xs ++ news) → Stepped w w' (ft a) (ft a') → wpList P ops Q rest (act.put o.dst (.slice a' (n + 1) cap')) w') : wpList P ops Q (o :: rest) act w1 := by
  subst hw1 hg
  refine wpList_pushG hgd ho ht hinfo hz hsz hs hx (World.ownsRow.alloc hown _) hl (fun j u hu => ?_) hu h63 hbytes fun a' c' w' h1 h2 => h a' c' w' h1 ?_
  · have hadd : (⟨w.heap.size, 0, none⟩ : Addr).add j = ⟨w.heap.size, j, none⟩ := by unfold Addr.add; split <;> simp_all
    rw [hadd, blk_cell (heap_alloc_new w _)]
    simpa using hu
  · refine ⟨⟨h2.kept.os, h2.kept.tape, h2.kept.output, Nat.le_trans (by simp) h2.kept.size, fun k hk hn => ?_⟩, fun b hb => (h2.fresh b hb).imp id fun h => by simp at h; omega⟩
    exact (h2.kept.block k (by simp; omega) hn).trans (Below.heap_alloc _ _ _ hk)

def pcells (ns : List (Nat × Nat)) : List Value := ns.flatMap fun p => [.int .u32 (p.1 : Int), .int .u32 (p.2 : Int)]
theorem pcells_length (ns : List (Nat × Nat)) : (pcells ns).length = 2 * ns.length := by
  induction ns with
  | nil => rfl
  | cons p ns ih => simp [pcells] at ih ⊢; omega
theorem pcells_snoc (ns : List (Nat × Nat)) (a b : Nat) : pcells ns ++ [.int .u32 (a : Int), .int .u32 (b : Int)] = pcells (ns ++ [(a, b)]) := by simp [pcells]
theorem pcells_get (ns : List (Nat × Nat)) (i : Nat) (p : Nat × Nat) (h : ns[i]? = some p) : (pcells ns)[2 * i]? = some (.int .u32 (p.1 : Int)) ∧ (pcells ns)[2 * i + 1]? = some (.int .u32 (p.2 : Int)) := by
  induction ns generalizing i with
  | nil => simp at h
  | cons q ns ih =>
    cases i with
    | zero => simp at h; subst h; simp [pcells]
    | succ i =>
      have := ih i (by simpa using h)
      have e1 : 2 * (i + 1) = (2 * i) + 1 + 1 := by omega
      rw [e1]
      simpa [pcells] using this

theorem pair_info : (Try.prog.info? 97).map (fun i => (i.zero, i.size, i.bytes)) = some (some (.agg #[.int .u32 0, .int .u32 0]), 2, 8) := by kernel_rfl
theorem int_info : (Try.prog.info? 3).map (fun i => (i.zero, i.size, i.bytes)) = some (some (.int .i64 0), 1, 8) := by kernel_rfl

theorem news_blk {w : World} {g : Nat} {cs : List Value} {t : TypeId} (h : w.heap[g]? = some (.cells cs.toArray t (0, 0))) : ∀ j u, cs[j]? = some u → w.cell? ((⟨g, 0, none⟩ : Addr).add j) = some u := by
  intro j u hu
  have hadd : (⟨g, 0, none⟩ : Addr).add j = ⟨g, j, none⟩ := by unfold Addr.add; split <;> simp_all
  rw [hadd, blk_cell h]
  simpa using hu

set_option maxHeartbeats 400000 in
set_option maxRecDepth 100000 in
theorem aig_add (p : Nat) (bf bh : Bool) (an : Option Addr) (n cn : Nat) (vi vm : Value) (ns : List (Nat × Nat)) (a b : Nat) (w : World) (hn : ns.length = n) (hm : n ≤ 1000000)
    (hp : w.heap[p]? = some (.cells #[.bool bf, .bool bh, .slice an n cn, vi, vm] 48 (0, 0))) (ho : Own2 w 97 an n cn (pcells ns)) :
    Calls Try.prog 60 #[.pointer (some ⟨p, 0, none⟩), .agg #[.int .u32 a, .int .u32 b]] w fun e w' => ∃ an' cn', e = .returned (.tuple #[.int .u32 (2 * n : Nat), .int .i64 0]) ∧
      w'.heap[p]? = some (.cells #[.bool bf, .bool bh, .slice an' (n + 1) cn', vi, vm] 48 (0, 0)) ∧ Own2 w' 97 an' (n + 1) cn' (pcells (ns ++ [(a, b)])) ∧ Stepped w w' (p :: ft an) (p :: ft an') := by
  have hlt := blk_lt hp
  have c2 : w.cell? ⟨p, 2, none⟩ = some (.slice an n cn) := blk_cell hp 2
  have f2 : w.frozen? ⟨p, 2, none⟩ = false := blk_free hp 2
  have d2 : ∀ o, (w.alloc o).cell? ⟨p, 2, none⟩ = some (.slice an n cn) := fun o => cell_alloc c2 o
  have fz1 : ∀ o, (w.alloc o).frozen? ⟨p, 2, none⟩ = false := fun o => (((Kept.refl [] w).alloc o).frozen hlt (by simp)).trans f2
  have fz2 : ∀ o o', ((w.alloc o).alloc o').frozen? ⟨p, 2, none⟩ = false := fun o o' => ((((Kept.refl [] w).alloc o).alloc o').frozen hlt (by simp)).trans f2
  have HO := Lib.hid (show ofV (n : Int) false = 2 * n ∧ ofE (n : Int) = 0 from ⟨by unfold ofV ifL; rw [if_pos (by omega)]; simp, by unfold ofE; rw [if_pos (by omega)]⟩)
  have HN := Lib.hid hn; clear hn
  have HPA := Lib.hid (blk_apart hp ho (by decide))
  have HSA := Lib.hid (show w.heap.size ∉ ft an from fun h => Nat.lt_irrefl _ (owns_lt ho _ h))
  have HLP := Lib.hid (show p < ((w.alloc (.cells #[.int .u32 (a : Int), .int .u32 (b : Int)] 97)).alloc (.cells #[.int .u32 (a : Int), .int .u32 (b : Int)] 97)).heap.size by simp; omega)
  have HP := Lib.hid hp; clear hp
  go_enter Try.func60, Try.ntmps60
  go_wp2_with (go_at_call 59; refine (lit_of _ _ _).mono ?_; rintro e w' ⟨rfl, rfl⟩; rw [HO.out.1, HO.out.2])
  go_region_law ((refine step_push (by rfl) (by rfl) Try.underlying44 pair_info rfl (by omega) (by rfl) (by rfl) (news := [.int .u32 (a : Int), .int .u32 (b : Int)]) (own_kept (w := w) ho ((((Kept.refl [] w).alloc _).alloc _).drew) (by simp)) rfl (news_blk (t := 97) (by have h := heap_alloc_new (w.alloc (.cells #[.int .u32 (a : Int), .int .u32 (b : Int)] 97)) (.cells #[.int .u32 (a : Int), .int .u32 (b : Int)] 97); rw [World.size_alloc] at h; exact h)) (by simp [Value.oneCell']) (by unfold maxLen; omega) (by omega) ?_; intro a' c' w1 hown1 hst1; have cw2 : w1.cell? ⟨p, 2, none⟩ = some (.slice an n cn) := hst1.kept.cell (cell_alloc (d2 _) _) HPA.out; have fw2 : w1.frozen? ⟨p, 2, none⟩ = false := (hst1.kept.frozen (by simp [go_sem]; omega) HPA.out).trans (fz2 _ _)))
  all_goals
    go_wp2
    go_ret2
    have hp1 := hst1.kept.heap (b := p) ((((Kept.refl [] w).alloc _).alloc _).drew.heap HP.out (by simp)) HPA.out
    have hst0 : Stepped w w1 (ft an) (ft a') := (((((Stepped.refl w (ft an)).alloc _).alloc _).drew).trans hst1)
    refine ⟨a', c', by rw [Int.natCast_mul]; rfl, by simpa using blk_set hp1 2 (.slice a' (n + 1) c'), ?_, ?_⟩
    · have hpa' : p ∉ ft a' := blk_apart hp1 hown1 (by decide)
      have := own_kept hown1 ((Kept.refl [p] w1).setCell (p := ⟨p, 2, none⟩) (.inl (by simp)) (.slice a' (n + 1) c')) (fun b hb h => hpa' (by simp at h; exact h ▸ hb))
      rw [pcells_snoc] at this
      exact this
    · exact (hst0.behind [p]).setCell (p := ⟨p, 2, none⟩) (by simp) _

/-! ### A graph in memory -/
def pairV (a b : Nat) : Value := .agg #[.int .u32 (a : Int), .int .u32 (b : Int)]
def lv (c : Nat) : Value := .int .u32 (c : Int)
theorem pairV_inj {a b c d : Nat} (h : pairV a b = pairV c d) : (a, b) = (c, d) := by
  unfold pairV at h
  injection h with h
  simp at h
  have h1 := h.1
  have h2 := h.2
  simp
  omega
def gCells (g : Gr) (an : Option Addr) (cn : Nat) (ai : Option Addr) (ci m : Nat) : Array Value :=
  #[.bool g.fold, .bool g.hash, .slice an g.nodes.length cn, .slice ai (ins g.nodes).length ci, .map (some m)]
/-- The graph g behind the pointer to block p, its parts by name. -/
structure GraphC (w : World) (p : Nat) (g : Gr) (an : Option Addr) (cn : Nat) (ai : Option Addr) (ci m : Nat) (f : Value → Option Value) : Prop where
  blk : w.heap[p]? = some (.cells (gCells g an cn ai ci m) 48 (0, 0))
  nodes : Own2 w 97 an g.nodes.length cn (pcells g.nodes)
  inputs : Own w 3 ai (ins g.nodes).length ci (nats .i64 (ins g.nodes))
  made : MapV w Try.prog 97 m f
  is : ∀ a b, f (pairV a b) = (look g.nodes a b).map lv
  wf : WF g.nodes
def gFoot (p m : Nat) (an ai : Option Addr) : List Nat := p :: m :: (ft an ++ ft ai)
def GraphAt (w : World) (p : Nat) (F : List Nat) (g : Gr) : Prop := ∃ an cn ai ci m f, F = gFoot p m an ai ∧ GraphC w p g an cn ai ci m f

variable {w w' : World} {p : Nat} {F S : List Nat} {g : Gr}
theorem GraphC.kept {an ai : Option Addr} {cn ci m : Nat} {f : Value → Option Value} (h : GraphC w p g an cn ai ci m f) (hk : Kept S w w') (hd : ∀ b ∈ gFoot p m an ai, b ∉ S) : GraphC w' p g an cn ai ci m f :=
  ⟨hk.heap h.blk (hd _ (by simp [gFoot])), h.nodes.kept hk (fun b hb => hd b (by simp [gFoot, hb])), h.inputs.kept hk (fun b hb => hd b (by simp [gFoot, hb])), h.made.kept hk (hd _ (by simp [gFoot])), h.is, h.wf⟩
theorem GraphAt.kept (h : GraphAt w p F g) (hk : Kept S w w') (hd : ∀ b ∈ F, b ∉ S) : GraphAt w' p F g := by
  obtain ⟨an, cn, ai, ci, m, f, rfl, hc⟩ := h
  exact ⟨an, cn, ai, ci, m, f, rfl, hc.kept hk hd⟩
theorem GraphAt.kept0 (h : GraphAt w p F g) (hk : Kept [] w w') : GraphAt w' p F g := h.kept hk (by simp)
theorem GraphAt.wf (h : GraphAt w p F g) : WF g.nodes := by obtain ⟨an, cn, ai, ci, m, f, rfl, hc⟩ := h; exact hc.wf
theorem GraphAt.lt (h : GraphAt w p F g) : ∀ b ∈ F, b < w.heap.size := by
  obtain ⟨an, cn, ai, ci, m, f, rfl, hc⟩ := h
  intro b hb
  simp only [gFoot, List.mem_cons, List.mem_append] at hb
  rcases hb with rfl | rfl | hb | hb
  · exact blk_lt hc.blk
  · exact hc.made.lt
  · exact owns_lt hc.nodes b hb
  · exact owns_lt hc.inputs b hb
theorem GraphAt.mem (h : GraphAt w p F g) : p ∈ F := by obtain ⟨an, cn, ai, ci, m, f, rfl, hc⟩ := h; simp [gFoot]
/-- What is of an element type that no part of a graph has lies elsewhere. -/
theorem GraphAt.apart (h : GraphAt w p F g) {e : TypeId} {size n cap : Nat} {a : Option Addr} {xs : List Value} (ho : w.ownsRow 0 e size (.slice a n cap) n xs) (h1 : e ≠ 48) (h2 : e ≠ 97) (h3 : e ≠ 3) : ∀ b ∈ ft a, b ∉ F := by
  obtain ⟨an, cn, ai, ci, m, f, rfl, hc⟩ := h
  intro b hb hf
  simp only [gFoot, List.mem_cons, List.mem_append] at hf
  rcases hf with rfl | rfl | hf | hf
  · exact blk_apart hc.blk ho h1 hb
  · exact map_apart hc.made ho hb
  · exact owns_apart ho hc.nodes h2 b hb hf
  · exact owns_apart ho hc.inputs h3 b hb hf

theorem GraphC.c0 {an ai : Option Addr} {cn ci m : Nat} {f : Value → Option Value} (h : GraphC w p g an cn ai ci m f) : w.cell? ⟨p, 0, none⟩ = some (.bool g.fold) := blk_cell h.blk 0
theorem GraphC.c1 {an ai : Option Addr} {cn ci m : Nat} {f : Value → Option Value} (h : GraphC w p g an cn ai ci m f) : w.cell? ⟨p, 1, none⟩ = some (.bool g.hash) := blk_cell h.blk 1
theorem GraphC.c2 {an ai : Option Addr} {cn ci m : Nat} {f : Value → Option Value} (h : GraphC w p g an cn ai ci m f) : w.cell? ⟨p, 2, none⟩ = some (.slice an g.nodes.length cn) := blk_cell h.blk 2
theorem GraphC.c3 {an ai : Option Addr} {cn ci m : Nat} {f : Value → Option Value} (h : GraphC w p g an cn ai ci m f) : w.cell? ⟨p, 3, none⟩ = some (.slice ai (ins g.nodes).length ci) := blk_cell h.blk 3
theorem GraphC.c4 {an ai : Option Addr} {cn ci m : Nat} {f : Value → Option Value} (h : GraphC w p g an cn ai ci m f) : w.cell? ⟨p, 4, none⟩ = some (.map (some m)) := blk_cell h.blk 4

theorem pair_arr : ArrKey Try.prog 97 34 2 := ⟨Try.underlying97, by kernel_rfl, by kernel_rfl, by kernel_rfl⟩
theorem pair_law : Keyed Try.prog 97 := Keyed.of_law (deep_law_laid laidOut (m := 2) (by omega) (of_decide_eq_true (by kernel_rfl)) (by kernel_rfl) (by rw [Try.underlying97]))
theorem pair_key {a b : Nat} (ha : a < 4294967296) (hb : b < 4294967296) : ∃ kl, keyOf Try.prog 97 (pairV a b) = some kl :=
  ⟨_, keyOf_pair pair_arr Try.underlying34 ⟨Try.prog.types.size - 1, by have : 0 < Try.prog.types.size := of_decide_eq_true (by kernel_rfl); omega⟩
    (by simp [Lit.wf, IntKind.min, IntKind.max, IntKind.signed, IntKind.bits]; omega) (by simp [Lit.wf, IntKind.min, IntKind.max, IntKind.signed, IntKind.bits]; omega)⟩
theorem lit_zero (w : World) : (zeroValue 34).run Try.prog w = .ok (.int .u32 0) w := by kernel_rfl

theorem aig_none (p m : Nat) (w : World) (h : w.cell? ⟨p, 4, none⟩ = some (.map (some m))) : Calls Try.prog 37 #[.pointer (some ⟨p, 0, none⟩)] w fun e w' => e = .returned (.bool false) ∧ w = w' := by
  have q := fun (w : World) (r : Option Nat) => run_eql_map_nil (P := Try.prog) w 46 97 34 r Try.underlying46
  go_enter Try.func37, Try.ntmps37
  go_wp2
  go_ret
  exact ⟨rfl, rfl⟩
theorem aig_nodes (hg : GraphAt w p F g) (hm : g.nodes.length ≤ 1000000) : Calls Try.prog 36 #[.pointer (some ⟨p, 0, none⟩)] w fun e w' => e = .returned (.int .i64 (g.nodes.length : Nat)) ∧ w = w' := by
  obtain ⟨an, cn, ai, ci, m, f, rfl, hc⟩ := hg
  have c2 := hc.c2
  have c4 := hc.c4
  clear hc
  go_enter Try.func36, Try.ntmps36
  go_wp2_with (go_at_call 37; refine (aig_none p m _ (by assumption)).mono ?_; rintro e w' ⟨rfl, rfl⟩)
  go_ret
  exact ⟨rfl, rfl⟩
def gatesN (g : Gr) : Int := g.nodes.length - 1 - (ins g.nodes).length
theorem aig_gates (hg : GraphAt w p F g) (hm : g.nodes.length ≤ 1000000) : Calls Try.prog 15 #[.pointer (some ⟨p, 0, none⟩)] w fun e w' => e = .returned (.int .i64 (gatesN g)) ∧ ∃ k, w' = w.drewN k := by
  have hpos := hg.wf.pos
  have hle := insFrom_length 0 g.nodes
  have hle : (ins g.nodes).length ≤ g.nodes.length := hle
  obtain ⟨an, cn, ai, ci, m, f, rfl, hc⟩ := hg
  have c2 := hc.c2
  have c3 := hc.c3
  have c4 := hc.c4
  clear hc
  go_enter Try.func15, Try.ntmps15
  go_wp2_with (go_at_call 37; refine (aig_none p m _ (by assumption)).mono ?_; rintro e w' ⟨rfl, rfl⟩)
  go_quiet (fail)
  go_wp2
  go_ret
  exact ⟨rfl, _, rfl⟩

/-- after 'add', what is left of a graph -/
theorem graph_grown {an ai an' : Option Addr} {cn ci m cn' : Nat} {f f' : Value → Option Value} {x y : Nat} {w2 : World} (hc : GraphC w p g an cn ai ci m f) (hin : ins (g.nodes ++ [(x, y)]) = ins g.nodes) (hwf : WF (g.nodes ++ [(x, y)]))
    (hb1 : w'.heap[p]? = some (.cells #[.bool g.fold, .bool g.hash, .slice an' (g.nodes.length + 1) cn', .slice ai (ins g.nodes).length ci, .map (some m)] 48 (0, 0))) (hn1 : Own2 w' 97 an' (g.nodes.length + 1) cn' (pcells (g.nodes ++ [(x, y)])))
    (hst : Stepped w w' (p :: ft an) (p :: ft an')) (hk2 : Kept [m] w' w2) (hm2 : MapV w2 Try.prog 97 m f') (hf : ∀ a b, f' (pairV a b) = (look (g.nodes ++ [(x, y)]) a b).map lv) :
    GraphAt w2 p (gFoot p m an' ai) { g with nodes := g.nodes ++ [(x, y)] } ∧ Stepped w w2 (gFoot p m an ai) (gFoot p m an' ai) := by
  have hpai : p ∉ ft ai := blk_apart hc.blk hc.inputs (by decide)
  have hnai : ∀ b ∈ ft ai, b ∉ ft an := owns_apart hc.inputs hc.nodes (by decide)
  have hmp : m ≠ p := fun h => hc.made.nocell hc.blk h.symm
  have hman : m ∉ ft an := map_apart hc.made hc.nodes
  have hmai : m ∉ ft ai := map_apart hc.made hc.inputs
  have hi1 := hc.inputs.kept hst.kept (fun b hb h => by
    rcases List.mem_cons.1 h with h | h
    · subst h; exact hpai hb
    · exact hnai b hb h)
  have hm1 : MapV w' Try.prog 97 m f := hc.made.kept hst.kept (by simp [hmp, hman])
  have hman' : m ∉ ft an' := map_apart hm1 hn1
  refine ⟨⟨an', cn', ai, ci, m, f', rfl, ⟨?_, ?_, ?_, hm2, hf, hwf⟩⟩, ?_⟩
  · have := hk2.heap hb1 (by simp [Ne.symm hmp])
    simpa [gCells, hin] using this
  · have := own_kept hn1 hk2 (fun b hb h => hman' (by simp at h; exact h ▸ hb))
    simpa [Own2] using this
  · have := hi1.kept hk2 (fun b hb h => hmai (by simp at h; exact h ▸ hb))
    show Own w2 _ ai (ins (g.nodes ++ [(x, y)])).length ci (nats .i64 (ins (g.nodes ++ [(x, y)])))
    rw [hin]
    exact this
  · refine ⟨(hst.kept.more fun b hb => ?_).trans (hk2.more fun b hb => by simp at hb; subst hb; simp [gFoot]), fun b hb => ?_⟩
    · rcases List.mem_cons.1 hb with h | h
      · subst h; simp [gFoot]
      · simp [gFoot, h]
    · simp only [gFoot, List.mem_cons, List.mem_append] at hb ⊢
      rcases hb with h | h | h | h
      · exact .inl (.inl h)
      · exact .inl (.inr (.inl h))
      · rcases hst.fresh b (by simp [h]) with h1 | h1
        · rcases List.mem_cons.1 h1 with h2 | h2
          · exact .inl (.inl h2)
          · exact .inl (.inr (.inr (.inl h2)))
        · exact .inr h1
      · exact .inl (.inr (.inr (.inr h)))

theorem gatesN_small (g : Gr) (hw : WF g.nodes) (hm : g.nodes.length ≤ 200000) : gatesN g < 262144 := by unfold gatesN; omega
set_option maxHeartbeats 800000 in
theorem aig_gate {a b : Nat} (hg : GraphAt w p F g) (hm : g.nodes.length ≤ 200000) (ha : g.ok a) (hb : g.ok b) :
    Calls Try.prog 67 #[.pointer (some ⟨p, 0, none⟩), .int .u32 a, .int .u32 b] w fun e w' => ∃ F', e = .returned (.tuple #[.int .u32 ((gateG g a b).2 : Nat), .int .i64 0]) ∧ GraphAt w' p F' (gateG g a b).1 ∧ Stepped w w' F F' := by
  have hgs := gatesN_small g hg.wf hm
  have HG := Lib.hid (fun (w : World) (h : GraphAt w p F g) => aig_gates h (by omega))
  have HW := Lib.hid (gateG_spec hg.wf ha hb).1
  have HGA := Lib.hid hg
  have hmx : max a b / 2 < g.nodes.length := half_max ha hb
  have hmn : min a b / 2 < g.nodes.length := by omega
  have HGG := Lib.hid (show gateG g a b = ({ g with nodes := g.nodes ++ [(max a b, min a b)] }, 2 * g.nodes.length) from rfl)
  have HIN := Lib.hid (show ins (g.nodes ++ [(max a b, min a b)]) = ins g.nodes by rw [ins_snoc, if_neg (by simp [inAt]; omega), List.append_nil])
  have HLK := Lib.hid (fun x y => look_snoc g.nodes (max a b, min a b) x y)
  obtain ⟨an, cn, ai, ci, m, f, rfl, hc⟩ := hg
  have HP := Lib.hid (fun w => lit_pair a b w)
  clear ha hb
  generalize max a b = x at *
  generalize min a b = y at *
  have hgg := HGG.out
  generalize gateG g a b = r at *
  subst hgg
  have HC := Lib.hid hc; clear hc
  have HK := Lib.hid (pair_key (a := x) (b := y) (by omega) (by omega))
  have HM := Lib.hid (HC.out.is x y)
  have hpai : p ∉ ft ai := blk_apart HC.out.blk HC.out.inputs (by decide)
  have hnai : ∀ b ∈ ft ai, b ∉ ft an := owns_apart HC.out.inputs HC.out.nodes (by decide)
  have hmp : m ≠ p := fun h => HC.out.made.nocell HC.out.blk h.symm
  have hman : m ∉ ft an := map_apart HC.out.made HC.out.nodes
  have hmai : m ∉ ft ai := map_apart HC.out.made HC.out.inputs
  have HX := Lib.hid (And.intro hpai (And.intro hnai (And.intro hmp (And.intro hman hmai))))
  clear hpai hnai hmp hman hmai
  cases hl : look g.nodes x y with
  | some c0 =>
    have HL := Lib.hid hl; clear hl
    go_enter Try.func67, Try.ntmps67
    go_wp2_with (first
      | (go_at_call 15; refine (HG.out _ HGA.out).mono ?_; rintro e w' ⟨rfl, k0, rfl⟩)
      | (go_at_call 66; refine (HP.out _).mono ?_; rintro e w' ⟨rfl, rfl⟩)
      | (go_at_call 60; refine (aig_add p g.fold g.hash an g.nodes.length cn (.slice ai (ins g.nodes).length ci) (.map (some m)) g.nodes x y (w.drewN k0) rfl (by omega) (by exact HC.out.blk) (by exact HC.out.nodes)).mono ?_; rintro e w1 ⟨an', cn', rfl, hb1, hn1, hst1⟩; have c4 : w1.cell? ⟨p, 4, none⟩ = some (.map (some m)) := blk_cell hb1 4; have hm1 : MapV w1 Try.prog 97 m f := HC.out.made.kept (((Kept.refl _ w).drewN k0).trans hst1.kept) (by simp [HX.out.2.2.1, HX.out.2.2.2.1]))
      | (at_lookup; refine wpList_look rfl rfl pair_law Try.underlying46 (lit_zero _) rfl rfl hm1 HK.out ?_; (show wpList _ _ _ _ (Act.put _ _ (.tuple #[(f (pairV x y)).getD _, .bool (f (pairV x y)).isSome])) _); rw [HM.out, HL.out]))
    go_ret2
    obtain ⟨h1, h2⟩ := graph_grown HC.out HIN.out HW.out hb1 hn1 (((Stepped.refl w _).drewN k0).trans hst1) (Kept.refl _ _) hm1 (fun a b => by
      rw [HC.out.is, HLK.out]
      split
      · rename_i h
        have := h.1
        simp only [Prod.mk.injEq] at this
        rw [← this.1, ← this.2, HL.out]
        rfl
      · simp)
    exact ⟨_, rfl, h1, h2⟩
  | none =>
    have HL := Lib.hid hl; clear hl
    go_enter Try.func67, Try.ntmps67
    go_wp2_with (first
      | (go_at_call 15; refine (HG.out _ HGA.out).mono ?_; rintro e w' ⟨rfl, k0, rfl⟩)
      | (go_at_call 66; refine (HP.out _).mono ?_; rintro e w' ⟨rfl, rfl⟩)
      | (go_at_call 60; refine (aig_add p g.fold g.hash an g.nodes.length cn (.slice ai (ins g.nodes).length ci) (.map (some m)) g.nodes x y (w.drewN k0) rfl (by omega) (by exact HC.out.blk) (by exact HC.out.nodes)).mono ?_; rintro e w1 ⟨an', cn', rfl, hb1, hn1, hst1⟩; have c4 : w1.cell? ⟨p, 4, none⟩ = some (.map (some m)) := blk_cell hb1 4; have hm1 : MapV w1 Try.prog 97 m f := HC.out.made.kept (((Kept.refl _ w).drewN k0).trans hst1.kept) (by simp [HX.out.2.2.1, HX.out.2.2.2.1]))
      | (at_lookup; refine wpList_look rfl rfl pair_law Try.underlying46 (lit_zero _) rfl rfl hm1 HK.out ?_; (show wpList _ _ _ _ (Act.put _ _ (.tuple #[(f (pairV x y)).getD _, .bool (f (pairV x y)).isSome])) _); rw [HM.out, HL.out])
      | (at_mapUpdate; refine wpList_upd rfl rfl pair_law Try.underlying46 rfl rfl rfl hm1 HK.out ?_; intro w2 hm2 hk2))
    go_ret2
    obtain ⟨h1, h2⟩ := graph_grown HC.out HIN.out HW.out hb1 hn1 (((Stepped.refl w _).drewN k0).trans hst1) hk2 hm2 (fun a b => by
      rw [HLK.out]
      show upd f (pairV x y) _ (pairV a b) = _
      by_cases h : (x, y) = (a, b)
      · simp only [Prod.mk.injEq] at h
        obtain ⟨rfl, rfl⟩ := h
        rw [upd_same, HL.out, if_pos ⟨rfl, by omega⟩]
        rfl
      · rw [upd_other _ (fun he => h (pairV_inj he).symm), if_neg (fun hh => h hh.1), HC.out.is]
        simp)
    exact ⟨_, rfl, h1, h2⟩
end Go.Proofs.Ytenhbhckhncamaa
