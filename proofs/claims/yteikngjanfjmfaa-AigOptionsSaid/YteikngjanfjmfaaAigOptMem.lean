/-
  AigOptions: what lies in memory: a graph, what was told, the inputs' words; four rows of words.
-/
import Derived.Test.YteikngjanfjmfaaAigOptMath
import Derived.Test.YteikngjanfjmfaaAigGrown
import Derived.Test.YteikngjanfjmfaaAigWakes
namespace Go.Proofs.Yteikngjanfjmfaa
open Go.ChangeShapes Go.WideShapes Go.ChangeAt Go.RowKit
open Go.Maps (Keyed)
open Go.WideMaps
set_option linter.unusedVariables false

theorem own_new (w : World) (e : TypeId) (K : IntKind) (l : List Nat) (h : l.length ≤ maxLen) : Own (w.alloc (.cells (nats K l).toArray e)) e (some ⟨w.heap.size, 0, none⟩) l.length l.length (nats K l) :=
  ⟨by simp [nats], .inr ⟨w.heap.size, l.length, _, rfl, Nat.zero_le _, heap_alloc_new w _, Nat.le_refl _, h, by simp [nats], List.take_of_length_le (by simp [nats])⟩⟩

structure OptAt (wK wr : World) (p : Nat) (F : List Nat) (g : Gr) (ta : Option Addr) (tc : Nat) (T : List Nat) (ia : Option Addr) (ic : Nat) (inp : List Nat) : Prop where
  graph : GraphAt wr p F g
  told : Own wr 24 ta T.length tc (nats .u32 T)
  inn : Own wr 41 ia inp.length ic (nats .u64 inp)
  step : Stepped wK wr [] (F ++ (ft ta ++ ft ia))
section
variable {wK wr w2 w3 w4 : World} {p : Nat} {F F' : List Nat} {g g' : Gr} {ta ta' ia ia' : Option Addr} {tc tc' ic ic' : Nat} {T inp : List Nat}
theorem OptAt.stay (h : OptAt wK wr p F g ta tc T ia ic inp) (hk : Kept [] wr w2) : OptAt wK w2 p F g ta tc T ia ic inp :=
  ⟨h.graph.kept0 hk, h.told.kept0 hk, h.inn.kept0 hk, ⟨h.step.kept.trans hk, h.step.fresh⟩⟩
theorem OptAt.call (h : OptAt wK wr p F g ta tc T ia ic inp) (hst : Stepped wr w3 F F') (hg : GraphAt w3 p F' g') : OptAt wK w3 p F' g' ta tc T ia ic inp :=
  ⟨hg, h.told.kept hst.kept (h.graph.apart h.told (by decide) (by decide) (by decide)), h.inn.kept hst.kept (h.graph.apart h.inn (by decide) (by decide) (by decide)), h.step.trans (hst.beside _)⟩
theorem OptAt.tell (h : OptAt wK wr p F g ta tc T ia ic inp) {x : Nat} (hst : Stepped wr w4 (ft ta) (ft ta')) (ho : Own w4 24 ta' (T.length + 1) tc' (nats .u32 T ++ [.int .u32 (x : Int)])) : OptAt wK w4 p F g ta' tc' (T ++ [x]) ia ic inp := by
  have hap := h.graph.apart h.told (by decide) (by decide) (by decide)
  have hai : ∀ b ∈ ft ia, b ∉ ft ta := owns_apart h.inn h.told (by decide)
  refine ⟨h.graph.kept hst.kept (fun b hb h' => hap b h' hb), ?_, h.inn.kept hst.kept hai, h.step.trans ((hst.beside (ft ia)).behind F)⟩
  rw [nats_append] at ho
  simpa using ho
theorem OptAt.give (h : OptAt wK wr p F g ta tc T ia ic inp) {v : Nat} (hst : Stepped wr w4 (ft ia) (ft ia')) (ho : Own w4 41 ia' (inp.length + 1) ic' (nats .u64 inp ++ [.int .u64 (v : Int)])) : OptAt wK w4 p F g ta tc T ia' ic' (inp ++ [v]) := by
  have hap := h.graph.apart h.inn (by decide) (by decide) (by decide)
  have hai : ∀ b ∈ ft ta, b ∉ ft ia := owns_apart h.told h.inn (by decide)
  refine ⟨h.graph.kept hst.kept (fun b hb h' => hap b h' hb), h.told.kept hst.kept hai, ?_, h.step.trans ((hst.behind (ft ta)).behind F)⟩
  rw [nats_append] at ho
  simpa using ho
end

/-- the graph and what was told behind k calls -/
def gTo (o1 o2 : Bool) (acts : List (Int × List Nat)) : Nat → Gr × List Nat
  | 0 => ({ fold := o1, hash := o2, nodes := [(0, 0)] }, [0, 1])
  | k + 1 => optG (gTo o1 o2 acts k) (acts.getD k (0, []))
theorem gTo_ok (o1 o2 : Bool) {ws : List Nat} (hws : Words ws) (acts : List (Int × List Nat)) (k : Nat) (hk : k ≤ 40) : OptOk k (gTo o1 o2 acts k).1 (gTo o1 o2 acts k).2 (optTo ws acts k).1 (optTo ws acts k).2 := by
  induction k with
  | zero => exact OptOk.start o1 o2
  | succ k ih => exact (ih (by omega)).step ws hws (by omega) _

/-! ### Four rows of words -/
structure AllS (B : Nat) (wr : World) (A : Nat) (X : Nat → List Nat) (cs : Array Value) (s : Nat → Option Addr × Nat) : Prop where
  blk : wr.heap[A]? = some (.cells cs 72 (0, 0))
  size : cs.size = 4
  base : B ≤ A
  each : ∀ j, j < 4 → cs[j]? = some (.slice (s j).1 (X j).length (s j).2) ∧ Own wr 41 (s j).1 (X j).length (s j).2 (nats .u64 (X j))
  apart : ∀ i j, i < 4 → j < 4 → i ≠ j → ∀ b ∈ ft (s i).1, b ∉ ft (s j).1
  fresh : ∀ j, j < 4 → ∀ b ∈ ft (s j).1, B ≤ b
section
variable {B : Nat} {wr w1 w2 W : World} {A : Nat} {X : Nat → List Nat} {cs : Array Value} {s : Nat → Option Addr × Nat}
theorem AllS.kept0 (h : AllS B wr A X cs s) (hk : Kept [] wr w2) : AllS B w2 A X cs s :=
  ⟨hk.heap h.blk (by simp), h.size, h.base, fun j hj => ⟨(h.each j hj).1, (h.each j hj).2.kept0 hk⟩, h.apart, h.fresh⟩
theorem AllS.cell (h : AllS B wr A X cs s) {j : Nat} (hj : j < 4) : wr.cell? ⟨A, j, none⟩ = some (.slice (s j).1 (X j).length (s j).2) := by rw [blk_cell h.blk j]; exact (h.each j hj).1
theorem AllS.notA (h : AllS B wr A X cs s) {j : Nat} (hj : j < 4) : A ∉ ft (s j).1 := blk_apart h.blk (h.each j hj).2 (by decide)
theorem AllS.ext (h : AllS B wr A X cs s) {Y : Nat → List Nat} (hY : ∀ j, j < 4 → Y j = X j) : AllS B wr A Y cs s :=
  ⟨h.blk, h.size, h.base, fun j hj => by rw [hY j hj]; exact h.each j hj, h.apart, h.fresh⟩
/-- one word more in row k -/
theorem AllS.push (h : AllS B wr A X cs s) {k : Nat} (hk : k < 4) (hB : B ≤ wr.heap.size) {v n : Nat} {xk : List Nat} (hX : X k = xk) (hn : xk.length = n) {a1 : Option Addr} {c1 : Nat} (hW : Kept [] wr W) (ho : Own w1 41 a1 (n + 1) c1 (nats .u64 xk ++ [.int .u64 (v : Int)])) (hst : Stepped W w1 (ft (s k).1) (ft a1)) :
    AllS B (w1.setCell ⟨A, k, none⟩ (.slice a1 (n + 1) c1)) A (fun j => if j = k then xk ++ [v] else X j) (cs.setIfInBounds k (.slice a1 (n + 1) c1)) (fun j => if j = k then (a1, c1) else s j) ∧
      Kept (A :: ft (s k).1) wr (w1.setCell ⟨A, k, none⟩ (.slice a1 (n + 1) c1)) ∧ (∀ b ∈ ft a1, b ∈ ft (s k).1 ∨ wr.heap.size ≤ b) := by
  subst hX hn
  have hb1 : w1.heap[A]? = some (.cells cs 72 (0, 0)) := hst.kept.heap (hW.heap h.blk (by simp)) (h.notA hk)
  have hfr : ∀ b ∈ ft a1, b ∈ ft (s k).1 ∨ wr.heap.size ≤ b := fun b hb => (hst.fresh b hb).imp id fun hx => Nat.le_trans hW.size hx
  have kA : Kept [A] w1 (w1.setCell ⟨A, k, none⟩ (.slice a1 ((X k).length + 1) c1)) := (Kept.refl [A] w1).setCell (p := ⟨A, k, none⟩) (.inl (by simp)) _
  have hA1 : A ∉ ft a1 := blk_apart hb1 ho (by decide)
  have each : ∀ j, j < 4 → j ≠ k → Own w1 41 (s j).1 (X j).length (s j).2 (nats .u64 (X j)) := fun j hj hjk => ((h.each j hj).2.kept0 hW).kept hst.kept (h.apart j k hj hk hjk)
  have hd : ∀ j, j < 4 → j ≠ k → ∀ b ∈ ft (s j).1, b ∉ ft a1 := fun j hj hjk => ft_apart hst (h.apart j k hj hk hjk) fun x hx => Nat.lt_of_lt_of_le ((h.each j hj).2.lt x hx) hW.size
  refine ⟨⟨blk_set hb1 k _, by simp [h.size], h.base, fun j hj => ?_, fun i j hi hj hij => ?_, fun j hj b hb => ?_⟩, ?_, hfr⟩
  · by_cases hjk : j = k
    · subst hjk
      rw [if_pos rfl, if_pos rfl]
      refine ⟨?_, ?_⟩
      · rw [Array.getElem?_setIfInBounds]
        rw [if_pos rfl, if_pos (by rw [h.size]; exact hj)]
        simp
      · have := ho.kept kA (fun b hb hm => hA1 (by simp at hm; exact hm ▸ hb))
        rw [nats_append] at this
        simpa using this
    · rw [if_neg hjk, if_neg hjk]
      refine ⟨?_, (each j hj hjk).kept kA (fun b hb hm => h.notA hj (by simp at hm; exact hm ▸ hb))⟩
      rw [Array.getElem?_setIfInBounds, if_neg (fun e => hjk e.symm)]
      exact (h.each j hj).1
  · by_cases hik : i = k
    · subst hik
      rw [if_pos rfl, if_neg (fun e => hij e.symm)]
      exact fun b hb hm => hd j hj (fun e => hij e.symm) b hm hb
    · rw [if_neg hik]
      by_cases hjk : j = k
      · subst hjk
        rw [if_pos rfl]
        exact hd i hi hik
      · rw [if_neg hjk]
        exact h.apart i j hi hj hij
  · by_cases hjk : j = k
    · subst hjk
      rw [if_pos rfl] at hb
      rcases hfr b hb with h1 | h1
      · exact h.fresh j hj b h1
      · exact Nat.le_trans hB h1
    · rw [if_neg hjk] at hb
      exact h.fresh j hj b hb
  · exact ((hW.more (by simp)).trans (hst.kept.more (fun b hb => List.mem_cons_of_mem _ hb))).trans (kA.more (by simp))
end
theorem kept_above {w wr w2 : World} {S : List Nat} (h : Kept [] w wr) (hk : Kept S wr w2) (hS : ∀ b ∈ S, w.heap.size ≤ b) : Kept [] w w2 :=
  ⟨hk.os.trans h.os, hk.tape.trans h.tape, hk.output.trans h.output, Nat.le_trans h.size hk.size, fun b hb _ => (hk.block b (Nat.lt_of_lt_of_le hb h.size) (fun hm => by have := hS b hm; omega)).trans (h.block b hb (by simp))⟩
end Go.Proofs.Yteikngjanfjmfaa
