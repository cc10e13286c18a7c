/-
  Package orreryref03: the document's graph, its contracts: it makes the nodes that the program's graph has.
  The document's graph (orreryref03) as cells; a gate looked for one by one. Plain.
  Netlists in memory.
-/
import Derived.Test.YtnjoklcddodfeaaGreatDoorP03
import Derived.Test.YtnjoklcddodfeaaGreatDoorP05
import Derived.Test.YtnjoklcddodfeaaGreatDoorP06
import Derived.Test.YtnjoklcddodfeaaGreatDoorP07
import Derived.Test.YtnjoklcddodfeaaGreatDoorP04
namespace Go.Proofs.YtnjoklcddodfeaaGreatDoor
open Go.ChangeShapes Go.WideShapes Go.ChangeAt Go.RowKit
open Go.Maps (Keyed)
open Go.WideMaps
set_option linter.unusedVariables false
set_option linter.unusedSimpArgs false

/-- a bus, and where its literals lie -/
structure BR where
  b : Bus
  a : Option Addr
  c : Nat
def brCells (l : List BR) : List Value := l.flatMap fun r => [.string r.b.name, .slice r.a r.b.lits.length r.c]
def rgCells (l : List Rg) : List Value := l.flatMap fun r => [.int .u32 (r.q : Int), .int .u32 (r.d : Int), .int .u32 (r.en : Int), .bool r.init]
theorem brCells_length (l : List BR) : (brCells l).length = 2 * l.length := by
  induction l with
  | nil => rfl
  | cons r l ih => simp [brCells] at ih ⊢; omega
theorem rgCells_length (l : List Rg) : (rgCells l).length = 4 * l.length := by
  induction l with
  | nil => rfl
  | cons r l ih => simp [rgCells] at ih ⊢; omega
theorem brCells_snoc (l : List BR) (r : BR) : brCells l ++ [.string r.b.name, .slice r.a r.b.lits.length r.c] = brCells (l ++ [r]) := by simp [brCells]
theorem rgCells_snoc (l : List Rg) (r : Rg) : rgCells l ++ [.int .u32 (r.q : Int), .int .u32 (r.d : Int), .int .u32 (r.en : Int), .bool r.init] = rgCells (l ++ [r]) := by simp [rgCells]
theorem brCells_get (l : List BR) (i : Nat) (r : BR) (h : l[i]? = some r) : (brCells l)[2 * i]? = some (.string r.b.name) ∧ (brCells l)[2 * i + 1]? = some (.slice r.a r.b.lits.length r.c) := by
  induction l generalizing i with
  | nil => simp at h
  | cons q l ih =>
    cases i with
    | zero => simp at h; subst h; simp [brCells]
    | succ i =>
      have := ih i (by simpa using h)
      have e1 : 2 * (i + 1) = (2 * i) + 1 + 1 := by omega
      rw [e1]
      simpa [brCells] using this
theorem rgCells_get (l : List Rg) (i : Nat) (r : Rg) (h : l[i]? = some r) : (rgCells l)[4 * i]? = some (.int .u32 (r.q : Int)) ∧ (rgCells l)[4 * i + 1]? = some (.int .u32 (r.d : Int)) ∧ (rgCells l)[4 * i + 2]? = some (.int .u32 (r.en : Int)) ∧ (rgCells l)[4 * i + 3]? = some (.bool r.init) := by
  induction l generalizing i with
  | nil => simp at h
  | cons q l ih =>
    cases i with
    | zero => simp at h; subst h; simp [rgCells]
    | succ i =>
      have := ih i (by simpa using h)
      have e1 : 4 * (i + 1) = (4 * i) + 1 + 1 + 1 + 1 := by omega
      rw [e1]
      simpa [rgCells] using this

/-- buses in memory: where the row lies, its capacity, what each refers to -/
structure BusesAt (w : World) (a : Option Addr) (c : Nat) (l : List Bus) (rs : List BR) : Prop where
  own : w.ownsRow 0 79 2 (.slice a l.length c) l.length (brCells rs)
  is : rs.map (·.b) = l
  rows : ∀ r ∈ rs, SlN w .u32 r.a r.b.lits ∧ (∀ b ∈ ft r.a, b < w.heap.size)
def rowsOf (rs : List BR) : List Nat := rs.flatMap fun r => ft r.a
theorem mem_rowsOf {rs : List BR} {b : Nat} : b ∈ rowsOf rs ↔ ∃ r ∈ rs, b ∈ ft r.a := by simp [rowsOf]
variable {w w' : World} {p n : Nat} {F R S : List Nat} {g : Gr} {N : Nt}
theorem BusesAt.kept {a : Option Addr} {c : Nat} {l : List Bus} {rs : List BR} (h : BusesAt w a c l rs) (hk : Kept S w w') (h1 : ∀ b ∈ ft a, b ∉ S) (h2 : ∀ b ∈ rowsOf rs, b ∉ S) : BusesAt w' a c l rs :=
  ⟨own_kept h.own hk h1, h.is, fun r hr => ⟨(h.rows r hr).1.kept hk (fun b hb => h2 b (mem_rowsOf.2 ⟨r, hr, hb⟩)), fun b hb => Nat.lt_of_lt_of_le ((h.rows r hr).2 b hb) hk.size⟩⟩
theorem BusesAt.lt {a : Option Addr} {c : Nat} {l : List Bus} {rs : List BR} (h : BusesAt w a c l rs) : (∀ b ∈ ft a, b < w.heap.size) ∧ ∀ b ∈ rowsOf rs, b < w.heap.size :=
  ⟨owns_lt h.own, fun b hb => by obtain ⟨r, hr, hb⟩ := mem_rowsOf.1 hb; exact (h.rows r hr).2 b hb⟩
def nCells (p : Nat) (N : Nt) (ia : Option Addr) (ic : Nat) (ra : Option Addr) (rc : Nat) (oa : Option Addr) (oc : Nat) : Array Value :=
  #[.pointer (some ⟨p, 0, none⟩), .string N.name, .slice ia N.inb.length ic, .slice ra N.regs.length rc, .slice oa N.outb.length oc]
structure NetC (w : World) (n : Nat) (N : Nt) (p : Nat) (G : List Nat) (ia : Option Addr) (ic : Nat) (ra : Option Addr) (rc : Nat) (oa : Option Addr) (oc : Nat) (ri ro : List BR) : Prop where
  blk : w.heap[n]? = some (.cells (nCells p N ia ic ra rc oa oc) 36 (0, 0))
  gr : GraphAt w p G N.g
  ib : BusesAt w ia ic N.inb ri
  rb : w.ownsRow 0 76 4 (.slice ra N.regs.length rc) N.regs.length (rgCells N.regs)
  ob : BusesAt w oa oc N.outb ro
  io : ∀ b ∈ ft ia, b ∉ ft oa
  fr : ∀ b ∈ rowsOf ri ++ rowsOf ro, b ∉ n :: (G ++ (ft ia ++ (ft ra ++ ft oa)))
/-- what may be written, what is referred to -/
def NetAt (w : World) (n : Nat) (F R : List Nat) (N : Nt) : Prop :=
  ∃ p G ia ic ra rc oa oc ri ro, F = n :: (G ++ (ft ia ++ (ft ra ++ ft oa))) ∧ R = rowsOf ri ++ rowsOf ro ∧ NetC w n N p G ia ic ra rc oa oc ri ro
theorem GraphAt.apart_blk (h : GraphAt w p F g) {b : Nat} {cs : Array Value} {t : TypeId} (hb : w.heap[b]? = some (.cells cs t (0, 0))) (h1 : t ≠ 95) (h2 : t ≠ 97) (h3 : t ≠ 3) : b ∉ F := by
  obtain ⟨an, cn, ai, ci, m, f, rfl, hc⟩ := h
  intro hf
  simp only [gFoot, List.mem_cons, List.mem_append] at hf
  rcases hf with rfl | rfl | hf | hf
  · rw [hc.blk] at hb; injection hb with hb; injection hb with _ ht; exact h1 ht.symm
  · exact hc.made.nocell hb rfl
  · exact blk_apart hb hc.nodes h2.symm hf
  · exact blk_apart hb hc.inputs h3.symm hf
theorem NetC.kept {G : List Nat} {ia ra oa : Option Addr} {ic rc oc : Nat} {ri ro : List BR} (h : NetC w n N p G ia ic ra rc oa oc ri ro) (hk : Kept S w w') (h1 : ∀ b ∈ n :: (G ++ (ft ia ++ (ft ra ++ ft oa))), b ∉ S) (h2 : ∀ b ∈ rowsOf ri ++ rowsOf ro, b ∉ S) : NetC w' n N p G ia ic ra rc oa oc ri ro :=
  ⟨hk.heap h.blk (h1 _ (by simp)), h.gr.kept hk (fun b hb => h1 b (by simp [hb])), h.ib.kept hk (fun b hb => h1 b (by simp [hb])) (fun b hb => h2 b (by simp [hb])), own_kept h.rb hk (fun b hb => h1 b (by simp [hb])),
    h.ob.kept hk (fun b hb => h1 b (by simp [hb])) (fun b hb => h2 b (by simp [hb])), h.io, h.fr⟩
theorem NetAt.kept (h : NetAt w n F R N) (hk : Kept S w w') (h1 : ∀ b ∈ F, b ∉ S) (h2 : ∀ b ∈ R, b ∉ S) : NetAt w' n F R N := by
  obtain ⟨p, G, ia, ic, ra, rc, oa, oc, ri, ro, rfl, rfl, hc⟩ := h
  exact ⟨p, G, ia, ic, ra, rc, oa, oc, ri, ro, rfl, rfl, hc.kept hk h1 h2⟩
theorem NetAt.kept0 (h : NetAt w n F R N) (hk : Kept [] w w') : NetAt w' n F R N := h.kept hk (by simp) (by simp)
theorem NetC.lt {G : List Nat} {ia ra oa : Option Addr} {ic rc oc : Nat} {ri ro : List BR} (h : NetC w n N p G ia ic ra rc oa oc ri ro) : (∀ b ∈ n :: (G ++ (ft ia ++ (ft ra ++ ft oa))), b < w.heap.size) ∧ ∀ b ∈ rowsOf ri ++ rowsOf ro, b < w.heap.size := by
  refine ⟨fun b hb => ?_, fun b hb => ?_⟩
  · simp only [List.mem_cons, List.mem_append] at hb
    rcases hb with rfl | hb | hb | hb | hb
    · exact blk_lt h.blk
    · exact h.gr.lt b hb
    · exact h.ib.lt.1 b hb
    · exact owns_lt h.rb b hb
    · exact h.ob.lt.1 b hb
  · rcases List.mem_append.1 hb with hb | hb
    · exact h.ib.lt.2 b hb
    · exact h.ob.lt.2 b hb
theorem NetAt.lt (h : NetAt w n F R N) : (∀ b ∈ F, b < w.heap.size) ∧ ∀ b ∈ R, b < w.heap.size := by
  obtain ⟨p, G, ia, ic, ra, rc, oa, oc, ri, ro, rfl, rfl, hc⟩ := h
  exact hc.lt
theorem NetC.apart {G : List Nat} {ia ra oa : Option Addr} {ic rc oc : Nat} {ri ro : List BR} (h : NetC w n N p G ia ic ra rc oa oc ri ro) :
    n ∉ G ∧ n ∉ ft ia ∧ n ∉ ft ra ∧ n ∉ ft oa ∧ (∀ b ∈ ft ia, b ∉ G) ∧ (∀ b ∈ ft ra, b ∉ G) ∧ (∀ b ∈ ft oa, b ∉ G) ∧ (∀ b ∈ ft ra, b ∉ ft ia) ∧ (∀ b ∈ ft ra, b ∉ ft oa) :=
  ⟨h.gr.apart_blk h.blk (by decide) (by decide) (by decide), blk_apart h.blk h.ib.own (by decide), blk_apart h.blk h.rb (by decide), blk_apart h.blk h.ob.own (by decide),
    h.gr.apart h.ib.own (by decide) (by decide) (by decide), h.gr.apart h.rb (by decide) (by decide) (by decide), h.gr.apart h.ob.own (by decide) (by decide) (by decide), owns_apart h.rb h.ib.own (by decide), owns_apart h.rb h.ob.own (by decide)⟩
section
variable {G : List Nat} {ia ra oa : Option Addr} {ic rc oc : Nat} {ri ro : List BR}
theorem NetC.c0 (h : NetC w n N p G ia ic ra rc oa oc ri ro) : w.cell? ⟨n, 0, none⟩ = some (.pointer (some ⟨p, 0, none⟩)) := blk_cell h.blk 0
theorem NetC.c1 (h : NetC w n N p G ia ic ra rc oa oc ri ro) : w.cell? ⟨n, 1, none⟩ = some (.string N.name) := blk_cell h.blk 1
theorem NetC.c2 (h : NetC w n N p G ia ic ra rc oa oc ri ro) : w.cell? ⟨n, 2, none⟩ = some (.slice ia N.inb.length ic) := blk_cell h.blk 2
theorem NetC.c3 (h : NetC w n N p G ia ic ra rc oa oc ri ro) : w.cell? ⟨n, 3, none⟩ = some (.slice ra N.regs.length rc) := blk_cell h.blk 3
theorem NetC.c4 (h : NetC w n N p G ia ic ra rc oa oc ri ro) : w.cell? ⟨n, 4, none⟩ = some (.slice oa N.outb.length oc) := blk_cell h.blk 4
/-- a step of the graph -/
theorem NetC.graph {G' : List Nat} {g' : Gr} (h : NetC w n N p G ia ic ra rc oa oc ri ro) (hg : GraphAt w' p G' g') (hst : Stepped w w' G G') : NetC w' n { N with g := g' } p G' ia ic ra rc oa oc ri ro := by
  obtain ⟨a1, a2, a3, a4, a5, a6, a7, a8, a9⟩ := h.apart
  have fr := h.fr
  have lt := h.lt
  simp only [List.mem_cons, List.mem_append, not_or] at fr
  refine ⟨hst.kept.heap h.blk a1, hg, h.ib.kept hst.kept a5 (fun b hb => (fr b (.inl hb)).2.1), own_kept h.rb hst.kept a6, h.ob.kept hst.kept a7 (fun b hb => (fr b (.inr hb)).2.1), h.io, fun b hb => ?_⟩
  have f := fr b (List.mem_append.1 hb)
  have l := lt.2 b hb
  simp only [List.mem_cons, List.mem_append, not_or]
  exact ⟨f.1, fun hx => by rcases hst.fresh b hx with hx | hx; exact f.2.1 hx; omega, f.2.2⟩
/-- what a step keeps and makes -/
structure NStep (w w' : World) (F R F' R' : List Nat) : Prop where
  st : Stepped w w' F F'
  rows : ∀ b ∈ R', b ∈ R ∨ w.heap.size ≤ b
theorem NStep.refl (w : World) (F R : List Nat) : NStep w w F R F R := ⟨.refl _ _, fun _ h => .inl h⟩
theorem NStep.trans {a b c : World} {F R F' R' F'' R'' : List Nat} (h : NStep a b F R F' R') (k : NStep b c F' R' F'' R'') : NStep a c F R F'' R'' :=
  ⟨h.st.trans k.st, fun x hx => by
    rcases k.rows x hx with h1 | h1
    · exact h.rows x h1
    · exact .inr (Nat.le_trans h.st.kept.size h1)⟩
theorem NStep.keep {a b c : World} {F R F' R' : List Nat} (h : NStep a b F R F' R') (k : Kept [] b c) : NStep a c F R F' R' :=
  h.trans ⟨⟨k.more (by simp), fun _ h => .inl h⟩, fun _ h => .inl h⟩
theorem NetC.graph_step {G' : List Nat} (hst : Stepped w w' G G') : NStep w w' (n :: (G ++ (ft ia ++ (ft ra ++ ft oa)))) (rowsOf ri ++ rowsOf ro) (n :: (G' ++ (ft ia ++ (ft ra ++ ft oa)))) (rowsOf ri ++ rowsOf ro) := by
  refine ⟨⟨hst.kept.more (fun b hb => by simp [hb]), fun b hb => ?_⟩, fun b hb => .inl hb⟩
  simp only [List.mem_cons, List.mem_append] at hb ⊢
  rcases hb with hb | hb | hb
  · exact .inl (.inl hb)
  · rcases hst.fresh b hb with h | h
    · exact .inl (.inr (.inl h))
    · exact .inr h
  · exact .inl (.inr (.inr hb))
end
end Go.Proofs.YtnjoklcddodfeaaGreatDoor

namespace Go.Proofs.YtnjoklcddodfeaaGreatDoor
open Go.ChangeShapes Go.WideShapes Go.ChangeAt Go.RowKit
set_option linter.unusedVariables false

theorem look_more (a b c : Nat) (l m : List (Nat × Nat)) (h : look l a b = some c) : look (l ++ m) a b = some c := by
  induction m generalizing l with
  | nil => simpa using h
  | cons p m ih =>
    rw [show l ++ p :: m = (l ++ [p]) ++ m by simp]
    exact ih _ (by rw [look_snoc, h]; rfl)
theorem look_hit {ns : List (Nat × Nat)} {i a b : Nat} (h0 : look (ns.take i) a b = none) (hi : ns[i]? = some (a, b)) (hne : a / 2 ≠ i) : look ns a b = some (2 * i) := by
  obtain ⟨hlt, he⟩ := List.getElem?_eq_some_iff.1 hi
  have hl : (ns.take i).length = i := by rw [List.length_take]; omega
  have e : ns = (ns.take i ++ [(a, b)]) ++ ns.drop (i + 1) := by
    rw [← he]
    simp
  rw [e]
  apply look_more
  rw [look_snoc, h0, hl, if_pos ⟨rfl, hne⟩]
  rfl
theorem look_miss {ns : List (Nat × Nat)} {i a b : Nat} {p : Nat × Nat} (h0 : look (ns.take i) a b = none) (hi : ns[i]? = some p) (hne : p ≠ (a, b) ∨ a / 2 = i) : look (ns.take (i + 1)) a b = none := by
  obtain ⟨hlt, he⟩ := List.getElem?_eq_some_iff.1 hi
  have hl : (ns.take i).length = i := by rw [List.length_take]; omega
  rw [List.take_succ_eq_append_getElem hlt, look_snoc, h0, hl, he, if_neg (fun h => by rcases hne with h1 | h1; exact h1 h.1; exact h.2 h1)]
  rfl
theorem ins_take {ns : List (Nat × Nat)} {i : Nat} {p : Nat × Nat} (hi : ns[i]? = some p) (h0 : i ≠ 0) : (ins (ns.take (i + 1))).length = (ins (ns.take i)).length + (if p.1 / 2 = i then 1 else 0) := by
  obtain ⟨hlt, he⟩ := List.getElem?_eq_some_iff.1 hi
  have hl : (ns.take i).length = i := by rw [List.length_take]; omega
  rw [List.take_succ_eq_append_getElem hlt, ins_snoc, hl, he]
  simp only [inAt, h0, ne_eq, not_false_eq_true, decide_true, Bool.and_true, decide_eq_true_eq]
  split <;> simp

/-! ### Nodes as the document's graph has them -/
def rnV (i : Nat) (p : Nat × Nat) : List Value := if p.1 / 2 = i then [.bool (decide (i ≠ 0)), .int .u32 0, .int .u32 0] else [.bool false, .int .u32 (p.1 : Int), .int .u32 (p.2 : Int)]
theorem rnV_length (i : Nat) (p : Nat × Nat) : (rnV i p).length = 3 := by unfold rnV; split <;> rfl
def rcellsFrom : Nat → List (Nat × Nat) → List Value
  | _, [] => []
  | i, p :: r => rnV i p ++ rcellsFrom (i + 1) r
def rcells (ns : List (Nat × Nat)) : List Value := rcellsFrom 0 ns
theorem rcellsFrom_length (i : Nat) (ns : List (Nat × Nat)) : (rcellsFrom i ns).length = 3 * ns.length := by
  induction ns generalizing i with
  | nil => rfl
  | cons p r ih => simp only [rcellsFrom, List.length_append, rnV_length, ih, List.length_cons]; omega
theorem rcells_length (ns : List (Nat × Nat)) : (rcells ns).length = 3 * ns.length := rcellsFrom_length 0 ns
theorem rcellsFrom_snoc (i : Nat) (ns : List (Nat × Nat)) (p : Nat × Nat) : rcellsFrom i (ns ++ [p]) = rcellsFrom i ns ++ rnV (i + ns.length) p := by
  induction ns generalizing i with
  | nil => simp [rcellsFrom]
  | cons q r ih =>
    simp only [List.cons_append, rcellsFrom, ih, List.append_assoc, List.length_cons]
    rw [show i + 1 + r.length = i + (r.length + 1) by omega]
theorem rcells_snoc (ns : List (Nat × Nat)) (p : Nat × Nat) : rcells ns ++ rnV ns.length p = rcells (ns ++ [p]) := by
  unfold rcells; rw [rcellsFrom_snoc]; simp
theorem rcellsFrom_get (j : Nat) (ns : List (Nat × Nat)) (i : Nat) (p : Nat × Nat) (h : ns[i]? = some p) (k : Nat) (hk : k < 3) : (rcellsFrom j ns)[3 * i + k]? = (rnV (j + i) p)[k]? := by
  induction ns generalizing i j with
  | nil => simp at h
  | cons q r ih =>
    cases i with
    | zero =>
      simp at h; subst h
      simp only [rcellsFrom]
      rw [List.getElem?_append_left (by rw [rnV_length]; omega)]
      simp
    | succ i =>
      simp only [rcellsFrom]
      rw [List.getElem?_append_right (by rw [rnV_length]; omega), rnV_length, show 3 * (i + 1) + k - 3 = 3 * i + k by omega, ih (j + 1) i (by simpa using h), show j + 1 + i = j + (i + 1) by omega]
theorem rcells_get {ns : List (Nat × Nat)} {i : Nat} {p : Nat × Nat} (h : ns[i]? = some p) (k : Nat) (hk : k < 3) : (rcells ns)[3 * i + k]? = (rnV i p)[k]? := by
  have := rcellsFrom_get 0 ns i p h k hk
  simpa [rcells] using this
theorem rcells_one (ns : List (Nat × Nat)) : ∀ u ∈ rcells ns, u.oneCell' = true := by
  have key : ∀ i p, ∀ u ∈ rnV i p, u.oneCell' = true := by
    intro i p u hu
    unfold rnV at hu
    split at hu <;> (simp only [List.mem_cons, List.not_mem_nil, or_false] at hu; rcases hu with rfl | rfl | rfl <;> rfl)
  suffices h : ∀ i, ∀ u ∈ rcellsFrom i ns, u.oneCell' = true from h 0
  induction ns with
  | nil => simp [rcellsFrom]
  | cons p r ih =>
    intro i u hu
    simp only [rcellsFrom, List.mem_append] at hu
    rcases hu with hu | hu
    · exact key _ _ u hu
    · exact ih _ u hu
/-- The document's graph behind the pointer to block q, its parts by name. -/
structure RefC (w : World) (q : Nat) (g : Gr) (an : Option Addr) (cn : Nat) : Prop where
  blk : w.heap[q]? = some (.cells #[.bool g.fold, .bool g.hash, .slice an g.nodes.length cn] 116 (0, 0))
  nodes : w.ownsRow 0 118 3 (.slice an g.nodes.length cn) g.nodes.length (rcells g.nodes)
  wf : WF g.nodes
def RefAt (w : World) (q : Nat) (R : List Nat) (g : Gr) : Prop := ∃ an cn, R = q :: ft an ∧ RefC w q g an cn
variable {w w' : World} {q : Nat} {R S : List Nat} {g : Gr}
theorem RefC.kept {an : Option Addr} {cn : Nat} (h : RefC w q g an cn) (hk : Kept S w w') (hd : ∀ b ∈ q :: ft an, b ∉ S) : RefC w' q g an cn :=
  ⟨hk.heap h.blk (hd _ (by simp)), own_kept h.nodes hk (fun b hb => hd b (by simp [hb])), h.wf⟩
theorem RefAt.kept (h : RefAt w q R g) (hk : Kept S w w') (hd : ∀ b ∈ R, b ∉ S) : RefAt w' q R g := by
  obtain ⟨an, cn, rfl, hc⟩ := h
  exact ⟨an, cn, rfl, hc.kept hk hd⟩
theorem RefAt.kept0 (h : RefAt w q R g) (hk : Kept [] w w') : RefAt w' q R g := h.kept hk (by simp)
theorem RefAt.wf (h : RefAt w q R g) : WF g.nodes := by obtain ⟨an, cn, rfl, hc⟩ := h; exact hc.wf
theorem RefAt.lt (h : RefAt w q R g) : ∀ b ∈ R, b < w.heap.size := by
  obtain ⟨an, cn, rfl, hc⟩ := h
  intro b hb
  rcases List.mem_cons.1 hb with h1 | h1
  · subst h1; exact blk_lt hc.blk
  · exact owns_lt hc.nodes b h1
/-- a row of structs of three cells: its address, its cells -/
theorem own3_form {e : TypeId} {a : Option Addr} {n c size : Nat} {xs : List Value} (h : w.ownsRow 0 e size (.slice a n c) n xs) (hn : 0 < n) : ∃ gb, a = some ⟨gb, 0, none⟩ ∧ ∀ j u, xs[j]? = some u → w.cell? ⟨gb, j, none⟩ = some u := by
  rcases h.2 with ⟨hv, h0⟩ | ⟨g, cap', cur, hv, hb, hg, rest⟩
  · omega
  · have hc := World.ownsRow.cells h (g := g) (by rw [hv]; rfl)
    injection hv with hv
    refine ⟨g, hv, fun j u hu => ?_⟩
    have := hc j u hu
    have e : (⟨g, 0, none⟩ : Addr).add j = ⟨g, j, none⟩ := by unfold Addr.add; split <;> simp_all
    rw [e] at this
    exact this
theorem rnode_info : (Tryz.prog.info? 118).map (fun i => (i.zero, i.size, i.bytes)) = some (some (.agg #[.bool false, .int .u32 0, .int .u32 0]), 3, 12) := by kernel_rfl
end Go.Proofs.YtnjoklcddodfeaaGreatDoor

namespace Go.Proofs.YtnjoklcddodfeaaGreatDoor
open Go.ChangeShapes Go.WideShapes Go.ChangeAt Go.RowKit
open Go.Maps (Keyed)
open Go.WideMaps
set_option linter.unusedVariables false

variable {w w' : World} {q : Nat} {R S : List Nat} {g : Gr}
theorem ref_new (o1 o2 : Bool) (w : World) : Calls Tryz.prog 59 #[.bool o1, .bool o2] w fun e w' => ∃ q R, e = .returned (.pointer (some ⟨q, 0, none⟩)) ∧ RefAt w' q R { fold := o1, hash := o2, nodes := [(0, 0)] } ∧ Stepped w w' [] R := by
  have hmk : ∀ w, (Instr.makeSlice 114 (.int .i64 1) (.int .i64 1)).run Tryz.prog w = .ok (.slice (some ⟨w.heap.size, 0, none⟩) 1 1) (w.alloc (.cells #[.bool false, .int .u32 0, .int .u32 0] 118)) := fun _ => by kernel_rfl
  go_enter Tryz.func59, Tryz.ntmps59
  go_wp2
  go_ret
  have h1 : (w.alloc (.cells #[.bool false, .int .u32 0, .int .u32 0] 118)).heap[w.heap.size]? = some (.cells #[.bool false, .int .u32 0, .int .u32 0] 118 (0, 0)) := heap_alloc_new w _
  have h2 := heap_alloc_new (w.alloc (.cells #[.bool false, .int .u32 0, .int .u32 0] 118)) (.cells #[.bool o1, .bool o2, .slice (some ⟨w.heap.size, 0, none⟩) 1 1] 116)
  refine ⟨w.heap.size + 1, (w.heap.size + 1) :: ft (some ⟨w.heap.size, 0, none⟩), by simp [go_sem], ⟨some ⟨w.heap.size, 0, none⟩, 1, rfl, ⟨by simpa using h2, ?_, ⟨rfl, fun i a b h => ?_⟩⟩⟩, ?_⟩
  · refine ⟨rfl, .inr ⟨w.heap.size, 1, #[.bool false, .int .u32 0, .int .u32 0], rfl, Nat.zero_le _, ?_, Nat.le_refl _, by decide, rfl, rfl⟩⟩
    exact (Below.heap_alloc _ _ _ (by simp)).trans h1
  · cases i with
    | zero => simp at h; omega
    | succ i => simp at h
  · have := ((Stepped.refl w []).allocOwn (.cells #[.bool false, .int .u32 0, .int .u32 0] 118)).allocOwn (.cells #[.bool o1, .bool o2, .slice (some ⟨w.heap.size, 0, none⟩) 1 1] 116)
    simpa [ft] using this
theorem RefC.c0 {an : Option Addr} {cn : Nat} (h : RefC w q g an cn) : w.cell? ⟨q, 0, none⟩ = some (.bool g.fold) := blk_cell h.blk 0
theorem RefC.c1 {an : Option Addr} {cn : Nat} (h : RefC w q g an cn) : w.cell? ⟨q, 1, none⟩ = some (.bool g.hash) := blk_cell h.blk 1
theorem RefC.c2 {an : Option Addr} {cn : Nat} (h : RefC w q g an cn) : w.cell? ⟨q, 2, none⟩ = some (.slice an g.nodes.length cn) := blk_cell h.blk 2
/-- a node's three cells -/
theorem rnode_cells {gb k : Nat} {ns : List (Nat × Nat)} {p : Nat × Nat} (h : ∀ j u, (rcells ns)[j]? = some u → w.cell? ⟨gb, j, none⟩ = some u) (hp : ns[k]? = some p) :
    w.cell? ⟨gb, k * 3, none⟩ = some (.bool (decide (p.1 / 2 = k) && decide (k ≠ 0))) ∧ (p.1 / 2 ≠ k → w.cell? ⟨gb, k * 3 + 1, none⟩ = some (.int .u32 (p.1 : Int)) ∧ w.cell? ⟨gb, k * 3 + 2, none⟩ = some (.int .u32 (p.2 : Int))) := by
  have h0 := rcells_get hp 0 (by omega)
  have h1 := rcells_get hp 1 (by omega)
  have h2 := rcells_get hp 2 (by omega)
  rw [show 3 * k = k * 3 by omega] at h0 h1 h2
  unfold rnV at h0 h1 h2
  refine ⟨?_, fun hne => ⟨?_, ?_⟩⟩
  · by_cases hp2 : p.1 / 2 = k
    · rw [if_pos hp2] at h0
      rw [show k * 3 = k * 3 + 0 from rfl, h _ _ h0]
      simp [hp2]
    · rw [if_neg hp2] at h0
      rw [show k * 3 = k * 3 + 0 from rfl, h _ _ h0]
      simp [hp2]
  · rw [if_neg hne] at h1
    exact h _ _ h1
  · rw [if_neg hne] at h2
    exact h _ _ h2
set_option maxHeartbeats 800000 in
theorem ref_inputs (hg : RefAt w q R g) (hm : g.nodes.length ≤ 100000) : Calls Tryz.prog 157 #[.pointer (some ⟨q, 0, none⟩)] w fun e w' => e = .returned (.int .i64 ((ins g.nodes).length : Nat)) ∧ w = w' := by
  have hp := hg.wf.pos
  obtain ⟨an, cn, rfl, hc⟩ := hg
  have c2 := hc.c2
  obtain ⟨gb, rfl, hcell⟩ := own3_form hc.nodes (by omega)
  have HC := Lib.hid hcell
  have hz := hc.wf.zero
  have HZ := Lib.hid (show (ins (g.nodes.take 1)).length = 0 by
    obtain ⟨p, r, hr⟩ : ∃ p r, g.nodes = p :: r := by cases h : g.nodes with | nil => rw [h] at hp; simp at hp | cons p r => exact ⟨p, r, rfl⟩
    rw [hr]; simp [ins, insFrom])
  clear hc hcell hz
  go_enter Tryz.func157, Tryz.ntmps157
  go_wp2
  go_loop [3, 4] (fun n i => ∃ k : Nat, 1 ≤ k ∧ k ≤ g.nodes.length ∧ i = .int .i64 k ∧ n = .int .i64 ((ins (g.nodes.take k)).length : Nat)) (fun _ i => g.nodes.length - (intOf i).toNat)
  case atStart => exact ⟨1, by omega, by omega, rfl, by rw [HZ.out]; rfl⟩
  case round =>
    obtain ⟨k, hk1, hk, rfl, rfl⟩ := hrel
    by_cases hlt : k < g.nodes.length
    · obtain ⟨p, hpk⟩ : ∃ p, g.nodes[k]? = some p := ⟨_, List.getElem?_eq_getElem hlt⟩
      have hcb := (rnode_cells HC.out hpk).1
      have hle := insFrom_length 0 (g.nodes.take k)
      have hle2 : (ins (g.nodes.take k)).length ≤ k := by unfold ins; rw [List.length_take] at hle; omega
      have HI := Lib.hid (ins_take hpk (by omega))
      clear hle
      by_cases hin : p.1 / 2 = k
      · have hb : (decide (p.1 / 2 = k) && decide (k ≠ 0)) = true := by simp [hin]; omega
        rw [hb] at hcb
        rw [if_pos hin] at HI
        clear hin hb hpk
        generalize (ins (g.nodes.take k)).length = m at *
        go_wp2
        go_round
        case rel => exact ⟨k + 1, by omega, by omega, by go_num, by rw [HI.out]; go_num⟩
        case measure => simp [intOf]; omega
      · have hb : (decide (p.1 / 2 = k) && decide (k ≠ 0)) = false := by simp [hin]
        rw [hb] at hcb
        rw [if_neg hin] at HI
        clear hin hb hpk
        generalize (ins (g.nodes.take k)).length = m at *
        go_wp2
        go_round
        case rel => exact ⟨k + 1, by omega, by omega, by go_num, by rw [HI.out]; rfl⟩
        case measure => simp [intOf]; omega
    · have HE := Lib.hid (show g.nodes.take k = g.nodes from List.take_of_length_le (by omega))
      rw [HE.out]
      go_wp2
      go_ret
      exact ⟨rfl, rfl⟩
theorem ref_gates (hg : RefAt w q R g) (hm : g.nodes.length ≤ 100000) : Calls Tryz.prog 154 #[.pointer (some ⟨q, 0, none⟩)] w fun e w' => e = .returned (.int .i64 (gatesN g)) ∧ ∃ k, w' = w.drewN k := by
  have hile : (ins g.nodes).length ≤ g.nodes.length := insFrom_length 0 g.nodes
  have hp := hg.wf.pos
  have HI := Lib.hid (fun n => ref_inputs (hg.kept0 ((Kept.refl [] w).drewN n)) hm)
  obtain ⟨an, cn, rfl, hc⟩ := hg
  have c2 := hc.c2
  have HD := Lib.hid (show gatesN g = (g.nodes.length : Int) - 1 - ((ins g.nodes).length : Nat) from rfl)
  clear hc
  generalize (ins g.nodes).length = m at *
  go_enter Tryz.func154, Tryz.ntmps154
  go_wp2
  go_quiet ((go_at_call 157; with_reducible exact q_same (HI.out _)))
  go_wp2
  go_ret
  exact ⟨by rw [HD.out]; rfl, _, rfl⟩
end Go.Proofs.YtnjoklcddodfeaaGreatDoor
