/-
  The document's netlists in memory.
  Package orreryref03: literals that are there; Raw. Two graphs side by side.
-/
import Derived.Test.YtielfgngdhcpfaaGreatP37
import Derived.Test.YtielfgngdhcpfaaGreatP14
import Derived.Test.YtielfgngdhcpfaaGreatP13
namespace Go.Proofs.YtielfgngdhcpfaaGreat
open Go.ChangeShapes Go.WideShapes Go.ChangeAt Go.RowKit
open Go.Maps (Keyed)
open Go.WideMaps
set_option linter.unusedVariables false

variable {w w' : World} {q p : Nat} {R F S : List Nat} {g : Gr}
set_option maxHeartbeats 800000 in
theorem ref_there (hg : RefAt w q R g) (hm : g.nodes.length ≤ 90000) (a : Option Addr) (c n : Nat) (l : List Nat) (hl : l.length = n) (hn : n ≤ 1000000) (hs : SlN w .u32 a l) (hok : ∀ x ∈ l, g.ok x) :
    Calls Tryz.prog 64 #[.pointer (some ⟨q, 0, none⟩), .slice a n c] w fun e w' => e = .returned (.bool true) ∧ ∃ k, w' = w.drewN k := by
  obtain ⟨an, cn, rfl, hc⟩ := hg
  have c2 := hc.c2
  have HL := Lib.hid hl
  have HS := Lib.hid hs
  have HOK := Lib.hid hok
  clear hc hl hs hok
  go_enter Tryz.func64, Tryz.ntmps64
  go_wp2_with fail
  go_loopw [5] (fun i wr => ∃ k m : Nat, k ≤ n ∧ i = .int .i64 k ∧ wr = w.drewN m) (fun i _ => n - (intOf i).toNat)
  case atStart => exact ⟨0, 0, Nat.zero_le _, rfl, rfl⟩
  case round =>
    obtain ⟨k, m, hk, rfl, rfl⟩ := hrel
    by_cases hlt : k < n
    · have hkl : k < l.length := by rw [HL.out]; exact hlt
      obtain ⟨ad, rfl, hcx⟩ := HS.out k hkl
      have hx := HOK.out _ (List.getElem_mem hkl)
      unfold Gr.ok at hx
      generalize l[k] = x at *
      have b1 : (x : Int) / 2 < (g.nodes.length : Int) := by omega
      have t1 : decide ((g.nodes.length : Int) ≤ (x : Int) / 2) = false := by simp; omega
      have t2 : decide (g.nodes.length ≤ x / 2) = false := by simp; omega
      go_wp2_with fail
      go_quiet (fail)
      go_wp2_with fail
      go_roundw
      case rel => exact ⟨k + 1, _, by omega, by go_num, rfl⟩
      case measure => simp [intOf]; omega
    · go_wp2_with fail
      go_ret
      exact ⟨rfl, m, rfl⟩

/-! ### The program's graph and the document's, side by side -/
theorem ref_apart {w1 w2 : World} {G G' : List Nat} (hg : RefAt w1 q R g) (hd : ∀ x ∈ R, x ∉ G) (hst : Stepped w1 w2 G G') : RefAt w2 q R g ∧ ∀ x ∈ R, x ∉ G' :=
  ⟨hg.kept hst.kept hd, fun x hx hf => by
    rcases hst.fresh x hf with h | h
    · exact hd x hx h
    · have := hg.lt x hx; omega⟩
theorem graph_apart {w1 w2 : World} {G G' : List Nat} (hg : GraphAt w1 p F g) (hd : ∀ x ∈ F, x ∉ G) (hst : Stepped w1 w2 G G') : GraphAt w2 p F g ∧ ∀ x ∈ F, x ∉ G' :=
  ⟨hg.kept hst.kept hd, fun x hx hf => by
    rcases hst.fresh x hf with h | h
    · exact hd x hx h
    · have := hg.lt x hx; omega⟩
structure Both (w0 w : World) (p : Nat) (F : List Nat) (q : Nat) (R : List Nat) (g : Gr) : Prop where
  graph : GraphAt w p F g
  ref : RefAt w q R g
  apart : ∀ x ∈ F, x ∉ R
  kept : Kept [] w0 w
  newF : ∀ x ∈ F, w0.heap.size ≤ x
  newR : ∀ x ∈ R, w0.heap.size ≤ x
theorem Both.kept0 {w0 w w' : World} {F R : List Nat} (h : Both w0 w p F q R g) (hk : Kept [] w w') : Both w0 w' p F q R g := ⟨h.graph.kept0 hk, h.ref.kept0 hk, h.apart, h.kept.trans hk, h.newF, h.newR⟩
/-- one step of each -/
theorem Both.step {w0 w w1 w2 : World} {F F' R R' : List Nat} {g' : Gr} (h : Both w0 w p F q R g) (h1 : GraphAt w1 p F' g') (s1 : Stepped w w1 F F') (h2 : RefAt w2 q R' g') (s2 : Stepped w1 w2 R R') : Both w0 w2 p F' q R' g' := by
  have a1 := ref_apart h.ref (fun x hx hf => h.apart x hf hx) s1
  have a2 := graph_apart h1 (fun x hx hf => a1.2 x hf hx) s2
  refine ⟨a2.1, h2, a2.2, ?_, ?_, ?_⟩
  · exact kept_up (kept_up h.kept s1.kept h.newF) s2.kept h.newR
  · intro x hx
    rcases s1.fresh x hx with h3 | h3
    · exact h.newF x h3
    · exact Nat.le_trans h.kept.size h3
  · intro x hx
    rcases s2.fresh x hx with h3 | h3
    · exact h.newR x h3
    · exact Nat.le_trans (Nat.le_trans h.kept.size s1.kept.size) h3
end Go.Proofs.YtielfgngdhcpfaaGreat

namespace Go.Proofs.YtielfgngdhcpfaaGreat
open Go.ChangeShapes Go.WideShapes Go.ChangeAt Go.RowKit
open Go.Maps (Keyed)
open Go.WideMaps
set_option linter.unusedVariables false
set_option linter.unusedSimpArgs false

/-- buses in memory: where the row lies, its capacity, what each refers to -/
structure RBusesAt (w : World) (a : Option Addr) (c : Nat) (l : List Bus) (rs : List BR) : Prop where
  own : w.ownsRow 0 136 2 (.slice a l.length c) l.length (brCells rs)
  is : rs.map (·.b) = l
  rows : ∀ r ∈ rs, SlN w .u32 r.a r.b.lits ∧ (∀ b ∈ ft r.a, b < w.heap.size)
variable {w w' : World} {p n : Nat} {F R S : List Nat} {g : Gr} {N : Nt}
theorem RBusesAt.kept {a : Option Addr} {c : Nat} {l : List Bus} {rs : List BR} (h : RBusesAt w a c l rs) (hk : Kept S w w') (h1 : ∀ b ∈ ft a, b ∉ S) (h2 : ∀ b ∈ rowsOf rs, b ∉ S) : RBusesAt w' a c l rs :=
  ⟨own_kept h.own hk h1, h.is, fun r hr => ⟨(h.rows r hr).1.kept hk (fun b hb => h2 b (mem_rowsOf.2 ⟨r, hr, hb⟩)), fun b hb => Nat.lt_of_lt_of_le ((h.rows r hr).2 b hb) hk.size⟩⟩
theorem RBusesAt.lt {a : Option Addr} {c : Nat} {l : List Bus} {rs : List BR} (h : RBusesAt w a c l rs) : (∀ b ∈ ft a, b < w.heap.size) ∧ ∀ b ∈ rowsOf rs, b < w.heap.size :=
  ⟨owns_lt h.own, fun b hb => by obtain ⟨r, hr, hb⟩ := mem_rowsOf.1 hb; exact (h.rows r hr).2 b hb⟩
structure RNetC (w : World) (n : Nat) (N : Nt) (p : Nat) (G : List Nat) (ia : Option Addr) (ic : Nat) (ra : Option Addr) (rc : Nat) (oa : Option Addr) (oc : Nat) (ri ro : List BR) : Prop where
  blk : w.heap[n]? = some (.cells (nCells p N ia ic ra rc oa oc) 132 (0, 0))
  gr : RefAt w p G N.g
  ib : RBusesAt w ia ic N.inb ri
  rb : w.ownsRow 0 134 4 (.slice ra N.regs.length rc) N.regs.length (rgCells N.regs)
  ob : RBusesAt w oa oc N.outb ro
  io : ∀ b ∈ ft ia, b ∉ ft oa
  fr : ∀ b ∈ rowsOf ri ++ rowsOf ro, b ∉ n :: (G ++ (ft ia ++ (ft ra ++ ft oa)))
/-- what may be written, what is referred to -/
def RNetAt (w : World) (n : Nat) (F R : List Nat) (N : Nt) : Prop :=
  ∃ p G ia ic ra rc oa oc ri ro, F = n :: (G ++ (ft ia ++ (ft ra ++ ft oa))) ∧ R = rowsOf ri ++ rowsOf ro ∧ RNetC w n N p G ia ic ra rc oa oc ri ro
theorem RefAt.apart (h : RefAt w p F g) {e : TypeId} {size n cap : Nat} {a : Option Addr} {xs : List Value} (ho : w.ownsRow 0 e size (.slice a n cap) n xs) (h1 : e ≠ 139) (h2 : e ≠ 141) : ∀ b ∈ ft a, b ∉ F := by
  obtain ⟨an, cn, rfl, hc⟩ := h
  intro b hb hf
  rcases List.mem_cons.1 hf with rfl | hf
  · exact blk_apart hc.blk ho h1 hb
  · exact owns_apart ho hc.nodes h2 b hb hf
theorem RefAt.apart_blk (h : RefAt w p F g) {b : Nat} {cs : Array Value} {t : TypeId} (hb : w.heap[b]? = some (.cells cs t (0, 0))) (h1 : t ≠ 139) (h2 : t ≠ 141) : b ∉ F := by
  obtain ⟨an, cn, rfl, hc⟩ := h
  intro hf
  rcases List.mem_cons.1 hf with rfl | hf
  · rw [hc.blk] at hb; injection hb with hb; injection hb with _ ht; exact h1 ht.symm
  · exact blk_apart hb hc.nodes h2.symm hf
theorem RNetC.kept {G : List Nat} {ia ra oa : Option Addr} {ic rc oc : Nat} {ri ro : List BR} (h : RNetC w n N p G ia ic ra rc oa oc ri ro) (hk : Kept S w w') (h1 : ∀ b ∈ n :: (G ++ (ft ia ++ (ft ra ++ ft oa))), b ∉ S) (h2 : ∀ b ∈ rowsOf ri ++ rowsOf ro, b ∉ S) : RNetC w' n N p G ia ic ra rc oa oc ri ro :=
  ⟨hk.heap h.blk (h1 _ (by simp)), h.gr.kept hk (fun b hb => h1 b (by simp [hb])), h.ib.kept hk (fun b hb => h1 b (by simp [hb])) (fun b hb => h2 b (by simp [hb])), own_kept h.rb hk (fun b hb => h1 b (by simp [hb])),
    h.ob.kept hk (fun b hb => h1 b (by simp [hb])) (fun b hb => h2 b (by simp [hb])), h.io, h.fr⟩
theorem RNetAt.kept (h : RNetAt w n F R N) (hk : Kept S w w') (h1 : ∀ b ∈ F, b ∉ S) (h2 : ∀ b ∈ R, b ∉ S) : RNetAt w' n F R N := by
  obtain ⟨p, G, ia, ic, ra, rc, oa, oc, ri, ro, rfl, rfl, hc⟩ := h
  exact ⟨p, G, ia, ic, ra, rc, oa, oc, ri, ro, rfl, rfl, hc.kept hk h1 h2⟩
theorem RNetAt.kept0 (h : RNetAt w n F R N) (hk : Kept [] w w') : RNetAt w' n F R N := h.kept hk (by simp) (by simp)
theorem RNetC.lt {G : List Nat} {ia ra oa : Option Addr} {ic rc oc : Nat} {ri ro : List BR} (h : RNetC w n N p G ia ic ra rc oa oc ri ro) : (∀ b ∈ n :: (G ++ (ft ia ++ (ft ra ++ ft oa))), b < w.heap.size) ∧ ∀ b ∈ rowsOf ri ++ rowsOf ro, b < w.heap.size := by
  refine ⟨fun b hb => ?_, fun b hb => ?_⟩
  · simp only [List.mem_cons, List.mem_append] at hb
    rcases hb with rfl | hb | hb | hb | hb
    · exact blk_lt h.blk
    · exact h.gr.lt b hb
    · exact h.ib.lt.1 b hb
    · exact owns_lt h.rb b hb
    · exact h.ob.lt.1 b hb
  · rcases List.mem_append.1 hb with hb | hb
    · exact h.ib.lt.2 b hb
    · exact h.ob.lt.2 b hb
theorem RNetAt.lt (h : RNetAt w n F R N) : (∀ b ∈ F, b < w.heap.size) ∧ ∀ b ∈ R, b < w.heap.size := by
  obtain ⟨p, G, ia, ic, ra, rc, oa, oc, ri, ro, rfl, rfl, hc⟩ := h
  exact hc.lt
theorem RNetC.apart {G : List Nat} {ia ra oa : Option Addr} {ic rc oc : Nat} {ri ro : List BR} (h : RNetC w n N p G ia ic ra rc oa oc ri ro) :
    n ∉ G ∧ n ∉ ft ia ∧ n ∉ ft ra ∧ n ∉ ft oa ∧ (∀ b ∈ ft ia, b ∉ G) ∧ (∀ b ∈ ft ra, b ∉ G) ∧ (∀ b ∈ ft oa, b ∉ G) ∧ (∀ b ∈ ft ra, b ∉ ft ia) ∧ (∀ b ∈ ft ra, b ∉ ft oa) :=
  ⟨h.gr.apart_blk h.blk (by decide) (by decide), blk_apart h.blk h.ib.own (by decide), blk_apart h.blk h.rb (by decide), blk_apart h.blk h.ob.own (by decide),
    h.gr.apart h.ib.own (by decide) (by decide), h.gr.apart h.rb (by decide) (by decide), h.gr.apart h.ob.own (by decide) (by decide), owns_apart h.rb h.ib.own (by decide), owns_apart h.rb h.ob.own (by decide)⟩
section
variable {G : List Nat} {ia ra oa : Option Addr} {ic rc oc : Nat} {ri ro : List BR}
theorem RNetC.c0 (h : RNetC w n N p G ia ic ra rc oa oc ri ro) : w.cell? ⟨n, 0, none⟩ = some (.pointer (some ⟨p, 0, none⟩)) := blk_cell h.blk 0
theorem RNetC.c1 (h : RNetC w n N p G ia ic ra rc oa oc ri ro) : w.cell? ⟨n, 1, none⟩ = some (.string N.name) := blk_cell h.blk 1
theorem RNetC.c2 (h : RNetC w n N p G ia ic ra rc oa oc ri ro) : w.cell? ⟨n, 2, none⟩ = some (.slice ia N.inb.length ic) := blk_cell h.blk 2
theorem RNetC.c3 (h : RNetC w n N p G ia ic ra rc oa oc ri ro) : w.cell? ⟨n, 3, none⟩ = some (.slice ra N.regs.length rc) := blk_cell h.blk 3
theorem RNetC.c4 (h : RNetC w n N p G ia ic ra rc oa oc ri ro) : w.cell? ⟨n, 4, none⟩ = some (.slice oa N.outb.length oc) := blk_cell h.blk 4
/-- a step of the graph -/
theorem RNetC.graph {G' : List Nat} {g' : Gr} (h : RNetC w n N p G ia ic ra rc oa oc ri ro) (hg : RefAt w' p G' g') (hst : Stepped w w' G G') : RNetC w' n { N with g := g' } p G' ia ic ra rc oa oc ri ro := by
  obtain ⟨a1, a2, a3, a4, a5, a6, a7, a8, a9⟩ := h.apart
  have fr := h.fr
  have lt := h.lt
  simp only [List.mem_cons, List.mem_append, not_or] at fr
  refine ⟨hst.kept.heap h.blk a1, hg, h.ib.kept hst.kept a5 (fun b hb => (fr b (.inl hb)).2.1), own_kept h.rb hst.kept a6, h.ob.kept hst.kept a7 (fun b hb => (fr b (.inr hb)).2.1), h.io, fun b hb => ?_⟩
  have f := fr b (List.mem_append.1 hb)
  have l := lt.2 b hb
  simp only [List.mem_cons, List.mem_append, not_or]
  exact ⟨f.1, fun hx => by rcases hst.fresh b hx with hx | hx; exact f.2.1 hx; omega, f.2.2⟩
theorem RNetC.graph_step {G' : List Nat} (hst : Stepped w w' G G') : NStep w w' (n :: (G ++ (ft ia ++ (ft ra ++ ft oa)))) (rowsOf ri ++ rowsOf ro) (n :: (G' ++ (ft ia ++ (ft ra ++ ft oa)))) (rowsOf ri ++ rowsOf ro) := by
  refine ⟨⟨hst.kept.more (fun b hb => by simp [hb]), fun b hb => ?_⟩, fun b hb => .inl hb⟩
  simp only [List.mem_cons, List.mem_append] at hb ⊢
  rcases hb with hb | hb | hb
  · exact .inl (.inl hb)
  · rcases hst.fresh b hb with h | h
    · exact .inl (.inr (.inl h))
    · exact .inr h
  · exact .inl (.inr (.inr hb))
end
end Go.Proofs.YtielfgngdhcpfaaGreat
