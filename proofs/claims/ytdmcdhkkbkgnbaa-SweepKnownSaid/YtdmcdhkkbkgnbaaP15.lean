/-
  Contracts of package cone: asks, Words, Depth.
  Contracts on known numbers; the chapter's rows (tells) of law 02.
  Netlists in memory.
-/
import Derived.Test.YtdmcdhkkbkgnbaaP03
import Derived.Test.YtdmcdhkkbkgnbaaP09
import Derived.Test.YtdmcdhkkbkgnbaaP10
import Derived.Test.YtdmcdhkkbkgnbaaP14
import Derived.Test.YtdmcdhkkbkgnbaaP06
import Derived.Deep.RegionWith
import Derived.Test.YtdmcdhkkbkgnbaaP11
import Derived.Deep.RegionHeld3
import Derived.Deep.RegionLaw
import Derived.Outline
namespace Go.Proofs.Ytdmcdhkkbkgnbaa
open Go.ChangeShapes Go.WideShapes Go.ChangeAt Go.RowKit
open Go.Maps (Keyed)
open Go.WideMaps
set_option linter.unusedVariables false
set_option linter.unusedSimpArgs false

/-- a bus, and where its literals lie -/
structure BR where
  b : Bus
  a : Option Addr
  c : Nat
def brCells (l : List BR) : List Value := l.flatMap fun r => [.string r.b.name, .slice r.a r.b.lits.length r.c]
def rgCells (l : List Rg) : List Value := l.flatMap fun r => [.int .u32 (r.q : Int), .int .u32 (r.d : Int), .int .u32 (r.en : Int), .bool r.init]
theorem brCells_length (l : List BR) : (brCells l).length = 2 * l.length := by
  induction l with
  | nil => rfl
  | cons r l ih => simp [brCells] at ih ⊢; omega
theorem rgCells_length (l : List Rg) : (rgCells l).length = 4 * l.length := by
  induction l with
  | nil => rfl
  | cons r l ih => simp [rgCells] at ih ⊢; omega
theorem brCells_snoc (l : List BR) (r : BR) : brCells l ++ [.string r.b.name, .slice r.a r.b.lits.length r.c] = brCells (l ++ [r]) := by simp [brCells]
theorem rgCells_snoc (l : List Rg) (r : Rg) : rgCells l ++ [.int .u32 (r.q : Int), .int .u32 (r.d : Int), .int .u32 (r.en : Int), .bool r.init] = rgCells (l ++ [r]) := by simp [rgCells]
theorem brCells_get (l : List BR) (i : Nat) (r : BR) (h : l[i]? = some r) : (brCells l)[2 * i]? = some (.string r.b.name) ∧ (brCells l)[2 * i + 1]? = some (.slice r.a r.b.lits.length r.c) := by
  induction l generalizing i with
  | nil => simp at h
  | cons q l ih =>
    cases i with
    | zero => simp at h; subst h; simp [brCells]
    | succ i =>
      have := ih i (by simpa using h)
      have e1 : 2 * (i + 1) = (2 * i) + 1 + 1 := by omega
      rw [e1]
      simpa [brCells] using this
theorem rgCells_get (l : List Rg) (i : Nat) (r : Rg) (h : l[i]? = some r) : (rgCells l)[4 * i]? = some (.int .u32 (r.q : Int)) ∧ (rgCells l)[4 * i + 1]? = some (.int .u32 (r.d : Int)) ∧ (rgCells l)[4 * i + 2]? = some (.int .u32 (r.en : Int)) ∧ (rgCells l)[4 * i + 3]? = some (.bool r.init) := by
  induction l generalizing i with
  | nil => simp at h
  | cons q l ih =>
    cases i with
    | zero => simp at h; subst h; simp [rgCells]
    | succ i =>
      have := ih i (by simpa using h)
      have e1 : 4 * (i + 1) = (4 * i) + 1 + 1 + 1 + 1 := by omega
      rw [e1]
      simpa [rgCells] using this

/-- buses in memory: where the row lies, its capacity, what each refers to -/
structure BusesAt (w : World) (a : Option Addr) (c : Nat) (l : List Bus) (rs : List BR) : Prop where
  own : w.ownsRow 0 50 2 (.slice a l.length c) l.length (brCells rs)
  is : rs.map (·.b) = l
  rows : ∀ r ∈ rs, SlN w .u32 r.a r.b.lits ∧ (∀ b ∈ ft r.a, b < w.heap.size)
def rowsOf (rs : List BR) : List Nat := rs.flatMap fun r => ft r.a
theorem mem_rowsOf {rs : List BR} {b : Nat} : b ∈ rowsOf rs ↔ ∃ r ∈ rs, b ∈ ft r.a := by simp [rowsOf]
variable {w w' : World} {p n : Nat} {F R S : List Nat} {g : Gr} {N : Nt}
theorem BusesAt.kept {a : Option Addr} {c : Nat} {l : List Bus} {rs : List BR} (h : BusesAt w a c l rs) (hk : Kept S w w') (h1 : ∀ b ∈ ft a, b ∉ S) (h2 : ∀ b ∈ rowsOf rs, b ∉ S) : BusesAt w' a c l rs :=
  ⟨own_kept h.own hk h1, h.is, fun r hr => ⟨(h.rows r hr).1.kept hk (fun b hb => h2 b (mem_rowsOf.2 ⟨r, hr, hb⟩)), fun b hb => Nat.lt_of_lt_of_le ((h.rows r hr).2 b hb) hk.size⟩⟩
theorem BusesAt.lt {a : Option Addr} {c : Nat} {l : List Bus} {rs : List BR} (h : BusesAt w a c l rs) : (∀ b ∈ ft a, b < w.heap.size) ∧ ∀ b ∈ rowsOf rs, b < w.heap.size :=
  ⟨owns_lt h.own, fun b hb => by obtain ⟨r, hr, hb⟩ := mem_rowsOf.1 hb; exact (h.rows r hr).2 b hb⟩
def nCells (p : Nat) (N : Nt) (ia : Option Addr) (ic : Nat) (ra : Option Addr) (rc : Nat) (oa : Option Addr) (oc : Nat) : Array Value :=
  #[.pointer (some ⟨p, 0, none⟩), .string N.name, .slice ia N.inb.length ic, .slice ra N.regs.length rc, .slice oa N.outb.length oc]
structure NetC (w : World) (n : Nat) (N : Nt) (p : Nat) (G : List Nat) (ia : Option Addr) (ic : Nat) (ra : Option Addr) (rc : Nat) (oa : Option Addr) (oc : Nat) (ri ro : List BR) : Prop where
  blk : w.heap[n]? = some (.cells (nCells p N ia ic ra rc oa oc) 36 (0, 0))
  gr : GraphAt w p G N.g
  ib : BusesAt w ia ic N.inb ri
  rb : w.ownsRow 0 55 4 (.slice ra N.regs.length rc) N.regs.length (rgCells N.regs)
  ob : BusesAt w oa oc N.outb ro
  io : ∀ b ∈ ft ia, b ∉ ft oa
  fr : ∀ b ∈ rowsOf ri ++ rowsOf ro, b ∉ n :: (G ++ (ft ia ++ (ft ra ++ ft oa)))
/-- what may be written, what is referred to -/
def NetAt (w : World) (n : Nat) (F R : List Nat) (N : Nt) : Prop :=
  ∃ p G ia ic ra rc oa oc ri ro, F = n :: (G ++ (ft ia ++ (ft ra ++ ft oa))) ∧ R = rowsOf ri ++ rowsOf ro ∧ NetC w n N p G ia ic ra rc oa oc ri ro
theorem GraphAt.apart_blk (h : GraphAt w p F g) {b : Nat} {cs : Array Value} {t : TypeId} (hb : w.heap[b]? = some (.cells cs t (0, 0))) (h1 : t ≠ 83) (h2 : t ≠ 105) (h3 : t ≠ 3) : b ∉ F := by
  obtain ⟨an, cn, ai, ci, m, f, rfl, hc⟩ := h
  intro hf
  simp only [gFoot, List.mem_cons, List.mem_append] at hf
  rcases hf with rfl | rfl | hf | hf
  · rw [hc.blk] at hb; injection hb with hb; injection hb with _ ht; exact h1 ht.symm
  · exact hc.made.nocell hb rfl
  · exact blk_apart hb hc.nodes h2.symm hf
  · exact blk_apart hb hc.inputs h3.symm hf
theorem NetC.kept {G : List Nat} {ia ra oa : Option Addr} {ic rc oc : Nat} {ri ro : List BR} (h : NetC w n N p G ia ic ra rc oa oc ri ro) (hk : Kept S w w') (h1 : ∀ b ∈ n :: (G ++ (ft ia ++ (ft ra ++ ft oa))), b ∉ S) (h2 : ∀ b ∈ rowsOf ri ++ rowsOf ro, b ∉ S) : NetC w' n N p G ia ic ra rc oa oc ri ro :=
  ⟨hk.heap h.blk (h1 _ (by simp)), h.gr.kept hk (fun b hb => h1 b (by simp [hb])), h.ib.kept hk (fun b hb => h1 b (by simp [hb])) (fun b hb => h2 b (by simp [hb])), own_kept h.rb hk (fun b hb => h1 b (by simp [hb])),
    h.ob.kept hk (fun b hb => h1 b (by simp [hb])) (fun b hb => h2 b (by simp [hb])), h.io, h.fr⟩
theorem NetAt.kept (h : NetAt w n F R N) (hk : Kept S w w') (h1 : ∀ b ∈ F, b ∉ S) (h2 : ∀ b ∈ R, b ∉ S) : NetAt w' n F R N := by
  obtain ⟨p, G, ia, ic, ra, rc, oa, oc, ri, ro, rfl, rfl, hc⟩ := h
  exact ⟨p, G, ia, ic, ra, rc, oa, oc, ri, ro, rfl, rfl, hc.kept hk h1 h2⟩
theorem NetAt.kept0 (h : NetAt w n F R N) (hk : Kept [] w w') : NetAt w' n F R N := h.kept hk (by simp) (by simp)
theorem NetC.lt {G : List Nat} {ia ra oa : Option Addr} {ic rc oc : Nat} {ri ro : List BR} (h : NetC w n N p G ia ic ra rc oa oc ri ro) : (∀ b ∈ n :: (G ++ (ft ia ++ (ft ra ++ ft oa))), b < w.heap.size) ∧ ∀ b ∈ rowsOf ri ++ rowsOf ro, b < w.heap.size := by
  refine ⟨fun b hb => ?_, fun b hb => ?_⟩
  · simp only [List.mem_cons, List.mem_append] at hb
    rcases hb with rfl | hb | hb | hb | hb
    · exact blk_lt h.blk
    · exact h.gr.lt b hb
    · exact h.ib.lt.1 b hb
    · exact owns_lt h.rb b hb
    · exact h.ob.lt.1 b hb
  · rcases List.mem_append.1 hb with hb | hb
    · exact h.ib.lt.2 b hb
    · exact h.ob.lt.2 b hb
theorem NetAt.lt (h : NetAt w n F R N) : (∀ b ∈ F, b < w.heap.size) ∧ ∀ b ∈ R, b < w.heap.size := by
  obtain ⟨p, G, ia, ic, ra, rc, oa, oc, ri, ro, rfl, rfl, hc⟩ := h
  exact hc.lt
theorem NetC.apart {G : List Nat} {ia ra oa : Option Addr} {ic rc oc : Nat} {ri ro : List BR} (h : NetC w n N p G ia ic ra rc oa oc ri ro) :
    n ∉ G ∧ n ∉ ft ia ∧ n ∉ ft ra ∧ n ∉ ft oa ∧ (∀ b ∈ ft ia, b ∉ G) ∧ (∀ b ∈ ft ra, b ∉ G) ∧ (∀ b ∈ ft oa, b ∉ G) ∧ (∀ b ∈ ft ra, b ∉ ft ia) ∧ (∀ b ∈ ft ra, b ∉ ft oa) :=
  ⟨h.gr.apart_blk h.blk (by decide) (by decide) (by decide), blk_apart h.blk h.ib.own (by decide), blk_apart h.blk h.rb (by decide), blk_apart h.blk h.ob.own (by decide),
    h.gr.apart h.ib.own (by decide) (by decide) (by decide), h.gr.apart h.rb (by decide) (by decide) (by decide), h.gr.apart h.ob.own (by decide) (by decide) (by decide), owns_apart h.rb h.ib.own (by decide), owns_apart h.rb h.ob.own (by decide)⟩
section
variable {G : List Nat} {ia ra oa : Option Addr} {ic rc oc : Nat} {ri ro : List BR}
theorem NetC.c0 (h : NetC w n N p G ia ic ra rc oa oc ri ro) : w.cell? ⟨n, 0, none⟩ = some (.pointer (some ⟨p, 0, none⟩)) := blk_cell h.blk 0
theorem NetC.c1 (h : NetC w n N p G ia ic ra rc oa oc ri ro) : w.cell? ⟨n, 1, none⟩ = some (.string N.name) := blk_cell h.blk 1
theorem NetC.c2 (h : NetC w n N p G ia ic ra rc oa oc ri ro) : w.cell? ⟨n, 2, none⟩ = some (.slice ia N.inb.length ic) := blk_cell h.blk 2
theorem NetC.c3 (h : NetC w n N p G ia ic ra rc oa oc ri ro) : w.cell? ⟨n, 3, none⟩ = some (.slice ra N.regs.length rc) := blk_cell h.blk 3
theorem NetC.c4 (h : NetC w n N p G ia ic ra rc oa oc ri ro) : w.cell? ⟨n, 4, none⟩ = some (.slice oa N.outb.length oc) := blk_cell h.blk 4
/-- a step of the graph -/
theorem NetC.graph {G' : List Nat} {g' : Gr} (h : NetC w n N p G ia ic ra rc oa oc ri ro) (hg : GraphAt w' p G' g') (hst : Stepped w w' G G') : NetC w' n { N with g := g' } p G' ia ic ra rc oa oc ri ro := by
  obtain ⟨a1, a2, a3, a4, a5, a6, a7, a8, a9⟩ := h.apart
  have fr := h.fr
  have lt := h.lt
  simp only [List.mem_cons, List.mem_append, not_or] at fr
  refine ⟨hst.kept.heap h.blk a1, hg, h.ib.kept hst.kept a5 (fun b hb => (fr b (.inl hb)).2.1), own_kept h.rb hst.kept a6, h.ob.kept hst.kept a7 (fun b hb => (fr b (.inr hb)).2.1), h.io, fun b hb => ?_⟩
  have f := fr b (List.mem_append.1 hb)
  have l := lt.2 b hb
  simp only [List.mem_cons, List.mem_append, not_or]
  exact ⟨f.1, fun hx => by rcases hst.fresh b hx with hx | hx; exact f.2.1 hx; omega, f.2.2⟩
/-- what a step keeps and makes -/
structure NStep (w w' : World) (F R F' R' : List Nat) : Prop where
  st : Stepped w w' F F'
  rows : ∀ b ∈ R', b ∈ R ∨ w.heap.size ≤ b
theorem NStep.refl (w : World) (F R : List Nat) : NStep w w F R F R := ⟨.refl _ _, fun _ h => .inl h⟩
theorem NStep.trans {a b c : World} {F R F' R' F'' R'' : List Nat} (h : NStep a b F R F' R') (k : NStep b c F' R' F'' R'') : NStep a c F R F'' R'' :=
  ⟨h.st.trans k.st, fun x hx => by
    rcases k.rows x hx with h1 | h1
    · exact h.rows x h1
    · exact .inr (Nat.le_trans h.st.kept.size h1)⟩
theorem NStep.keep {a b c : World} {F R F' R' : List Nat} (h : NStep a b F R F' R') (k : Kept [] b c) : NStep a c F R F' R' :=
  h.trans ⟨⟨k.more (by simp), fun _ h => .inl h⟩, fun _ h => .inl h⟩
theorem NetC.graph_step {G' : List Nat} (hst : Stepped w w' G G') : NStep w w' (n :: (G ++ (ft ia ++ (ft ra ++ ft oa)))) (rowsOf ri ++ rowsOf ro) (n :: (G' ++ (ft ia ++ (ft ra ++ ft oa)))) (rowsOf ri ++ rowsOf ro) := by
  refine ⟨⟨hst.kept.more (fun b hb => by simp [hb]), fun b hb => ?_⟩, fun b hb => .inl hb⟩
  simp only [List.mem_cons, List.mem_append] at hb ⊢
  rcases hb with hb | hb | hb
  · exact .inl (.inl hb)
  · rcases hst.fresh b hb with h | h
    · exact .inl (.inr (.inl h))
    · exact .inr h
  · exact .inl (.inr (.inr hb))
end
end Go.Proofs.Ytdmcdhkkbkgnbaa

namespace Go.Proofs.Ytdmcdhkkbkgnbaa
open Go.ChangeShapes Go.WideShapes Go.ChangeAt Go.RowKit
set_option linter.unusedVariables false

theorem c_of (n : Int) (t : Bool) (v : Nat) (x : Int) (e : Int) (hx : x = v) (hv : ofV n t = v) (he : ofE n = e) (w : World) : Calls Try.prog 50 #[.int .i64 n, .bool t] w fun e' w' => e' = .returned (.tuple #[.int .u32 x, .int .i64 e]) ∧ w = w' := by
  subst hx hv he; exact lit_of n t w
theorem c_fold (a b : Nat) (x y : Int) (hx : x = a) (hy : y = b) (v : Nat) (u : Int) (t : Bool) (hu : u = v) (ha : a < 4294967296) (hb : b < 4294967296) (hv : foldV a b = v) (ht : foldB a b = t) (w : World) : Calls Try.prog 86 #[.int .u32 x, .int .u32 y] w fun e' w' => e' = .returned (.tuple #[.int .u32 u, .bool t]) ∧ w = w' := by
  subst hx hy hu hv ht; exact lit_fold a b w ha hb
theorem c_node (l : Nat) (x : Int) (hx : x = l) (v : Nat) (u : Int) (hu : u = v) (hl : l < 4294967296) (hv : l / 2 = v) (w : World) : Calls Try.prog 25 #[.int .u32 x] w fun e' w' => e' = .returned (.int .i64 u) ∧ w = w' := by
  subst hx hu hv; exact lit_node l w hl
theorem c_not (l : Nat) (x : Int) (hx : x = l) (v : Nat) (u : Int) (hu : u = v) (hl : l < 4294967296) (hv : ntL l = v) (w : World) : Calls Try.prog 63 #[.int .u32 x] w fun e' w' => e' = .returned (.int .u32 u) ∧ w = w' := by
  subst hx hu hv; exact lit_not l w hl
theorem c_turned (l : Nat) (x : Int) (hx : x = l) (t : Bool) (hl : l < 4294967296) (hv : decide (l % 2 = 1) = t) (w : World) : Calls Try.prog 71 #[.int .u32 x] w fun e' w' => e' = .returned (.bool t) ∧ w = w' := by
  subst hx hv; exact lit_turned l w hl

def allW : Nat := 18446744073709551615
theorem allW_ne : ((allW : Int) != 18446744073709551615) = false := by decide
def nwI (n : Int) : Int := bits .xor .u64 IntKind.u64.max n
theorem nwI_nat (v : Nat) (h : v < 18446744073709551616) : nwI (v : Int) = ((noW v : Nat) : Int) := notw_spell v h
@[go_sem high] theorem unary_not_u64 (n : Int) : Op.unary .xor (.int .u64 n) = pure (.int .u64 (nwI n)) := rfl
theorem of_node (x : Nat) (h : x < 33554432) : ofV ((x : Int) / 2) (decide (x % 2 = 1)) = x := by
  unfold ofV ifL ntL
  rw [if_pos (by omega), show ((x : Int) / 2).toNat = x / 2 by omega]
  by_cases hx : x % 2 = 1
  · simp [hx]; omega
  · simp [hx]; omega

end Go.Proofs.Ytdmcdhkkbkgnbaa

namespace Go.Proofs.Ytdmcdhkkbkgnbaa
open Go.ChangeShapes Go.WideShapes Go.ChangeAt Go.RowKit
open Go.Maps (Keyed)
open Go.WideMaps
set_option linter.unusedVariables false

variable {w w' : World} {p : Nat} {F S : List Nat} {g : Gr}

theorem kept_up {w wr w2 : World} {S : List Nat} (h : Kept [] w wr) (hk : Kept S wr w2) (hS : ∀ b ∈ S, w.heap.size ≤ b) : Kept [] w w2 :=
  ⟨hk.os.trans h.os, hk.tape.trans h.tape, hk.output.trans h.output, Nat.le_trans h.size hk.size, fun b hb _ => (hk.block b (Nat.lt_of_lt_of_le hb h.size) (fun hm => by have := hS b hm; omega)).trans (h.block b hb (by simp))⟩
theorem cell_other {w : World} {b i k : Nat} {v u : Value} (hne : i ≠ k) (h : w.cell? ⟨b, i, none⟩ = some v) : (w.setCell ⟨b, k, none⟩ u).drew.cell? ⟨b, i, none⟩ = some v :=
  (World.cell?_setCell_other w ⟨b, k, none⟩ ⟨b, i, none⟩ u (fun e => hne (by injection e with _ e _; exact e.symm))).trans h
def FirstPost (b : Bool) (w : World) (e : Ending) (w' : World) : Prop := ∃ r : Int, e = .returned (.int .i64 r) ∧ decide (0 ≤ r) = b ∧ ∃ k, w' = w.drewN k
set_option maxHeartbeats 400000 in
set_option maxRecDepth 100000 in
/-- the first literal of which a closure with one captured value says yes -/
theorem index_any (fid : FuncId) (hF : ∀ xs w, (callFunc fid xs).run Try.prog w = .ok (Next.enter fid xs) w) (cap : Value) (P : Nat → Bool) (a : Option Addr) (c len : Nat) (l : List Nat) (w : World) (hl : l.length = len) (hlm : len ≤ 140737488351232) (hs : SlN w .u32 a l)
    (HC : ∀ x ∈ l, ∀ k, Calls Try.prog fid #[.int .u32 (x : Int), cap] (w.drewN k) fun e w' => e = .returned (.bool (P x)) ∧ ∃ m, w' = (w.drewN k).drewN m) :
    Calls Try.prog 75 #[.slice a len c, .func (.func fid) #[] #[cap]] w (FirstPost (l.any P) w) := by
  have HL := Lib.hid hl; clear hl
  have HF := Lib.hid HC; clear HC
  go_enter Try.func75, Try.ntmps75
  go_wp2
  go_loopw [8] (fun i wr => ∃ k m : Nat, k ≤ len ∧ i = .int .i64 k ∧ wr = w.drewN m ∧ (l.take k).any P = false) (fun i _ => len - (intOf i).toNat)
  case atStart => exact ⟨0, 0, Nat.zero_le _, rfl, rfl, by simp⟩
  case round =>
    obtain ⟨k, m, hk, rfl, rfl, hall⟩ := hrel
    have HA := Lib.hid hall; clear hall
    by_cases hlt : k < len
    · have hkl : k < l.length := by have := HL.out; omega
      obtain ⟨ad, rfl, hc⟩ := hs k hkl
      have HX := Lib.hid (HF.out _ (List.getElem_mem hkl) m)
      have HM := Lib.hid (List.getElem_mem hkl)
      have HT := Lib.hid (take_snoc l k hkl)
      generalize l[k] = x at *
      cases hp : P x with
      | true =>
        have HB := Lib.hid (show l.any P = true by rw [List.any_eq_true]; exact ⟨x, HM.out, hp⟩)
        have HP := Lib.hid hp; clear hp
        go_wp2_with fail
        refine HX.out.mono ?_
        rw [HP.out]
        rintro e w1 ⟨rfl, k1, rfl⟩
        go_wp2_with fail
        go_ret
        exact ⟨(k : Int), rfl, by rw [HB.out]; simp, _, rfl⟩
      | false =>
        have HP := Lib.hid hp; clear hp
        go_wp2_with fail
        refine HX.out.mono ?_
        rw [HP.out]
        rintro e w1 ⟨rfl, k1, rfl⟩
        go_wp2_with fail
        go_roundw
        case rel =>
          refine ⟨k + 1, m + k1, by omega, by go_num, by first | rfl | rw [World.drewN_drewN], ?_⟩
          rw [HT.out, List.any_append, HA.out]
          simp [HP.out]
        case measure => simp [intOf]; omega
    · obtain rfl : k = len := by omega
      have HB := Lib.hid (show l.any P = false by
        have h := HA.out
        rwa [List.take_of_length_le (by have := HL.out; omega)] at h)
      go_wp2_with fail
      go_ret
      exact ⟨-1, rfl, by rw [HB.out]; rfl, _, rfl⟩
theorem contains_any (fid : FuncId) (hF : ∀ xs w, (callFunc fid xs).run Try.prog w = .ok (Next.enter fid xs) w) (cap : Value) (P : Nat → Bool) (a : Option Addr) (c len : Nat) (l : List Nat) (w : World) (hl : l.length = len) (hlm : len ≤ 140737488351232) (hs : SlN w .u32 a l)
    (HC : ∀ x ∈ l, ∀ k, Calls Try.prog fid #[.int .u32 (x : Int), cap] (w.drewN k) fun e w' => e = .returned (.bool (P x)) ∧ ∃ m, w' = (w.drewN k).drewN m) :
    Calls Try.prog 59 #[.slice a len c, .func (.func fid) #[] #[cap]] w fun e w' => e = .returned (.bool (l.any P)) ∧ ∃ k, w' = w.drewN k := by
  have HX := Lib.hid (index_any fid hF cap P a c len l w hl hlm hs HC)
  clear hl HC hF
  go_enter Try.func59, Try.ntmps59
  go_wp2_with fail
  refine HX.out.mono ?_
  rintro e w1 ⟨r, rfl, hr1, k1, rfl⟩
  have HR1 := Lib.hid hr1; clear hr1
  go_wp2_with fail
  go_ret
  exact ⟨by rw [← HR1.out]; rfl, _, rfl⟩

theorem cone_asks1 (x q : Nat) (hg : GraphAt w p F g) (hm : g.nodes.length ≤ 1000000) (hx : x < 4294967296) (hq : w.cell? ⟨q, 0, none⟩ = some (.pointer (some ⟨p, 0, none⟩))) :
    Calls Try.prog 79 #[.int .u32 x, .pointer (some ⟨q, 0, none⟩)] w fun e w' => e = .returned (.bool (decide (g.nodes.length ≤ x / 2))) ∧ ∃ k, w' = w.drewN k := by
  have HF := Lib.hid (show decide ((g.nodes.length : Int) ≤ (x : Int) / 2) = decide (g.nodes.length ≤ x / 2) by rw [Bool.eq_iff_iff]; simp; omega)
  have HG := Lib.hid (fun n => aig_nodes (hg.kept0 ((Kept.refl [] w).drewN n)) hm)
  clear hg
  go_enter Try.func79, Try.ntmps79
  go_wp2_with fail
  go_quiet (first
    | (go_at_call 25; exact q_same (lit_node _ _ hx))
    | (go_at_call 33; exact q_same (HG.out _)))
  go_wp2
  go_ret
  exact ⟨by rw [← HF.out]; rfl, _, rfl⟩

theorem cone_asks_ok (hg : GraphAt w p F g) (hm : g.nodes.length ≤ 200000) (a : Option Addr) (c len : Nat) (l : List Nat) (hl : l.length = len) (hlm : len ≤ 140737488351232) (hs : SlN w .u32 a l) (hok : ∀ x ∈ l, g.ok x) :
    Calls Try.prog 68 #[.pointer (some ⟨p, 0, none⟩), .slice a len c] w fun e w' => e = .returned (.int .i64 0) ∧ Kept [] w w' := by
  have hp := hg.wf.pos
  have hne : ((g.nodes.length : Int) == 0) = false := by simp only [beq_eq_false_iff_ne, ne_eq]; omega
  have HG := Lib.hid (fun o => hg.kept0 ((Kept.refl [] w).alloc o))
  have HB := Lib.hid (show (l.any fun x => decide (g.nodes.length ≤ x / 2)) = false from bad_ok hok)
  have HC := Lib.hid (contains_any 79 Try.call79 (.pointer (some ⟨w.heap.size, 0, none⟩)) (fun x => decide (g.nodes.length ≤ x / 2)) a c len l (w.alloc (.cells #[.pointer (some ⟨p, 0, none⟩)] 32)) hl hlm (hs.kept0 ((Kept.refl [] w).alloc _)) (fun x hx k =>
    cone_asks1 x w.heap.size ((HG.out _).kept0 ((Kept.refl [] _).drewN k)) (by omega) (Gr.ok_lt (hok x hx) hm) (by simp [World.cell?_alloc_new])))
  clear hg hl hok
  go_enter Try.func68, Try.ntmps68
  go_wp2_with fail
  refine (aig_nodes (HG.out _) (by omega)).mono ?_
  rintro e w' ⟨rfl, rfl⟩
  go_wp2_with fail
  refine HC.out.mono ?_
  rw [HB.out]
  rintro e w' ⟨rfl, k, rfl⟩
  go_wp2_with fail
  go_ret
  exact ⟨rfl, ((Kept.refl [] w).alloc _).drewN _⟩

end Go.Proofs.Ytdmcdhkkbkgnbaa
