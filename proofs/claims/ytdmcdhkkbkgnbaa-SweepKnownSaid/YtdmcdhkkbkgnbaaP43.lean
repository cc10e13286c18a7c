/-
  A netlist of steps, and the document's, side by side (laws 08 and 30).
  Law 06: Wants, joined. Rows of steps, with their rows' capacities. A netlist and the document's, built side by side.
  Law 06's arguments, opened: rows of steps.
  Opening a law's argument: a graph's options.
  Law 06: Wants, a step done with the document's netlist.
  Package orreryref06: AddOut where it goes well.
  Package orreryref06: AddIn, AddReg, SetReg, AddOut.
  Package orreryref06: MayName, Find, New; orreryref03: There of any literals, Many of two.
  Opening a law's arguments: arrays, slices of numbers inside structs, slices of structs, and what the reach says of each part.
  The document's netlists: a bus more, a register more, a register set.
  The document's netlists in memory.
  Law 06: tells, the chapter's rows.
  Law 06: rows; the chapter's rows (tells).
-/
import Derived.Test.YtdmcdhkkbkgnbaaP22
import Derived.Test.YtdmcdhkkbkgnbaaP15
import Derived.Test.YtdmcdhkkbkgnbaaP25
import Derived.Test.YtdmcdhkkbkgnbaaP19
import Derived.Test.YtdmcdhkkbkgnbaaP01
import Derived.Deep.Slices
import Derived.Deep.Fields
import Derived.Lib.SmallJoins
import Derived.ChangeSame
import Derived.Test.YtdmcdhkkbkgnbaaP20
import Derived.IntWalk
import Derived.Deep.RegionLaw
import Derived.Deep.RegionHeld3
import Derived.Test.YtdmcdhkkbkgnbaaP03
namespace Go.Proofs.Ytdmcdhkkbkgnbaa
open Go.ChangeShapes Go.WideShapes Go.ChangeAt Go.RowKit
open Go.Maps (Keyed)
open Go.WideMaps
set_option linter.unusedVariables false
set_option linter.unusedSimpArgs false

variable {w w' : World} {p n k : Nat} {F R S : List Nat} {g : Gr} {N : Nt}
def tN0 : Nt := newN ⟨#[116, 111, 112]⟩ false false
def tN1 : Nt := (addIn tN0 ⟨#[97]⟩ 2).1
def tN2 : Nt := (addReg tN1 true).1
def tN3 : Nt := (gateN tN2 andG 2 6).1
def tN4 : Nt := (setReg tN3 6 8 1).1
def tN5 : Nt := (addOut tN4 ⟨#[120]⟩ [9]).1
def tN6 : Nt := { tN5 with g := (inputG tN5.g).1 }
set_option maxRecDepth 100000 in
theorem t_facts : mayB ⟨#[116, 111, 112]⟩ = true ∧ (addIn tN0 ⟨#[97]⟩ 2).2 = ([2, 4], 0) ∧ (addReg tN1 true).2 = 6 ∧ (gateN tN2 andG 2 6).2 = ([8], 0) ∧ (setReg tN3 6 8 1).2 = 0 ∧ (addOut tN4 ⟨#[120]⟩ [9]).2 = 0 ∧ checkN tN5 = 0 ∧ 2 * tN5.g.nodes.length = 10 ∧ checkN tN6 = 37 := by
  refine ⟨by kernel_rfl, by kernel_rfl, by kernel_rfl, by kernel_rfl, by kernel_rfl, by kernel_rfl, by kernel_rfl, by kernel_rfl, by kernel_rfl⟩
theorem t_fine : NtFine 5 tN5 := addOut_fine (setReg_fine (gateN_fine (addReg_fine (addIn_fine (newN_fine _ false false t_facts.1) _ _) _) _ two_and _ _) _ _ _) _ _
theorem t_fine6 : NtFine 6 tN6 := fine_graph t_fine (t_fine.ok.graph (inputG_spec t_fine.ok.wf).1 (by simp [inputG]) (by simp [inputG])) (fun i hi => by rw [(inputG_spec t_fine.ok.wf).2.2]; exact List.mem_append_left _ hi)
end Go.Proofs.Ytdmcdhkkbkgnbaa

namespace Go.Proofs.Ytdmcdhkkbkgnbaa
open Go.ChangeShapes Go.WideShapes Go.ChangeAt Go.RowKit
open Go.Maps (Keyed)
open Go.WideMaps
set_option linter.unusedVariables false
set_option linter.unusedSimpArgs false

variable {w w' W W' : World} {p n k : Nat} {F R F' R' S : List Nat} {g : Gr} {N : Nt}
theorem NStep.up (hk : Kept [] w W) (hf : ∀ b ∈ F, w.heap.size ≤ b) (hs : NStep W W' F R F' R') : Kept [] w W' ∧ ∀ b ∈ F', w.heap.size ≤ b :=
  ⟨kept_up hk hs.st.kept hf, fun b hb => (hs.st.fresh b hb).elim (hf b) (Nat.le_trans hk.size)⟩
theorem own_net {e : TypeId} {a : Option Addr} {m c : Nat} {xs : List Value} (ho : Own W e a m c xs) (hf : ∀ b ∈ ft a, b ∉ F ∧ b ∉ R) (hs : NStep W W' F R F' R') : Own W' e a m c xs ∧ ∀ b ∈ ft a, b ∉ F' ∧ b ∉ R' :=
  ⟨ho.kept hs.st.kept (fun b hb => (hf b hb).1), fun b hb => ⟨fun h => (hs.st.fresh b h).elim (hf b hb).1 (fun h2 => by have := ho.lt b hb; omega), fun h => (hs.rows b h).elim (hf b hb).2 (fun h2 => by have := ho.lt b hb; omega)⟩⟩
theorem row_new (w : World) (l : List Nat) (T : TypeId) : SlN (w.alloc (.cells (nats .u32 l).toArray T)) .u32 (some ⟨w.heap.size, 0, none⟩) l := sln_new w .u32 l T
end Go.Proofs.Ytdmcdhkkbkgnbaa

namespace Go.Proofs.Ytdmcdhkkbkgnbaa
open Go.ChangeShapes Go.WideShapes Go.ChangeAt Go.RowKit
open Go.Maps (Keyed)
open Go.WideMaps
set_option linter.unusedVariables false
set_option linter.unusedSimpArgs false

variable {w w' : World} {p n : Nat} {F R S : List Nat} {g : Gr} {N : Nt}
section
variable {G : List Nat} {ia ra oa : Option Addr} {ic rc oc : Nat} {ri ro : List BR}
theorem RNetC.graph_step {G' : List Nat} (hst : Stepped w w' G G') : NStep w w' (n :: (G ++ (ft ia ++ (ft ra ++ ft oa)))) (rowsOf ri ++ rowsOf ro) (n :: (G' ++ (ft ia ++ (ft ra ++ ft oa)))) (rowsOf ri ++ rowsOf ro) := by
  refine ⟨⟨hst.kept.more (fun b hb => by simp [hb]), fun b hb => ?_⟩, fun b hb => .inl hb⟩
  simp only [List.mem_cons, List.mem_append] at hb ⊢
  rcases hb with hb | hb | hb
  · exact .inl (.inl hb)
  · rcases hst.fresh b hb with h | h
    · exact .inl (.inr (.inl h))
    · exact .inr h
  · exact .inl (.inr (.inr hb))
end
end Go.Proofs.Ytdmcdhkkbkgnbaa

namespace Go.Proofs.Ytdmcdhkkbkgnbaa
open Go.ChangeShapes Go.WideShapes Go.ChangeAt Go.RowKit
open Go.Maps (Keyed)
open Go.WideMaps
set_option linter.unusedVariables false
set_option linter.unusedSimpArgs false

variable {w w' : World} {p n : Nat} {F R S : List Nat} {g : Gr} {N : Nt}
section
variable {G : List Nat} {ia ra oa : Option Addr} {ic rc oc : Nat} {ri ro : List BR}
end
section
variable {G : List Nat} {ia oa : Option Addr} {ic rc oc gr : Nat} {ri ro : List BR}
end
end Go.Proofs.Ytdmcdhkkbkgnbaa

namespace Go.Proofs.Ytdmcdhkkbkgnbaa
open Go.ChangeShapes Go.WideShapes Go.ChangeAt Go.RowKit Go.Deep Go.Joins
set_option linter.unusedVariables false

theorem choose_list {α : Type} {n : Nat} {p : Nat → α → Prop} (h : ∀ i, i < n → ∃ x, p i x) : ∃ l : List α, l.length = n ∧ ∀ i (hi : i < l.length), p i l[i] := by
  induction n with
  | zero => exact ⟨[], rfl, fun i hi => absurd hi (by simp)⟩
  | succ n ih =>
    obtain ⟨l, h1, h2⟩ := ih fun i hi => h i (by omega)
    obtain ⟨x, hx⟩ := h n (by omega)
    refine ⟨l ++ [x], by simp [h1], fun i hi => ?_⟩
    by_cases hin : i < l.length
    · rw [List.getElem_append_left hin]
      exact h2 i hin
    · have : i = n := by simp at hi; omega
      subst this
      rw [List.getElem_append_right (by omega)]
      simpa using hx

section
variable {H : Type} {enc : TypeId × Value → H} {P : Program} {W : World} {base : Nat}

/-- The reach, said of a datum: each slice and string in it is within it. -/
def Sized (P : Program) (t : TypeId) (d : DataW H) : Prop := ∀ n ∈ d.weights P t, n ≤ reachBytes
theorem Sized.arg {ts : List TypeId} {ds : List (DataW H)} (h : (DataW.weightsEach P ts ds).all (· ≤ reachBytes) = true) {j : Nat} {t : TypeId} {d : DataW H} (ht : ts[j]? = some t) (hd : ds[j]? = some d) : Sized P t d := fun n hn => by
  simpa using List.all_eq_true.1 h n (DataW.weights_mem_each ht hd n hn)
theorem weightsAll_mem {e : TypeId} : ∀ {es : List (DataW H)} {d : DataW H}, d ∈ es → ∀ n ∈ d.weights P e, n ∈ DataW.weightsAll P e es
  | x :: es, d, hd, n, hn => by
    simp only [DataW.weightsAll, List.mem_append]
    rcases List.mem_cons.1 hd with h | h
    · subst h; exact .inl hn
    · exact .inr (weightsAll_mem h n hn)
theorem Sized.slice {t e : TypeId} {es sp : List (DataW H)} (h : Sized P t (.slice es sp)) (hu : P.underlying t = some (.slice e)) : (es.length + sp.length) * P.bytesOf e ≤ reachBytes ∧ ∀ d ∈ es, Sized P e d := by
  refine ⟨h _ (by simp [DataW.weights, hu]), fun d hd n hn => h n ?_⟩
  simp only [DataW.weights, hu, List.mem_cons, List.mem_append]
  exact .inr (.inl (weightsAll_mem hd n hn))
theorem Sized.field {t : TypeId} {fs : Array Field} {parts : List (DataW H)} (h : Sized P t (.agg parts)) (hu : P.underlying t = some (.struct fs)) {j : Nat} {f : Field} {p : DataW H} (hf : fs[j]? = some f) (hp : parts[j]? = some p) : Sized P f.type p := fun n hn => by
  refine h n ?_
  simp only [DataW.weights, hu]
  exact DataW.weights_mem_each (j := j) (by simp [hf]) hp n hn

/-- A slice of unsigned numbers, wherever it was read. -/
theorem open_natsT {t e : TypeId} {K : IntKind} {m bytes : Nat} {fuel : Nat} {v : Value} {y : DataW H × List MemPlace} (ht : P.underlying t = some (.slice e)) (he : P.underlying e = some (.int K)) (hc : P.cellsOf e = 1) (hb : P.bytesOf e = bytes)
    (hK : K.signed = false) (hm : (2 : Int) ^ K.bits = m) (h : DataW.trod enc P W 0 (fun _ => true) true fuel t [v] = some y) (hz : Sized P t y.1) :
    ∃ (a : Option Addr) (cap : Nat) (l : List Nat), v = .slice a l.length cap ∧ l.length ≤ cap ∧ SlN W K a l ∧ (∀ n ∈ l, n < m) ∧ (a = none → l.length = 0 ∧ cap = 0) ∧ cap * bytes ≤ 140737488351232 := by
  rcases open_ints ht he hc h with ⟨hcs, hx⟩ | ⟨a, len, cap, zs, hcs, _, hl, hmx, hzl, hx, hcell, hwz⟩
  · simp at hcs
    subst hcs
    exact ⟨none, 0, [], rfl, Nat.le_refl _, SlN.nil _ _ _, by simp, by simp, by simp⟩
  · simp at hcs
    subst hcs
    simp at hzl
    have hnat : ∀ i (hi : i < zs.length), ((zs[i].toNat : Nat) : Int) = zs[i] ∧ zs[i].toNat < m := by
      intro i hi
      obtain ⟨k, hk, hkm⟩ := wf_nat hK hm (hwz zs[i] (List.getElem_mem hi))
      rw [hk]
      simp [hkm]
    have hlen : ((zs.take len).map Int.toNat).length = len := by simp; omega
    refine ⟨some a, cap, (zs.take len).map Int.toNat, by rw [hlen], by rw [hlen]; exact hl, fun k hk => ⟨a, rfl, ?_⟩, ?_, by simp, ?_⟩
    · rw [hlen] at hk
      rw [hcell k (by omega)]
      simp [List.getD_eq_getElem?_getD, (hnat k (by omega)).1, List.getElem?_eq_getElem (show k < zs.length by omega)]
    · intro n hn
      obtain ⟨y, hy, rfl⟩ := List.mem_map.1 hn
      obtain ⟨i, hi, rfl⟩ := List.getElem_of_mem (List.mem_of_mem_take hy)
      exact (hnat i hi).2
    · rw [hx] at hz
      have := (hz.slice ht).1
      rw [hb] at this
      simp [lits, hzl, reachBytes] at this
      rw [Nat.min_eq_left hl] at this
      rwa [show len + (cap - len) = cap by omega] at this

/-- One element that is a struct of one-cell fields: each field's cell, and its reading. -/
theorem rec_elem {e : TypeId} {fs : Array Field} {a : Addr} {cs : List Value} {n : Nat} {x : DataW H × List MemPlace} (he : P.underlying e = some (.struct fs)) (hone : oneCellFields P fs = true) (hC : P.cellsOf e = fs.size)
    (hc : W.cells? base a (P.cellsOf e) = some cs) (ht : DataW.trod enc P W base (fun _ => true) true n e cs = some x) :
    ∃ (ys : List (DataW H × List MemPlace)) (m : Nat), x.1 = .agg (ys.map (·.1)) ∧ ys.length = fs.size ∧ ∀ (j : Nat) (f : Field), fs[j]? = some f → ∃ (v : Value) (y : DataW H × List MemPlace), W.cell? (a.add j) = some v ∧ ys[j]? = some y ∧ DataW.trod enc P W base (fun _ => true) true m f.type [v] = some y := by
  obtain ⟨ys, m, _, hx, hl, hyl, hf⟩ := DataW.trod_struct he ht
  obtain ⟨_, hcl, hat⟩ := World.cells?_some hc
  refine ⟨ys, m, by rw [hx], hyl, fun j f hj => ?_⟩
  have hjl : j < fs.size := (Array.getElem?_eq_some_iff.1 hj).1
  obtain ⟨ho, hk⟩ := hone_of hone j f hj
  have h1 := hf j f hj
  have hjc : j < cs.length := by omega
  have e1 : (cs.drop f.offset).take (P.cellsOf f.type) = [cs[j]] := by
    rw [ho, hk, List.drop_eq_getElem_cons hjc]
    rfl
  rw [e1] at h1
  have hys : ys[j]? = some (ys[j]'(by omega)) := List.getElem?_eq_getElem (by omega)
  exact ⟨cs[j], ys[j]'(by omega), by rw [hat j (by omega)]; exact List.getElem?_eq_getElem hjc, hys, h1.trans hys⟩

/-- A slice of structs of one-cell fields. -/
theorem open_recs {t e : TypeId} {fs : Array Field} {fuel : Nat} {v : Value} {y : DataW H × List MemPlace} (ht : P.underlying t = some (.slice e)) (he : P.underlying e = some (.struct fs)) (hone : oneCellFields P fs = true) (hC : P.cellsOf e = fs.size)
    (h : DataW.trod enc P W 0 (fun _ => true) true fuel t [v] = some y) (hz : Sized P t y.1) :
    ∃ (a : Option Addr) (len cap : Nat), v = .slice a len cap ∧ len ≤ cap ∧ cap * P.bytesOf e ≤ 140737488351232 ∧ (a = none → len = 0 ∧ cap = 0) ∧
      ∀ i, i < len → ∃ (ad : Addr) (m : Nat), a = some ad ∧ ∀ (j : Nat) (f : Field), fs[j]? = some f → ∃ (u : Value) (z : DataW H × List MemPlace), W.cell? (ad.add (i * fs.size + j)) = some u ∧ DataW.trod enc P W 0 (fun _ => true) true m f.type [u] = some z ∧ Sized P f.type z.1 := by
  rcases open_slice ht h with ⟨hcs, hx⟩ | ⟨a, len, cap, m, n, D, Pl, hcs, hb, hl, hm, hmm, hx, hi⟩
  · simp at hcs
    subst hcs
    exact ⟨none, 0, 0, rfl, Nat.le_refl _, by simp, by simp, fun i hi => absurd hi (by omega)⟩
  · simp at hcs hmm
    subst hcs hmm
    rw [hx] at hz
    obtain ⟨hz1, hz2⟩ := hz.slice ht
    refine ⟨some a, len, m, rfl, hl, ?_, by simp, fun i hil => ⟨a, ?_⟩⟩
    · simp [reachBytes] at hz1
      rwa [show len + (m - len) = m by omega] at hz1
    · obtain ⟨cs', hc', ht'⟩ := hi i (by omega)
      obtain ⟨ys, m', hy1, hy2, hy3⟩ := rec_elem he hone hC hc' ht'
      refine ⟨m', rfl, fun j f hj => ?_⟩
      obtain ⟨u, z, h1, h2, h3⟩ := hy3 j f hj
      refine ⟨u, z, ?_, h3, ?_⟩
      · rw [← Go.Deep.add_add, ← hC]; exact h1
      · have hs := hz2 (D i) (List.mem_map.2 ⟨i, List.mem_range.2 hil, rfl⟩)
        have hy1' : D i = .agg (ys.map (·.1)) := hy1
        rw [hy1'] at hs
        exact hs.field he hj (by rw [List.getElem?_map, h2]; rfl)
theorem plain_spot {ad : Addr} {v : Value} (h : W.cell? (ad.add 0) = some v) : ∃ b o, ad = ⟨b, o, none⟩ := by
  obtain ⟨b, o, s⟩ := ad
  have hs : s = none := by simpa [Addr.add] using World.cell?_spot h
  subst hs
  exact ⟨b, o, rfl⟩
theorem add_at (b o k : Nat) : (⟨b, o, none⟩ : Addr).add k = ⟨b, o + k, none⟩ := by unfold Addr.add; split <;> simp_all
/-- A struct of two bools, by value. -/
theorem open_bools2 {t : TypeId} {f0 f1 : Field} {v : Value} {d : DataW H} {p : List MemPlace} (hs : P.underlying t = some (.struct #[f0, f1])) (hone : oneCellFields P #[f0, f1] = true) (hC : P.cellsOf t = 2) (h0 : P.underlying f0.type = some .bool) (h1 : P.underlying f1.type = some .bool)
    (hv : Value.okWide P W .any base t v) (h : DataW.Trod enc P W 0 (fun _ => true) true t v d p) : ∃ a b : Bool, v = .agg #[.bool a, .bool b] := by
  obtain ⟨c0, c1, y0, y1, m, rfl, _, _, hy0, hy1⟩ := open_agg2 hs hone hC hv h
  obtain ⟨a, e0, _⟩ := DataW.trod_bool h0 hy0
  obtain ⟨b, e1, _⟩ := DataW.trod_bool h1 hy1
  simp at e0 e1
  subst e0 e1
  exact ⟨a, b, rfl⟩
end
end Go.Proofs.Ytdmcdhkkbkgnbaa

namespace Go.Proofs.Ytdmcdhkkbkgnbaa
open Go.ChangeShapes Go.WideShapes Go.ChangeAt Go.RowKit
open Go.Maps (Keyed)
open Go.WideMaps
set_option linter.unusedVariables false
set_option linter.unusedSimpArgs false

variable {w w' : World} {p q n : Nat} {F R S : List Nat} {g : Gr} {N : Nt}
theorem lit_ne {x L : Nat} (h : x ≠ L) : ((x : Int) != (L : Int)) = true := by simp; omega
theorem lit_eq {x L : Nat} (h : x = L) : ((x : Int) != (L : Int)) = false := by simp; omega
theorem byte_cases (c : Nat) : (97 ≤ c ∧ c ≤ 122) ∨ (65 ≤ c ∧ c ≤ 90) ∨ (48 ≤ c ∧ c ≤ 57) ∨ c = 95 ∨ c = 64 ∨ c = 63 ∨ c < 48 ∨ (57 < c ∧ c < 63) ∨ (90 < c ∧ c < 95) ∨ c = 96 ∨ 122 < c := by omega
def FindR (o : Option BR) (w : World) (e : Ending) (w' : World) : Prop :=
  (o = none ∧ e = .returned (.tuple #[.slice none 0 0, .bool false]) ∧ w = w') ∨ ∃ r, o = some r ∧ e = .returned (.tuple #[.slice r.a r.b.lits.length r.c, .bool true]) ∧ w = w'
end Go.Proofs.Ytdmcdhkkbkgnbaa

namespace Go.Proofs.Ytdmcdhkkbkgnbaa
open Go.ChangeShapes Go.WideShapes Go.ChangeAt Go.RowKit
open Go.Maps (Keyed)
open Go.WideMaps
set_option linter.unusedVariables false
set_option linter.unusedSimpArgs false

variable {w w' : World} {p q n : Nat} {F R S : List Nat} {g : Gr} {N : Nt}
theorem u32_info : (Try.prog.info? 40).map (fun i => (i.zero, i.size, i.bytes)) = some (some (.int .u32 0), 1, 4) := by kernel_rfl
theorem found06 {ri : List BR} {l : List Bus} {s : ByteArray} (hi : ri.map (·.b) = l) : (∀ k, findB l s = some k → ∃ r, findRow ri s = some r) ∧ (findB l s = none → findRow ri s = none) := by
  have h := findP_eq ri s
  rw [hi] at h
  unfold findRow
  rw [h]
  refine ⟨fun k hf => ?_, fun hf => by rw [hf]; rfl⟩
  rw [hf]
  have hk : k < l.length := (List.findIdx?_eq_some_iff_getElem.1 hf).1
  have hk' : k < ri.length := by rw [← hi] at hk; simpa using hk
  exact ⟨ri[k], List.getElem?_eq_getElem hk'⟩
end Go.Proofs.Ytdmcdhkkbkgnbaa

namespace Go.Proofs.Ytdmcdhkkbkgnbaa
open Go.ChangeShapes Go.WideShapes Go.ChangeAt Go.RowKit
open Go.Maps (Keyed)
open Go.WideMaps
set_option linter.unusedVariables false
set_option linter.unusedSimpArgs false

variable {w w' : World} {p q n : Nat} {F R S : List Nat} {g : Gr} {N : Nt}
end Go.Proofs.Ytdmcdhkkbkgnbaa

namespace Go.Proofs.Ytdmcdhkkbkgnbaa
open Go.ChangeShapes Go.WideShapes Go.ChangeAt Go.RowKit
open Go.Maps (Keyed)
open Go.WideMaps
set_option linter.unusedVariables false
set_option linter.unusedSimpArgs false

variable {w w' : World} {p q n : Nat} {F R S : List Nat} {g : Gr} {N : Nt}
def NtSmall (N : Nt) : Prop := N.g.nodes.length ≤ 50000 ∧ N.inb.length ≤ 10000 ∧ N.regs.length ≤ 10000 ∧ N.outb.length ≤ 10000
end Go.Proofs.Ytdmcdhkkbkgnbaa

namespace Go.Proofs.Ytdmcdhkkbkgnbaa
open Go.ChangeShapes Go.WideShapes Go.ChangeAt Go.RowKit Go.Deep Go.Joins
set_option linter.unusedVariables false

section
variable {H : Type} {enc : TypeId × Value → H} {W : World} {base : Nat} {v : Value} {d : DataW H} {ps : List MemPlace}
set_option maxRecDepth 100000 in
theorem open_opts (hv : Value.okWide Try.prog W .any base 31 v) (h : DataW.Trod enc Try.prog W 0 (fun _ => true) true 31 v d ps) (hz : Sized Try.prog 31 d) : ∃ a b : Bool, v = .agg #[.bool a, .bool b] :=
  open_bools2 Try.underlying31 (by kernel_rfl) (by kernel_rfl) Try.underlying4 Try.underlying4 hv h
end
end Go.Proofs.Ytdmcdhkkbkgnbaa

namespace Go.Proofs.Ytdmcdhkkbkgnbaa
open Go.ChangeShapes Go.WideShapes Go.ChangeAt Go.RowKit Go.Deep Go.Joins
set_option linter.unusedVariables false

/-- the cells of a step -/
def StepCells (W : World) (b o : Nat) (s : NStp) (la : Option Addr) (lc : Nat) : Prop :=
  W.cell? ⟨b, o, none⟩ = some (.int .i64 s.what) ∧ W.cell? ⟨b, o + 1, none⟩ = some (.string s.name) ∧ W.cell? ⟨b, o + 2, none⟩ = some (.int .i64 s.n) ∧ W.cell? ⟨b, o + 3, none⟩ = some (.int .u32 (s.a : Int)) ∧
  W.cell? ⟨b, o + 4, none⟩ = some (.int .u32 (s.b : Int)) ∧ W.cell? ⟨b, o + 5, none⟩ = some (.int .u32 (s.c : Int)) ∧ W.cell? ⟨b, o + 6, none⟩ = some (.slice la s.lits.length lc)
/-- steps where they lie -/
def SlNSteps (W : World) (a : Option Addr) (l : List NStp) : Prop :=
  ∀ k, (hk : k < l.length) → ∃ b o, a = some ⟨b, o, none⟩ ∧ ∃ la lc, StepCells W b (o + k * 7) l[k] la lc ∧ SlN W .u32 la l[k].lits
theorem SlNSteps.kept0 {W W' : World} {a : Option Addr} {l : List NStp} (h : SlNSteps W a l) (hk : Kept [] W W') : SlNSteps W' a l := by
  intro k hkl
  obtain ⟨b, o, h1, la, lc, ⟨c0, c1, c2, c3, c4, c5, c6⟩, h3⟩ := h k hkl
  exact ⟨b, o, h1, la, lc, ⟨hk.cell c0 (by simp), hk.cell c1 (by simp), hk.cell c2 (by simp), hk.cell c3 (by simp), hk.cell c4 (by simp), hk.cell c5 (by simp), hk.cell c6 (by simp)⟩, h3.kept0 hk⟩
section
variable {H : Type} {enc : TypeId × Value → H} {W : World} {base : Nat} {v : Value} {d : DataW H} {ps : List MemPlace}
end
end Go.Proofs.Ytdmcdhkkbkgnbaa

namespace Go.Proofs.Ytdmcdhkkbkgnbaa
open Go.ChangeShapes Go.WideShapes Go.ChangeAt Go.RowKit Go.Deep Go.Joins
open Go.Maps (Keyed)
open Go.WideMaps
set_option linter.unusedVariables false
set_option linter.unusedSimpArgs false

variable {w w' : World} {p q n : Nat} {F R S : List Nat} {g : Gr} {N : Nt}
/-- steps where they lie, their rows within their capacities -/
def SlNStepsC (W : World) (a : Option Addr) (l : List NStp) : Prop :=
  ∀ k, (hk : k < l.length) → ∃ b o, a = some ⟨b, o, none⟩ ∧ ∃ la lc, StepCells W b (o + k * 7) l[k] la lc ∧ SlN W .u32 la l[k].lits ∧ l[k].lits.length ≤ lc
theorem SlNStepsC.kept0 {W W' : World} {a : Option Addr} {l : List NStp} (h : SlNStepsC W a l) (hk : Kept [] W W') : SlNStepsC W' a l := by
  intro k hkl
  obtain ⟨b, o, h1, la, lc, ⟨c0, c1, c2, c3, c4, c5, c6⟩, h3, h4⟩ := h k hkl
  exact ⟨b, o, h1, la, lc, ⟨hk.cell c0 (by simp), hk.cell c1 (by simp), hk.cell c2 (by simp), hk.cell c3 (by simp), hk.cell c4 (by simp), hk.cell c5 (by simp), hk.cell c6 (by simp)⟩, h3.kept0 hk, h4⟩
section
variable {H : Type} {enc : TypeId × Value → H} {W : World} {base : Nat} {v : Value} {d : DataW H} {ps : List MemPlace}
end
end Go.Proofs.Ytdmcdhkkbkgnbaa

namespace Go.Proofs.Ytdmcdhkkbkgnbaa
open Go.ChangeShapes Go.WideShapes Go.ChangeAt Go.RowKit
open Go.Maps (Keyed)
open Go.WideMaps
set_option linter.unusedVariables false
set_option linter.unusedSimpArgs false

def topS : ByteArray := ⟨#[116, 111, 112]⟩
def stepN (skip : Bool) (N : Nt) (s : NStp) : Nt := if skip = true ∧ s.what = 8 then N else (doesN N s).1
def builtN (skip o1 o2 : Bool) (l : List NStp) (k : Nat) : Nt := (l.take k).foldl (stepN skip) (newN topS o1 o2)
theorem builtN_succ (skip o1 o2 : Bool) (l : List NStp) (k : Nat) (h : k < l.length) : builtN skip o1 o2 l (k + 1) = stepN skip (builtN skip o1 o2 l k) l[k] := by
  unfold builtN
  rw [List.take_succ_eq_append_getElem h, List.foldl_append]
  rfl
theorem builtN_end (skip o1 o2 : Bool) (l : List NStp) (k : Nat) (h : l.length ≤ k) : builtN skip o1 o2 l k = builtN skip o1 o2 l l.length := by
  unfold builtN
  rw [List.take_of_length_le h, List.take_of_length_le (Nat.le_refl _)]
theorem stepN_fine {k : Nat} {N : Nt} (h : NtFine k N) (skip : Bool) (s : NStp) : NtFine (k + 1) (stepN skip N s) := by
  unfold stepN
  split
  · exact h.mono
  · exact doesN_fine h s
theorem builtN_fine (skip o1 o2 : Bool) (l : List NStp) (k : Nat) : NtFine k (builtN skip o1 o2 l k) := by
  induction k with
  | zero => exact newN_fine topS o1 o2 t_facts.1
  | succ k ih =>
    by_cases h : k < l.length
    · rw [builtN_succ _ _ _ _ _ h]; exact stepN_fine ih _ _
    · have e : builtN skip o1 o2 l (k + 1) = builtN skip o1 o2 l k := by rw [builtN_end _ _ _ _ _ (by omega), ← builtN_end _ _ _ _ k (by omega)]
      rw [e]; exact ih.mono
theorem NtFine.small {k : Nat} {N : Nt} (h : NtFine k N) (hk : k ≤ 700) : NtSmall N := by
  have a1 := h.ok.len
  have a2 := h.ok.ik
  have a3 := h.ok.rk
  have a4 := h.ok.ok
  exact ⟨by omega, by omega, by omega, by omega⟩
variable {w w1 w2 : World} {n q : Nat} {F R F' R' F2 R2 F2' R2' : List Nat} {N N' N2 N2' : Nt}
theorem NetAt.graphC (h : NetAt w n F R N) : ∃ p, w.cell? ⟨n, 0, none⟩ = some (.pointer (some ⟨p, 0, none⟩)) := by
  obtain ⟨p, G, ia, ic, ra, rc, oa, oc, ri, ro, rfl, rfl, hc⟩ := h
  exact ⟨p, hc.c0⟩
end Go.Proofs.Ytdmcdhkkbkgnbaa
