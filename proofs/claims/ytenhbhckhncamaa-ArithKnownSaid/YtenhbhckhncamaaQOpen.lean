/-
  Opening a law's arguments: arrays, slices of numbers inside structs, slices of structs, and what the reach says of each part.
-/
import Derived.Test.YtenhbhckhncamaaP03
import Derived.Deep.Slices
import Derived.Deep.Fields
import Derived.Lib.SmallJoins
import Derived.ChangeSame
namespace Go.Proofs.Ytenhbhckhncamaa
open Go.ChangeShapes Go.WideShapes Go.ChangeAt Go.RowKit Go.Deep Go.Joins
set_option linter.unusedVariables false

theorem choose_list {α : Type} {n : Nat} {p : Nat → α → Prop} (h : ∀ i, i < n → ∃ x, p i x) : ∃ l : List α, l.length = n ∧ ∀ i (hi : i < l.length), p i l[i] := by
  induction n with
  | zero => exact ⟨[], rfl, fun i hi => absurd hi (by simp)⟩
  | succ n ih =>
    obtain ⟨l, h1, h2⟩ := ih fun i hi => h i (by omega)
    obtain ⟨x, hx⟩ := h n (by omega)
    refine ⟨l ++ [x], by simp [h1], fun i hi => ?_⟩
    by_cases hin : i < l.length
    · rw [List.getElem_append_left hin]
      exact h2 i hin
    · have : i = n := by simp at hi; omega
      subst this
      rw [List.getElem_append_right (by omega)]
      simpa using hx

section
variable {H : Type} {enc : TypeId × Value → H} {P : Program} {W : World} {base : Nat}

/-- The reach, said of a datum: each slice and string in it is within it. -/
def Sized (P : Program) (t : TypeId) (d : DataW H) : Prop := ∀ n ∈ d.weights P t, n ≤ reachBytes
theorem Sized.arg {ts : List TypeId} {ds : List (DataW H)} (h : (DataW.weightsEach P ts ds).all (· ≤ reachBytes) = true) {j : Nat} {t : TypeId} {d : DataW H} (ht : ts[j]? = some t) (hd : ds[j]? = some d) : Sized P t d := fun n hn => by
  simpa using List.all_eq_true.1 h n (DataW.weights_mem_each ht hd n hn)
theorem weightsAll_mem {e : TypeId} : ∀ {es : List (DataW H)} {d : DataW H}, d ∈ es → ∀ n ∈ d.weights P e, n ∈ DataW.weightsAll P e es
  | x :: es, d, hd, n, hn => by
    simp only [DataW.weightsAll, List.mem_append]
    rcases List.mem_cons.1 hd with h | h
    · subst h; exact .inl hn
    · exact .inr (weightsAll_mem h n hn)
theorem Sized.slice {t e : TypeId} {es sp : List (DataW H)} (h : Sized P t (.slice es sp)) (hu : P.underlying t = some (.slice e)) : (es.length + sp.length) * P.bytesOf e ≤ reachBytes ∧ ∀ d ∈ es, Sized P e d := by
  refine ⟨h _ (by simp [DataW.weights, hu]), fun d hd n hn => h n ?_⟩
  simp only [DataW.weights, hu, List.mem_cons, List.mem_append]
  exact .inr (.inl (weightsAll_mem hd n hn))
theorem Sized.field {t : TypeId} {fs : Array Field} {parts : List (DataW H)} (h : Sized P t (.agg parts)) (hu : P.underlying t = some (.struct fs)) {j : Nat} {f : Field} {p : DataW H} (hf : fs[j]? = some f) (hp : parts[j]? = some p) : Sized P f.type p := fun n hn => by
  refine h n ?_
  simp only [DataW.weights, hu]
  exact DataW.weights_mem_each (j := j) (by simp [hf]) hp n hn

/-- A slice of unsigned numbers, wherever it was read. -/
theorem open_natsT {t e : TypeId} {K : IntKind} {m bytes : Nat} {fuel : Nat} {v : Value} {y : DataW H × List MemPlace} (ht : P.underlying t = some (.slice e)) (he : P.underlying e = some (.int K)) (hc : P.cellsOf e = 1) (hb : P.bytesOf e = bytes)
    (hK : K.signed = false) (hm : (2 : Int) ^ K.bits = m) (h : DataW.trod enc P W 0 (fun _ => true) true fuel t [v] = some y) (hz : Sized P t y.1) :
    ∃ (a : Option Addr) (cap : Nat) (l : List Nat), v = .slice a l.length cap ∧ l.length ≤ cap ∧ SlN W K a l ∧ (∀ n ∈ l, n < m) ∧ (a = none → l.length = 0 ∧ cap = 0) ∧ cap * bytes ≤ 140737488351232 := by
  rcases open_ints ht he hc h with ⟨hcs, hx⟩ | ⟨a, len, cap, zs, hcs, _, hl, hmx, hzl, hx, hcell, hwz⟩
  · simp at hcs
    subst hcs
    exact ⟨none, 0, [], rfl, Nat.le_refl _, SlN.nil _ _ _, by simp, by simp, by simp⟩
  · simp at hcs
    subst hcs
    simp at hzl
    have hnat : ∀ i (hi : i < zs.length), ((zs[i].toNat : Nat) : Int) = zs[i] ∧ zs[i].toNat < m := by
      intro i hi
      obtain ⟨k, hk, hkm⟩ := wf_nat hK hm (hwz zs[i] (List.getElem_mem hi))
      rw [hk]
      simp [hkm]
    have hlen : ((zs.take len).map Int.toNat).length = len := by simp; omega
    refine ⟨some a, cap, (zs.take len).map Int.toNat, by rw [hlen], by rw [hlen]; exact hl, fun k hk => ⟨a, rfl, ?_⟩, ?_, by simp, ?_⟩
    · rw [hlen] at hk
      rw [hcell k (by omega)]
      simp [List.getD_eq_getElem?_getD, (hnat k (by omega)).1, List.getElem?_eq_getElem (show k < zs.length by omega)]
    · intro n hn
      obtain ⟨y, hy, rfl⟩ := List.mem_map.1 hn
      obtain ⟨i, hi, rfl⟩ := List.getElem_of_mem (List.mem_of_mem_take hy)
      exact (hnat i hi).2
    · rw [hx] at hz
      have := (hz.slice ht).1
      rw [hb] at this
      simp [lits, hzl, reachBytes] at this
      rw [Nat.min_eq_left hl] at this
      rwa [show len + (cap - len) = cap by omega] at this

/-- One element that is a struct of one-cell fields: each field's cell, and its reading. -/
theorem rec_elem {e : TypeId} {fs : Array Field} {a : Addr} {cs : List Value} {n : Nat} {x : DataW H × List MemPlace} (he : P.underlying e = some (.struct fs)) (hone : oneCellFields P fs = true) (hC : P.cellsOf e = fs.size)
    (hc : W.cells? base a (P.cellsOf e) = some cs) (ht : DataW.trod enc P W base (fun _ => true) true n e cs = some x) :
    ∃ (ys : List (DataW H × List MemPlace)) (m : Nat), x.1 = .agg (ys.map (·.1)) ∧ ys.length = fs.size ∧ ∀ (j : Nat) (f : Field), fs[j]? = some f → ∃ (v : Value) (y : DataW H × List MemPlace), W.cell? (a.add j) = some v ∧ ys[j]? = some y ∧ DataW.trod enc P W base (fun _ => true) true m f.type [v] = some y := by
  obtain ⟨ys, m, _, hx, hl, hyl, hf⟩ := DataW.trod_struct he ht
  obtain ⟨_, hcl, hat⟩ := World.cells?_some hc
  refine ⟨ys, m, by rw [hx], hyl, fun j f hj => ?_⟩
  have hjl : j < fs.size := (Array.getElem?_eq_some_iff.1 hj).1
  obtain ⟨ho, hk⟩ := hone_of hone j f hj
  have h1 := hf j f hj
  have hjc : j < cs.length := by omega
  have e1 : (cs.drop f.offset).take (P.cellsOf f.type) = [cs[j]] := by
    rw [ho, hk, List.drop_eq_getElem_cons hjc]
    rfl
  rw [e1] at h1
  have hys : ys[j]? = some (ys[j]'(by omega)) := List.getElem?_eq_getElem (by omega)
  exact ⟨cs[j], ys[j]'(by omega), by rw [hat j (by omega)]; exact List.getElem?_eq_getElem hjc, hys, h1.trans hys⟩

/-- A slice of structs of one-cell fields. -/
theorem open_recs {t e : TypeId} {fs : Array Field} {fuel : Nat} {v : Value} {y : DataW H × List MemPlace} (ht : P.underlying t = some (.slice e)) (he : P.underlying e = some (.struct fs)) (hone : oneCellFields P fs = true) (hC : P.cellsOf e = fs.size)
    (h : DataW.trod enc P W 0 (fun _ => true) true fuel t [v] = some y) (hz : Sized P t y.1) :
    ∃ (a : Option Addr) (len cap : Nat), v = .slice a len cap ∧ len ≤ cap ∧ cap * P.bytesOf e ≤ 140737488351232 ∧ (a = none → len = 0 ∧ cap = 0) ∧
      ∀ i, i < len → ∃ (ad : Addr) (m : Nat), a = some ad ∧ ∀ (j : Nat) (f : Field), fs[j]? = some f → ∃ (u : Value) (z : DataW H × List MemPlace), W.cell? (ad.add (i * fs.size + j)) = some u ∧ DataW.trod enc P W 0 (fun _ => true) true m f.type [u] = some z ∧ Sized P f.type z.1 := by
  rcases open_slice ht h with ⟨hcs, hx⟩ | ⟨a, len, cap, m, n, D, Pl, hcs, hb, hl, hm, hmm, hx, hi⟩
  · simp at hcs
    subst hcs
    exact ⟨none, 0, 0, rfl, Nat.le_refl _, by simp, by simp, fun i hi => absurd hi (by omega)⟩
  · simp at hcs hmm
    subst hcs hmm
    rw [hx] at hz
    obtain ⟨hz1, hz2⟩ := hz.slice ht
    refine ⟨some a, len, m, rfl, hl, ?_, by simp, fun i hil => ⟨a, ?_⟩⟩
    · simp [reachBytes] at hz1
      rwa [show len + (m - len) = m by omega] at hz1
    · obtain ⟨cs', hc', ht'⟩ := hi i (by omega)
      obtain ⟨ys, m', hy1, hy2, hy3⟩ := rec_elem he hone hC hc' ht'
      refine ⟨m', rfl, fun j f hj => ?_⟩
      obtain ⟨u, z, h1, h2, h3⟩ := hy3 j f hj
      refine ⟨u, z, ?_, h3, ?_⟩
      · rw [← Go.Deep.add_add, ← hC]; exact h1
      · have hs := hz2 (D i) (List.mem_map.2 ⟨i, List.mem_range.2 hil, rfl⟩)
        have hy1' : D i = .agg (ys.map (·.1)) := hy1
        rw [hy1'] at hs
        exact hs.field he hj (by rw [List.getElem?_map, h2]; rfl)
theorem plain_spot {ad : Addr} {v : Value} (h : W.cell? (ad.add 0) = some v) : ∃ b o, ad = ⟨b, o, none⟩ := by
  obtain ⟨b, o, s⟩ := ad
  have hs : s = none := by simpa [Addr.add] using World.cell?_spot h
  subst hs
  exact ⟨b, o, rfl⟩
theorem add_at (b o k : Nat) : (⟨b, o, none⟩ : Addr).add k = ⟨b, o + k, none⟩ := by unfold Addr.add; split <;> simp_all
/-- A struct of two bools, by value. -/
theorem open_bools2 {t : TypeId} {f0 f1 : Field} {v : Value} {d : DataW H} {p : List MemPlace} (hs : P.underlying t = some (.struct #[f0, f1])) (hone : oneCellFields P #[f0, f1] = true) (hC : P.cellsOf t = 2) (h0 : P.underlying f0.type = some .bool) (h1 : P.underlying f1.type = some .bool)
    (hv : Value.okWide P W .any base t v) (h : DataW.Trod enc P W 0 (fun _ => true) true t v d p) : ∃ a b : Bool, v = .agg #[.bool a, .bool b] := by
  obtain ⟨c0, c1, y0, y1, m, rfl, _, _, hy0, hy1⟩ := open_agg2 hs hone hC hv h
  obtain ⟨a, e0, _⟩ := DataW.trod_bool h0 hy0
  obtain ⟨b, e1, _⟩ := DataW.trod_bool h1 hy1
  simp at e0 e1
  subst e0 e1
  exact ⟨a, b, rfl⟩
end
end Go.Proofs.Ytenhbhckhncamaa
