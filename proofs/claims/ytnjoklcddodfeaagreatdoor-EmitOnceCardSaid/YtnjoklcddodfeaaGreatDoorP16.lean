/-
  Law 06: Does, a step done with a netlist.
  Law 06: what a step does with a netlist.
  Opening a law's arguments: arrays, slices of numbers inside structs, slices of structs, and what the reach says of each part.
-/
import Derived.Test.YtnjoklcddodfeaaGreatDoorP01
import Derived.Deep.Slices
import Derived.Deep.Fields
import Derived.Lib.SmallJoins
import Derived.ChangeSame
import Derived.Test.YtnjoklcddodfeaaGreatDoorP15
namespace Go.Proofs.YtnjoklcddodfeaaGreatDoor
open Go.ChangeShapes Go.WideShapes Go.ChangeAt Go.RowKit Go.Deep Go.Joins
set_option linter.unusedVariables false

theorem choose_list {α : Type} {n : Nat} {p : Nat → α → Prop} (h : ∀ i, i < n → ∃ x, p i x) : ∃ l : List α, l.length = n ∧ ∀ i (hi : i < l.length), p i l[i] := by
  induction n with
  | zero => exact ⟨[], rfl, fun i hi => absurd hi (by simp)⟩
  | succ n ih =>
    obtain ⟨l, h1, h2⟩ := ih fun i hi => h i (by omega)
    obtain ⟨x, hx⟩ := h n (by omega)
    refine ⟨l ++ [x], by simp [h1], fun i hi => ?_⟩
    by_cases hin : i < l.length
    · rw [List.getElem_append_left hin]
      exact h2 i hin
    · have : i = n := by simp at hi; omega
      subst this
      rw [List.getElem_append_right (by omega)]
      simpa using hx

section
variable {H : Type} {enc : TypeId × Value → H} {P : Program} {W : World} {base : Nat}

/-- The reach, said of a datum: each slice and string in it is within it. -/
def Sized (P : Program) (t : TypeId) (d : DataW H) : Prop := ∀ n ∈ d.weights P t, n ≤ reachBytes
theorem Sized.arg {ts : List TypeId} {ds : List (DataW H)} (h : (DataW.weightsEach P ts ds).all (· ≤ reachBytes) = true) {j : Nat} {t : TypeId} {d : DataW H} (ht : ts[j]? = some t) (hd : ds[j]? = some d) : Sized P t d := fun n hn => by
  simpa using List.all_eq_true.1 h n (DataW.weights_mem_each ht hd n hn)
theorem weightsAll_mem {e : TypeId} : ∀ {es : List (DataW H)} {d : DataW H}, d ∈ es → ∀ n ∈ d.weights P e, n ∈ DataW.weightsAll P e es
  | x :: es, d, hd, n, hn => by
    simp only [DataW.weightsAll, List.mem_append]
    rcases List.mem_cons.1 hd with h | h
    · subst h; exact .inl hn
    · exact .inr (weightsAll_mem h n hn)
theorem Sized.slice {t e : TypeId} {es sp : List (DataW H)} (h : Sized P t (.slice es sp)) (hu : P.underlying t = some (.slice e)) : (es.length + sp.length) * P.bytesOf e ≤ reachBytes ∧ ∀ d ∈ es, Sized P e d := by
  refine ⟨h _ (by simp [DataW.weights, hu]), fun d hd n hn => h n ?_⟩
  simp only [DataW.weights, hu, List.mem_cons, List.mem_append]
  exact .inr (.inl (weightsAll_mem hd n hn))
theorem Sized.field {t : TypeId} {fs : Array Field} {parts : List (DataW H)} (h : Sized P t (.agg parts)) (hu : P.underlying t = some (.struct fs)) {j : Nat} {f : Field} {p : DataW H} (hf : fs[j]? = some f) (hp : parts[j]? = some p) : Sized P f.type p := fun n hn => by
  refine h n ?_
  simp only [DataW.weights, hu]
  exact DataW.weights_mem_each (j := j) (by simp [hf]) hp n hn

/-- A slice of unsigned numbers, wherever it was read. -/
theorem open_natsT {t e : TypeId} {K : IntKind} {m bytes : Nat} {fuel : Nat} {v : Value} {y : DataW H × List MemPlace} (ht : P.underlying t = some (.slice e)) (he : P.underlying e = some (.int K)) (hc : P.cellsOf e = 1) (hb : P.bytesOf e = bytes)
    (hK : K.signed = false) (hm : (2 : Int) ^ K.bits = m) (h : DataW.trod enc P W 0 (fun _ => true) true fuel t [v] = some y) (hz : Sized P t y.1) :
    ∃ (a : Option Addr) (cap : Nat) (l : List Nat), v = .slice a l.length cap ∧ l.length ≤ cap ∧ SlN W K a l ∧ (∀ n ∈ l, n < m) ∧ (a = none → l.length = 0 ∧ cap = 0) ∧ cap * bytes ≤ 140737488351232 := by
  rcases open_ints ht he hc h with ⟨hcs, hx⟩ | ⟨a, len, cap, zs, hcs, _, hl, hmx, hzl, hx, hcell, hwz⟩
  · simp at hcs
    subst hcs
    exact ⟨none, 0, [], rfl, Nat.le_refl _, SlN.nil _ _ _, by simp, by simp, by simp⟩
  · simp at hcs
    subst hcs
    simp at hzl
    have hnat : ∀ i (hi : i < zs.length), ((zs[i].toNat : Nat) : Int) = zs[i] ∧ zs[i].toNat < m := by
      intro i hi
      obtain ⟨k, hk, hkm⟩ := wf_nat hK hm (hwz zs[i] (List.getElem_mem hi))
      rw [hk]
      simp [hkm]
    have hlen : ((zs.take len).map Int.toNat).length = len := by simp; omega
    refine ⟨some a, cap, (zs.take len).map Int.toNat, by rw [hlen], by rw [hlen]; exact hl, fun k hk => ⟨a, rfl, ?_⟩, ?_, by simp, ?_⟩
    · rw [hlen] at hk
      rw [hcell k (by omega)]
      simp [List.getD_eq_getElem?_getD, (hnat k (by omega)).1, List.getElem?_eq_getElem (show k < zs.length by omega)]
    · intro n hn
      obtain ⟨y, hy, rfl⟩ := List.mem_map.1 hn
      obtain ⟨i, hi, rfl⟩ := List.getElem_of_mem (List.mem_of_mem_take hy)
      exact (hnat i hi).2
    · rw [hx] at hz
      have := (hz.slice ht).1
      rw [hb] at this
      simp [lits, hzl, reachBytes] at this
      rw [Nat.min_eq_left hl] at this
      rwa [show len + (cap - len) = cap by omega] at this

/-- One element that is a struct of one-cell fields: each field's cell, and its reading. -/
theorem rec_elem {e : TypeId} {fs : Array Field} {a : Addr} {cs : List Value} {n : Nat} {x : DataW H × List MemPlace} (he : P.underlying e = some (.struct fs)) (hone : oneCellFields P fs = true) (hC : P.cellsOf e = fs.size)
    (hc : W.cells? base a (P.cellsOf e) = some cs) (ht : DataW.trod enc P W base (fun _ => true) true n e cs = some x) :
    ∃ (ys : List (DataW H × List MemPlace)) (m : Nat), x.1 = .agg (ys.map (·.1)) ∧ ys.length = fs.size ∧ ∀ (j : Nat) (f : Field), fs[j]? = some f → ∃ (v : Value) (y : DataW H × List MemPlace), W.cell? (a.add j) = some v ∧ ys[j]? = some y ∧ DataW.trod enc P W base (fun _ => true) true m f.type [v] = some y := by
  obtain ⟨ys, m, _, hx, hl, hyl, hf⟩ := DataW.trod_struct he ht
  obtain ⟨_, hcl, hat⟩ := World.cells?_some hc
  refine ⟨ys, m, by rw [hx], hyl, fun j f hj => ?_⟩
  have hjl : j < fs.size := (Array.getElem?_eq_some_iff.1 hj).1
  obtain ⟨ho, hk⟩ := hone_of hone j f hj
  have h1 := hf j f hj
  have hjc : j < cs.length := by omega
  have e1 : (cs.drop f.offset).take (P.cellsOf f.type) = [cs[j]] := by
    rw [ho, hk, List.drop_eq_getElem_cons hjc]
    rfl
  rw [e1] at h1
  have hys : ys[j]? = some (ys[j]'(by omega)) := List.getElem?_eq_getElem (by omega)
  exact ⟨cs[j], ys[j]'(by omega), by rw [hat j (by omega)]; exact List.getElem?_eq_getElem hjc, hys, h1.trans hys⟩

/-- A slice of structs of one-cell fields. -/
theorem open_recs {t e : TypeId} {fs : Array Field} {fuel : Nat} {v : Value} {y : DataW H × List MemPlace} (ht : P.underlying t = some (.slice e)) (he : P.underlying e = some (.struct fs)) (hone : oneCellFields P fs = true) (hC : P.cellsOf e = fs.size)
    (h : DataW.trod enc P W 0 (fun _ => true) true fuel t [v] = some y) (hz : Sized P t y.1) :
    ∃ (a : Option Addr) (len cap : Nat), v = .slice a len cap ∧ len ≤ cap ∧ cap * P.bytesOf e ≤ 140737488351232 ∧ (a = none → len = 0 ∧ cap = 0) ∧
      ∀ i, i < len → ∃ (ad : Addr) (m : Nat), a = some ad ∧ ∀ (j : Nat) (f : Field), fs[j]? = some f → ∃ (u : Value) (z : DataW H × List MemPlace), W.cell? (ad.add (i * fs.size + j)) = some u ∧ DataW.trod enc P W 0 (fun _ => true) true m f.type [u] = some z ∧ Sized P f.type z.1 := by
  rcases open_slice ht h with ⟨hcs, hx⟩ | ⟨a, len, cap, m, n, D, Pl, hcs, hb, hl, hm, hmm, hx, hi⟩
  · simp at hcs
    subst hcs
    exact ⟨none, 0, 0, rfl, Nat.le_refl _, by simp, by simp, fun i hi => absurd hi (by omega)⟩
  · simp at hcs hmm
    subst hcs hmm
    rw [hx] at hz
    obtain ⟨hz1, hz2⟩ := hz.slice ht
    refine ⟨some a, len, m, rfl, hl, ?_, by simp, fun i hil => ⟨a, ?_⟩⟩
    · simp [reachBytes] at hz1
      rwa [show len + (m - len) = m by omega] at hz1
    · obtain ⟨cs', hc', ht'⟩ := hi i (by omega)
      obtain ⟨ys, m', hy1, hy2, hy3⟩ := rec_elem he hone hC hc' ht'
      refine ⟨m', rfl, fun j f hj => ?_⟩
      obtain ⟨u, z, h1, h2, h3⟩ := hy3 j f hj
      refine ⟨u, z, ?_, h3, ?_⟩
      · rw [← Go.Deep.add_add, ← hC]; exact h1
      · have hs := hz2 (D i) (List.mem_map.2 ⟨i, List.mem_range.2 hil, rfl⟩)
        have hy1' : D i = .agg (ys.map (·.1)) := hy1
        rw [hy1'] at hs
        exact hs.field he hj (by rw [List.getElem?_map, h2]; rfl)
theorem plain_spot {ad : Addr} {v : Value} (h : W.cell? (ad.add 0) = some v) : ∃ b o, ad = ⟨b, o, none⟩ := by
  obtain ⟨b, o, s⟩ := ad
  have hs : s = none := by simpa [Addr.add] using World.cell?_spot h
  subst hs
  exact ⟨b, o, rfl⟩
theorem add_at (b o k : Nat) : (⟨b, o, none⟩ : Addr).add k = ⟨b, o + k, none⟩ := by unfold Addr.add; split <;> simp_all
/-- A struct of two bools, by value. -/
theorem open_bools2 {t : TypeId} {f0 f1 : Field} {v : Value} {d : DataW H} {p : List MemPlace} (hs : P.underlying t = some (.struct #[f0, f1])) (hone : oneCellFields P #[f0, f1] = true) (hC : P.cellsOf t = 2) (h0 : P.underlying f0.type = some .bool) (h1 : P.underlying f1.type = some .bool)
    (hv : Value.okWide P W .any base t v) (h : DataW.Trod enc P W 0 (fun _ => true) true t v d p) : ∃ a b : Bool, v = .agg #[.bool a, .bool b] := by
  obtain ⟨c0, c1, y0, y1, m, rfl, _, _, hy0, hy1⟩ := open_agg2 hs hone hC hv h
  obtain ⟨a, e0, _⟩ := DataW.trod_bool h0 hy0
  obtain ⟨b, e1, _⟩ := DataW.trod_bool h1 hy1
  simp at e0 e1
  subst e0 e1
  exact ⟨a, b, rfl⟩
end
end Go.Proofs.YtnjoklcddodfeaaGreatDoor

namespace Go.Proofs.YtnjoklcddodfeaaGreatDoor
open Go.ChangeShapes Go.WideShapes Go.ChangeAt Go.RowKit
open Go.Maps (Keyed)
open Go.WideMaps
set_option linter.unusedVariables false
set_option linter.unusedSimpArgs false

variable {w w' : World} {p n : Nat} {F R S : List Nat} {g : Gr} {N : Nt}
def RowNew (l : List Nat) (n : Nat) (w : World) (e : Ending) (w' : World) : Prop := ∃ a c, e = .returned (.slice a n c) ∧ Own w' 39 a n c (nats .u32 l) ∧ Stepped w w' [] (ft a)
set_option maxHeartbeats 800000 in
theorem of_c (a : Option Addr) (c n : Nat) (l : List Nat) (w : World) (hl : l.length = n) (hn : n ≤ 140737488351232) (hs : SlN w .u32 a l) :
    Calls Tryz.prog 65 #[.slice a n c] w (RowNew (l.take 70) (min n 70) w) := by
  have HL := Lib.hid hl
  clear hl
  go_enter Tryz.func65, Tryz.ntmps65
  go_wp2_with fail
  go_loopw [3, 4] (fun v i wr => ∃ (k : Nat) (a' : Option Addr) (c' : Nat), k ≤ n ∧ k ≤ 70 ∧ i = .int .i64 k ∧ v = .slice a' k c' ∧ Own wr 39 a' k c' (nats .u32 (l.take k)) ∧ Stepped w wr [] (ft a')) (fun _ i _ => 70 - (intOf i).toNat)
  case atStart => exact ⟨0, none, 0, Nat.zero_le _, by omega, rfl, rfl, Own.nil _ _, .refl _ _⟩
  case round =>
    obtain ⟨k, a', c', hk, h70, rfl, rfl, hown, hst⟩ := hrel
    by_cases hlt : k < n ∧ k < 70
    · obtain ⟨h1, h2⟩ := hlt
      have hkl : k < l.length := by rw [HL.out]; exact h1
      obtain ⟨ad, rfl, hcx⟩ := (hs.kept0 hst.kept) k hkl
      have HT := Lib.hid (take_snoc l k hkl)
      generalize l[k] = x at *
      go_wp2_with (at_builtin; refine wpList_push rfl rfl Tryz.underlying71 lit_info' rfl rfl rfl hown rfl (by unfold maxLen; omega) (by omega) ?_; intro a1 c1 w5 hown5 hst5)
      go_roundw
      case rel => exact ⟨k + 1, a1, c1, by omega, by omega, by go_num, rfl, by rw [HT.out, ← nats_append]; exact hown5, hst.trans hst5⟩
      case measure => simp [intOf]; omega
    · have HE := Lib.hid (show l.take k = l.take 70 from by
        have := HL.out
        by_cases h : k < 70
        · rw [List.take_of_length_le (by omega), List.take_of_length_le (by omega)]
        · rw [show k = 70 by omega])
      have HK := Lib.hid (show k = min n 70 from by omega)
      rw [HE.out] at hown
      have HO := Lib.hid hown
      have HS := Lib.hid hst
      clear hown hst HE
      by_cases h1 : k < n
      · have h2 : ¬ k < 70 := by omega
        clear hlt
        go_wp2_with fail
        go_ret
        exact ⟨a', c', by rw [← HK.out]; rfl, by rw [← HK.out]; exact HO.out, HS.out⟩
      · clear hlt
        go_wp2_with fail
        go_ret
        exact ⟨a', c', by rw [← HK.out]; rfl, by rw [← HK.out]; exact HO.out, HS.out⟩
def NoGate (w : World) (e : Ending) (w' : World) : Prop := e = .returned (.tuple #[.int .u32 0, .int .i64 1]) ∧ Kept [] w w'
theorem asksE_gone {l : List Nat} (h : gone g l = true) : asksE g l = 1 := by
  have : bad g.nodes.length l = true := h
  unfold asksE; rw [this]; rfl
theorem and_gone (hg : GraphAt w p F g) (hm : g.nodes.length ≤ 200000) (a : Option Addr) (c len : Nat) (l : List Nat) (hl : l.length = len) (hlm : len ≤ 1000000) (hs : SlN w .u32 a l) (hr : Lits l) (hb : gone g l = true) :
    Calls Tryz.prog 66 #[.pointer (some ⟨p, 0, none⟩), .slice a len c] w (NoGate w) := by
  have HA := Lib.hid (aig_asks hg hm a c len l hl hlm hs hr)
  rw [asksE_gone hb] at HA
  have HM := Lib.hid (fun (v f : Value) => show Calls Tryz.prog 107 #[.pointer (some ⟨p, 0, none⟩), v, f, .slice a len c] w (NoGate w) from by
    go_enter Tryz.func107, Tryz.ntmps107
    go_wp2_with fail
    refine HA.out.mono ?_
    rintro e w1 ⟨rfl, hk1⟩
    have K1 := Lib.hid hk1
    clear hk1
    go_wp2_with fail
    go_ret2
    exact ⟨rfl, K1.out⟩)
  clear hg hl hs hr hb HA
  go_enter Tryz.func66, Tryz.ntmps66
  go_wp2_with fail
  refine (HM.out _ _).mono ?_
  rintro e w1 ⟨rfl, hk1⟩
  have K1 := Lib.hid hk1
  clear hk1
  go_wp2_with fail
  go_ret2
  exact ⟨rfl, K1.out⟩
theorem xor_gone (hg : GraphAt w p F g) (hm : g.nodes.length ≤ 200000) (a : Option Addr) (c len : Nat) (l : List Nat) (hl : l.length = len) (hlm : len ≤ 1000000) (hs : SlN w .u32 a l) (hr : Lits l) (hb : gone g l = true) :
    Calls Tryz.prog 67 #[.pointer (some ⟨p, 0, none⟩), .slice a len c] w (NoGate w) := by
  have HA := Lib.hid (aig_asks hg hm a c len l hl hlm hs hr)
  rw [asksE_gone hb] at HA
  have HM := Lib.hid (fun (v f : Value) => show Calls Tryz.prog 107 #[.pointer (some ⟨p, 0, none⟩), v, f, .slice a len c] w (NoGate w) from by
    go_enter Tryz.func107, Tryz.ntmps107
    go_wp2_with fail
    refine HA.out.mono ?_
    rintro e w1 ⟨rfl, hk1⟩
    have K1 := Lib.hid hk1
    clear hk1
    go_wp2_with fail
    go_ret2
    exact ⟨rfl, K1.out⟩)
  clear hg hl hs hr hb HA
  go_enter Tryz.func67, Tryz.ntmps67
  go_wp2_with fail
  refine (HM.out _ _).mono ?_
  rintro e w1 ⟨rfl, hk1⟩
  have K1 := Lib.hid hk1
  clear hk1
  go_wp2_with fail
  go_ret2
  exact ⟨rfl, K1.out⟩
theorem one_c (x : Int) (k : Int) (w : World) : Calls Tryz.prog 60 #[.int .u32 x, .int .i64 k] w fun e w' => e = .returned (.tuple #[.slice (some ⟨w.heap.size, 0, none⟩) 1 1, .int .i64 k]) ∧ w' = w.alloc (.cells #[.int .u32 x] 39) := by
  go_enter Tryz.func60, Tryz.ntmps60
  go_wp2
  go_ret2
  exact ⟨rfl, rfl⟩
/-- a call of a gate on a netlist's graph -/
def GatePostN (r : Nt × List Nat × Nat) (x : Nat) (w : World) (n : Nat) (F R : List Nat) (e : Ending) (w' : World) : Prop :=
  ∃ F' x, e = .returned (.tuple #[.int .u32 (x : Nat), .int .i64 (r.2.2 : Nat)]) ∧ NetAt w' n F' R r.1 ∧ NStep w w' F R F' R ∧ r.2.1 = [x]
def stepCells6 (s : NStp) (la : Option Addr) (lc : Nat) : Array Value := #[.int .i64 s.what, .string s.name, .int .i64 s.n, .int .u32 (s.a : Int), .int .u32 (s.b : Int), .int .u32 (s.c : Int), .slice la s.lits.length lc]
structure NStp.ok (s : NStp) : Prop where
  nm : s.name.size ≤ 140737488351232
  n1 : -9223372036854775808 ≤ s.n
  n2 : s.n ≤ 9223372036854775807
  a : s.a < 4294967296
  b : s.b < 4294967296
  c : s.c < 4294967296
  l : ∀ x ∈ s.lits, x < 4294967296
  ll : s.lits.length ≤ 140737488351232
theorem whole_row {e : TypeId} {gb n : Nat} {xs : List Value} (h : w.heap[gb]? = some (.cells xs.toArray e (0, 0))) (hl : xs.length = n) (hn : n ≤ maxLen) : Own w e (some ⟨gb, 0, none⟩) n n xs :=
  ⟨by rw [hl, Nat.mul_one], .inr ⟨gb, n, xs.toArray, rfl, Nat.zero_le _, h, Nat.le_refl _, hn, by simp [hl], by simp [← hl]⟩⟩
/-- a new row of one literal -/
theorem one_row {W : World} {x k : Nat} {F' R' : List Nat} (hn : NetAt W n F' R' N) (hst : NStep w W F R F' R') :
    ∃ F' R' a c k', Ending.returned (.tuple #[.slice (some ⟨W.heap.size, 0, none⟩) 1 1, .int .i64 (k : Nat)]) = .returned (.tuple #[.slice a k' c, .int .i64 (k : Nat)]) ∧ NetAt (W.alloc (.cells #[.int .u32 (x : Int)] 39)) n F' R' N ∧ NStep w (W.alloc (.cells #[.int .u32 (x : Int)] 39)) F R F' R' ∧ Own (W.alloc (.cells #[.int .u32 (x : Int)] 39)) 39 a k' c (nats .u32 [x]) ∧ ∀ b ∈ ft a, w.heap.size ≤ b ∧ b ∉ F' ∧ b ∉ R' := by
  have hk : Kept [] W (W.alloc (.cells #[.int .u32 (x : Int)] 39)) := (Kept.refl [] W).alloc _
  refine ⟨F', R', some ⟨W.heap.size, 0, none⟩, 1, 1, rfl, hn.kept0 hk, hst.keep hk, whole_row (heap_alloc_new W _) rfl (by unfold maxLen; omega), fun b hb => ?_⟩
  rw [mem_ft] at hb
  subst hb
  exact ⟨hst.st.kept.size, fun h => Nat.lt_irrefl _ (hn.lt.1 _ h), fun h => Nat.lt_irrefl _ (hn.lt.2 _ h)⟩
end Go.Proofs.YtnjoklcddodfeaaGreatDoor

namespace Go.Proofs.YtnjoklcddodfeaaGreatDoor
open Go.ChangeShapes Go.WideShapes Go.ChangeAt Go.RowKit
open Go.Maps (Keyed)
open Go.WideMaps
set_option linter.unusedVariables false
set_option linter.unusedSimpArgs false

variable {w w' : World} {p n : Nat} {F R S : List Nat} {g : Gr} {N : Nt}
def stepV (s : NStp) (la : Option Addr) (lc : Nat) : Value := .agg (stepCells6 s la lc)
theorem box_cell (s : NStp) (la : Option Addr) (lc : Nat) (w : World) (i : Nat) : (w.alloc (.cells (stepCells6 s la lc) 86)).cell? ⟨w.heap.size, i, none⟩ = (stepCells6 s la lc)[i]? := blk_cell (heap_alloc_new w _) i
set_option maxHeartbeats 3200000 in
set_option maxRecDepth 100000 in
theorem does_0 (s : NStp) (la : Option Addr) (lc : Nat) (h : NetAt w n F R N) (hok : N.g.nodes.length ≤ 50000 ∧ N.inb.length ≤ 10000 ∧ N.regs.length ≤ 10000 ∧ N.outb.length ≤ 10000) (hs : s.ok) (h0 : s.what = 0) :
    Calls Tryz.prog 27 #[.pointer (some ⟨n, 0, none⟩), stepV s la lc] w (AddInPost (addIn N s.name s.n) w n F R) := by
  have H := Lib.hid (addin_c (h.kept0 ((Kept.refl [] w).alloc (.cells (stepCells6 s la lc) 86))) (by omega) s.name hs.nm s.n hs.n1 hs.n2)
  have HK := Lib.hid ((Kept.refl [] w).alloc (.cells (stepCells6 s la lc) 86))
  generalize addIn N s.name s.n = res at *
  obtain ⟨what, nm, sn, a, b, c, lits⟩ := s
  simp only [stepV, stepCells6] at *
  subst h0
  clear hs h
  go_enter Tryz.func27, Tryz.ntmps27; (try simp only [List.append])
  go_wp2_with fail
  refine H.out.mono ?_
  rintro e w1 ⟨F', R', a', c', k', rfl, hn, hst, ho, hf⟩
  have HN := Lib.hid hn
  have HS := Lib.hid hst
  have HO := Lib.hid ho
  have HF := Lib.hid hf
  clear hn hst ho hf
  go_wp2_with fail
  go_ret2
  exact ⟨F', R', a', c', k', rfl, HN.out, ((NStep.refl w F R).keep HK.out).trans HS.out, HO.out, fun b hb => ⟨Nat.le_trans HK.out.size (HF.out b hb).1, (HF.out b hb).2⟩⟩
theorem rem_spell (n : Int) (h1 : -9223372036854775808 ≤ n) (h2 : n ≤ 9223372036854775807) : (n.tmod 2 != 0) = decide (n % 2 ≠ 0) := by
  rw [Bool.eq_iff_iff, bne_iff_ne, decide_eq_true_eq]
  have : n.tmod 2 = 0 ↔ n % 2 = 0 := by
    constructor
    · intro h; have := Int.dvd_of_tmod_eq_zero h; omega
    · intro h; exact Int.tmod_eq_zero_of_dvd (by omega)
  rw [ne_eq, ne_eq, this]
set_option maxHeartbeats 3200000 in
set_option maxRecDepth 100000 in
theorem does_1 (s : NStp) (la : Option Addr) (lc : Nat) (h : NetAt w n F R N) (hok : N.g.nodes.length ≤ 50000 ∧ N.inb.length ≤ 10000 ∧ N.regs.length ≤ 10000 ∧ N.outb.length ≤ 10000) (hs : s.ok) (h0 : s.what = 1) :
    Calls Tryz.prog 27 #[.pointer (some ⟨n, 0, none⟩), stepV s la lc] w (AddInPost ((addReg N (decide (s.n % 2 ≠ 0))).1, [(addReg N (decide (s.n % 2 ≠ 0))).2], 0) w n F R) := by
  have H := Lib.hid (fun b => addreg_c (h.kept0 ((Kept.refl [] w).alloc (.cells (stepCells6 s la lc) 86))) (by omega) b)
  have HK := Lib.hid ((Kept.refl [] w).alloc (.cells (stepCells6 s la lc) 86))
  have hrm := rem_spell s.n hs.n1 hs.n2
  have b1 := hs.n1
  have b2 := hs.n2
  generalize decide (s.n % 2 ≠ 0) = rb at *
  have H2 := Lib.hid (H.out rb)
  clear H
  generalize addReg N rb = res at *
  obtain ⟨N', y⟩ := res
  obtain ⟨what, nm, sn, a, b, c, lits⟩ := s
  simp only [stepV, stepCells6] at *
  subst h0
  clear hs h
  go_enter Tryz.func27, Tryz.ntmps27; (try simp only [List.append])
  go_wp2_with fail
  refine H2.out.mono ?_
  rintro e w1 ⟨F', rfl, hn, hst⟩
  have HN := Lib.hid hn
  have HS := Lib.hid (((NStep.refl w F R).keep HK.out).trans hst)
  clear hn hst
  go_wp2_with fail
  refine (one_c _ _ _).mono ?_
  rintro e w2 ⟨rfl, rfl⟩
  go_wp2_with fail
  go_ret2
  exact one_row HN.out HS.out
set_option maxHeartbeats 3200000 in
set_option maxRecDepth 100000 in
theorem does_2 (s : NStp) (la : Option Addr) (lc : Nat) (h : NetAt w n F R N) (hok : N.g.nodes.length ≤ 50000 ∧ N.inb.length ≤ 10000 ∧ N.regs.length ≤ 10000 ∧ N.outb.length ≤ 10000) (hs : s.ok) (h0 : s.what = 2) :
    Calls Tryz.prog 27 #[.pointer (some ⟨n, 0, none⟩), stepV s la lc] w (AddInPost ((setReg N s.a s.b s.c).1, [], (setReg N s.a s.b s.c).2) w n F R) := by
  have H := Lib.hid (setreg_c (h.kept0 ((Kept.refl [] w).alloc (.cells (stepCells6 s la lc) 86))) (by omega) s.a s.b s.c hs.a hs.b hs.c)
  have HK := Lib.hid ((Kept.refl [] w).alloc (.cells (stepCells6 s la lc) 86))
  generalize setReg N s.a s.b s.c = res at *
  obtain ⟨N', y⟩ := res
  obtain ⟨what, nm, sn, a, b, c, lits⟩ := s
  simp only [stepV, stepCells6] at *
  subst h0
  clear hs h
  go_enter Tryz.func27, Tryz.ntmps27; (try simp only [List.append])
  go_wp2_with fail
  refine H.out.mono ?_
  rintro e w1 ⟨F', R', rfl, hn, hst⟩
  have HN := Lib.hid hn
  have HS := Lib.hid (((NStep.refl w F R).keep HK.out).trans hst)
  clear hn hst
  go_wp2_with fail
  go_ret2
  exact ⟨F', R', none, 0, 0, rfl, HN.out, HS.out, Own.nil _ _, by simp [ft]⟩
set_option maxHeartbeats 3200000 in
set_option maxRecDepth 100000 in
theorem does_8 (s : NStp) (la : Option Addr) (lc : Nat) (h : NetAt w n F R N) (hok : N.g.nodes.length ≤ 50000 ∧ N.inb.length ≤ 10000 ∧ N.regs.length ≤ 10000 ∧ N.outb.length ≤ 10000) (hs : s.ok) (h0 : s.what = 8) :
    Calls Tryz.prog 27 #[.pointer (some ⟨n, 0, none⟩), stepV s la lc] w (AddInPost ({ N with g := (inputG N.g).1 }, [2 * N.g.nodes.length], 0) w n F R) := by
  have HK := Lib.hid ((Kept.refl [] w).alloc (.cells (stepCells6 s la lc) 86))
  obtain ⟨p, G, ia, ic, ra, rc, oa, oc, ri, ro, rfl, rfl, hc⟩ := h
  have HC := Lib.hid (hc.kept HK.out (by simp) (by simp))
  have H := Lib.hid (aig_input HC.out.gr (show N.g.nodes.length ≤ 199000 by omega))
  have HV := Lib.hid (show (inputG N.g).2 = 2 * N.g.nodes.length from rfl)
  generalize inputG N.g = res at *
  obtain ⟨g', y⟩ := res
  simp only at HV
  rw [← HV.out]
  have c0 := HC.out.c0
  obtain ⟨what, nm, sn, a, b, c, lits⟩ := s
  simp only [stepV, stepCells6] at *
  subst h0
  clear hs hc
  go_enter Tryz.func27, Tryz.ntmps27; (try simp only [List.append])
  go_wp2_with fail
  refine H.out.mono ?_
  rintro e w1 ⟨G', rfl, hg, hst⟩
  have HN := Lib.hid (HC.out.graph hg hst)
  have HS := Lib.hid (((NStep.refl w _ _).keep HK.out).trans (NetC.graph_step (n := n) (ia := ia) (ra := ra) (oa := oa) (ri := ri) (ro := ro) hst))
  clear hg hst c0
  go_wp2_with fail
  refine (one_c _ _ _).mono ?_
  rintro e w2 ⟨rfl, rfl⟩
  go_wp2_with fail
  go_ret2
  exact one_row ⟨p, G', ia, ic, ra, rc, oa, oc, ri, ro, rfl, rfl, HN.out⟩ HS.out
set_option maxHeartbeats 3200000 in
set_option maxRecDepth 100000 in
theorem does_9 (s : NStp) (la : Option Addr) (lc : Nat) (h : NetAt w n F R N) (h0 : s.what < 0 ∨ 8 < s.what) :
    Calls Tryz.prog 27 #[.pointer (some ⟨n, 0, none⟩), stepV s la lc] w (AddInPost (N, [], 0) w n F R) := by
  have HPO := Lib.hid (AddInPost.no (k := 0) h ((Kept.refl [] w).alloc (.cells (stepCells6 s la lc) 86)))
  generalize ((N, [], 0) : Nt × List Nat × Nat) = res at *
  obtain ⟨what, nm, sn, a, b, c, lits⟩ := s
  simp only [stepV, stepCells6] at *
  have e0 : (what == 0) = false := by rw [beq_eq_false_iff_ne]; omega
  have e1 : (what == 1) = false := by rw [beq_eq_false_iff_ne]; omega
  have e2 : (what == 2) = false := by rw [beq_eq_false_iff_ne]; omega
  have e3 : (what == 3) = false := by rw [beq_eq_false_iff_ne]; omega
  have e4 : (what == 4) = false := by rw [beq_eq_false_iff_ne]; omega
  have e5 : (what == 5) = false := by rw [beq_eq_false_iff_ne]; omega
  have e6 : (what == 6) = false := by rw [beq_eq_false_iff_ne]; omega
  have e7 : (what == 7) = false := by rw [beq_eq_false_iff_ne]; omega
  have e8 : (what == 8) = false := by rw [beq_eq_false_iff_ne]; omega
  clear h0 h
  go_enter Tryz.func27, Tryz.ntmps27; (try simp only [List.append])
  go_wp2_with fail
  go_ret2
  exact HPO.out
end Go.Proofs.YtnjoklcddodfeaaGreatDoor
