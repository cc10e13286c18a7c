/-
  A map of the call's own as a plain function from keys to elements: look-up and store.
-/
import Derived.Test.YtenhbhckhncamaaP03
import Derived.Maps.Keyed
import Derived.Maps.Own
import Derived.Maps.OwnOps
import Derived.Maps.OwnSet
namespace Go.Proofs.Ytenhbhckhncamaa
open Go.ChangeShapes Go.WideShapes Go.ChangeAt Go.RowKit
open Go.Maps (Keyed)
set_option linter.unusedVariables false

theorem modify_set {α : Type} (l : List α) (j : Nat) (g : α → α) (x : α) (h : l[j]? = some x) : l.modify j g = l.set j (g x) := by
  induction l generalizing j with
  | nil => simp at h
  | cons y l ih =>
    cases j with
    | zero => simp at h; subst h; simp
    | succ j => simp at h ⊢; exact ih j h
theorem set_same {α : Type} (l : List α) (j : Nat) (x : α) (h : l[j]? = some x) : l.set j x = l := by
  induction l generalizing j with
  | nil => simp at h
  | cons y l ih =>
    cases j with
    | zero => simp at h; subst h; rfl
    | succ j => simp at h ⊢; exact ih j h

noncomputable def upd (f : Value → Option Value) (k v : Value) : Value → Option Value := fun x => @ite _ (x = k) (Classical.propDecidable _) (some v) (f x)
theorem upd_same (f : Value → Option Value) (k v : Value) : upd f k v k = some v := by simp [upd]
theorem upd_other (f : Value → Option Value) {k v x : Value} (h : x ≠ k) : upd f k v x = f x := by simp [upd, h]

/-- Block m is a map with keys of type k; at a key it holds what f says. -/
def MapV (w : World) (P : Program) (k : TypeId) (m : Nat) (f : Value → Option Value) : Prop :=
  ∃ es clock, w.heap[m]? = some (.map es clock) ∧ (∀ e ∈ es.toList, ∃ l, keyOf P k e.key = some l) ∧ es.toList.Pairwise (fun a b => a.key ≠ b.key) ∧
    ∀ key v, f key = some v ↔ ∃ e ∈ es.toList, e.key = key ∧ e.val = v

variable {P : Program} {k : TypeId} {w w' : World} {m : Nat} {f : Value → Option Value}

theorem MapV.lt (h : MapV w P k m f) : m < w.heap.size := by
  obtain ⟨es, clock, hb, _⟩ := h
  exact (Array.getElem?_eq_some_iff.1 hb).1
theorem MapV.kept {F : List Nat} (h : MapV w P k m f) (hk : Kept F w w') (hn : m ∉ F) : MapV w' P k m f := by
  obtain ⟨es, clock, hb, h2⟩ := h
  exact ⟨es, clock, hk.heap hb hn, h2⟩
theorem MapV.new (w : World) (P : Program) (k : TypeId) : MapV (w.alloc (.map #[] 0)) P k w.heap.size (fun _ => none) :=
  ⟨#[], 0, heap_alloc_new w _, by simp, by simp, by simp⟩
theorem MapV.nocell (h : MapV w P k m f) {cs : Array Value} {e : TypeId} {fr : Nat × Nat} {b : Nat} (hb : w.heap[b]? = some (.cells cs e fr)) : b ≠ m := by
  obtain ⟨es, clock, hm, _⟩ := h
  rintro rfl
  rw [hm] at hb
  cases hb

theorem MapV.look (h : MapV w P k m f) (c : Bool) (K : Keyed P k) {t e : TypeId} (ht : P.underlying t = some (.map k e)) {z : Value} (hz : (zeroValue e).run P w = .ok z w) {key : Value} {kl : Lit} (hkey : keyOf P k key = some kl) :
    (Instr.lookup t (.map (some m)) key c).run P w = .ok (if c then .tuple #[(f key).getD z, .bool (f key).isSome] else (f key).getD z) w := by
  obtain ⟨es, clock, hb, hks, hun, hf⟩ := h
  rcases K.find w hkey es.toList hks with ⟨h1, h2⟩ | ⟨j, e0, h1, h2, h3⟩
  · have hn : f key = none := by
      cases hfk : f key with
      | none => rfl
      | some v =>
        obtain ⟨e, he, hk, _⟩ := (hf key v).1 hfk
        exact absurd hk (h2 e he)
    rw [hn]
    cases c <;> simp [Instr.lookup, run_underlying ht, MapKept.run_getObj_map hb, K.check w _ hkey, h1, hz, Result.andThen]
  · have hn : f key = some e0.val := (hf key _).2 ⟨e0, List.mem_of_getElem? h2, h3, rfl⟩
    rw [hn]
    cases c <;> simp [Instr.lookup, run_underlying ht, MapKept.run_getObj_map hb, K.check w _ hkey, h1, Result.andThen]

theorem setBlock_kept (w : World) (b : Nat) (o : Obj) : Kept [b] w (ChangeMaps.setBlock w b o) :=
  ⟨rfl, rfl, rfl, by simp [ChangeMaps.setBlock], fun i hi hn => by
    simp only [ChangeMaps.setBlock, List.mem_singleton] at hn ⊢
    rw [Array.getElem?_setIfInBounds]
    rw [if_neg (fun h => hn h.symm)]⟩
theorem setBlock_same (w : World) (b : Nat) (o : Obj) (h : b < w.heap.size) : (ChangeMaps.setBlock w b o).heap[b]? = some o := by
  simp [ChangeMaps.setBlock, h]

theorem MapV.update (h : MapV w P k m f) (K : Keyed P k) {t e : TypeId} (ht : P.underlying t = some (.map k e)) {key val : Value} {kl : Lit} (hkey : keyOf P k key = some kl) :
    ∃ w', (Instr.mapUpdate t (.map (some m)) key val).run P w = .ok () w' ∧ MapV w' P k m (upd f key val) ∧ Kept [m] w w' := by
  have hlt := h.lt
  obtain ⟨es, clock, hb, hks, hun, hf⟩ := h
  rcases K.find w hkey es.toList hks with ⟨h1, h2⟩ | ⟨j, e0, h1, h2, h3⟩
  · refine ⟨ChangeMaps.setBlock w m (.map (es.push ⟨key, val, clock⟩) (clock + 1)), ?_, ⟨es.push ⟨key, val, clock⟩, clock + 1, setBlock_same _ _ _ hlt, ?_, ?_, ?_⟩, setBlock_kept _ _ _⟩
    · simp [Instr.mapUpdate, run_underlying ht, MapKept.run_getObj_map hb, K.check w false hkey, h1, MapKept.run_setObj_map _ hb, Result.andThen, ChangeMaps.setBlock]
    · intro x hx
      simp only [Array.toList_push, List.mem_append, List.mem_singleton] at hx
      rcases hx with hx | rfl
      · exact hks x hx
      · exact ⟨kl, hkey⟩
    · rw [Array.toList_push, List.pairwise_append]
      exact ⟨hun, by simp, fun a ha b hb => by simp at hb; subst hb; exact h2 a ha⟩
    · intro x v
      simp only [Array.toList_push, List.mem_append, List.mem_singleton]
      by_cases hx : x = key
      · subst hx
        rw [upd_same]
        constructor
        · intro hv
          injection hv with hv
          exact ⟨_, .inr rfl, rfl, hv⟩
        · rintro ⟨e, he | rfl, hek, hev⟩
          · exact absurd hek (h2 e he)
          · rw [← hev]
      · rw [upd_other _ hx, hf]
        constructor
        · rintro ⟨e, he, h⟩
          exact ⟨e, .inl he, h⟩
        · rintro ⟨e, he | rfl, hek, hev⟩
          · exact ⟨e, he, hek, hev⟩
          · exact absurd hek.symm hx
  · have hj : es[j]? = some e0 := by simpa using h2
    have hjl : j < es.toList.length := (List.getElem?_eq_some_iff.1 h2).1
    have hlist : (es.modify j (fun e' => { e' with key := key, val := val })).toList = es.toList.set j { e0 with key := key, val := val } := by
      rw [Array.toList_modify]
      exact modify_set _ _ _ _ h2
    have hsame : (es.toList.set j { e0 with key := key, val := val }).map (·.key) = es.toList.map (·.key) := by
      rw [List.map_set]
      exact set_same _ _ _ (by rw [List.getElem?_map, h2]; simp [h3])
    have who : ∀ x ∈ es.toList.set j { e0 with key := key, val := val }, x = { e0 with key := key, val := val } ∨ (x ∈ es.toList ∧ x.key ≠ key) := by
      intro x hx
      obtain ⟨i, hi, ex⟩ := List.getElem_of_mem hx
      rw [List.getElem_set] at ex
      split at ex
      · exact .inl ex.symm
      · rename_i hne
        have hi' : i < es.toList.length := by simpa using hi
        refine .inr ⟨ex ▸ List.getElem_mem hi', ?_⟩
        have hp := List.pairwise_iff_getElem.1 hun
        have e1 : es.toList[j] = e0 := (List.getElem?_eq_some_iff.1 h2).2
        rcases Nat.lt_or_ge i j with hlt' | hge
        · have := hp i j hi' hjl hlt'
          rw [ex, e1, h3] at this
          exact this
        · have := hp j i hjl hi' (by omega)
          rw [ex, e1, h3] at this
          exact fun h => this h.symm
    refine ⟨ChangeMaps.setBlock w m (.map (es.modify j (fun e' => { e' with key := key, val := val })) clock), ?_, ⟨_, clock, setBlock_same _ _ _ hlt, ?_, ?_, ?_⟩, setBlock_kept _ _ _⟩
    · simp [Instr.mapUpdate, run_underlying ht, MapKept.run_getObj_map hb, K.check w false hkey, h1, hj, h3, K.stays w hkey, MapKept.run_setObj_map _ hb, Result.andThen, ChangeMaps.setBlock]
    · intro x hx
      rw [hlist] at hx
      rcases who x hx with rfl | ⟨hx', _⟩
      · exact ⟨kl, hkey⟩
      · exact hks x hx'
    · rw [hlist]
      have : (es.toList.map (·.key)).Pairwise (· ≠ ·) := List.pairwise_map.2 hun
      rw [← hsame] at this
      exact List.pairwise_map.1 this
    · intro x v
      rw [hlist]
      by_cases hx : x = key
      · subst hx
        rw [upd_same]
        constructor
        · intro hv
          injection hv with hv
          exact ⟨{ e0 with key := x, val := val }, List.mem_iff_getElem.2 ⟨j, by simpa using hjl, by simp⟩, rfl, hv⟩
        · rintro ⟨e, he, hek, hev⟩
          rcases who e he with rfl | ⟨_, hne⟩
          · rw [← hev]
          · exact absurd hek hne
      · rw [upd_other _ hx, hf]
        constructor
        · rintro ⟨e, he, hek, hev⟩
          obtain ⟨i, hi, ei⟩ := List.getElem_of_mem he
          have hij : j ≠ i := by
            rintro rfl
            have e1 : es.toList[j] = e0 := (List.getElem?_eq_some_iff.1 h2).2
            rw [e1] at ei
            rw [← ei, h3] at hek
            exact hx hek.symm
          exact ⟨e, List.mem_iff_getElem.2 ⟨i, by simpa using hi, by rw [List.getElem_set_ne hij]; exact ei⟩, hek, hev⟩
        · rintro ⟨e, he, hek, hev⟩
          rcases who e he with rfl | ⟨he', _⟩
          · exact absurd hek.symm hx
          · exact ⟨e, he', hek, hev⟩

section
variable {ops : Array Oper} {rest : List Oper} {o : Oper} {a : Act} {Q : Exit → Act → World → Prop}

/-- 'v, ok := m[k]' -/
theorem wpList_look {mo x : Operand} {t e : TypeId} {z key : Value} (hg : o.guard = none) (hop : o.op = Op.lookup t mo x true) (K : Keyed P k) (ht : P.underlying t = some (.map k e)) (hz : (zeroValue e).run P w = .ok z w)
    (hm : a.eval mo = .map (some m)) (hx : a.eval x = key) (hown : MapV w P k m f) (hkey : ∃ kl, keyOf P k key = some kl)
    (hK : wpList P ops Q rest (a.put o.dst (.tuple #[(f key).getD z, .bool (f key).isSome])) w) : wpList P ops Q (o :: rest) a w := by
  refine wpList_plain hg fun K' hK' => ?_
  obtain ⟨kl, hkl⟩ := hkey
  have hrun := hown.look true K ht hz hkl
  unfold Oper.wp
  simp [execOp, hop, hm, hx, hrun, Result.andThen]
  exact hK' _ _ hK
/-- 'm[k]' -/
theorem wpList_look1 {mo x : Operand} {t e : TypeId} {z key : Value} (hg : o.guard = none) (hop : o.op = Op.lookup t mo x false) (K : Keyed P k) (ht : P.underlying t = some (.map k e)) (hz : (zeroValue e).run P w = .ok z w)
    (hm : a.eval mo = .map (some m)) (hx : a.eval x = key) (hown : MapV w P k m f) (hkey : ∃ kl, keyOf P k key = some kl)
    (hK : wpList P ops Q rest (a.put o.dst ((f key).getD z)) w) : wpList P ops Q (o :: rest) a w := by
  refine wpList_plain hg fun K' hK' => ?_
  obtain ⟨kl, hkl⟩ := hkey
  have hrun := hown.look false K ht hz hkl
  unfold Oper.wp
  simp [execOp, hop, hm, hx, hrun, Result.andThen]
  exact hK' _ _ hK
/-- 'm[k] = v' -/
theorem wpList_upd {mo x y : Operand} {t e : TypeId} {key val : Value} (hg : o.guard = none) (hop : o.op = Op.mapUpdate t mo x y) (K : Keyed P k) (ht : P.underlying t = some (.map k e))
    (hm : a.eval mo = .map (some m)) (hx : a.eval x = key) (hy : a.eval y = val) (hown : MapV w P k m f) (hkey : ∃ kl, keyOf P k key = some kl)
    (hK : ∀ w', MapV w' P k m (upd f key val) → Kept [m] w w' → wpList P ops Q rest (a.put o.dst undef) w') : wpList P ops Q (o :: rest) a w := by
  refine wpList_plain hg fun K' hK' => ?_
  obtain ⟨kl, hkl⟩ := hkey
  obtain ⟨w', hrun, r1, r2⟩ := hown.update K ht (val := val) hkl
  unfold Oper.wp
  simp [execOp, hop, hm, hx, hy, hrun, Result.andThen]
  exact hK' _ _ (hK w' r1 r2)
end
end Go.Proofs.Ytenhbhckhncamaa
