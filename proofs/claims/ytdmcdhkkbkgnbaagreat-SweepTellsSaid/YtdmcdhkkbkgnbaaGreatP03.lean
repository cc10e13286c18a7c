/-
  Contracts of package lit: rows of literals (Const, Number, Turn, Over).
  Contracts of package lit: literals, their words, folds.
  A map of the call's own as a plain function from keys to elements: look-up and store.
-/
import Derived.Test.YtdmcdhkkbkgnbaaGreatP00
import Derived.Maps.Keyed
import Derived.Maps.Own
import Derived.Maps.OwnOps
import Derived.Maps.OwnSet
import Derived.Outline
import Derived.Deep.QuietTactic
import Derived.BigQuiet
namespace Go.Proofs.YtdmcdhkkbkgnbaaGreat
open Go.ChangeShapes Go.WideShapes Go.ChangeAt Go.RowKit
open Go.Maps (Keyed)
set_option linter.unusedVariables false

theorem modify_set {α : Type} (l : List α) (j : Nat) (g : α → α) (x : α) (h : l[j]? = some x) : l.modify j g = l.set j (g x) := by
  induction l generalizing j with
  | nil => simp at h
  | cons y l ih =>
    cases j with
    | zero => simp at h; subst h; simp
    | succ j => simp at h ⊢; exact ih j h
theorem set_same {α : Type} (l : List α) (j : Nat) (x : α) (h : l[j]? = some x) : l.set j x = l := by
  induction l generalizing j with
  | nil => simp at h
  | cons y l ih =>
    cases j with
    | zero => simp at h; subst h; rfl
    | succ j => simp at h ⊢; exact ih j h

noncomputable def upd (f : Value → Option Value) (k v : Value) : Value → Option Value := fun x => @ite _ (x = k) (Classical.propDecidable _) (some v) (f x)
theorem upd_same (f : Value → Option Value) (k v : Value) : upd f k v k = some v := by simp [upd]
theorem upd_other (f : Value → Option Value) {k v x : Value} (h : x ≠ k) : upd f k v x = f x := by simp [upd, h]

/-- Block m is a map with keys of type k; at a key it holds what f says. -/
def MapV (w : World) (P : Program) (k : TypeId) (m : Nat) (f : Value → Option Value) : Prop :=
  ∃ es clock, w.heap[m]? = some (.map es clock) ∧ (∀ e ∈ es.toList, ∃ l, keyOf P k e.key = some l) ∧ es.toList.Pairwise (fun a b => a.key ≠ b.key) ∧
    ∀ key v, f key = some v ↔ ∃ e ∈ es.toList, e.key = key ∧ e.val = v

variable {P : Program} {k : TypeId} {w w' : World} {m : Nat} {f : Value → Option Value}

theorem MapV.lt (h : MapV w P k m f) : m < w.heap.size := by
  obtain ⟨es, clock, hb, _⟩ := h
  exact (Array.getElem?_eq_some_iff.1 hb).1
theorem MapV.kept {F : List Nat} (h : MapV w P k m f) (hk : Kept F w w') (hn : m ∉ F) : MapV w' P k m f := by
  obtain ⟨es, clock, hb, h2⟩ := h
  exact ⟨es, clock, hk.heap hb hn, h2⟩
theorem MapV.new (w : World) (P : Program) (k : TypeId) : MapV (w.alloc (.map #[] 0)) P k w.heap.size (fun _ => none) :=
  ⟨#[], 0, heap_alloc_new w _, by simp, by simp, by simp⟩
theorem MapV.nocell (h : MapV w P k m f) {cs : Array Value} {e : TypeId} {fr : Nat × Nat} {b : Nat} (hb : w.heap[b]? = some (.cells cs e fr)) : b ≠ m := by
  obtain ⟨es, clock, hm, _⟩ := h
  rintro rfl
  rw [hm] at hb
  cases hb

theorem MapV.look (h : MapV w P k m f) (c : Bool) (K : Keyed P k) {t e : TypeId} (ht : P.underlying t = some (.map k e)) {z : Value} (hz : (zeroValue e).run P w = .ok z w) {key : Value} {kl : Lit} (hkey : keyOf P k key = some kl) :
    (Instr.lookup t (.map (some m)) key c).run P w = .ok (if c then .tuple #[(f key).getD z, .bool (f key).isSome] else (f key).getD z) w := by
  obtain ⟨es, clock, hb, hks, hun, hf⟩ := h
  rcases K.find w hkey es.toList hks with ⟨h1, h2⟩ | ⟨j, e0, h1, h2, h3⟩
  · have hn : f key = none := by
      cases hfk : f key with
      | none => rfl
      | some v =>
        obtain ⟨e, he, hk, _⟩ := (hf key v).1 hfk
        exact absurd hk (h2 e he)
    rw [hn]
    cases c <;> simp [Instr.lookup, run_underlying ht, MapKept.run_getObj_map hb, K.check w _ hkey, h1, hz, Result.andThen]
  · have hn : f key = some e0.val := (hf key _).2 ⟨e0, List.mem_of_getElem? h2, h3, rfl⟩
    rw [hn]
    cases c <;> simp [Instr.lookup, run_underlying ht, MapKept.run_getObj_map hb, K.check w _ hkey, h1, Result.andThen]

theorem setBlock_kept (w : World) (b : Nat) (o : Obj) : Kept [b] w (ChangeMaps.setBlock w b o) :=
  ⟨rfl, rfl, rfl, by simp [ChangeMaps.setBlock], fun i hi hn => by
    simp only [ChangeMaps.setBlock, List.mem_singleton] at hn ⊢
    rw [Array.getElem?_setIfInBounds]
    rw [if_neg (fun h => hn h.symm)]⟩
theorem setBlock_same (w : World) (b : Nat) (o : Obj) (h : b < w.heap.size) : (ChangeMaps.setBlock w b o).heap[b]? = some o := by
  simp [ChangeMaps.setBlock, h]

theorem MapV.update (h : MapV w P k m f) (K : Keyed P k) {t e : TypeId} (ht : P.underlying t = some (.map k e)) {key val : Value} {kl : Lit} (hkey : keyOf P k key = some kl) :
    ∃ w', (Instr.mapUpdate t (.map (some m)) key val).run P w = .ok () w' ∧ MapV w' P k m (upd f key val) ∧ Kept [m] w w' := by
  have hlt := h.lt
  obtain ⟨es, clock, hb, hks, hun, hf⟩ := h
  rcases K.find w hkey es.toList hks with ⟨h1, h2⟩ | ⟨j, e0, h1, h2, h3⟩
  · refine ⟨ChangeMaps.setBlock w m (.map (es.push ⟨key, val, clock⟩) (clock + 1)), ?_, ⟨es.push ⟨key, val, clock⟩, clock + 1, setBlock_same _ _ _ hlt, ?_, ?_, ?_⟩, setBlock_kept _ _ _⟩
    · simp [Instr.mapUpdate, run_underlying ht, MapKept.run_getObj_map hb, K.check w false hkey, h1, MapKept.run_setObj_map _ hb, Result.andThen, ChangeMaps.setBlock]
    · intro x hx
      simp only [Array.toList_push, List.mem_append, List.mem_singleton] at hx
      rcases hx with hx | rfl
      · exact hks x hx
      · exact ⟨kl, hkey⟩
    · rw [Array.toList_push, List.pairwise_append]
      exact ⟨hun, by simp, fun a ha b hb => by simp at hb; subst hb; exact h2 a ha⟩
    · intro x v
      simp only [Array.toList_push, List.mem_append, List.mem_singleton]
      by_cases hx : x = key
      · subst hx
        rw [upd_same]
        constructor
        · intro hv
          injection hv with hv
          exact ⟨_, .inr rfl, rfl, hv⟩
        · rintro ⟨e, he | rfl, hek, hev⟩
          · exact absurd hek (h2 e he)
          · rw [← hev]
      · rw [upd_other _ hx, hf]
        constructor
        · rintro ⟨e, he, h⟩
          exact ⟨e, .inl he, h⟩
        · rintro ⟨e, he | rfl, hek, hev⟩
          · exact ⟨e, he, hek, hev⟩
          · exact absurd hek.symm hx
  · have hj : es[j]? = some e0 := by simpa using h2
    have hjl : j < es.toList.length := (List.getElem?_eq_some_iff.1 h2).1
    have hlist : (es.modify j (fun e' => { e' with key := key, val := val })).toList = es.toList.set j { e0 with key := key, val := val } := by
      rw [Array.toList_modify]
      exact modify_set _ _ _ _ h2
    have hsame : (es.toList.set j { e0 with key := key, val := val }).map (·.key) = es.toList.map (·.key) := by
      rw [List.map_set]
      exact set_same _ _ _ (by rw [List.getElem?_map, h2]; simp [h3])
    have who : ∀ x ∈ es.toList.set j { e0 with key := key, val := val }, x = { e0 with key := key, val := val } ∨ (x ∈ es.toList ∧ x.key ≠ key) := by
      intro x hx
      obtain ⟨i, hi, ex⟩ := List.getElem_of_mem hx
      rw [List.getElem_set] at ex
      split at ex
      · exact .inl ex.symm
      · rename_i hne
        have hi' : i < es.toList.length := by simpa using hi
        refine .inr ⟨ex ▸ List.getElem_mem hi', ?_⟩
        have hp := List.pairwise_iff_getElem.1 hun
        have e1 : es.toList[j] = e0 := (List.getElem?_eq_some_iff.1 h2).2
        rcases Nat.lt_or_ge i j with hlt' | hge
        · have := hp i j hi' hjl hlt'
          rw [ex, e1, h3] at this
          exact this
        · have := hp j i hjl hi' (by omega)
          rw [ex, e1, h3] at this
          exact fun h => this h.symm
    refine ⟨ChangeMaps.setBlock w m (.map (es.modify j (fun e' => { e' with key := key, val := val })) clock), ?_, ⟨_, clock, setBlock_same _ _ _ hlt, ?_, ?_, ?_⟩, setBlock_kept _ _ _⟩
    · simp [Instr.mapUpdate, run_underlying ht, MapKept.run_getObj_map hb, K.check w false hkey, h1, hj, h3, K.stays w hkey, MapKept.run_setObj_map _ hb, Result.andThen, ChangeMaps.setBlock]
    · intro x hx
      rw [hlist] at hx
      rcases who x hx with rfl | ⟨hx', _⟩
      · exact ⟨kl, hkey⟩
      · exact hks x hx'
    · rw [hlist]
      have : (es.toList.map (·.key)).Pairwise (· ≠ ·) := List.pairwise_map.2 hun
      rw [← hsame] at this
      exact List.pairwise_map.1 this
    · intro x v
      rw [hlist]
      by_cases hx : x = key
      · subst hx
        rw [upd_same]
        constructor
        · intro hv
          injection hv with hv
          exact ⟨{ e0 with key := x, val := val }, List.mem_iff_getElem.2 ⟨j, by simpa using hjl, by simp⟩, rfl, hv⟩
        · rintro ⟨e, he, hek, hev⟩
          rcases who e he with rfl | ⟨_, hne⟩
          · rw [← hev]
          · exact absurd hek hne
      · rw [upd_other _ hx, hf]
        constructor
        · rintro ⟨e, he, hek, hev⟩
          obtain ⟨i, hi, ei⟩ := List.getElem_of_mem he
          have hij : j ≠ i := by
            rintro rfl
            have e1 : es.toList[j] = e0 := (List.getElem?_eq_some_iff.1 h2).2
            rw [e1] at ei
            rw [← ei, h3] at hek
            exact hx hek.symm
          exact ⟨e, List.mem_iff_getElem.2 ⟨i, by simpa using hi, by rw [List.getElem_set_ne hij]; exact ei⟩, hek, hev⟩
        · rintro ⟨e, he, hek, hev⟩
          rcases who e he with rfl | ⟨he', _⟩
          · exact absurd hek.symm hx
          · exact ⟨e, he', hek, hev⟩

section
variable {ops : Array Oper} {rest : List Oper} {o : Oper} {a : Act} {Q : Exit → Act → World → Prop}

/-- 'v, ok := m[k]' -/
theorem wpList_look {mo x : Operand} {t e : TypeId} {z key : Value} (hg : o.guard = none) (hop : o.op = Op.lookup t mo x true) (K : Keyed P k) (ht : P.underlying t = some (.map k e)) (hz : (zeroValue e).run P w = .ok z w)
    (hm : a.eval mo = .map (some m)) (hx : a.eval x = key) (hown : MapV w P k m f) (hkey : ∃ kl, keyOf P k key = some kl)
    (hK : wpList P ops Q rest (a.put o.dst (.tuple #[(f key).getD z, .bool (f key).isSome])) w) : wpList P ops Q (o :: rest) a w := by
  refine wpList_plain hg fun K' hK' => ?_
  obtain ⟨kl, hkl⟩ := hkey
  have hrun := hown.look true K ht hz hkl
  unfold Oper.wp
  simp [execOp, hop, hm, hx, hrun, Result.andThen]
  exact hK' _ _ hK
/-- 'm[k]' -/
theorem wpList_look1 {mo x : Operand} {t e : TypeId} {z key : Value} (hg : o.guard = none) (hop : o.op = Op.lookup t mo x false) (K : Keyed P k) (ht : P.underlying t = some (.map k e)) (hz : (zeroValue e).run P w = .ok z w)
    (hm : a.eval mo = .map (some m)) (hx : a.eval x = key) (hown : MapV w P k m f) (hkey : ∃ kl, keyOf P k key = some kl)
    (hK : wpList P ops Q rest (a.put o.dst ((f key).getD z)) w) : wpList P ops Q (o :: rest) a w := by
  refine wpList_plain hg fun K' hK' => ?_
  obtain ⟨kl, hkl⟩ := hkey
  have hrun := hown.look false K ht hz hkl
  unfold Oper.wp
  simp [execOp, hop, hm, hx, hrun, Result.andThen]
  exact hK' _ _ hK
/-- 'm[k] = v' -/
theorem wpList_upd {mo x y : Operand} {t e : TypeId} {key val : Value} (hg : o.guard = none) (hop : o.op = Op.mapUpdate t mo x y) (K : Keyed P k) (ht : P.underlying t = some (.map k e))
    (hm : a.eval mo = .map (some m)) (hx : a.eval x = key) (hy : a.eval y = val) (hown : MapV w P k m f) (hkey : ∃ kl, keyOf P k key = some kl)
    (hK : ∀ w', MapV w' P k m (upd f key val) → Kept [m] w w' → wpList P ops Q rest (a.put o.dst undef) w') : wpList P ops Q (o :: rest) a w := by
  refine wpList_plain hg fun K' hK' => ?_
  obtain ⟨kl, hkl⟩ := hkey
  obtain ⟨w', hrun, r1, r2⟩ := hown.update K ht (val := val) hkl
  unfold Oper.wp
  simp [execOp, hop, hm, hx, hy, hrun, Result.andThen]
  exact hK' _ _ (hK w' r1 r2)
end
end Go.Proofs.YtdmcdhkkbkgnbaaGreat

namespace Go.Proofs.YtdmcdhkkbkgnbaaGreat
open Go.ChangeShapes Go.WideShapes Go.ChangeAt Go.RowKit
set_option linter.unusedVariables false

theorem lit_not (l : Nat) (w : World) (h : l < 4294967296) : Calls Tryz.prog 29 #[.int .u32 l] w fun e w' => e = .returned (.int .u32 (ntL l : Nat)) ∧ w = w' := by
  have hx := Lib.hid (bits_xor1 l h)
  go_enter Tryz.func29, Tryz.ntmps29
  go_wp2
  go_ret
  exact ⟨by rw [← hx.out]; rfl, rfl⟩
theorem lit_node (l : Nat) (w : World) (h : l < 4294967296) : Calls Tryz.prog 27 #[.int .u32 l] w fun e w' => e = .returned (.int .i64 (l / 2 : Nat)) ∧ w = w' := by
  go_enter Tryz.func27, Tryz.ntmps27
  go_wp2
  go_ret
  exact ⟨rfl, rfl⟩
theorem lit_turned (l : Nat) (w : World) (h : l < 4294967296) : Calls Tryz.prog 134 #[.int .u32 l] w fun e w' => e = .returned (.bool (decide (l % 2 = 1))) ∧ w = w' := by
  have hx := Lib.hid (bits_and1 l h)
  go_enter Tryz.func134, Tryz.ntmps134
  go_wp2
  go_ret
  refine ⟨?_, rfl⟩
  show Ending.returned (Value.bool (bits BinOp.and IntKind.u32 (l : Int) 1 == 1)) = _
  rw [hx.out]
  congr 2
  rw [Bool.eq_iff_iff]
  simp
  omega
theorem lit_if (l : Nat) (t : Bool) (w : World) (h : l < 4294967296) : Calls Tryz.prog 23 #[.int .u32 l, .bool t] w fun e w' => e = .returned (.int .u32 (ifL l t : Nat)) ∧ w = w' := by
  cases t
  · go_enter Tryz.func23, Tryz.ntmps23
    go_wp2
    go_ret
    exact ⟨rfl, rfl⟩
  · go_enter Tryz.func23, Tryz.ntmps23
    go_wp2_with (go_at_call 29; refine (lit_not l _ h).mono ?_; rintro e w' ⟨rfl, rfl⟩)
    go_ret
    exact ⟨rfl, rfl⟩
theorem lit_if_i (x : Int) (t : Bool) (w : World) (h0 : 0 ≤ x) (h : x < 4294967296) : Calls Tryz.prog 23 #[.int .u32 x, .bool t] w fun e w' => e = .returned (.int .u32 (ifL x.toNat t : Nat)) ∧ w = w' := by
  obtain ⟨l, rfl⟩ := Int.eq_ofNat_of_zero_le h0
  rw [Int.toNat_natCast]
  exact lit_if l t w (by omega)
theorem lit_pair (a b : Nat) (w : World) : Calls Tryz.prog 146 #[.int .u32 a, .int .u32 b] w fun e w' => e = .returned (.tuple #[.int .u32 (max a b : Nat), .int .u32 (min a b : Nat)]) ∧ w = w' := by
  rcases Nat.lt_trichotomy a b with h | h | h
  · go_enter Tryz.func146, Tryz.ntmps146
    go_wp2
    go_ret2
    rw [Nat.max_eq_right (by omega), Nat.min_eq_left (by omega)]
    exact ⟨rfl, rfl⟩
  · subst h
    go_enter Tryz.func146, Tryz.ntmps146
    go_wp2
    go_ret2
    rw [Nat.max_self, Nat.min_self]
    exact ⟨rfl, rfl⟩
  · go_enter Tryz.func146, Tryz.ntmps146
    go_wp2
    go_ret2
    rw [Nat.max_eq_left (by omega), Nat.min_eq_right (by omega)]
    exact ⟨rfl, rfl⟩
theorem lit_word (l : Nat) (a : Option Addr) (c n : Nat) (ws : List Nat) (w : World) (hn : ws.length = n) (hl : l < 4294967296) (hs : SlN w .u64 a ws) (hw : Words ws) :
    Calls Tryz.prog 86 #[.int .u32 l, .slice a n c] w fun e w' => e = .returned (.int .u64 (wd ws l : Nat)) ∧ w = w' := by
  subst hn
  have hx := Lib.hid (fun v hv => word_spell v l hv hl)
  by_cases h0 : l / 2 = 0
  · go_enter Tryz.func86, Tryz.ntmps86
    go_wp2
    go_ret
    refine ⟨?_, rfl⟩
    have := hx.out 0 (by omega)
    rw [show wd ws l = (if l % 2 = 1 then noW 0 else 0) by simp [wd, nodeW, h0], ← this]
    rfl
  · by_cases h1 : l / 2 < ws.length
    · obtain ⟨ad, rfl, hc⟩ := hs _ h1
      have hv := hw _ (List.getElem_mem h1)
      go_enter Tryz.func86, Tryz.ntmps86
      go_wp2
      go_ret
      refine ⟨?_, rfl⟩
      have := hx.out _ hv
      rw [show wd ws l = (if l % 2 = 1 then noW ws[l / 2] else ws[l / 2]) by simp [wd, nodeW, h0, h1], ← this]
      rfl
    · go_enter Tryz.func86, Tryz.ntmps86
      go_wp2
      go_ret
      refine ⟨?_, rfl⟩
      have := hx.out 0 (by omega)
      rw [show wd ws l = (if l % 2 = 1 then noW 0 else 0) by simp [wd, nodeW, h0, h1], ← this]
      rfl
theorem lit_fold (a b : Nat) (w : World) (ha : a < 4294967296) (hb : b < 4294967296) :
    Calls Tryz.prog 145 #[.int .u32 a, .int .u32 b] w fun e w' => e = .returned (.tuple #[.int .u32 (foldV a b : Nat), .bool (foldB a b)]) ∧ w = w' := by
  have hm : Hid (min a b < 4294967296) := Lib.hid (by omega)
  have hfin := Lib.hid (show foldV a b = (if min a b = 0 ∨ max a b = ntL (min a b) then 0 else if min a b = 1 ∨ max a b = min a b then max a b else 0) ∧ foldB a b = decide (min a b = 0 ∨ max a b = ntL (min a b) ∨ min a b = 1 ∨ max a b = min a b) by
    have : a = b ↔ max a b = min a b := by omega
    unfold foldV foldB
    simp only [this]
    exact ⟨trivial, trivial⟩)
  clear ha hb
  have hp := Lib.hid (fun w => lit_pair a b w)
  generalize max a b = x at *
  generalize min a b = y at *
  by_cases h0 : y = 0
  · subst h0
    go_enter Tryz.func145, Tryz.ntmps145
    go_wp2_with (go_at_call 146; refine (hp.out _).mono ?_; rintro e w' ⟨rfl, rfl⟩)
    go_ret2
    rw [hfin.out.1, hfin.out.2]
    simp
  · have k0 : ((y : Int) == 0) = false := by simp; omega
    by_cases h1 : x = ntL y
    · have k1 : ((x : Int) == (ntL y : Int)) = true := by simp [h1]
      have k1' := Lib.hid h1; clear h1
      go_enter Tryz.func145, Tryz.ntmps145
      go_wp2_with (first
        | (go_at_call 146; refine (hp.out _).mono ?_; rintro e w' ⟨rfl, rfl⟩)
        | (go_at_call 29; refine (lit_not _ _ hm.out).mono ?_; rintro e w' ⟨rfl, rfl⟩))
      go_ret2
      rw [hfin.out.1, hfin.out.2]
      simp [k1'.out]
    · have k1 : ((x : Int) == (ntL y : Int)) = false := by simp; omega
      have k1' := Lib.hid h1; clear h1
      by_cases h2 : y = 1
      · subst h2
        go_enter Tryz.func145, Tryz.ntmps145
        go_wp2_with (first
          | (go_at_call 146; refine (hp.out _).mono ?_; rintro e w' ⟨rfl, rfl⟩)
          | (go_at_call 29; refine (lit_not _ _ hm.out).mono ?_; rintro e w' ⟨rfl, rfl⟩))
        go_ret2
        rw [hfin.out.1, hfin.out.2]
        simp [k1'.out]
      · have k2 : ((y : Int) == 1) = false := by simp; omega
        by_cases h3 : x = y
        · subst h3
          go_enter Tryz.func145, Tryz.ntmps145
          go_wp2_with (first
            | (go_at_call 146; refine (hp.out _).mono ?_; rintro e w' ⟨rfl, rfl⟩)
            | (go_at_call 29; refine (lit_not _ _ hm.out).mono ?_; rintro e w' ⟨rfl, rfl⟩))
          go_ret2
          rw [hfin.out.1, hfin.out.2]
          simp [h0, k1'.out]
        · have k3 : ((x : Int) == (y : Int)) = false := by simp; omega
          go_enter Tryz.func145, Tryz.ntmps145
          go_wp2_with (first
            | (go_at_call 146; refine (hp.out _).mono ?_; rintro e w' ⟨rfl, rfl⟩)
            | (go_at_call 29; refine (lit_not _ _ hm.out).mono ?_; rintro e w' ⟨rfl, rfl⟩))
          go_ret2
          rw [hfin.out.1, hfin.out.2]
          simp [h0, k1'.out, h2, h3]
def ofV (n : Int) (t : Bool) : Nat := if 0 ≤ n ∧ n ≤ 16777216 then ifL (2 * n.toNat) t else 0
def ofE (n : Int) : Int := if 0 ≤ n ∧ n ≤ 16777216 then 0 else 1
theorem lit_of (n : Int) (t : Bool) (w : World) :
    Calls Tryz.prog 69 #[.int .i64 n, .bool t] w fun e w' => e = .returned (.tuple #[.int .u32 (ofV n t : Nat), .int .i64 (ofE n)]) ∧ w = w' := by
  by_cases h0 : n < 0
  · go_enter Tryz.func69, Tryz.ntmps69
    go_wp2
    go_ret2
    rw [show ofV n t = 0 by simp [ofV]; omega, show ofE n = 1 by simp [ofE]; omega]
    exact ⟨rfl, rfl⟩
  · by_cases h1 : 16777216 < n
    · go_enter Tryz.func69, Tryz.ntmps69
      go_wp2
      go_ret2
      rw [show ofV n t = 0 by simp [ofV]; omega, show ofE n = 1 by simp [ofE]; omega]
      exact ⟨rfl, rfl⟩
    · obtain ⟨k, rfl⟩ : ∃ k : Nat, n = k := ⟨n.toNat, by omega⟩
      have hv := Lib.hid (show ofV k t = ifL (2 * k) t by simp [ofV]; omega)
      have he := Lib.hid (show ofE k = 0 by simp [ofE]; omega)
      go_enter Tryz.func69, Tryz.ntmps69
      go_wp2_with (go_at_call 23; refine (lit_if_i _ t _ (by omega) (by omega)).mono ?_; rintro e w' ⟨rfl, rfl⟩)
      go_ret2
      rw [hv.out, he.out, show ((k : Int) * 2).toNat = 2 * k by omega]
      exact ⟨rfl, rfl⟩
end Go.Proofs.YtdmcdhkkbkgnbaaGreat

namespace Go.Proofs.YtdmcdhkkbkgnbaaGreat
open Go.ChangeShapes Go.WideShapes Go.ChangeAt Go.RowKit
set_option linter.unusedVariables false

theorem lit_info : (Tryz.prog.info? 61).map (fun i => (i.zero, i.size, i.bytes)) = some (some (.int .u32 0), 1, 4) := by kernel_rfl

def constL (n k : Nat) : List Nat := (List.range k).map fun i => n / 2 ^ i % 2
theorem constL_succ (n k : Nat) : constL n (k + 1) = constL n k ++ [n / 2 ^ k % 2] := by simp [constL, List.range_succ]
theorem constL_length (n k : Nat) : (constL n k).length = k := by simp [constL]
theorem shr_spell (n k : Nat) : n / 2 ^ k / 2 = n / 2 ^ (k + 1) := by rw [Nat.div_div_eq_div_mul, Nat.pow_succ]
theorem bits_and1w (n : Nat) (h : n < 18446744073709551616) : bits .and .u64 (n : Int) 1 = ((n % 2 : Nat) : Int) := by
  rw [show (1 : Int) = ((1 : Nat) : Int) from rfl, u64_and_nat _ _ h (by omega), nat_mask1]


/-- the number whose bits a row of constants is -/
def numV : List Nat → Nat
  | [] => 0
  | b :: r => b + 2 * numV r
def numR (row : List Nat) : Nat := if decide (row.length ≤ 64) && row.all (· ≤ 1) then numV row else 0
def numB (row : List Nat) : Bool := decide (row.length ≤ 64) && row.all (· ≤ 1)
theorem numR_eq (row : List Nat) : numR row = if numB row then numV row else 0 := rfl
theorem numV_snoc (l : List Nat) (b : Nat) : numV (l ++ [b]) = numV l + b * 2 ^ l.length := by
  induction l with
  | nil => simp [numV]
  | cons x l ih =>
    have h2 : b * (2 ^ l.length * 2) = 2 * (b * 2 ^ l.length) := by rw [← Nat.mul_assoc, Nat.mul_comm]
    simp only [List.cons_append, numV, ih, List.length_cons, Nat.pow_succ]
    omega
theorem numV_lt (l : List Nat) (h : ∀ b ∈ l, b ≤ 1) : numV l < 2 ^ l.length := by
  induction l with
  | nil => simp [numV]
  | cons x l ih =>
    have h1 := ih fun b hb => h b (List.mem_cons_of_mem _ hb)
    have h2 := h x (List.mem_cons_self)
    simp only [numV, List.length_cons, Nat.pow_succ]
    omega
theorem numV_constL (n k : Nat) : numV (constL n k) = n % 2 ^ k := by
  induction k with
  | zero => simp [constL, numV, Nat.mod_one]
  | succ k ih => rw [constL_succ, numV_snoc, ih, constL_length, Nat.mod_pow_succ, Nat.mul_comm]
theorem take_snoc {α : Type} (l : List α) (k : Nat) (h : k < l.length) : l.take (k + 1) = l.take k ++ [l[k]] := by
  rw [List.take_succ_eq_append_getElem h]
theorem num_spell (v b k : Nat) (hv : v < 2 ^ k) (hb : b ≤ 1) (hk : k < 64) : bits .or .u64 (v : Int) (IntKind.u64.wrap ((b : Int) * 2 ^ k)) = ((v + b * 2 ^ k : Nat) : Int) := by
  have h1 : 2 ^ k ≤ 2 ^ 63 := Nat.pow_le_pow_right (by omega) (by omega)
  have h2 : b * 2 ^ k < 18446744073709551616 := by
    have : b * 2 ^ k ≤ 1 * 2 ^ k := Nat.mul_le_mul_right _ hb
    omega
  have h3 : IntKind.u64.wrap ((b : Int) * 2 ^ k) = ((b * 2 ^ k : Nat) : Int) := by
    rw [IntKind.wrap_u64]
    push_cast
    have : ((b * 2 ^ k : Nat) : Int) < 18446744073709551616 := by omega
    push_cast at this
    have h0 : (0 : Int) ≤ (b : Int) * 2 ^ k := by
      have : (0 : Int) ≤ ((b * 2 ^ k : Nat) : Int) := by omega
      push_cast at this
      exact this
    omega
  rw [h3, u64_or_nat _ _ (by omega) h2, Nat.or_comm, nat_join k _ _ (by simp) hv, Nat.add_comm]


set_option maxHeartbeats 400000 in
/-- A row, each literal as the function value tells it (Not itself). -/
theorem lit_each_not (a : Option Addr) (c n : Nat) (row : List Nat) (w : World) (hl : row.length = n) (hm : n ≤ 1000000) (hs : SlN w .u32 a row) (hr : Lits row) :
    Calls Tryz.prog 151 #[.slice a n c, .func (.func 29) #[] #[]] w fun e w' => ∃ a' c', e = .returned (.slice a' n c') ∧ Own w' 61 a' n c' (nats .u32 (row.map ntL)) ∧ Stepped w w' [] (ft a') := by
  have HL := Lib.hid hl; clear hl
  have HR := Lib.hid hr; clear hr
  go_enter Tryz.func151, Tryz.ntmps151
  go_wp2
  go_loopw [5, 10] (fun v i wr => ∃ (k : Nat) (a' : Option Addr) (c' : Nat), k ≤ n ∧ i = .int .i64 k ∧ v = .slice a' k c' ∧ Own wr 61 a' k c' (nats .u32 ((row.take k).map ntL)) ∧ Stepped w wr [] (ft a')) (fun _ i _ => n - (intOf i).toNat)
  case atStart => exact ⟨0, none, 0, Nat.zero_le _, rfl, rfl, Own.nil _ _, .refl _ _⟩
  case round =>
    obtain ⟨k, a', c', hk, rfl, rfl, hown, hst⟩ := hrel
    by_cases hlt : k < n
    · have hkl : k < row.length := by have := HL.out; omega
      obtain ⟨ad, rfl, hc⟩ := (hs.kept0 hst.kept) k hkl
      have hb := HR.out _ (List.getElem_mem hkl)
      have HT := Lib.hid (take_snoc row k hkl)
      generalize row[k] = b at *
      go_wp2_with (first
        | (go_at_call 29; refine (lit_not _ _ hb).mono ?_; rintro e w' ⟨rfl, rfl⟩)
        | (at_builtin; refine wpList_push rfl rfl Tryz.underlying58 lit_info rfl rfl rfl hown rfl (by unfold maxLen; omega) (by omega) ?_; intro a1 c1 w1 hown1 hst1))
      go_roundw
      case rel => exact ⟨k + 1, a1, c1, by omega, by go_num, rfl, by rw [HT.out, List.map_append, List.map_cons, List.map_nil, ← nats_append]; exact hown1, hst.trans hst1⟩
      case measure => simp [intOf]; omega
    · obtain rfl : k = n := by omega
      have HT := Lib.hid (show row.take k = row from List.take_of_length_le (by have := HL.out; omega))
      go_wp2
      go_ret
      exact ⟨a', c', rfl, by rw [← HT.out]; exact hown, hst⟩


def overL (bys : List Nat) (l : Nat) : Nat := ifL (bys.getD (l / 2) 0) (decide (l % 2 = 1))

theorem lit_over1 (l : Nat) (p : Addr) (ab : Option Addr) (nb cb : Nat) (bys : List Nat) (w : World) (hl : l < 4294967296) (hb : bys.length = nb) (hm : nb ≤ 1000000) (hp : w.cell? p = some (.slice ab nb cb)) (hs : SlN w .u32 ab bys) (hr : Lits bys) (hi : l / 2 < nb) :
    Calls Tryz.prog 152 #[.int .u32 l, .pointer (some p)] w fun e w' => e = .returned (.int .u32 (overL bys l : Nat)) ∧ ∃ m, w' = w.drewN m := by
  obtain ⟨ad, rfl, hc⟩ := hs (l / 2) (by omega)
  have hb1 := hr _ (List.getElem_mem (show l / 2 < bys.length by omega))
  have HO := Lib.hid (show overL bys l = ifL bys[l / 2] (decide (l % 2 = 1)) by simp [overL, List.getD_eq_getElem?_getD, List.getElem?_eq_getElem (show l / 2 < bys.length by omega)])
  generalize bys[l / 2] = b at *
  clear hb
  have hi' : ((l / 2 : Nat) : Int) < (nb : Int) := by omega
  go_enter Tryz.func152, Tryz.ntmps152
  go_wp2_with fail
  go_quiet (first
    | (go_at_call 27; exact q_same (lit_node _ _ hl))
    | (go_at_call 134; exact q_same (lit_turned _ _ hl))
    | (go_at_call 23; exact q_same (lit_if _ _ _ hb1)))
  go_wp2
  go_ret
  exact ⟨by rw [HO.out]; rfl, _, rfl⟩

set_option maxHeartbeats 400000 in
theorem lit_each_over (a : Option Addr) (c n : Nat) (row : List Nat) (p : Addr) (ab : Option Addr) (nb cb : Nat) (bys : List Nat) (w : World) (hl : row.length = n) (hm : n ≤ 1000000) (hs : SlN w .u32 a row) (hr : Lits row)
    (hb : bys.length = nb) (hmb : nb ≤ 1000000) (hp : w.cell? p = some (.slice ab nb cb)) (hsb : SlN w .u32 ab bys) (hrb : Lits bys) (hi : ∀ l ∈ row, l / 2 < nb) :
    Calls Tryz.prog 151 #[.slice a n c, .func (.func 152) #[] #[.pointer (some p)]] w fun e w' => ∃ a' c', e = .returned (.slice a' n c') ∧ Own w' 61 a' n c' (nats .u32 (row.map (overL bys))) ∧ Stepped w w' [] (ft a') := by
  have HL := Lib.hid hl; clear hl
  have HR := Lib.hid hr; clear hr
  have HI := Lib.hid hi; clear hi
  have HC := Lib.hid (fun (l : Nat) (w : World) (h1 : l < 4294967296) (hp : w.cell? p = some (.slice ab nb cb)) (hsb : SlN w .u32 ab bys) (h2 : l / 2 < nb) => lit_over1 l p ab nb cb bys w h1 hb hmb hp hsb hrb h2)
  have HP := Lib.hid hp; clear hp hb hrb
  go_enter Tryz.func151, Tryz.ntmps151
  go_wp2
  go_loopw [5, 10] (fun v i wr => ∃ (k : Nat) (a' : Option Addr) (c' : Nat), k ≤ n ∧ i = .int .i64 k ∧ v = .slice a' k c' ∧ Own wr 61 a' k c' (nats .u32 ((row.take k).map (overL bys))) ∧ Stepped w wr [] (ft a')) (fun _ i _ => n - (intOf i).toNat)
  case atStart => exact ⟨0, none, 0, Nat.zero_le _, rfl, rfl, Own.nil _ _, .refl _ _⟩
  case round =>
    obtain ⟨k, a', c', hk, rfl, rfl, hown, hst⟩ := hrel
    by_cases hlt : k < n
    · have hkl : k < row.length := by have := HL.out; omega
      obtain ⟨ad, rfl, hc⟩ := (hs.kept0 hst.kept) k hkl
      have hb := HR.out _ (List.getElem_mem hkl)
      have hi := HI.out _ (List.getElem_mem hkl)
      have HT := Lib.hid (take_snoc row k hkl)
      have HQ := Lib.hid (HC.out row[k] wr hb (hst.kept.cell HP.out (by simp)) (hsb.kept0 hst.kept) hi)
      generalize row[k] = b at *
      go_wp2_with (first
        | (go_at_call 152; refine HQ.out.mono ?_; rintro e w' ⟨rfl, m, rfl⟩)
        | (at_builtin; refine wpList_push rfl rfl Tryz.underlying58 lit_info rfl rfl rfl (hown.drewN m) rfl (by unfold maxLen; omega) (by omega) ?_; intro a1 c1 w1 hown1 hst1))
      go_roundw
      case rel => exact ⟨k + 1, a1, c1, by omega, by go_num, rfl, by rw [HT.out, List.map_append, List.map_cons, List.map_nil, ← nats_append]; exact hown1, (hst.drewN m).trans hst1⟩
      case measure => simp [intOf]; omega
    · obtain rfl : k = n := by omega
      have HT := Lib.hid (show row.take k = row from List.take_of_length_le (by have := HL.out; omega))
      go_wp2
      go_ret
      exact ⟨a', c', rfl, by rw [← HT.out]; exact hown, hst⟩

theorem cell_alloc {w : World} {a : Addr} {v : Value} (h : w.cell? a = some v) (o : Obj) : (w.alloc o).cell? a = some v := ((Kept.refl [] w).alloc o).cell h (by simp)

set_option maxHeartbeats 400000 in
theorem lit_over (a : Option Addr) (c n : Nat) (row : List Nat) (ab : Option Addr) (nb cb : Nat) (bys : List Nat) (w : World) (hl : row.length = n) (hm : n ≤ 1000000) (hs : SlN w .u32 a row) (hr : Lits row)
    (hb : bys.length = nb) (hmb : nb ≤ 1000000) (hsb : SlN w .u32 ab bys) (hrb : Lits bys) (hi : ∀ l ∈ row, l / 2 < nb) (hb0 : bys.head? = some 0) :
    Calls Tryz.prog 135 #[.slice a n c, .slice ab nb cb] w fun e w' => ∃ a' c', e = .returned (.tuple #[.slice a' n c', .int .i64 0]) ∧ Own w' 61 a' n c' (nats .u32 (row.map (overL bys))) ∧ Stepped w w' [] (ft a') := by
  have hnb : 0 < nb := by cases bys with | nil => simp at hb0 | cons x l => simp at hb; omega
  have h0 : bys[0]'(by omega) = 0 := by cases bys with | nil => simp at hb0 | cons x l => simpa using hb0
  obtain ⟨ad0, hab, hc0⟩ := hsb 0 (by omega)
  subst hab
  rw [h0] at hc0
  have hc0' : ∀ o, (w.alloc o).cell? ad0 = some (.int .u32 0) := fun o => cell_alloc hc0 o
  have hne : ((nb : Int) == 0) = false := by simp; omega
  have HB0 := Lib.hid hb0; clear hb0 h0 hc0
  have HL := Lib.hid hl; clear hl
  have HBL := Lib.hid hb; clear hb
  have HI := Lib.hid hi; clear hi
  have HR := Lib.hid hr; clear hr
  go_enter Tryz.func135, Tryz.ntmps135
  go_wp2
  go_loopw [19] (fun i wr => ∃ (k m : Nat), k ≤ n ∧ i = .int .i64 k ∧ wr = (w.alloc (.cells #[.slice (some ad0) nb cb] 58)).drewN m) (fun i _ => n - (intOf i).toNat)
  case atStart => exact ⟨0, 0, Nat.zero_le _, rfl, rfl⟩
  case round =>
    obtain ⟨k, m, hk, rfl, rfl⟩ := hrel
    by_cases hlt : k < n
    · have hkl : k < row.length := by have := HL.out; omega
      obtain ⟨ad, rfl, hc⟩ := hs k hkl
      have hc1 := cell_alloc hc (.cells #[.slice (some ad0) nb cb] 58)
      have hr := HR.out _ (List.getElem_mem hkl)
      have hi := HI.out _ (List.getElem_mem hkl)
      generalize row[k] = b at *
      have hib : ((b / 2 : Nat) : Int) < (nb : Int) := by omega
      go_wp2
      go_quiet (first
        | (go_at_call 27; exact q_same (lit_node _ _ hr))
        | (go_at_call 27; exact q_same2 (lit_node _ _ hr)))
      go_wp2
      go_roundw
      case rel => exact ⟨k + 1, _, by omega, by go_num, rfl⟩
      case measure => simp [intOf]; omega
    · obtain rfl : k = n := by omega
      go_wp2_with (go_at_call 151; refine (lit_each_over a c k row ⟨w.heap.size, 0, none⟩ (some ad0) nb cb bys _ HL.out hm (SlN.drewN (hs.kept0 ((Kept.refl [] w).alloc _)) m) HR.out HBL.out hmb (by simp [World.cell?_alloc_new]) (SlN.drewN (hsb.kept0 ((Kept.refl [] w).alloc _)) m) hrb HI.out).mono ?_; rintro e w' ⟨a', c', rfl, hown, hst⟩)
      go_ret2
      exact ⟨a', c', rfl, hown, (((Stepped.refl w []).alloc _).drewN m).trans hst⟩
end Go.Proofs.YtdmcdhkkbkgnbaaGreat
