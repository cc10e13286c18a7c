/-
  Contracts of package lit: rows of literals (Const, Number, Turn, Over).
  Contracts of package lit: literals, their words, folds.
  A map of the call's own as a plain function from keys to elements: look-up and store.
  Netlists, plain: buses, registers, what the calls of package net do. No program in sight.
-/
import Derived.Test.YtnjoklcddodfeaaGreatDoorP00
import Derived.Test.YtnjoklcddodfeaaGreatDoorP02
import Derived.Test.YtnjoklcddodfeaaGreatDoorP01
import Derived.Maps.Keyed
import Derived.Maps.Own
import Derived.Maps.OwnOps
import Derived.Maps.OwnSet
import Derived.Outline
import Derived.Deep.QuietTactic
import Derived.BigQuiet
namespace Go.Proofs.YtnjoklcddodfeaaGreatDoor
set_option linter.unusedVariables false

structure Bus where
  name : ByteArray
  lits : List Nat
structure Rg where
  q : Nat
  d : Nat
  en : Nat
  init : Bool
structure Nt where
  g : Gr
  name : ByteArray
  inb : List Bus
  regs : List Rg
  outb : List Bus
def newN (name : ByteArray) (fold hash : Bool) : Nt := ⟨⟨fold, hash, [(0, 0)]⟩, name, [], [], []⟩
def findB (l : List Bus) (s : ByteArray) : Option Nat := l.findIdx? fun b => decide (b.name = s)
def inputsG (g : Gr) : Nat → Gr
  | 0 => g
  | k + 1 => (inputG (inputsG g k)).1
def rowFrom (n k : Nat) : List Nat := (List.range k).map fun i => 2 * (n + i)
theorem rowFrom_length (n k : Nat) : (rowFrom n k).length = k := by simp [rowFrom]
theorem rowFrom_succ (n k : Nat) : rowFrom n (k + 1) = rowFrom n k ++ [2 * (n + k)] := by simp [rowFrom, List.range_succ]
theorem inputsG_nodes (g : Gr) (k : Nat) : (inputsG g k).nodes = g.nodes ++ (rowFrom g.nodes.length k).map fun x => (x, x) := by
  induction k with
  | zero => simp [inputsG, rowFrom]
  | succ k ih =>
    rw [rowFrom_succ, List.map_append, ← List.append_assoc, ← ih]
    show (inputsG g k).nodes ++ [(2 * (inputsG g k).nodes.length, 2 * (inputsG g k).nodes.length)] = _
    rw [ih]
    simp [rowFrom_length]
theorem inputsG_length (g : Gr) (k : Nat) : (inputsG g k).nodes.length = g.nodes.length + k := by
  rw [inputsG_nodes]; simp [rowFrom_length]
theorem inputsG_wf {g : Gr} (hw : WF g.nodes) (k : Nat) : WF (inputsG g k).nodes := by
  induction k with
  | zero => exact hw
  | succ k ih => exact (inputG_spec ih).1
theorem inputsG_ins {g : Gr} (hw : WF g.nodes) (k : Nat) : ins (inputsG g k).nodes = ins g.nodes ++ (List.range k).map (g.nodes.length + ·) := by
  induction k with
  | zero => simp [inputsG]
  | succ k ih =>
    rw [show inputsG g (k + 1) = (inputG (inputsG g k)).1 from rfl, (inputG_spec (inputsG_wf hw k)).2.2, ih, inputsG_length, List.range_succ, List.map_append, List.append_assoc]
    rfl
def gone (g : Gr) (l : List Nat) : Bool := l.any fun x => decide (g.nodes.length ≤ x / 2)
theorem gone_false {g : Gr} {l : List Nat} : gone g l = false ↔ ∀ x ∈ l, g.ok x := by
  unfold gone Gr.ok
  rw [List.any_eq_false]
  constructor <;> intro h x hx <;> have := h x hx <;> simp at * <;> omega
def addIn (N : Nt) (s : ByteArray) (wd : Int) : Nt × List Nat × Nat :=
  if (!mayB s) || decide (wd < 1) || decide (64 < wd) then (N, [], 1)
  else if (findB N.inb s).isSome then (N, [], 9)
  else ({ N with g := inputsG N.g wd.toNat, inb := N.inb ++ [⟨s, rowFrom N.g.nodes.length wd.toNat⟩] }, rowFrom N.g.nodes.length wd.toNat, 0)
def addReg (N : Nt) (init : Bool) : Nt × Nat := ({ N with g := (inputG N.g).1, regs := N.regs ++ [⟨2 * N.g.nodes.length, 0, 0, init⟩] }, 2 * N.g.nodes.length)
def findR (l : List Rg) (q : Nat) : Option Nat := l.findIdx? fun r => decide (r.q = q)
def putR (l : List Rg) (k d en : Nat) : List Rg := l.modify k fun r => { r with d := d, en := en }
def setReg (N : Nt) (q d en : Nat) : Nt × Nat :=
  match findR N.regs q with
  | none => (N, 1)
  | some k => if gone N.g [d, en] then (N, 1) else ({ N with regs := putR N.regs k d en }, 0)
def addOut (N : Nt) (s : ByteArray) (l : List Nat) : Nt × Nat :=
  if (!mayB s) || decide (l.length < 1) || decide (64 < l.length) || gone N.g l then (N, 1)
  else if (findB N.outb s).isSome then (N, 9)
  else ({ N with outb := N.outb ++ [⟨s, l⟩] }, 0)
/-- a step of the law: what, name, n, a, b, c, literals -/
structure NStp where
  what : Int
  name : ByteArray
  n : Int
  a : Nat
  b : Nat
  c : Nat
  lits : List Nat
def gateN (N : Nt) (two : Gr → Nat → Nat → Gr × Nat) (b c : Nat) : Nt × List Nat × Nat :=
  if gone N.g [b, c] then (N, [0], 1) else ({ N with g := (two N.g b c).1 }, [(two N.g b c).2], 0)
def doesN (N : Nt) (s : NStp) : Nt × List Nat × Nat :=
  if s.what = 0 then addIn N s.name s.n
  else if s.what = 1 then ((addReg N (decide (s.n % 2 ≠ 0))).1, [(addReg N (decide (s.n % 2 ≠ 0))).2], 0)
  else if s.what = 2 then ((setReg N s.a s.b s.c).1, [], (setReg N s.a s.b s.c).2)
  else if s.what = 3 then ((addOut N s.name (s.lits.take 70)).1, [], (addOut N s.name (s.lits.take 70)).2)
  else if s.what = 4 ∨ s.what = 5 ∨ s.what = 6 then gateN N andG s.b s.c
  else if s.what = 7 then gateN N xorG s.b s.c
  else if s.what = 8 then ({ N with g := (inputG N.g).1 }, [2 * N.g.nodes.length], 0)
  else (N, [], 0)
/-- what holds of every netlist that steps make -/
structure NtOk (k : Nat) (N : Nt) : Prop where
  wf : WF N.g.nodes
  len : N.g.nodes.length ≤ 1 + 64 * k
  ik : N.inb.length ≤ k
  rk : N.regs.length ≤ k
  ok : N.outb.length ≤ k
  il : ∀ b ∈ N.inb, 1 ≤ b.lits.length ∧ b.lits.length ≤ 64 ∧ mayB b.name = true ∧ ∀ x ∈ b.lits, N.g.ok x
  ol : ∀ b ∈ N.outb, 1 ≤ b.lits.length ∧ b.lits.length ≤ 64 ∧ mayB b.name = true ∧ ∀ x ∈ b.lits, N.g.ok x
  rl : ∀ r ∈ N.regs, N.g.ok r.q ∧ N.g.ok r.d ∧ N.g.ok r.en
theorem newN_ok (s : ByteArray) (a b : Bool) : NtOk 0 (newN s a b) := by
  refine ⟨⟨rfl, fun i x y h => ?_⟩, by simp [newN], by simp [newN], by simp [newN], by simp [newN], by simp [newN], by simp [newN], by simp [newN]⟩
  cases i with
  | zero => simp [newN] at h; simp [← h]
  | succ i => simp [newN] at h
theorem NtOk.mono {k : Nat} {N : Nt} (h : NtOk k N) : NtOk (k + 1) N :=
  ⟨h.wf, by have := h.len; omega, by have := h.ik; omega, by have := h.rk; omega, by have := h.ok; omega, h.il, h.ol, h.rl⟩
theorem NtOk.graph {k : Nat} {N : Nt} (h : NtOk k N) {g' : Gr} (hw : WF g'.nodes) (hl : N.g.nodes.length ≤ g'.nodes.length) (hl2 : g'.nodes.length ≤ N.g.nodes.length + 64) : NtOk (k + 1) { N with g := g' } := by
  have up : ∀ x, N.g.ok x → g'.ok x := fun x hx => by unfold Gr.ok at *; omega
  refine ⟨hw, by have := h.len; show g'.nodes.length ≤ _; omega, by have := h.ik; show N.inb.length ≤ _; omega, by have := h.rk; show N.regs.length ≤ _; omega, by have := h.ok; show N.outb.length ≤ _; omega, ?_, ?_, ?_⟩
  · exact fun b hb => ⟨(h.il b hb).1, (h.il b hb).2.1, (h.il b hb).2.2.1, fun x hx => up x ((h.il b hb).2.2.2 x hx)⟩
  · exact fun b hb => ⟨(h.ol b hb).1, (h.ol b hb).2.1, (h.ol b hb).2.2.1, fun x hx => up x ((h.ol b hb).2.2.2 x hx)⟩
  · exact fun r hr => ⟨up _ (h.rl r hr).1, up _ (h.rl r hr).2.1, up _ (h.rl r hr).2.2⟩
theorem addIn_ok {k : Nat} {N : Nt} (h : NtOk k N) (s : ByteArray) (wd : Int) : NtOk (k + 1) (addIn N s wd).1 := by
  unfold addIn
  split
  · exact h.mono
  · rename_i hc
    simp only [Bool.or_eq_true, decide_eq_true_eq, not_or, Bool.not_eq_true', Bool.not_eq_false] at hc
    split
    · exact h.mono
    · have hg := h.graph (inputsG_wf h.wf wd.toNat) (by rw [inputsG_length]; omega) (by rw [inputsG_length]; omega)
      refine ⟨hg.wf, hg.len, by have := h.ik; simp; omega, hg.rk, hg.ok, ?_, hg.ol, hg.rl⟩
      intro b hb
      rcases List.mem_append.1 hb with hb | hb
      · exact hg.il b hb
      · rw [List.mem_singleton] at hb
        subst hb
        refine ⟨by simp only [rowFrom_length]; omega, by simp only [rowFrom_length]; omega, hc.1.1, fun x hx => ?_⟩
        simp only [rowFrom, List.mem_map, List.mem_range] at hx
        obtain ⟨i, hi, rfl⟩ := hx
        show 2 * (N.g.nodes.length + i) / 2 < (inputsG N.g wd.toNat).nodes.length
        rw [inputsG_length]; omega
theorem addReg_ok {k : Nat} {N : Nt} (h : NtOk k N) (b : Bool) : NtOk (k + 1) (addReg N b).1 := by
  have hl : (inputG N.g).1.nodes.length = N.g.nodes.length + 1 := by simp [inputG]
  have hg := h.graph (g' := (inputG N.g).1) (inputG_spec h.wf).1 (by omega) (by omega)
  refine ⟨hg.wf, hg.len, hg.ik, by have := h.rk; show (N.regs ++ [_]).length ≤ _; simp; omega, hg.ok, hg.il, hg.ol, ?_⟩
  intro r hr
  rcases List.mem_append.1 hr with hr | hr
  · exact hg.rl r hr
  · rw [List.mem_singleton] at hr
    subst hr
    have := h.wf.pos
    exact ⟨show 2 * N.g.nodes.length / 2 < (inputG N.g).1.nodes.length by omega, show 0 / 2 < (inputG N.g).1.nodes.length by omega, show 0 / 2 < (inputG N.g).1.nodes.length by omega⟩
theorem putR_mem {l : List Rg} {k d en : Nat} {r : Rg} (h : r ∈ putR l k d en) : r ∈ l ∨ ∃ r0 ∈ l, r = { r0 with d := d, en := en } := by
  unfold putR at h
  obtain ⟨i, hi, e⟩ := List.getElem_of_mem h
  rw [List.getElem_modify] at e
  have hi' : i < l.length := by simpa using hi
  split at e
  · exact .inr ⟨l[i], List.getElem_mem hi', e.symm⟩
  · exact .inl (e ▸ List.getElem_mem hi')
theorem setReg_ok {k : Nat} {N : Nt} (h : NtOk k N) (q d en : Nat) : NtOk (k + 1) (setReg N q d en).1 := by
  unfold setReg
  split
  · exact h.mono
  · split
    · exact h.mono
    · rename_i j hj hgone
      have hok := gone_false.1 (by simpa using hgone)
      have hm := h.mono
      refine ⟨hm.wf, hm.len, hm.ik, by have := h.rk; show (putR _ _ _ _).length ≤ _; simp [putR]; omega, hm.ok, hm.il, hm.ol, ?_⟩
      intro r hr
      rcases putR_mem hr with hr | ⟨r0, hr0, rfl⟩
      · exact hm.rl r hr
      · exact ⟨(hm.rl r0 hr0).1, hok d (by simp), hok en (by simp)⟩
theorem addOut_ok {k : Nat} {N : Nt} (h : NtOk k N) (s : ByteArray) (l : List Nat) : NtOk (k + 1) (addOut N s l).1 := by
  unfold addOut
  split
  · exact h.mono
  · rename_i hc
    simp only [Bool.or_eq_true, decide_eq_true_eq, not_or, Bool.not_eq_true', Bool.not_eq_false] at hc
    split
    · exact h.mono
    · have hm := h.mono
      refine ⟨hm.wf, hm.len, hm.ik, hm.rk, by have := h.ok; simp; omega, hm.il, ?_, hm.rl⟩
      intro b hb
      rcases List.mem_append.1 hb with hb | hb
      · exact hm.ol b hb
      · rw [List.mem_singleton] at hb
        subst hb
        exact ⟨by show 1 ≤ l.length; omega, by show l.length ≤ 64; omega, hc.1.1.1, gone_false.1 (by simpa using hc.2)⟩
theorem gateN_ok {k : Nat} {N : Nt} (h : NtOk k N) (two : Gr → Nat → Nat → Gr × Nat) (h2 : ∀ g a b, WF g.nodes → g.ok a → g.ok b → WF (two g a b).1.nodes ∧ Ext 3 g (two g a b).1 ∧ (two g a b).1.ok (two g a b).2) (b c : Nat) : NtOk (k + 1) (gateN N two b c).1 := by
  unfold gateN
  split
  · exact h.mono
  · rename_i hg
    have hok := gone_false.1 (by simpa using hg)
    obtain ⟨h3, h4, _⟩ := h2 N.g b c h.wf (hok b (by simp)) (hok c (by simp))
    exact h.graph h3 h4.le.1 (by have := h4.le.2; omega)
theorem doesN_ok {k : Nat} {N : Nt} (h : NtOk k N) (s : NStp) : NtOk (k + 1) (doesN N s).1 := by
  unfold doesN
  split
  · exact addIn_ok h _ _
  · split
    · exact addReg_ok h _
    · split
      · exact setReg_ok h _ _ _
      · split
        · exact addOut_ok h _ _
        · split
          · exact gateN_ok h _ two_and _ _
          · split
            · exact gateN_ok h _ two_xor _ _
            · split
              · exact h.graph (inputG_spec h.wf).1 (by simp [inputG]) (by simp [inputG])
              · exact h.mono
end Go.Proofs.YtnjoklcddodfeaaGreatDoor

namespace Go.Proofs.YtnjoklcddodfeaaGreatDoor
open Go.ChangeShapes Go.WideShapes Go.ChangeAt Go.RowKit
open Go.Maps (Keyed)
set_option linter.unusedVariables false

theorem modify_set {α : Type} (l : List α) (j : Nat) (g : α → α) (x : α) (h : l[j]? = some x) : l.modify j g = l.set j (g x) := by
  induction l generalizing j with
  | nil => simp at h
  | cons y l ih =>
    cases j with
    | zero => simp at h; subst h; simp
    | succ j => simp at h ⊢; exact ih j h
theorem set_same {α : Type} (l : List α) (j : Nat) (x : α) (h : l[j]? = some x) : l.set j x = l := by
  induction l generalizing j with
  | nil => simp at h
  | cons y l ih =>
    cases j with
    | zero => simp at h; subst h; rfl
    | succ j => simp at h ⊢; exact ih j h

noncomputable def upd (f : Value → Option Value) (k v : Value) : Value → Option Value := fun x => @ite _ (x = k) (Classical.propDecidable _) (some v) (f x)
theorem upd_same (f : Value → Option Value) (k v : Value) : upd f k v k = some v := by simp [upd]
theorem upd_other (f : Value → Option Value) {k v x : Value} (h : x ≠ k) : upd f k v x = f x := by simp [upd, h]

/-- Block m is a map with keys of type k; at a key it holds what f says. -/
def MapV (w : World) (P : Program) (k : TypeId) (m : Nat) (f : Value → Option Value) : Prop :=
  ∃ es clock, w.heap[m]? = some (.map es clock) ∧ (∀ e ∈ es.toList, ∃ l, keyOf P k e.key = some l) ∧ es.toList.Pairwise (fun a b => a.key ≠ b.key) ∧
    ∀ key v, f key = some v ↔ ∃ e ∈ es.toList, e.key = key ∧ e.val = v

variable {P : Program} {k : TypeId} {w w' : World} {m : Nat} {f : Value → Option Value}

theorem MapV.lt (h : MapV w P k m f) : m < w.heap.size := by
  obtain ⟨es, clock, hb, _⟩ := h
  exact (Array.getElem?_eq_some_iff.1 hb).1
theorem MapV.kept {F : List Nat} (h : MapV w P k m f) (hk : Kept F w w') (hn : m ∉ F) : MapV w' P k m f := by
  obtain ⟨es, clock, hb, h2⟩ := h
  exact ⟨es, clock, hk.heap hb hn, h2⟩
theorem MapV.new (w : World) (P : Program) (k : TypeId) : MapV (w.alloc (.map #[] 0)) P k w.heap.size (fun _ => none) :=
  ⟨#[], 0, heap_alloc_new w _, by simp, by simp, by simp⟩
theorem MapV.nocell (h : MapV w P k m f) {cs : Array Value} {e : TypeId} {fr : Nat × Nat} {b : Nat} (hb : w.heap[b]? = some (.cells cs e fr)) : b ≠ m := by
  obtain ⟨es, clock, hm, _⟩ := h
  rintro rfl
  rw [hm] at hb
  cases hb

theorem MapV.look (h : MapV w P k m f) (c : Bool) (K : Keyed P k) {t e : TypeId} (ht : P.underlying t = some (.map k e)) {z : Value} (hz : (zeroValue e).run P w = .ok z w) {key : Value} {kl : Lit} (hkey : keyOf P k key = some kl) :
    (Instr.lookup t (.map (some m)) key c).run P w = .ok (if c then .tuple #[(f key).getD z, .bool (f key).isSome] else (f key).getD z) w := by
  obtain ⟨es, clock, hb, hks, hun, hf⟩ := h
  rcases K.find w hkey es.toList hks with ⟨h1, h2⟩ | ⟨j, e0, h1, h2, h3⟩
  · have hn : f key = none := by
      cases hfk : f key with
      | none => rfl
      | some v =>
        obtain ⟨e, he, hk, _⟩ := (hf key v).1 hfk
        exact absurd hk (h2 e he)
    rw [hn]
    cases c <;> simp [Instr.lookup, run_underlying ht, MapKept.run_getObj_map hb, K.check w _ hkey, h1, hz, Result.andThen]
  · have hn : f key = some e0.val := (hf key _).2 ⟨e0, List.mem_of_getElem? h2, h3, rfl⟩
    rw [hn]
    cases c <;> simp [Instr.lookup, run_underlying ht, MapKept.run_getObj_map hb, K.check w _ hkey, h1, Result.andThen]

theorem setBlock_kept (w : World) (b : Nat) (o : Obj) : Kept [b] w (ChangeMaps.setBlock w b o) :=
  ⟨rfl, rfl, rfl, by simp [ChangeMaps.setBlock], fun i hi hn => by
    simp only [ChangeMaps.setBlock, List.mem_singleton] at hn ⊢
    rw [Array.getElem?_setIfInBounds]
    rw [if_neg (fun h => hn h.symm)]⟩
theorem setBlock_same (w : World) (b : Nat) (o : Obj) (h : b < w.heap.size) : (ChangeMaps.setBlock w b o).heap[b]? = some o := by
  simp [ChangeMaps.setBlock, h]

theorem MapV.update (h : MapV w P k m f) (K : Keyed P k) {t e : TypeId} (ht : P.underlying t = some (.map k e)) {key val : Value} {kl : Lit} (hkey : keyOf P k key = some kl) :
    ∃ w', (Instr.mapUpdate t (.map (some m)) key val).run P w = .ok () w' ∧ MapV w' P k m (upd f key val) ∧ Kept [m] w w' := by
  have hlt := h.lt
  obtain ⟨es, clock, hb, hks, hun, hf⟩ := h
  rcases K.find w hkey es.toList hks with ⟨h1, h2⟩ | ⟨j, e0, h1, h2, h3⟩
  · refine ⟨ChangeMaps.setBlock w m (.map (es.push ⟨key, val, clock⟩) (clock + 1)), ?_, ⟨es.push ⟨key, val, clock⟩, clock + 1, setBlock_same _ _ _ hlt, ?_, ?_, ?_⟩, setBlock_kept _ _ _⟩
    · simp [Instr.mapUpdate, run_underlying ht, MapKept.run_getObj_map hb, K.check w false hkey, h1, MapKept.run_setObj_map _ hb, Result.andThen, ChangeMaps.setBlock]
    · intro x hx
      simp only [Array.toList_push, List.mem_append, List.mem_singleton] at hx
      rcases hx with hx | rfl
      · exact hks x hx
      · exact ⟨kl, hkey⟩
    · rw [Array.toList_push, List.pairwise_append]
      exact ⟨hun, by simp, fun a ha b hb => by simp at hb; subst hb; exact h2 a ha⟩
    · intro x v
      simp only [Array.toList_push, List.mem_append, List.mem_singleton]
      by_cases hx : x = key
      · subst hx
        rw [upd_same]
        constructor
        · intro hv
          injection hv with hv
          exact ⟨_, .inr rfl, rfl, hv⟩
        · rintro ⟨e, he | rfl, hek, hev⟩
          · exact absurd hek (h2 e he)
          · rw [← hev]
      · rw [upd_other _ hx, hf]
        constructor
        · rintro ⟨e, he, h⟩
          exact ⟨e, .inl he, h⟩
        · rintro ⟨e, he | rfl, hek, hev⟩
          · exact ⟨e, he, hek, hev⟩
          · exact absurd hek.symm hx
  · have hj : es[j]? = some e0 := by simpa using h2
    have hjl : j < es.toList.length := (List.getElem?_eq_some_iff.1 h2).1
    have hlist : (es.modify j (fun e' => { e' with key := key, val := val })).toList = es.toList.set j { e0 with key := key, val := val } := by
      rw [Array.toList_modify]
      exact modify_set _ _ _ _ h2
    have hsame : (es.toList.set j { e0 with key := key, val := val }).map (·.key) = es.toList.map (·.key) := by
      rw [List.map_set]
      exact set_same _ _ _ (by rw [List.getElem?_map, h2]; simp [h3])
    have who : ∀ x ∈ es.toList.set j { e0 with key := key, val := val }, x = { e0 with key := key, val := val } ∨ (x ∈ es.toList ∧ x.key ≠ key) := by
      intro x hx
      obtain ⟨i, hi, ex⟩ := List.getElem_of_mem hx
      rw [List.getElem_set] at ex
      split at ex
      · exact .inl ex.symm
      · rename_i hne
        have hi' : i < es.toList.length := by simpa using hi
        refine .inr ⟨ex ▸ List.getElem_mem hi', ?_⟩
        have hp := List.pairwise_iff_getElem.1 hun
        have e1 : es.toList[j] = e0 := (List.getElem?_eq_some_iff.1 h2).2
        rcases Nat.lt_or_ge i j with hlt' | hge
        · have := hp i j hi' hjl hlt'
          rw [ex, e1, h3] at this
          exact this
        · have := hp j i hjl hi' (by omega)
          rw [ex, e1, h3] at this
          exact fun h => this h.symm
    refine ⟨ChangeMaps.setBlock w m (.map (es.modify j (fun e' => { e' with key := key, val := val })) clock), ?_, ⟨_, clock, setBlock_same _ _ _ hlt, ?_, ?_, ?_⟩, setBlock_kept _ _ _⟩
    · simp [Instr.mapUpdate, run_underlying ht, MapKept.run_getObj_map hb, K.check w false hkey, h1, hj, h3, K.stays w hkey, MapKept.run_setObj_map _ hb, Result.andThen, ChangeMaps.setBlock]
    · intro x hx
      rw [hlist] at hx
      rcases who x hx with rfl | ⟨hx', _⟩
      · exact ⟨kl, hkey⟩
      · exact hks x hx'
    · rw [hlist]
      have : (es.toList.map (·.key)).Pairwise (· ≠ ·) := List.pairwise_map.2 hun
      rw [← hsame] at this
      exact List.pairwise_map.1 this
    · intro x v
      rw [hlist]
      by_cases hx : x = key
      · subst hx
        rw [upd_same]
        constructor
        · intro hv
          injection hv with hv
          exact ⟨{ e0 with key := x, val := val }, List.mem_iff_getElem.2 ⟨j, by simpa using hjl, by simp⟩, rfl, hv⟩
        · rintro ⟨e, he, hek, hev⟩
          rcases who e he with rfl | ⟨_, hne⟩
          · rw [← hev]
          · exact absurd hek hne
      · rw [upd_other _ hx, hf]
        constructor
        · rintro ⟨e, he, hek, hev⟩
          obtain ⟨i, hi, ei⟩ := List.getElem_of_mem he
          have hij : j ≠ i := by
            rintro rfl
            have e1 : es.toList[j] = e0 := (List.getElem?_eq_some_iff.1 h2).2
            rw [e1] at ei
            rw [← ei, h3] at hek
            exact hx hek.symm
          exact ⟨e, List.mem_iff_getElem.2 ⟨i, by simpa using hi, by rw [List.getElem_set_ne hij]; exact ei⟩, hek, hev⟩
        · rintro ⟨e, he, hek, hev⟩
          rcases who e he with rfl | ⟨he', _⟩
          · exact absurd hek.symm hx
          · exact ⟨e, he', hek, hev⟩

section
variable {ops : Array Oper} {rest : List Oper} {o : Oper} {a : Act} {Q : Exit → Act → World → Prop}

/-- 'v, ok := m[k]' -/
theorem wpList_look {mo x : Operand} {t e : TypeId} {z key : Value} (hg : o.guard = none) (hop : o.op = Op.lookup t mo x true) (K : Keyed P k) (ht : P.underlying t = some (.map k e)) (hz : (zeroValue e).run P w = .ok z w)
    (hm : a.eval mo = .map (some m)) (hx : a.eval x = key) (hown : MapV w P k m f) (hkey : ∃ kl, keyOf P k key = some kl)
    (hK : wpList P ops Q rest (a.put o.dst (.tuple #[(f key).getD z, .bool (f key).isSome])) w) : wpList P ops Q (o :: rest) a w := by
  refine wpList_plain hg fun K' hK' => ?_
  obtain ⟨kl, hkl⟩ := hkey
  have hrun := hown.look true K ht hz hkl
  unfold Oper.wp
  simp [execOp, hop, hm, hx, hrun, Result.andThen]
  exact hK' _ _ hK
/-- 'm[k]' -/
theorem wpList_look1 {mo x : Operand} {t e : TypeId} {z key : Value} (hg : o.guard = none) (hop : o.op = Op.lookup t mo x false) (K : Keyed P k) (ht : P.underlying t = some (.map k e)) (hz : (zeroValue e).run P w = .ok z w)
    (hm : a.eval mo = .map (some m)) (hx : a.eval x = key) (hown : MapV w P k m f) (hkey : ∃ kl, keyOf P k key = some kl)
    (hK : wpList P ops Q rest (a.put o.dst ((f key).getD z)) w) : wpList P ops Q (o :: rest) a w := by
  refine wpList_plain hg fun K' hK' => ?_
  obtain ⟨kl, hkl⟩ := hkey
  have hrun := hown.look false K ht hz hkl
  unfold Oper.wp
  simp [execOp, hop, hm, hx, hrun, Result.andThen]
  exact hK' _ _ hK
/-- 'm[k] = v' -/
theorem wpList_upd {mo x y : Operand} {t e : TypeId} {key val : Value} (hg : o.guard = none) (hop : o.op = Op.mapUpdate t mo x y) (K : Keyed P k) (ht : P.underlying t = some (.map k e))
    (hm : a.eval mo = .map (some m)) (hx : a.eval x = key) (hy : a.eval y = val) (hown : MapV w P k m f) (hkey : ∃ kl, keyOf P k key = some kl)
    (hK : ∀ w', MapV w' P k m (upd f key val) → Kept [m] w w' → wpList P ops Q rest (a.put o.dst undef) w') : wpList P ops Q (o :: rest) a w := by
  refine wpList_plain hg fun K' hK' => ?_
  obtain ⟨kl, hkl⟩ := hkey
  obtain ⟨w', hrun, r1, r2⟩ := hown.update K ht (val := val) hkl
  unfold Oper.wp
  simp [execOp, hop, hm, hx, hy, hrun, Result.andThen]
  exact hK' _ _ (hK w' r1 r2)
end
end Go.Proofs.YtnjoklcddodfeaaGreatDoor

namespace Go.Proofs.YtnjoklcddodfeaaGreatDoor
open Go.ChangeShapes Go.WideShapes Go.ChangeAt Go.RowKit
set_option linter.unusedVariables false

theorem lit_not (l : Nat) (w : World) (h : l < 4294967296) : Calls Tryz.prog 25 #[.int .u32 l] w fun e w' => e = .returned (.int .u32 (ntL l : Nat)) ∧ w = w' := by
  have hx := Lib.hid (bits_xor1 l h)
  go_enter Tryz.func25, Tryz.ntmps25
  go_wp2
  go_ret
  exact ⟨by rw [← hx.out]; rfl, rfl⟩
theorem lit_node (l : Nat) (w : World) (h : l < 4294967296) : Calls Tryz.prog 32 #[.int .u32 l] w fun e w' => e = .returned (.int .i64 (l / 2 : Nat)) ∧ w = w' := by
  go_enter Tryz.func32, Tryz.ntmps32
  go_wp2
  go_ret
  exact ⟨rfl, rfl⟩
theorem lit_if (l : Nat) (t : Bool) (w : World) (h : l < 4294967296) : Calls Tryz.prog 80 #[.int .u32 l, .bool t] w fun e w' => e = .returned (.int .u32 (ifL l t : Nat)) ∧ w = w' := by
  cases t
  · go_enter Tryz.func80, Tryz.ntmps80
    go_wp2
    go_ret
    exact ⟨rfl, rfl⟩
  · go_enter Tryz.func80, Tryz.ntmps80
    go_wp2_with (go_at_call 25; refine (lit_not l _ h).mono ?_; rintro e w' ⟨rfl, rfl⟩)
    go_ret
    exact ⟨rfl, rfl⟩
theorem lit_if_i (x : Int) (t : Bool) (w : World) (h0 : 0 ≤ x) (h : x < 4294967296) : Calls Tryz.prog 80 #[.int .u32 x, .bool t] w fun e w' => e = .returned (.int .u32 (ifL x.toNat t : Nat)) ∧ w = w' := by
  obtain ⟨l, rfl⟩ := Int.eq_ofNat_of_zero_le h0
  rw [Int.toNat_natCast]
  exact lit_if l t w (by omega)
theorem lit_pair (a b : Nat) (w : World) : Calls Tryz.prog 79 #[.int .u32 a, .int .u32 b] w fun e w' => e = .returned (.tuple #[.int .u32 (max a b : Nat), .int .u32 (min a b : Nat)]) ∧ w = w' := by
  rcases Nat.lt_trichotomy a b with h | h | h
  · go_enter Tryz.func79, Tryz.ntmps79
    go_wp2
    go_ret2
    rw [Nat.max_eq_right (by omega), Nat.min_eq_left (by omega)]
    exact ⟨rfl, rfl⟩
  · subst h
    go_enter Tryz.func79, Tryz.ntmps79
    go_wp2
    go_ret2
    rw [Nat.max_self, Nat.min_self]
    exact ⟨rfl, rfl⟩
  · go_enter Tryz.func79, Tryz.ntmps79
    go_wp2
    go_ret2
    rw [Nat.max_eq_left (by omega), Nat.min_eq_right (by omega)]
    exact ⟨rfl, rfl⟩
theorem lit_fold (a b : Nat) (w : World) (ha : a < 4294967296) (hb : b < 4294967296) :
    Calls Tryz.prog 128 #[.int .u32 a, .int .u32 b] w fun e w' => e = .returned (.tuple #[.int .u32 (foldV a b : Nat), .bool (foldB a b)]) ∧ w = w' := by
  have hm : Hid (min a b < 4294967296) := Lib.hid (by omega)
  have hfin := Lib.hid (show foldV a b = (if min a b = 0 ∨ max a b = ntL (min a b) then 0 else if min a b = 1 ∨ max a b = min a b then max a b else 0) ∧ foldB a b = decide (min a b = 0 ∨ max a b = ntL (min a b) ∨ min a b = 1 ∨ max a b = min a b) by
    have : a = b ↔ max a b = min a b := by omega
    unfold foldV foldB
    simp only [this]
    exact ⟨trivial, trivial⟩)
  clear ha hb
  have hp := Lib.hid (fun w => lit_pair a b w)
  generalize max a b = x at *
  generalize min a b = y at *
  by_cases h0 : y = 0
  · subst h0
    go_enter Tryz.func128, Tryz.ntmps128
    go_wp2_with (go_at_call 79; refine (hp.out _).mono ?_; rintro e w' ⟨rfl, rfl⟩)
    go_ret2
    rw [hfin.out.1, hfin.out.2]
    simp
  · have k0 : ((y : Int) == 0) = false := by simp; omega
    by_cases h1 : x = ntL y
    · have k1 : ((x : Int) == (ntL y : Int)) = true := by simp [h1]
      have k1' := Lib.hid h1; clear h1
      go_enter Tryz.func128, Tryz.ntmps128
      go_wp2_with (first
        | (go_at_call 79; refine (hp.out _).mono ?_; rintro e w' ⟨rfl, rfl⟩)
        | (go_at_call 25; refine (lit_not _ _ hm.out).mono ?_; rintro e w' ⟨rfl, rfl⟩))
      go_ret2
      rw [hfin.out.1, hfin.out.2]
      simp [k1'.out]
    · have k1 : ((x : Int) == (ntL y : Int)) = false := by simp; omega
      have k1' := Lib.hid h1; clear h1
      by_cases h2 : y = 1
      · subst h2
        go_enter Tryz.func128, Tryz.ntmps128
        go_wp2_with (first
          | (go_at_call 79; refine (hp.out _).mono ?_; rintro e w' ⟨rfl, rfl⟩)
          | (go_at_call 25; refine (lit_not _ _ hm.out).mono ?_; rintro e w' ⟨rfl, rfl⟩))
        go_ret2
        rw [hfin.out.1, hfin.out.2]
        simp [k1'.out]
      · have k2 : ((y : Int) == 1) = false := by simp; omega
        by_cases h3 : x = y
        · subst h3
          go_enter Tryz.func128, Tryz.ntmps128
          go_wp2_with (first
            | (go_at_call 79; refine (hp.out _).mono ?_; rintro e w' ⟨rfl, rfl⟩)
            | (go_at_call 25; refine (lit_not _ _ hm.out).mono ?_; rintro e w' ⟨rfl, rfl⟩))
          go_ret2
          rw [hfin.out.1, hfin.out.2]
          simp [h0, k1'.out]
        · have k3 : ((x : Int) == (y : Int)) = false := by simp; omega
          go_enter Tryz.func128, Tryz.ntmps128
          go_wp2_with (first
            | (go_at_call 79; refine (hp.out _).mono ?_; rintro e w' ⟨rfl, rfl⟩)
            | (go_at_call 25; refine (lit_not _ _ hm.out).mono ?_; rintro e w' ⟨rfl, rfl⟩))
          go_ret2
          rw [hfin.out.1, hfin.out.2]
          simp [h0, k1'.out, h2, h3]
def ofV (n : Int) (t : Bool) : Nat := if 0 ≤ n ∧ n ≤ 16777216 then ifL (2 * n.toNat) t else 0
def ofE (n : Int) : Int := if 0 ≤ n ∧ n ≤ 16777216 then 0 else 1
theorem lit_of (n : Int) (t : Bool) (w : World) :
    Calls Tryz.prog 35 #[.int .i64 n, .bool t] w fun e w' => e = .returned (.tuple #[.int .u32 (ofV n t : Nat), .int .i64 (ofE n)]) ∧ w = w' := by
  by_cases h0 : n < 0
  · go_enter Tryz.func35, Tryz.ntmps35
    go_wp2
    go_ret2
    rw [show ofV n t = 0 by simp [ofV]; omega, show ofE n = 1 by simp [ofE]; omega]
    exact ⟨rfl, rfl⟩
  · by_cases h1 : 16777216 < n
    · go_enter Tryz.func35, Tryz.ntmps35
      go_wp2
      go_ret2
      rw [show ofV n t = 0 by simp [ofV]; omega, show ofE n = 1 by simp [ofE]; omega]
      exact ⟨rfl, rfl⟩
    · obtain ⟨k, rfl⟩ : ∃ k : Nat, n = k := ⟨n.toNat, by omega⟩
      have hv := Lib.hid (show ofV k t = ifL (2 * k) t by simp [ofV]; omega)
      have he := Lib.hid (show ofE k = 0 by simp [ofE]; omega)
      go_enter Tryz.func35, Tryz.ntmps35
      go_wp2_with (go_at_call 80; refine (lit_if_i _ t _ (by omega) (by omega)).mono ?_; rintro e w' ⟨rfl, rfl⟩)
      go_ret2
      rw [hv.out, he.out, show ((k : Int) * 2).toNat = 2 * k by omega]
      exact ⟨rfl, rfl⟩
end Go.Proofs.YtnjoklcddodfeaaGreatDoor

namespace Go.Proofs.YtnjoklcddodfeaaGreatDoor
open Go.ChangeShapes Go.WideShapes Go.ChangeAt Go.RowKit
set_option linter.unusedVariables false

theorem lit_info : (Tryz.prog.info? 39).map (fun i => (i.zero, i.size, i.bytes)) = some (some (.int .u32 0), 1, 4) := by kernel_rfl

def constL (n k : Nat) : List Nat := (List.range k).map fun i => n / 2 ^ i % 2
theorem constL_succ (n k : Nat) : constL n (k + 1) = constL n k ++ [n / 2 ^ k % 2] := by simp [constL, List.range_succ]
theorem constL_length (n k : Nat) : (constL n k).length = k := by simp [constL]
theorem shr_spell (n k : Nat) : n / 2 ^ k / 2 = n / 2 ^ (k + 1) := by rw [Nat.div_div_eq_div_mul, Nat.pow_succ]
theorem bits_and1w (n : Nat) (h : n < 18446744073709551616) : bits .and .u64 (n : Int) 1 = ((n % 2 : Nat) : Int) := by
  rw [show (1 : Int) = ((1 : Nat) : Int) from rfl, u64_and_nat _ _ h (by omega), nat_mask1]


/-- the number whose bits a row of constants is -/
def numV : List Nat → Nat
  | [] => 0
  | b :: r => b + 2 * numV r
def numR (row : List Nat) : Nat := if decide (row.length ≤ 64) && row.all (· ≤ 1) then numV row else 0
def numB (row : List Nat) : Bool := decide (row.length ≤ 64) && row.all (· ≤ 1)
theorem numR_eq (row : List Nat) : numR row = if numB row then numV row else 0 := rfl
theorem numV_snoc (l : List Nat) (b : Nat) : numV (l ++ [b]) = numV l + b * 2 ^ l.length := by
  induction l with
  | nil => simp [numV]
  | cons x l ih =>
    have h2 : b * (2 ^ l.length * 2) = 2 * (b * 2 ^ l.length) := by rw [← Nat.mul_assoc, Nat.mul_comm]
    simp only [List.cons_append, numV, ih, List.length_cons, Nat.pow_succ]
    omega
theorem numV_lt (l : List Nat) (h : ∀ b ∈ l, b ≤ 1) : numV l < 2 ^ l.length := by
  induction l with
  | nil => simp [numV]
  | cons x l ih =>
    have h1 := ih fun b hb => h b (List.mem_cons_of_mem _ hb)
    have h2 := h x (List.mem_cons_self)
    simp only [numV, List.length_cons, Nat.pow_succ]
    omega
theorem numV_constL (n k : Nat) : numV (constL n k) = n % 2 ^ k := by
  induction k with
  | zero => simp [constL, numV, Nat.mod_one]
  | succ k ih => rw [constL_succ, numV_snoc, ih, constL_length, Nat.mod_pow_succ, Nat.mul_comm]
theorem take_snoc {α : Type} (l : List α) (k : Nat) (h : k < l.length) : l.take (k + 1) = l.take k ++ [l[k]] := by
  rw [List.take_succ_eq_append_getElem h]
theorem num_spell (v b k : Nat) (hv : v < 2 ^ k) (hb : b ≤ 1) (hk : k < 64) : bits .or .u64 (v : Int) (IntKind.u64.wrap ((b : Int) * 2 ^ k)) = ((v + b * 2 ^ k : Nat) : Int) := by
  have h1 : 2 ^ k ≤ 2 ^ 63 := Nat.pow_le_pow_right (by omega) (by omega)
  have h2 : b * 2 ^ k < 18446744073709551616 := by
    have : b * 2 ^ k ≤ 1 * 2 ^ k := Nat.mul_le_mul_right _ hb
    omega
  have h3 : IntKind.u64.wrap ((b : Int) * 2 ^ k) = ((b * 2 ^ k : Nat) : Int) := by
    rw [IntKind.wrap_u64]
    push_cast
    have : ((b * 2 ^ k : Nat) : Int) < 18446744073709551616 := by omega
    push_cast at this
    have h0 : (0 : Int) ≤ (b : Int) * 2 ^ k := by
      have : (0 : Int) ≤ ((b * 2 ^ k : Nat) : Int) := by omega
      push_cast at this
      exact this
    omega
  rw [h3, u64_or_nat _ _ (by omega) h2, Nat.or_comm, nat_join k _ _ (by simp) hv, Nat.add_comm]




def overL (bys : List Nat) (l : Nat) : Nat := ifL (bys.getD (l / 2) 0) (decide (l % 2 = 1))

theorem cell_alloc {w : World} {a : Addr} {v : Value} (h : w.cell? a = some v) (o : Obj) : (w.alloc o).cell? a = some v := ((Kept.refl [] w).alloc o).cell h (by simp)

end Go.Proofs.YtnjoklcddodfeaaGreatDoor
