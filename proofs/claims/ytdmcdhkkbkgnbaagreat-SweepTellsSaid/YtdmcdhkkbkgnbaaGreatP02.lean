/-
  What graphs mean: each node's word under words of the inputs; And, Or, Xor, Mux, Raw mean what they say. Plain mathematics.
  Package net, plain: netlists whose inputs are driven once at most; what Check says of them.
  Netlists, plain: buses, registers, what the calls of package net do. No program in sight.
-/
import Derived.Test.YtdmcdhkkbkgnbaaGreatP00
import Derived.Test.YtdmcdhkkbkgnbaaGreatP01
namespace Go.Proofs.YtdmcdhkkbkgnbaaGreat
set_option linter.unusedVariables false

structure Bus where
  name : ByteArray
  lits : List Nat
structure Rg where
  q : Nat
  d : Nat
  en : Nat
  init : Bool
structure Nt where
  g : Gr
  name : ByteArray
  inb : List Bus
  regs : List Rg
  outb : List Bus
def newN (name : ByteArray) (fold hash : Bool) : Nt := ⟨⟨fold, hash, [(0, 0)]⟩, name, [], [], []⟩
def findB (l : List Bus) (s : ByteArray) : Option Nat := l.findIdx? fun b => decide (b.name = s)
def inputsG (g : Gr) : Nat → Gr
  | 0 => g
  | k + 1 => (inputG (inputsG g k)).1
def rowFrom (n k : Nat) : List Nat := (List.range k).map fun i => 2 * (n + i)
theorem rowFrom_length (n k : Nat) : (rowFrom n k).length = k := by simp [rowFrom]
theorem rowFrom_succ (n k : Nat) : rowFrom n (k + 1) = rowFrom n k ++ [2 * (n + k)] := by simp [rowFrom, List.range_succ]
theorem inputsG_nodes (g : Gr) (k : Nat) : (inputsG g k).nodes = g.nodes ++ (rowFrom g.nodes.length k).map fun x => (x, x) := by
  induction k with
  | zero => simp [inputsG, rowFrom]
  | succ k ih =>
    rw [rowFrom_succ, List.map_append, ← List.append_assoc, ← ih]
    show (inputsG g k).nodes ++ [(2 * (inputsG g k).nodes.length, 2 * (inputsG g k).nodes.length)] = _
    rw [ih]
    simp [rowFrom_length]
theorem inputsG_length (g : Gr) (k : Nat) : (inputsG g k).nodes.length = g.nodes.length + k := by
  rw [inputsG_nodes]; simp [rowFrom_length]
theorem inputsG_wf {g : Gr} (hw : WF g.nodes) (k : Nat) : WF (inputsG g k).nodes := by
  induction k with
  | zero => exact hw
  | succ k ih => exact (inputG_spec ih).1
theorem inputsG_ins {g : Gr} (hw : WF g.nodes) (k : Nat) : ins (inputsG g k).nodes = ins g.nodes ++ (List.range k).map (g.nodes.length + ·) := by
  induction k with
  | zero => simp [inputsG]
  | succ k ih =>
    rw [show inputsG g (k + 1) = (inputG (inputsG g k)).1 from rfl, (inputG_spec (inputsG_wf hw k)).2.2, ih, inputsG_length, List.range_succ, List.map_append, List.append_assoc]
    rfl
def gone (g : Gr) (l : List Nat) : Bool := l.any fun x => decide (g.nodes.length ≤ x / 2)
theorem gone_false {g : Gr} {l : List Nat} : gone g l = false ↔ ∀ x ∈ l, g.ok x := by
  unfold gone Gr.ok
  rw [List.any_eq_false]
  constructor <;> intro h x hx <;> have := h x hx <;> simp at * <;> omega
def addIn (N : Nt) (s : ByteArray) (wd : Int) : Nt × List Nat × Nat :=
  if (!mayB s) || decide (wd < 1) || decide (64 < wd) then (N, [], 1)
  else if (findB N.inb s).isSome then (N, [], 9)
  else ({ N with g := inputsG N.g wd.toNat, inb := N.inb ++ [⟨s, rowFrom N.g.nodes.length wd.toNat⟩] }, rowFrom N.g.nodes.length wd.toNat, 0)
def addReg (N : Nt) (init : Bool) : Nt × Nat := ({ N with g := (inputG N.g).1, regs := N.regs ++ [⟨2 * N.g.nodes.length, 0, 0, init⟩] }, 2 * N.g.nodes.length)
def findR (l : List Rg) (q : Nat) : Option Nat := l.findIdx? fun r => decide (r.q = q)
def putR (l : List Rg) (k d en : Nat) : List Rg := l.modify k fun r => { r with d := d, en := en }
def setReg (N : Nt) (q d en : Nat) : Nt × Nat :=
  match findR N.regs q with
  | none => (N, 1)
  | some k => if gone N.g [d, en] then (N, 1) else ({ N with regs := putR N.regs k d en }, 0)
def addOut (N : Nt) (s : ByteArray) (l : List Nat) : Nt × Nat :=
  if (!mayB s) || decide (l.length < 1) || decide (64 < l.length) || gone N.g l then (N, 1)
  else if (findB N.outb s).isSome then (N, 9)
  else ({ N with outb := N.outb ++ [⟨s, l⟩] }, 0)
/-- a step of the law: what, name, n, a, b, c, literals -/
structure NStp where
  what : Int
  name : ByteArray
  n : Int
  a : Nat
  b : Nat
  c : Nat
  lits : List Nat
def gateN (N : Nt) (two : Gr → Nat → Nat → Gr × Nat) (b c : Nat) : Nt × List Nat × Nat :=
  if gone N.g [b, c] then (N, [0], 1) else ({ N with g := (two N.g b c).1 }, [(two N.g b c).2], 0)
def doesN (N : Nt) (s : NStp) : Nt × List Nat × Nat :=
  if s.what = 0 then addIn N s.name s.n
  else if s.what = 1 then ((addReg N (decide (s.n % 2 ≠ 0))).1, [(addReg N (decide (s.n % 2 ≠ 0))).2], 0)
  else if s.what = 2 then ((setReg N s.a s.b s.c).1, [], (setReg N s.a s.b s.c).2)
  else if s.what = 3 then ((addOut N s.name (s.lits.take 70)).1, [], (addOut N s.name (s.lits.take 70)).2)
  else if s.what = 4 ∨ s.what = 5 ∨ s.what = 6 then gateN N andG s.b s.c
  else if s.what = 7 then gateN N xorG s.b s.c
  else if s.what = 8 then ({ N with g := (inputG N.g).1 }, [2 * N.g.nodes.length], 0)
  else (N, [], 0)
/-- what holds of every netlist that steps make -/
structure NtOk (k : Nat) (N : Nt) : Prop where
  wf : WF N.g.nodes
  len : N.g.nodes.length ≤ 1 + 64 * k
  ik : N.inb.length ≤ k
  rk : N.regs.length ≤ k
  ok : N.outb.length ≤ k
  il : ∀ b ∈ N.inb, 1 ≤ b.lits.length ∧ b.lits.length ≤ 64 ∧ mayB b.name = true ∧ ∀ x ∈ b.lits, N.g.ok x
  ol : ∀ b ∈ N.outb, 1 ≤ b.lits.length ∧ b.lits.length ≤ 64 ∧ mayB b.name = true ∧ ∀ x ∈ b.lits, N.g.ok x
  rl : ∀ r ∈ N.regs, N.g.ok r.q ∧ N.g.ok r.d ∧ N.g.ok r.en
theorem newN_ok (s : ByteArray) (a b : Bool) : NtOk 0 (newN s a b) := by
  refine ⟨⟨rfl, fun i x y h => ?_⟩, by simp [newN], by simp [newN], by simp [newN], by simp [newN], by simp [newN], by simp [newN], by simp [newN]⟩
  cases i with
  | zero => simp [newN] at h; simp [← h]
  | succ i => simp [newN] at h
theorem NtOk.mono {k : Nat} {N : Nt} (h : NtOk k N) : NtOk (k + 1) N :=
  ⟨h.wf, by have := h.len; omega, by have := h.ik; omega, by have := h.rk; omega, by have := h.ok; omega, h.il, h.ol, h.rl⟩
theorem NtOk.graph {k : Nat} {N : Nt} (h : NtOk k N) {g' : Gr} (hw : WF g'.nodes) (hl : N.g.nodes.length ≤ g'.nodes.length) (hl2 : g'.nodes.length ≤ N.g.nodes.length + 64) : NtOk (k + 1) { N with g := g' } := by
  have up : ∀ x, N.g.ok x → g'.ok x := fun x hx => by unfold Gr.ok at *; omega
  refine ⟨hw, by have := h.len; show g'.nodes.length ≤ _; omega, by have := h.ik; show N.inb.length ≤ _; omega, by have := h.rk; show N.regs.length ≤ _; omega, by have := h.ok; show N.outb.length ≤ _; omega, ?_, ?_, ?_⟩
  · exact fun b hb => ⟨(h.il b hb).1, (h.il b hb).2.1, (h.il b hb).2.2.1, fun x hx => up x ((h.il b hb).2.2.2 x hx)⟩
  · exact fun b hb => ⟨(h.ol b hb).1, (h.ol b hb).2.1, (h.ol b hb).2.2.1, fun x hx => up x ((h.ol b hb).2.2.2 x hx)⟩
  · exact fun r hr => ⟨up _ (h.rl r hr).1, up _ (h.rl r hr).2.1, up _ (h.rl r hr).2.2⟩
theorem addIn_ok {k : Nat} {N : Nt} (h : NtOk k N) (s : ByteArray) (wd : Int) : NtOk (k + 1) (addIn N s wd).1 := by
  unfold addIn
  split
  · exact h.mono
  · rename_i hc
    simp only [Bool.or_eq_true, decide_eq_true_eq, not_or, Bool.not_eq_true', Bool.not_eq_false] at hc
    split
    · exact h.mono
    · have hg := h.graph (inputsG_wf h.wf wd.toNat) (by rw [inputsG_length]; omega) (by rw [inputsG_length]; omega)
      refine ⟨hg.wf, hg.len, by have := h.ik; simp; omega, hg.rk, hg.ok, ?_, hg.ol, hg.rl⟩
      intro b hb
      rcases List.mem_append.1 hb with hb | hb
      · exact hg.il b hb
      · rw [List.mem_singleton] at hb
        subst hb
        refine ⟨by simp only [rowFrom_length]; omega, by simp only [rowFrom_length]; omega, hc.1.1, fun x hx => ?_⟩
        simp only [rowFrom, List.mem_map, List.mem_range] at hx
        obtain ⟨i, hi, rfl⟩ := hx
        show 2 * (N.g.nodes.length + i) / 2 < (inputsG N.g wd.toNat).nodes.length
        rw [inputsG_length]; omega
theorem addReg_ok {k : Nat} {N : Nt} (h : NtOk k N) (b : Bool) : NtOk (k + 1) (addReg N b).1 := by
  have hl : (inputG N.g).1.nodes.length = N.g.nodes.length + 1 := by simp [inputG]
  have hg := h.graph (g' := (inputG N.g).1) (inputG_spec h.wf).1 (by omega) (by omega)
  refine ⟨hg.wf, hg.len, hg.ik, by have := h.rk; show (N.regs ++ [_]).length ≤ _; simp; omega, hg.ok, hg.il, hg.ol, ?_⟩
  intro r hr
  rcases List.mem_append.1 hr with hr | hr
  · exact hg.rl r hr
  · rw [List.mem_singleton] at hr
    subst hr
    have := h.wf.pos
    exact ⟨show 2 * N.g.nodes.length / 2 < (inputG N.g).1.nodes.length by omega, show 0 / 2 < (inputG N.g).1.nodes.length by omega, show 0 / 2 < (inputG N.g).1.nodes.length by omega⟩
theorem putR_mem {l : List Rg} {k d en : Nat} {r : Rg} (h : r ∈ putR l k d en) : r ∈ l ∨ ∃ r0 ∈ l, r = { r0 with d := d, en := en } := by
  unfold putR at h
  obtain ⟨i, hi, e⟩ := List.getElem_of_mem h
  rw [List.getElem_modify] at e
  have hi' : i < l.length := by simpa using hi
  split at e
  · exact .inr ⟨l[i], List.getElem_mem hi', e.symm⟩
  · exact .inl (e ▸ List.getElem_mem hi')
theorem setReg_ok {k : Nat} {N : Nt} (h : NtOk k N) (q d en : Nat) : NtOk (k + 1) (setReg N q d en).1 := by
  unfold setReg
  split
  · exact h.mono
  · split
    · exact h.mono
    · rename_i j hj hgone
      have hok := gone_false.1 (by simpa using hgone)
      have hm := h.mono
      refine ⟨hm.wf, hm.len, hm.ik, by have := h.rk; show (putR _ _ _ _).length ≤ _; simp [putR]; omega, hm.ok, hm.il, hm.ol, ?_⟩
      intro r hr
      rcases putR_mem hr with hr | ⟨r0, hr0, rfl⟩
      · exact hm.rl r hr
      · exact ⟨(hm.rl r0 hr0).1, hok d (by simp), hok en (by simp)⟩
theorem addOut_ok {k : Nat} {N : Nt} (h : NtOk k N) (s : ByteArray) (l : List Nat) : NtOk (k + 1) (addOut N s l).1 := by
  unfold addOut
  split
  · exact h.mono
  · rename_i hc
    simp only [Bool.or_eq_true, decide_eq_true_eq, not_or, Bool.not_eq_true', Bool.not_eq_false] at hc
    split
    · exact h.mono
    · have hm := h.mono
      refine ⟨hm.wf, hm.len, hm.ik, hm.rk, by have := h.ok; simp; omega, hm.il, ?_, hm.rl⟩
      intro b hb
      rcases List.mem_append.1 hb with hb | hb
      · exact hm.ol b hb
      · rw [List.mem_singleton] at hb
        subst hb
        exact ⟨by show 1 ≤ l.length; omega, by show l.length ≤ 64; omega, hc.1.1.1, gone_false.1 (by simpa using hc.2)⟩
theorem gateN_ok {k : Nat} {N : Nt} (h : NtOk k N) (two : Gr → Nat → Nat → Gr × Nat) (h2 : ∀ g a b, WF g.nodes → g.ok a → g.ok b → WF (two g a b).1.nodes ∧ Ext 3 g (two g a b).1 ∧ (two g a b).1.ok (two g a b).2) (b c : Nat) : NtOk (k + 1) (gateN N two b c).1 := by
  unfold gateN
  split
  · exact h.mono
  · rename_i hg
    have hok := gone_false.1 (by simpa using hg)
    obtain ⟨h3, h4, _⟩ := h2 N.g b c h.wf (hok b (by simp)) (hok c (by simp))
    exact h.graph h3 h4.le.1 (by have := h4.le.2; omega)
theorem doesN_ok {k : Nat} {N : Nt} (h : NtOk k N) (s : NStp) : NtOk (k + 1) (doesN N s).1 := by
  unfold doesN
  split
  · exact addIn_ok h _ _
  · split
    · exact addReg_ok h _
    · split
      · exact setReg_ok h _ _ _
      · split
        · exact addOut_ok h _ _
        · split
          · exact gateN_ok h _ two_and _ _
          · split
            · exact gateN_ok h _ two_xor _ _
            · split
              · exact h.graph (inputG_spec h.wf).1 (by simp [inputG]) (by simp [inputG])
              · exact h.mono
end Go.Proofs.YtdmcdhkkbkgnbaaGreat

namespace Go.Proofs.YtdmcdhkkbkgnbaaGreat
set_option linter.unusedVariables false
variable {N : Nt} {k : Nat}
def drivenN (N : Nt) : List Nat := N.inb.flatMap (·.lits) ++ N.regs.map (·.q)
/-- besides: names differ; what is driven are inputs, each once -/
structure NtFine (k : Nat) (N : Nt) : Prop where
  ok : NtOk k N
  nm : mayB N.name = true
  ni : (N.inb.map (·.name)).Pairwise (· ≠ ·)
  no : (N.outb.map (·.name)).Pairwise (· ≠ ·)
  dn : (drivenN N).Nodup
  di : ∀ x ∈ drivenN N, ∃ i ∈ ins N.g.nodes, x = 2 * i
/-- each input is driven -/
def fullB (N : Nt) : Bool := (ins N.g.nodes).all fun i => (drivenN N).contains (2 * i)
def checkN (N : Nt) : Nat := if fullB N then 0 else 37
theorem newN_fine (s : ByteArray) (a b : Bool) (h : mayB s = true) : NtFine 0 (newN s a b) :=
  ⟨newN_ok s a b, h, by simp [newN], by simp [newN], by simp [drivenN, newN], by simp [drivenN, newN]⟩
theorem findB_none {l : List Bus} {s : ByteArray} (h : findB l s = none) : ∀ b ∈ l, b.name ≠ s := by
  unfold findB at h
  rw [List.findIdx?_eq_none_iff] at h
  intro b hb e
  have := h b hb
  simp [e] at this
theorem names_snoc {l : List Bus} {s : ByteArray} {r : List Nat} (hd : (l.map (·.name)).Pairwise (· ≠ ·)) (hf : findB l s = none) : ((l ++ [(⟨s, r⟩ : Bus)]).map (·.name)).Pairwise (· ≠ ·) := by
  rw [List.map_append, List.pairwise_append]
  refine ⟨hd, by simp, fun a ha b hb => ?_⟩
  simp at hb
  subst hb
  obtain ⟨x, hx, rfl⟩ := List.mem_map.1 ha
  exact findB_none hf x hx
theorem fine_graph {g' : Gr} (h : NtFine k N) (hok : NtOk (k + 1) { N with g := g' }) (hi : ∀ i ∈ ins N.g.nodes, i ∈ ins g'.nodes) : NtFine (k + 1) { N with g := g' } :=
  ⟨hok, h.nm, h.ni, h.no, h.dn, fun x hx => by obtain ⟨i, h1, h2⟩ := h.di x hx; exact ⟨i, hi i h1, h2⟩⟩
theorem NtFine.mono (h : NtFine k N) : NtFine (k + 1) N := ⟨h.ok.mono, h.nm, h.ni, h.no, h.dn, h.di⟩
theorem drivenN_lt (h : NtFine k N) : ∀ x ∈ drivenN N, x < 2 * N.g.nodes.length := fun x hx => by
  obtain ⟨i, h1, rfl⟩ := h.di x hx
  have := ins_lt N.g.nodes i h1
  omega
theorem rowFrom_mem {n k x : Nat} : x ∈ rowFrom n k ↔ ∃ i, i < k ∧ x = 2 * (n + i) := by
  simp only [rowFrom, List.mem_map, List.mem_range]
  constructor <;> rintro ⟨i, h1, h2⟩ <;> exact ⟨i, h1, h2.symm⟩
theorem rowFrom_nodup (n k : Nat) : (rowFrom n k).Nodup := by
  unfold rowFrom
  rw [List.nodup_iff_pairwise_ne, List.pairwise_map]
  exact List.pairwise_lt_range.imp fun h e => by omega
theorem addIn_fine (h : NtFine k N) (s : ByteArray) (wd : Int) : NtFine (k + 1) (addIn N s wd).1 := by
  have hok := addIn_ok h.ok s wd
  unfold addIn at *
  split
  · exact h.mono
  · split
    · exact h.mono
    · rename_i h1 h2
      rw [if_neg h1, if_neg h2] at hok
      have hf : findB N.inb s = none := by simpa using h2
      have hd : drivenN { N with g := inputsG N.g wd.toNat, inb := N.inb ++ [⟨s, rowFrom N.g.nodes.length wd.toNat⟩] } = N.inb.flatMap (·.lits) ++ rowFrom N.g.nodes.length wd.toNat ++ N.regs.map (·.q) := by simp [drivenN]
      have lt := drivenN_lt h
      have hdn := h.dn
      unfold drivenN at hdn lt
      rw [List.nodup_append] at hdn
      refine ⟨hok, h.nm, names_snoc h.ni hf, h.no, ?_, ?_⟩
      · rw [hd, List.nodup_append, List.nodup_append]
        refine ⟨⟨hdn.1, rowFrom_nodup _ _, fun a ha b hb => ?_⟩, hdn.2.1, fun a ha b hb => ?_⟩
        · obtain ⟨i, _, rfl⟩ := rowFrom_mem.1 hb
          have := lt a (List.mem_append_left _ ha)
          omega
        · rcases List.mem_append.1 ha with ha | ha
          · exact hdn.2.2 a ha b hb
          · obtain ⟨i, _, rfl⟩ := rowFrom_mem.1 ha
            have := lt b (List.mem_append_right _ hb)
            omega
      · intro x hx
        rw [hd] at hx
        show ∃ i ∈ ins (inputsG N.g wd.toNat).nodes, x = 2 * i
        rw [inputsG_ins h.ok.wf]
        simp only [List.mem_append] at hx
        rcases hx with (hx | hx) | hx
        · obtain ⟨i, h1, h2⟩ := h.di x (List.mem_append_left _ hx)
          exact ⟨i, List.mem_append_left _ h1, h2⟩
        · obtain ⟨i, h1, h2⟩ := rowFrom_mem.1 hx
          exact ⟨N.g.nodes.length + i, List.mem_append_right _ (List.mem_map.2 ⟨i, List.mem_range.2 h1, rfl⟩), h2⟩
        · obtain ⟨i, h1, h2⟩ := h.di x (List.mem_append_right _ hx)
          exact ⟨i, List.mem_append_left _ h1, h2⟩
theorem addReg_fine (h : NtFine k N) (b : Bool) : NtFine (k + 1) (addReg N b).1 := by
  have hd : drivenN (addReg N b).1 = drivenN N ++ [2 * N.g.nodes.length] := by simp [drivenN, addReg]
  have lt := drivenN_lt h
  refine ⟨addReg_ok h.ok b, h.nm, h.ni, h.no, ?_, ?_⟩
  · rw [hd, List.nodup_append]
    refine ⟨h.dn, by simp, fun a ha c hc => ?_⟩
    simp at hc
    have := lt a ha
    omega
  · intro x hx
    rw [hd] at hx
    show ∃ i ∈ ins (inputG N.g).1.nodes, x = 2 * i
    rw [(inputG_spec h.ok.wf).2.2]
    rcases List.mem_append.1 hx with hx | hx
    · obtain ⟨i, h1, h2⟩ := h.di x hx
      exact ⟨i, List.mem_append_left _ h1, h2⟩
    · simp at hx
      exact ⟨N.g.nodes.length, by simp, hx⟩
theorem putR_q (l : List Rg) (k d en : Nat) : (putR l k d en).map (·.q) = l.map (·.q) := by
  unfold putR
  apply List.ext_getElem (by simp)
  intro i h1 h2
  simp only [List.getElem_map, List.getElem_modify]
  split <;> rfl
theorem setReg_fine (h : NtFine k N) (q d en : Nat) : NtFine (k + 1) (setReg N q d en).1 := by
  have hok := setReg_ok h.ok q d en
  unfold setReg at *
  split
  · exact h.mono
  · rename_i j hj
    rw [hj] at hok
    simp only at hok
    split
    · exact h.mono
    · rename_i hg
      rw [if_neg hg] at hok
      have hd : drivenN { N with regs := putR N.regs j d en } = drivenN N := by simp [drivenN, putR_q]
      exact ⟨hok, h.nm, h.ni, h.no, by rw [hd]; exact h.dn, fun x hx => by rw [hd] at hx; exact h.di x hx⟩
theorem addOut_fine (h : NtFine k N) (s : ByteArray) (l : List Nat) : NtFine (k + 1) (addOut N s l).1 := by
  have hok := addOut_ok h.ok s l
  unfold addOut at *
  split
  · exact h.mono
  · split
    · exact h.mono
    · rename_i h1 h2
      rw [if_neg h1, if_neg h2] at hok
      exact ⟨hok, h.nm, h.ni, names_snoc h.no (by simpa using h2), h.dn, h.di⟩
theorem gateN_fine (h : NtFine k N) (two : Gr → Nat → Nat → Gr × Nat) (h2 : ∀ g a b, WF g.nodes → g.ok a → g.ok b → WF (two g a b).1.nodes ∧ Ext 3 g (two g a b).1 ∧ (two g a b).1.ok (two g a b).2) (b c : Nat) : NtFine (k + 1) (gateN N two b c).1 := by
  have hok := gateN_ok h.ok two h2 b c
  unfold gateN at *
  split
  · exact h.mono
  · rename_i hg
    rw [if_neg hg] at hok
    have hl := gone_false.1 (by simpa using hg)
    have he := (h2 N.g b c h.ok.wf (hl b (by simp)) (hl c (by simp))).2.1.ins
    exact fine_graph h hok (fun i hi => by rw [he]; exact hi)
theorem doesN_fine (h : NtFine k N) (s : NStp) : NtFine (k + 1) (doesN N s).1 := by
  have hok := doesN_ok h.ok s
  unfold doesN at *
  split
  · exact addIn_fine h _ _
  · split
    · exact addReg_fine h _
    · split
      · exact setReg_fine h _ _ _
      · split
        · exact addOut_fine h _ _
        · split
          · exact gateN_fine h _ two_and _ _
          · split
            · exact gateN_fine h _ two_xor _ _
            · split
              · rename_i h0 h1 h2 h3 h4 h5 h6
                rw [if_neg h0, if_neg h1, if_neg h2, if_neg h3, if_neg h4, if_neg h5, if_pos h6] at hok
                exact fine_graph h hok (fun i hi => by rw [(inputG_spec h.ok.wf).2.2]; exact List.mem_append_left _ hi)
              · exact h.mono
/-- a step but an input of the graph itself keeps all inputs driven -/
theorem full_new (s : ByteArray) (a b : Bool) : fullB (newN s a b) = true := by simp [fullB, newN, ins, insFrom, inAt]
end Go.Proofs.YtdmcdhkkbkgnbaaGreat

namespace Go.Proofs.YtdmcdhkkbkgnbaaGreat

/-! ### Words, bit by bit -/
theorem noW_testBit (v i : Nat) (h : v < 18446744073709551616) : (noW v).testBit i = (decide (i < 64) && !v.testBit i) := by
  have e : noW v = 2 ^ 64 - (v + 1) := by unfold noW; omega
  rw [e]
  exact Nat.testBit_two_pow_sub_succ (n := 64) h i
theorem word_high {v : Nat} (h : v < 18446744073709551616) {i : Nat} (hi : ¬ i < 64) : v.testBit i = false :=
  Nat.testBit_lt_two_pow (Nat.lt_of_lt_of_le (show v < 2 ^ 64 from h) (Nat.pow_le_pow_right (by omega) (Nat.not_lt.1 hi)))
theorem and_word {a b : Nat} (ha : a < 18446744073709551616) : a &&& b < 18446744073709551616 := Nat.lt_of_le_of_lt Nat.and_le_left ha
theorem or_word {a b : Nat} (ha : a < 18446744073709551616) (hb : b < 18446744073709551616) : a ||| b < 18446744073709551616 := Nat.or_lt_two_pow (n := 64) ha hb
theorem xor_word {a b : Nat} (ha : a < 18446744073709551616) (hb : b < 18446744073709551616) : a ^^^ b < 18446744073709551616 := Nat.xor_lt_two_pow (n := 64) ha hb
theorem noW_or {a b : Nat} (ha : a < 18446744073709551616) (hb : b < 18446744073709551616) : noW (noW a &&& noW b) = a ||| b := by
  apply Nat.eq_of_testBit_eq; intro i
  rw [noW_testBit _ _ (and_word (noW_lt a)), Nat.testBit_and, noW_testBit _ _ ha, noW_testBit _ _ hb, Nat.testBit_or]
  by_cases hi : i < 64
  · simp [hi]
  · simp [hi, word_high ha hi, word_high hb hi]
theorem xor_or {a b : Nat} (ha : a < 18446744073709551616) (hb : b < 18446744073709551616) : (a &&& noW b) ||| (noW a &&& b) = a ^^^ b := by
  apply Nat.eq_of_testBit_eq; intro i
  rw [Nat.testBit_or, Nat.testBit_and, Nat.testBit_and, noW_testBit _ _ ha, noW_testBit _ _ hb, Nat.testBit_xor]
  by_cases hi : i < 64
  · cases a.testBit i <;> cases b.testBit i <;> simp [hi]
  · simp [hi, word_high ha hi, word_high hb hi]

/-! ### Each node's word -/
/-- the word of a new node behind ns, whose words are V -/
def nodeV (inp : List Nat) (ns : List (Nat × Nat)) (V : List Nat) (p : Nat × Nat) : Nat :=
  if inAt ns.length p then (if ns.length = 0 then 0 else inp.getD (ins ns).length 0) else wd V p.1 &&& wd V p.2
def valTo (inp : List Nat) (ns : List (Nat × Nat)) : Nat → List Nat
  | 0 => []
  | k + 1 => valTo inp ns k ++ [nodeV inp (ns.take k) (valTo inp ns k) (ns.getD k (0, 0))]
def valL (inp : List Nat) (ns : List (Nat × Nat)) : List Nat := valTo inp ns ns.length
theorem valTo_length (inp : List Nat) (ns : List (Nat × Nat)) (k : Nat) : (valTo inp ns k).length = k := by
  induction k with
  | zero => rfl
  | succ k ih => simp [valTo, ih]
theorem valL_length (inp : List Nat) (ns : List (Nat × Nat)) : (valL inp ns).length = ns.length := valTo_length _ _ _
theorem valTo_pre (inp : List Nat) (ns more : List (Nat × Nat)) (k : Nat) (h : k ≤ ns.length) : valTo inp (ns ++ more) k = valTo inp ns k := by
  induction k with
  | zero => rfl
  | succ k ih =>
    have e1 : (ns ++ more).take k = ns.take k := by rw [List.take_append_of_le_length (by omega)]
    have e2 : (ns ++ more).getD k (0, 0) = ns.getD k (0, 0) := by
      simp only [List.getD_eq_getElem?_getD]
      rw [List.getElem?_append_left (by omega)]
    simp only [valTo]
    rw [ih (by omega), e1, e2]
theorem valL_snoc (inp : List Nat) (ns : List (Nat × Nat)) (p : Nat × Nat) : valL inp (ns ++ [p]) = valL inp ns ++ [nodeV inp ns (valL inp ns) p] := by
  unfold valL
  rw [List.length_append, List.length_singleton]
  simp only [valTo]
  rw [valTo_pre _ _ _ _ (Nat.le_refl _)]
  simp [List.getD_eq_getElem?_getD]
theorem valTo_take (inp : List Nat) (ns : List (Nat × Nat)) (k j : Nat) : ∃ t, valTo inp ns (k + j) = valTo inp ns k ++ t := by
  induction j with
  | zero => exact ⟨[], by simp⟩
  | succ j ih =>
    obtain ⟨t, ht⟩ := ih
    refine ⟨t ++ [nodeV inp (ns.take (k + j)) (valTo inp ns (k + j)) (ns.getD (k + j) (0, 0))], ?_⟩
    show valTo inp ns (k + j) ++ _ = _
    conv => lhs; rw [ht]
    rw [List.append_assoc]
    rfl
theorem valL_append (inp : List Nat) (ns more : List (Nat × Nat)) : ∃ t, valL inp (ns ++ more) = valL inp ns ++ t := by
  obtain ⟨t, ht⟩ := valTo_take inp (ns ++ more) ns.length more.length
  refine ⟨t, ?_⟩
  unfold valL
  rw [List.length_append, ht, valTo_pre _ _ _ _ (Nat.le_refl _)]
theorem nodeV_word {inp V : List Nat} (hi : Words inp) (hV : Words V) (ns : List (Nat × Nat)) (p : Nat × Nat) : nodeV inp ns V p < 18446744073709551616 := by
  unfold nodeV
  split
  · split
    · omega
    · rw [List.getD_eq_getElem?_getD]
      cases h : inp[(ins ns).length]? with
      | none => simp
      | some v => simpa using hi v (List.mem_of_getElem? h)
  · exact and_word (wd_lt hV _)
theorem valTo_words {inp : List Nat} (hi : Words inp) (ns : List (Nat × Nat)) (k : Nat) : Words (valTo inp ns k) := by
  induction k with
  | zero => intro x hx; simp [valTo] at hx
  | succ k ih =>
    intro x hx
    rcases List.mem_append.1 hx with h | h
    · exact ih x h
    · simp only [List.mem_singleton] at h
      rw [h]
      exact nodeV_word hi ih _ _
theorem valL_words {inp : List Nat} (hi : Words inp) (ns : List (Nat × Nat)) : Words (valL inp ns) := valTo_words hi ns _
theorem wd_append {V : List Nat} (t : List Nat) {l : Nat} (h : l / 2 < V.length) : wd (V ++ t) l = wd V l := by
  have : nodeW (V ++ t) (l / 2) = nodeW V (l / 2) := by
    unfold nodeW
    simp only [List.getD_eq_getElem?_getD]
    rw [List.getElem?_append_left h]
  unfold wd
  rw [this]

/-- a literal's word in a graph -/
def lw (inp : List Nat) (g : Gr) (l : Nat) : Nat := wd (valL inp g.nodes) l
theorem lw_lt {inp : List Nat} (hi : Words inp) (g : Gr) (l : Nat) : lw inp g l < 18446744073709551616 := wd_lt (valL_words hi _) l
theorem lw_nt {inp : List Nat} (hi : Words inp) (g : Gr) (l : Nat) : lw inp g (ntL l) = noW (lw inp g l) := wd_ntL (valL_words hi _) l
theorem lw_zero (inp : List Nat) (g : Gr) : lw inp g 0 = 0 := wd_zero _
theorem lw_one (inp : List Nat) (g : Gr) : lw inp g 1 = 18446744073709551615 := wd_one _
theorem lw_pre {inp : List Nat} {g g' : Gr} (h : ∃ more, g'.nodes = g.nodes ++ more) {l : Nat} (hl : g.ok l) : lw inp g' l = lw inp g l := by
  obtain ⟨more, h⟩ := h
  unfold lw
  rw [h]
  obtain ⟨t, ht⟩ := valL_append inp g.nodes more
  rw [ht]
  exact wd_append t (by rw [valL_length]; exact hl)
theorem Ext.pre' {k : Nat} {g g' : Gr} (h : Ext k g g') : ∃ more, g'.nodes = g.nodes ++ more := by obtain ⟨m, h1, _⟩ := h.pre; exact ⟨m, h1⟩
theorem lw_ext {inp : List Nat} {k : Nat} {g g' : Gr} (h : Ext k g g') {l : Nat} (hl : g.ok l) : lw inp g' l = lw inp g l := lw_pre h.pre' hl

theorem valL_get (inp : List Nat) (ns : List (Nat × Nat)) (k : Nat) (h : k < ns.length) : (valL inp ns)[k]? = some (nodeV inp (ns.take k) (valTo inp ns k) (ns.getD k (0, 0))) := by
  obtain ⟨t, ht⟩ := valTo_take inp ns (k + 1) (ns.length - (k + 1))
  unfold valL
  rw [show ns.length = k + 1 + (ns.length - (k + 1)) by omega, ht, List.getElem?_append_left (by rw [valTo_length]; omega)]
  simp only [valTo]
  rw [List.getElem?_append_right (by rw [valTo_length]; omega), valTo_length]
  simp
theorem valL_pre (inp : List Nat) (ns : List (Nat × Nat)) (k : Nat) (h : k ≤ ns.length) : ∃ t, valL inp ns = valTo inp ns k ++ t := by
  obtain ⟨t, ht⟩ := valTo_take inp ns k (ns.length - k)
  refine ⟨t, ?_⟩
  unfold valL
  rw [show ns.length = k + (ns.length - k) by omega, ht]
theorem gate_val {inp : List Nat} {ns : List (Nat × Nat)} (hw : WF ns) {k a b : Nat} (h : ns[k]? = some (a, b)) (hg : a / 2 ≠ k) : (valL inp ns)[k]? = some (wd (valL inp ns) a &&& wd (valL inp ns) b) := by
  have hk := (List.getElem?_eq_some_iff.1 h).1
  rw [valL_get _ _ _ hk]
  have e : ns.getD k (0, 0) = (a, b) := by rw [List.getD_eq_getElem?_getD, h]; rfl
  have hlt : a / 2 < k ∧ b / 2 < k := by
    rcases hw.each k a b h with h1 | h1
    · omega
    · omega
  obtain ⟨t, ht⟩ := valL_pre inp ns k (by omega)
  rw [e, ht, wd_append t (by rw [valTo_length]; exact hlt.1), wd_append t (by rw [valTo_length]; exact hlt.2)]
  unfold nodeV
  rw [if_neg]
  simp [inAt]
  omega
theorem in_val {inp : List Nat} {ns : List (Nat × Nat)} {k a b : Nat} (h : ns[k]? = some (a, b)) (hg : a / 2 = k) (h0 : k ≠ 0) : (valL inp ns)[k]? = some (inp.getD (ins (ns.take k)).length 0) := by
  have hk := (List.getElem?_eq_some_iff.1 h).1
  rw [valL_get _ _ _ hk]
  have e : ns.getD k (0, 0) = (a, b) := by rw [List.getD_eq_getElem?_getD, h]; rfl
  rw [e]
  have hl : (ns.take k).length = k := by rw [List.length_take]; omega
  unfold nodeV
  rw [hl, if_pos (by simp [inAt, hg]), if_neg h0]
theorem zero_val {inp : List Nat} {ns : List (Nat × Nat)} (hw : WF ns) : (valL inp ns)[0]? = some 0 := by
  rw [valL_get _ _ _ hw.pos]
  have e : ns.getD 0 (0, 0) = (0, 0) := by rw [List.getD_eq_getElem?_getD, hw.zero]; rfl
  rw [e]
  rfl
theorem lw_node {inp : List Nat} {g : Gr} {k v : Nat} (h0 : k ≠ 0) (h : (valL inp g.nodes)[k]? = some v) : lw inp g (2 * k) = v := by
  unfold lw wd nodeW
  rw [if_neg (by omega), show 2 * k / 2 = k by omega, if_neg h0, List.getD_eq_getElem?_getD, h]
  rfl

/-! ### The calls -/
theorem gateG_val {g : Gr} (hw : WF g.nodes) (inp : List Nat) {a b : Nat} (ha : g.ok a) (hb : g.ok b) : lw inp (gateG g a b).1 (gateG g a b).2 = lw inp g a &&& lw inp g b := by
  have h0 := hw.pos
  show lw inp { g with nodes := g.nodes ++ [(max a b, min a b)] } (2 * g.nodes.length) = _
  rw [lw_node (v := wd (valL inp g.nodes) (max a b) &&& wd (valL inp g.nodes) (min a b)) (by omega)]
  · rcases Nat.le_total a b with h | h
    · rw [Nat.max_eq_right h, Nat.min_eq_left h, Nat.and_comm]; rfl
    · rw [Nat.max_eq_left h, Nat.min_eq_right h]; rfl
  · show (valL inp (g.nodes ++ [(max a b, min a b)]))[g.nodes.length]? = _
    rw [valL_snoc, List.getElem?_append_right (by rw [valL_length]; omega), valL_length]
    have hm := half_max ha hb
    simp only [Nat.sub_self, List.getElem?_cons_zero]
    unfold nodeV
    rw [if_neg (by simp [inAt]; omega)]
theorem inputG_val {g : Gr} (hw : WF g.nodes) (inp : List Nat) : lw inp (inputG g).1 (inputG g).2 = inp.getD (ins g.nodes).length 0 := by
  have h0 := hw.pos
  show lw inp { g with nodes := g.nodes ++ [(2 * g.nodes.length, 2 * g.nodes.length)] } (2 * g.nodes.length) = _
  rw [lw_node (v := inp.getD (ins g.nodes).length 0) (by omega)]
  show (valL inp (g.nodes ++ [(2 * g.nodes.length, 2 * g.nodes.length)]))[g.nodes.length]? = _
  rw [valL_snoc, List.getElem?_append_right (by rw [valL_length]; omega), valL_length]
  simp only [Nat.sub_self, List.getElem?_cons_zero]
  unfold nodeV
  rw [if_pos (by simp [inAt]), if_neg (by omega)]
theorem inputG_pre (g : Gr) : ∃ more, (inputG g).1.nodes = g.nodes ++ more := ⟨_, rfl⟩
theorem andG_val {g : Gr} (hw : WF g.nodes) {inp : List Nat} (hi : Words inp) {a b : Nat} (ha : g.ok a) (hb : g.ok b) : lw inp (andG g a b).1 (andG g a b).2 = lw inp g a &&& lw inp g b := by
  unfold andG
  split
  · rename_i h
    simp only [Bool.and_eq_true] at h
    exact fold_word (valL_words hi _) a b h.1
  · split
    · rename_i h
      simp only [Bool.and_eq_true] at h
      obtain ⟨c, hc⟩ := Option.isSome_iff_exists.1 h.1
      obtain ⟨k, h1, h2, h3, h4⟩ := look_some hc
      rw [hc]
      show lw inp g c = _
      rw [h2, lw_node (v := wd (valL inp g.nodes) (max a b) &&& wd (valL inp g.nodes) (min a b))]
      · rcases Nat.le_total a b with h | h
        · rw [Nat.max_eq_right h, Nat.min_eq_left h, Nat.and_comm]; rfl
        · rw [Nat.max_eq_left h, Nat.min_eq_right h]; rfl
      · rintro rfl
        rw [hw.zero] at h3
        injection h3 with h3
        have : max a b = 0 := (congrArg Prod.fst h3).symm
        omega
      · exact gate_val hw h3 h4
    · exact gateG_val hw inp ha hb
theorem orG_val {g : Gr} (hw : WF g.nodes) {inp : List Nat} (hi : Words inp) {a b : Nat} (ha : g.ok a) (hb : g.ok b) : lw inp (orG g a b).1 (orG g a b).2 = lw inp g a ||| lw inp g b := by
  show lw inp (andG g (ntL a) (ntL b)).1 (ntL (andG g (ntL a) (ntL b)).2) = _
  rw [lw_nt hi, andG_val hw hi (ok_nt ha) (ok_nt hb), lw_nt hi, lw_nt hi, noW_or (lw_lt hi _ _) (lw_lt hi _ _)]
theorem bothG_val {g : Gr} (hw : WF g.nodes) {inp : List Nat} (hi : Words inp) {a b c d : Nat} (ha : g.ok a) (hb : g.ok b) (hc : g.ok c) (hd : g.ok d) :
    lw inp (bothG g a b c d).1 (bothG g a b c d).2 = (lw inp g a &&& lw inp g b) ||| (lw inp g c &&& lw inp g d) := by
  obtain ⟨h1, h2, h3⟩ := andG_spec hw ha hb
  obtain ⟨h4, h5, h6⟩ := andG_spec h1 (h2.ok hc) (h2.ok hd)
  unfold bothG
  rw [orG_val h4 hi (h5.ok h3) h6, lw_ext h5 h3, andG_val hw hi ha hb, andG_val h1 hi (h2.ok hc) (h2.ok hd), lw_ext h2 hc, lw_ext h2 hd]
theorem xorG_val {g : Gr} (hw : WF g.nodes) {inp : List Nat} (hi : Words inp) {a b : Nat} (ha : g.ok a) (hb : g.ok b) : lw inp (xorG g a b).1 (xorG g a b).2 = lw inp g a ^^^ lw inp g b := by
  unfold xorG
  rw [bothG_val hw hi ha (ok_nt hb) (ok_nt ha) hb, lw_nt hi, lw_nt hi, xor_or (lw_lt hi _ _) (lw_lt hi _ _)]
theorem muxG_val {g : Gr} (hw : WF g.nodes) {inp : List Nat} (hi : Words inp) {c a b : Nat} (hc : g.ok c) (ha : g.ok a) (hb : g.ok b) :
    lw inp (muxG g c a b).1 (muxG g c a b).2 = (lw inp g c &&& lw inp g a) ||| (noW (lw inp g c) &&& lw inp g b) := by
  unfold muxG
  rw [bothG_val hw hi hc ha (ok_nt hc) hb, lw_nt hi]

/-- What a call of two literals does and means. -/
def OpOk (two : Gr → Nat → Nat → Gr × Nat) (f : Nat → Nat → Nat) : Prop :=
  ∀ g a b, WF g.nodes → g.ok a → g.ok b → (WF (two g a b).1.nodes ∧ Ext 3 g (two g a b).1 ∧ (two g a b).1.ok (two g a b).2) ∧ ∀ inp, Words inp → lw inp (two g a b).1 (two g a b).2 = f (lw inp g a) (lw inp g b)
theorem op_and : OpOk andG (· &&& ·) := fun g a b hw ha hb => ⟨two_and g a b hw ha hb, fun _ hi => andG_val hw hi ha hb⟩
theorem op_or : OpOk orG (· ||| ·) := fun g a b hw ha hb => ⟨two_or g a b hw ha hb, fun _ hi => orG_val hw hi ha hb⟩
theorem op_xor : OpOk xorG (· ^^^ ·) := fun g a b hw ha hb => ⟨two_xor g a b hw ha hb, fun _ hi => xorG_val hw hi ha hb⟩
/-- the words of literals, from the left -/
def foldW (f : Nat → Nat → Nat) (inp : List Nat) (g : Gr) (e : Nat) (l : List Nat) : Nat := l.foldl (fun v x => f v (lw inp g x)) e
theorem foldW_ext {f : Nat → Nat → Nat} {inp : List Nat} {g g' : Gr} (h : ∃ more, g'.nodes = g.nodes ++ more) : ∀ (l : List Nat) (e : Nat), (∀ x ∈ l, g.ok x) → foldW f inp g' e l = foldW f inp g e l := by
  intro l
  induction l with
  | nil => intro e _; rfl
  | cons x l ih =>
    intro e hl
    show foldW f inp g' (f e (lw inp g' x)) l = foldW f inp g (f e (lw inp g x)) l
    rw [lw_pre h (hl x List.mem_cons_self), ih _ (fun y hy => hl y (List.mem_cons_of_mem _ hy))]
theorem foldW_snoc (f : Nat → Nat → Nat) (inp : List Nat) (g : Gr) (e : Nat) (l : List Nat) (x : Nat) : foldW f inp g e (l ++ [x]) = f (foldW f inp g e l) (lw inp g x) := by simp [foldW]
theorem goG_val {two : Gr → Nat → Nat → Gr × Nat} {f : Nat → Nat → Nat} (h2 : OpOk two f) {inp : List Nat} (hi : Words inp) : ∀ (l : List Nat) (s : Gr × Nat), WF s.1.nodes → s.1.ok s.2 → (∀ x ∈ l, s.1.ok x) →
    lw inp (goG two s l).1 (goG two s l).2 = foldW f inp s.1 (lw inp s.1 s.2) l := by
  intro l
  induction l with
  | nil => intro s _ _ _; rfl
  | cons x l ih =>
    intro s hw hs hl
    obtain ⟨⟨h3, h4, h5⟩, h6⟩ := h2 s.1 s.2 x hw hs (hl x List.mem_cons_self)
    show lw inp (goG two (two s.1 s.2 x) l).1 (goG two (two s.1 s.2 x) l).2 = foldW f inp s.1 (f (lw inp s.1 s.2) (lw inp s.1 x)) l
    rw [ih _ h3 h5 (fun y hy => h4.ok (hl y (List.mem_cons_of_mem _ hy))), h6 inp hi, foldW_ext h4.pre' l _ (fun y hy => hl y (List.mem_cons_of_mem _ hy))]
theorem manyG_val {two : Gr → Nat → Nat → Gr × Nat} {f : Nat → Nat → Nat} (h2 : OpOk two f) {inp : List Nat} (hi : Words inp) {g : Gr} (hw : WF g.nodes) {start : Nat} (he : ∀ v, v < 18446744073709551616 → f (lw inp g start) v = v) (l : List Nat) (hl : ∀ x ∈ l, g.ok x) :
    lw inp (manyG two g start l).1 (manyG two g start l).2 = foldW f inp g (lw inp g start) l := by
  cases l with
  | nil => rfl
  | cons x l =>
    show lw inp (goG two (g, x) l).1 (goG two (g, x) l).2 = foldW f inp g (f (lw inp g start) (lw inp g x)) l
    rw [goG_val h2 hi l (g, x) hw (hl x List.mem_cons_self) (fun y hy => hl y (List.mem_cons_of_mem _ hy)), he _ (lw_lt hi _ _)]
theorem manyG_and {inp : List Nat} (hi : Words inp) {g : Gr} (hw : WF g.nodes) (l : List Nat) (hl : ∀ x ∈ l, g.ok x) : lw inp (manyG andG g 1 l).1 (manyG andG g 1 l).2 = foldW (· &&& ·) inp g 18446744073709551615 l := by
  rw [manyG_val op_and hi hw (fun v hv => by rw [lw_one]; show 18446744073709551615 &&& v = v; rw [Nat.and_comm]; exact and_all v hv) l hl, lw_one]
theorem manyG_or {inp : List Nat} (hi : Words inp) {g : Gr} (hw : WF g.nodes) (l : List Nat) (hl : ∀ x ∈ l, g.ok x) : lw inp (manyG orG g 0 l).1 (manyG orG g 0 l).2 = foldW (· ||| ·) inp g 0 l := by
  rw [manyG_val op_or hi hw (fun v hv => by rw [lw_zero]; show 0 ||| v = v; exact Nat.zero_or v) l hl, lw_zero]
theorem manyG_xor {inp : List Nat} (hi : Words inp) {g : Gr} (hw : WF g.nodes) (l : List Nat) (hl : ∀ x ∈ l, g.ok x) : lw inp (manyG xorG g 0 l).1 (manyG xorG g 0 l).2 = foldW (· ^^^ ·) inp g 0 l := by
  rw [manyG_val op_xor hi hw (fun v hv => by rw [lw_zero]; show 0 ^^^ v = v; exact Nat.zero_xor v) l hl, lw_zero]
theorem foldW_lt {f : Nat → Nat → Nat} (hf : ∀ a b, a < 18446744073709551616 → b < 18446744073709551616 → f a b < 18446744073709551616) {inp : List Nat} (hi : Words inp) (g : Gr) : ∀ (l : List Nat) (e : Nat), e < 18446744073709551616 → foldW f inp g e l < 18446744073709551616 := by
  intro l
  induction l with
  | nil => intro e he; exact he
  | cons x l ih => intro e he; exact ih _ (hf _ _ he (lw_lt hi _ _))
end Go.Proofs.YtdmcdhkkbkgnbaaGreat
