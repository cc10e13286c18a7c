/-
  Package net, plain: netlists whose inputs are driven once at most; what Check says of them.
  Netlists, plain: buses, registers, what the calls of package net do. No program in sight.
-/
import Derived.Test.YtdmcdhkkbkgnbaaP00
import Derived.Test.YtdmcdhkkbkgnbaaP02
namespace Go.Proofs.Ytdmcdhkkbkgnbaa
set_option linter.unusedVariables false

structure Bus where
  name : ByteArray
  lits : List Nat
structure Rg where
  q : Nat
  d : Nat
  en : Nat
  init : Bool
structure Nt where
  g : Gr
  name : ByteArray
  inb : List Bus
  regs : List Rg
  outb : List Bus
def newN (name : ByteArray) (fold hash : Bool) : Nt := ⟨⟨fold, hash, [(0, 0)]⟩, name, [], [], []⟩
def findB (l : List Bus) (s : ByteArray) : Option Nat := l.findIdx? fun b => decide (b.name = s)
def inputsG (g : Gr) : Nat → Gr
  | 0 => g
  | k + 1 => (inputG (inputsG g k)).1
def rowFrom (n k : Nat) : List Nat := (List.range k).map fun i => 2 * (n + i)
theorem rowFrom_length (n k : Nat) : (rowFrom n k).length = k := by simp [rowFrom]
theorem rowFrom_succ (n k : Nat) : rowFrom n (k + 1) = rowFrom n k ++ [2 * (n + k)] := by simp [rowFrom, List.range_succ]
theorem inputsG_nodes (g : Gr) (k : Nat) : (inputsG g k).nodes = g.nodes ++ (rowFrom g.nodes.length k).map fun x => (x, x) := by
  induction k with
  | zero => simp [inputsG, rowFrom]
  | succ k ih =>
    rw [rowFrom_succ, List.map_append, ← List.append_assoc, ← ih]
    show (inputsG g k).nodes ++ [(2 * (inputsG g k).nodes.length, 2 * (inputsG g k).nodes.length)] = _
    rw [ih]
    simp [rowFrom_length]
theorem inputsG_length (g : Gr) (k : Nat) : (inputsG g k).nodes.length = g.nodes.length + k := by
  rw [inputsG_nodes]; simp [rowFrom_length]
theorem inputsG_wf {g : Gr} (hw : WF g.nodes) (k : Nat) : WF (inputsG g k).nodes := by
  induction k with
  | zero => exact hw
  | succ k ih => exact (inputG_spec ih).1
theorem inputsG_ins {g : Gr} (hw : WF g.nodes) (k : Nat) : ins (inputsG g k).nodes = ins g.nodes ++ (List.range k).map (g.nodes.length + ·) := by
  induction k with
  | zero => simp [inputsG]
  | succ k ih =>
    rw [show inputsG g (k + 1) = (inputG (inputsG g k)).1 from rfl, (inputG_spec (inputsG_wf hw k)).2.2, ih, inputsG_length, List.range_succ, List.map_append, List.append_assoc]
    rfl
def gone (g : Gr) (l : List Nat) : Bool := l.any fun x => decide (g.nodes.length ≤ x / 2)
theorem gone_false {g : Gr} {l : List Nat} : gone g l = false ↔ ∀ x ∈ l, g.ok x := by
  unfold gone Gr.ok
  rw [List.any_eq_false]
  constructor <;> intro h x hx <;> have := h x hx <;> simp at * <;> omega
def addIn (N : Nt) (s : ByteArray) (wd : Int) : Nt × List Nat × Nat :=
  if (!mayB s) || decide (wd < 1) || decide (64 < wd) then (N, [], 1)
  else if (findB N.inb s).isSome then (N, [], 9)
  else ({ N with g := inputsG N.g wd.toNat, inb := N.inb ++ [⟨s, rowFrom N.g.nodes.length wd.toNat⟩] }, rowFrom N.g.nodes.length wd.toNat, 0)
def addReg (N : Nt) (init : Bool) : Nt × Nat := ({ N with g := (inputG N.g).1, regs := N.regs ++ [⟨2 * N.g.nodes.length, 0, 0, init⟩] }, 2 * N.g.nodes.length)
def findR (l : List Rg) (q : Nat) : Option Nat := l.findIdx? fun r => decide (r.q = q)
def putR (l : List Rg) (k d en : Nat) : List Rg := l.modify k fun r => { r with d := d, en := en }
def setReg (N : Nt) (q d en : Nat) : Nt × Nat :=
  match findR N.regs q with
  | none => (N, 1)
  | some k => if gone N.g [d, en] then (N, 1) else ({ N with regs := putR N.regs k d en }, 0)
def addOut (N : Nt) (s : ByteArray) (l : List Nat) : Nt × Nat :=
  if (!mayB s) || decide (l.length < 1) || decide (64 < l.length) || gone N.g l then (N, 1)
  else if (findB N.outb s).isSome then (N, 9)
  else ({ N with outb := N.outb ++ [⟨s, l⟩] }, 0)
/-- a step of the law: what, name, n, a, b, c, literals -/
structure NStp where
  what : Int
  name : ByteArray
  n : Int
  a : Nat
  b : Nat
  c : Nat
  lits : List Nat
def gateN (N : Nt) (two : Gr → Nat → Nat → Gr × Nat) (b c : Nat) : Nt × List Nat × Nat :=
  if gone N.g [b, c] then (N, [0], 1) else ({ N with g := (two N.g b c).1 }, [(two N.g b c).2], 0)
def doesN (N : Nt) (s : NStp) : Nt × List Nat × Nat :=
  if s.what = 0 then addIn N s.name s.n
  else if s.what = 1 then ((addReg N (decide (s.n % 2 ≠ 0))).1, [(addReg N (decide (s.n % 2 ≠ 0))).2], 0)
  else if s.what = 2 then ((setReg N s.a s.b s.c).1, [], (setReg N s.a s.b s.c).2)
  else if s.what = 3 then ((addOut N s.name (s.lits.take 70)).1, [], (addOut N s.name (s.lits.take 70)).2)
  else if s.what = 4 ∨ s.what = 5 ∨ s.what = 6 then gateN N andG s.b s.c
  else if s.what = 7 then gateN N xorG s.b s.c
  else if s.what = 8 then ({ N with g := (inputG N.g).1 }, [2 * N.g.nodes.length], 0)
  else (N, [], 0)
/-- what holds of every netlist that steps make -/
structure NtOk (k : Nat) (N : Nt) : Prop where
  wf : WF N.g.nodes
  len : N.g.nodes.length ≤ 1 + 64 * k
  ik : N.inb.length ≤ k
  rk : N.regs.length ≤ k
  ok : N.outb.length ≤ k
  il : ∀ b ∈ N.inb, 1 ≤ b.lits.length ∧ b.lits.length ≤ 64 ∧ mayB b.name = true ∧ ∀ x ∈ b.lits, N.g.ok x
  ol : ∀ b ∈ N.outb, 1 ≤ b.lits.length ∧ b.lits.length ≤ 64 ∧ mayB b.name = true ∧ ∀ x ∈ b.lits, N.g.ok x
  rl : ∀ r ∈ N.regs, N.g.ok r.q ∧ N.g.ok r.d ∧ N.g.ok r.en
theorem newN_ok (s : ByteArray) (a b : Bool) : NtOk 0 (newN s a b) := by
  refine ⟨⟨rfl, fun i x y h => ?_⟩, by simp [newN], by simp [newN], by simp [newN], by simp [newN], by simp [newN], by simp [newN], by simp [newN]⟩
  cases i with
  | zero => simp [newN] at h; simp [← h]
  | succ i => simp [newN] at h
theorem NtOk.mono {k : Nat} {N : Nt} (h : NtOk k N) : NtOk (k + 1) N :=
  ⟨h.wf, by have := h.len; omega, by have := h.ik; omega, by have := h.rk; omega, by have := h.ok; omega, h.il, h.ol, h.rl⟩
theorem NtOk.graph {k : Nat} {N : Nt} (h : NtOk k N) {g' : Gr} (hw : WF g'.nodes) (hl : N.g.nodes.length ≤ g'.nodes.length) (hl2 : g'.nodes.length ≤ N.g.nodes.length + 64) : NtOk (k + 1) { N with g := g' } := by
  have up : ∀ x, N.g.ok x → g'.ok x := fun x hx => by unfold Gr.ok at *; omega
  refine ⟨hw, by have := h.len; show g'.nodes.length ≤ _; omega, by have := h.ik; show N.inb.length ≤ _; omega, by have := h.rk; show N.regs.length ≤ _; omega, by have := h.ok; show N.outb.length ≤ _; omega, ?_, ?_, ?_⟩
  · exact fun b hb => ⟨(h.il b hb).1, (h.il b hb).2.1, (h.il b hb).2.2.1, fun x hx => up x ((h.il b hb).2.2.2 x hx)⟩
  · exact fun b hb => ⟨(h.ol b hb).1, (h.ol b hb).2.1, (h.ol b hb).2.2.1, fun x hx => up x ((h.ol b hb).2.2.2 x hx)⟩
  · exact fun r hr => ⟨up _ (h.rl r hr).1, up _ (h.rl r hr).2.1, up _ (h.rl r hr).2.2⟩
theorem addIn_ok {k : Nat} {N : Nt} (h : NtOk k N) (s : ByteArray) (wd : Int) : NtOk (k + 1) (addIn N s wd).1 := by
  unfold addIn
  split
  · exact h.mono
  · rename_i hc
    simp only [Bool.or_eq_true, decide_eq_true_eq, not_or, Bool.not_eq_true', Bool.not_eq_false] at hc
    split
    · exact h.mono
    · have hg := h.graph (inputsG_wf h.wf wd.toNat) (by rw [inputsG_length]; omega) (by rw [inputsG_length]; omega)
      refine ⟨hg.wf, hg.len, by have := h.ik; simp; omega, hg.rk, hg.ok, ?_, hg.ol, hg.rl⟩
      intro b hb
      rcases List.mem_append.1 hb with hb | hb
      · exact hg.il b hb
      · rw [List.mem_singleton] at hb
        subst hb
        refine ⟨by simp only [rowFrom_length]; omega, by simp only [rowFrom_length]; omega, hc.1.1, fun x hx => ?_⟩
        simp only [rowFrom, List.mem_map, List.mem_range] at hx
        obtain ⟨i, hi, rfl⟩ := hx
        show 2 * (N.g.nodes.length + i) / 2 < (inputsG N.g wd.toNat).nodes.length
        rw [inputsG_length]; omega
theorem addReg_ok {k : Nat} {N : Nt} (h : NtOk k N) (b : Bool) : NtOk (k + 1) (addReg N b).1 := by
  have hl : (inputG N.g).1.nodes.length = N.g.nodes.length + 1 := by simp [inputG]
  have hg := h.graph (g' := (inputG N.g).1) (inputG_spec h.wf).1 (by omega) (by omega)
  refine ⟨hg.wf, hg.len, hg.ik, by have := h.rk; show (N.regs ++ [_]).length ≤ _; simp; omega, hg.ok, hg.il, hg.ol, ?_⟩
  intro r hr
  rcases List.mem_append.1 hr with hr | hr
  · exact hg.rl r hr
  · rw [List.mem_singleton] at hr
    subst hr
    have := h.wf.pos
    exact ⟨show 2 * N.g.nodes.length / 2 < (inputG N.g).1.nodes.length by omega, show 0 / 2 < (inputG N.g).1.nodes.length by omega, show 0 / 2 < (inputG N.g).1.nodes.length by omega⟩
theorem putR_mem {l : List Rg} {k d en : Nat} {r : Rg} (h : r ∈ putR l k d en) : r ∈ l ∨ ∃ r0 ∈ l, r = { r0 with d := d, en := en } := by
  unfold putR at h
  obtain ⟨i, hi, e⟩ := List.getElem_of_mem h
  rw [List.getElem_modify] at e
  have hi' : i < l.length := by simpa using hi
  split at e
  · exact .inr ⟨l[i], List.getElem_mem hi', e.symm⟩
  · exact .inl (e ▸ List.getElem_mem hi')
theorem setReg_ok {k : Nat} {N : Nt} (h : NtOk k N) (q d en : Nat) : NtOk (k + 1) (setReg N q d en).1 := by
  unfold setReg
  split
  · exact h.mono
  · split
    · exact h.mono
    · rename_i j hj hgone
      have hok := gone_false.1 (by simpa using hgone)
      have hm := h.mono
      refine ⟨hm.wf, hm.len, hm.ik, by have := h.rk; show (putR _ _ _ _).length ≤ _; simp [putR]; omega, hm.ok, hm.il, hm.ol, ?_⟩
      intro r hr
      rcases putR_mem hr with hr | ⟨r0, hr0, rfl⟩
      · exact hm.rl r hr
      · exact ⟨(hm.rl r0 hr0).1, hok d (by simp), hok en (by simp)⟩
theorem addOut_ok {k : Nat} {N : Nt} (h : NtOk k N) (s : ByteArray) (l : List Nat) : NtOk (k + 1) (addOut N s l).1 := by
  unfold addOut
  split
  · exact h.mono
  · rename_i hc
    simp only [Bool.or_eq_true, decide_eq_true_eq, not_or, Bool.not_eq_true', Bool.not_eq_false] at hc
    split
    · exact h.mono
    · have hm := h.mono
      refine ⟨hm.wf, hm.len, hm.ik, hm.rk, by have := h.ok; simp; omega, hm.il, ?_, hm.rl⟩
      intro b hb
      rcases List.mem_append.1 hb with hb | hb
      · exact hm.ol b hb
      · rw [List.mem_singleton] at hb
        subst hb
        exact ⟨by show 1 ≤ l.length; omega, by show l.length ≤ 64; omega, hc.1.1.1, gone_false.1 (by simpa using hc.2)⟩
theorem gateN_ok {k : Nat} {N : Nt} (h : NtOk k N) (two : Gr → Nat → Nat → Gr × Nat) (h2 : ∀ g a b, WF g.nodes → g.ok a → g.ok b → WF (two g a b).1.nodes ∧ Ext 3 g (two g a b).1 ∧ (two g a b).1.ok (two g a b).2) (b c : Nat) : NtOk (k + 1) (gateN N two b c).1 := by
  unfold gateN
  split
  · exact h.mono
  · rename_i hg
    have hok := gone_false.1 (by simpa using hg)
    obtain ⟨h3, h4, _⟩ := h2 N.g b c h.wf (hok b (by simp)) (hok c (by simp))
    exact h.graph h3 h4.le.1 (by have := h4.le.2; omega)
theorem doesN_ok {k : Nat} {N : Nt} (h : NtOk k N) (s : NStp) : NtOk (k + 1) (doesN N s).1 := by
  unfold doesN
  split
  · exact addIn_ok h _ _
  · split
    · exact addReg_ok h _
    · split
      · exact setReg_ok h _ _ _
      · split
        · exact addOut_ok h _ _
        · split
          · exact gateN_ok h _ two_and _ _
          · split
            · exact gateN_ok h _ two_xor _ _
            · split
              · exact h.graph (inputG_spec h.wf).1 (by simp [inputG]) (by simp [inputG])
              · exact h.mono
end Go.Proofs.Ytdmcdhkkbkgnbaa

namespace Go.Proofs.Ytdmcdhkkbkgnbaa
set_option linter.unusedVariables false
variable {N : Nt} {k : Nat}
def drivenN (N : Nt) : List Nat := N.inb.flatMap (·.lits) ++ N.regs.map (·.q)
/-- besides: names differ; what is driven are inputs, each once -/
structure NtFine (k : Nat) (N : Nt) : Prop where
  ok : NtOk k N
  nm : mayB N.name = true
  ni : (N.inb.map (·.name)).Pairwise (· ≠ ·)
  no : (N.outb.map (·.name)).Pairwise (· ≠ ·)
  dn : (drivenN N).Nodup
  di : ∀ x ∈ drivenN N, ∃ i ∈ ins N.g.nodes, x = 2 * i
/-- each input is driven -/
def fullB (N : Nt) : Bool := (ins N.g.nodes).all fun i => (drivenN N).contains (2 * i)
def checkN (N : Nt) : Nat := if fullB N then 0 else 37
theorem newN_fine (s : ByteArray) (a b : Bool) (h : mayB s = true) : NtFine 0 (newN s a b) :=
  ⟨newN_ok s a b, h, by simp [newN], by simp [newN], by simp [drivenN, newN], by simp [drivenN, newN]⟩
theorem findB_none {l : List Bus} {s : ByteArray} (h : findB l s = none) : ∀ b ∈ l, b.name ≠ s := by
  unfold findB at h
  rw [List.findIdx?_eq_none_iff] at h
  intro b hb e
  have := h b hb
  simp [e] at this
theorem names_snoc {l : List Bus} {s : ByteArray} {r : List Nat} (hd : (l.map (·.name)).Pairwise (· ≠ ·)) (hf : findB l s = none) : ((l ++ [(⟨s, r⟩ : Bus)]).map (·.name)).Pairwise (· ≠ ·) := by
  rw [List.map_append, List.pairwise_append]
  refine ⟨hd, by simp, fun a ha b hb => ?_⟩
  simp at hb
  subst hb
  obtain ⟨x, hx, rfl⟩ := List.mem_map.1 ha
  exact findB_none hf x hx
theorem fine_graph {g' : Gr} (h : NtFine k N) (hok : NtOk (k + 1) { N with g := g' }) (hi : ∀ i ∈ ins N.g.nodes, i ∈ ins g'.nodes) : NtFine (k + 1) { N with g := g' } :=
  ⟨hok, h.nm, h.ni, h.no, h.dn, fun x hx => by obtain ⟨i, h1, h2⟩ := h.di x hx; exact ⟨i, hi i h1, h2⟩⟩
theorem NtFine.mono (h : NtFine k N) : NtFine (k + 1) N := ⟨h.ok.mono, h.nm, h.ni, h.no, h.dn, h.di⟩
theorem drivenN_lt (h : NtFine k N) : ∀ x ∈ drivenN N, x < 2 * N.g.nodes.length := fun x hx => by
  obtain ⟨i, h1, rfl⟩ := h.di x hx
  have := ins_lt N.g.nodes i h1
  omega
theorem rowFrom_mem {n k x : Nat} : x ∈ rowFrom n k ↔ ∃ i, i < k ∧ x = 2 * (n + i) := by
  simp only [rowFrom, List.mem_map, List.mem_range]
  constructor <;> rintro ⟨i, h1, h2⟩ <;> exact ⟨i, h1, h2.symm⟩
theorem rowFrom_nodup (n k : Nat) : (rowFrom n k).Nodup := by
  unfold rowFrom
  rw [List.nodup_iff_pairwise_ne, List.pairwise_map]
  exact List.pairwise_lt_range.imp fun h e => by omega
theorem addIn_fine (h : NtFine k N) (s : ByteArray) (wd : Int) : NtFine (k + 1) (addIn N s wd).1 := by
  have hok := addIn_ok h.ok s wd
  unfold addIn at *
  split
  · exact h.mono
  · split
    · exact h.mono
    · rename_i h1 h2
      rw [if_neg h1, if_neg h2] at hok
      have hf : findB N.inb s = none := by simpa using h2
      have hd : drivenN { N with g := inputsG N.g wd.toNat, inb := N.inb ++ [⟨s, rowFrom N.g.nodes.length wd.toNat⟩] } = N.inb.flatMap (·.lits) ++ rowFrom N.g.nodes.length wd.toNat ++ N.regs.map (·.q) := by simp [drivenN]
      have lt := drivenN_lt h
      have hdn := h.dn
      unfold drivenN at hdn lt
      rw [List.nodup_append] at hdn
      refine ⟨hok, h.nm, names_snoc h.ni hf, h.no, ?_, ?_⟩
      · rw [hd, List.nodup_append, List.nodup_append]
        refine ⟨⟨hdn.1, rowFrom_nodup _ _, fun a ha b hb => ?_⟩, hdn.2.1, fun a ha b hb => ?_⟩
        · obtain ⟨i, _, rfl⟩ := rowFrom_mem.1 hb
          have := lt a (List.mem_append_left _ ha)
          omega
        · rcases List.mem_append.1 ha with ha | ha
          · exact hdn.2.2 a ha b hb
          · obtain ⟨i, _, rfl⟩ := rowFrom_mem.1 ha
            have := lt b (List.mem_append_right _ hb)
            omega
      · intro x hx
        rw [hd] at hx
        show ∃ i ∈ ins (inputsG N.g wd.toNat).nodes, x = 2 * i
        rw [inputsG_ins h.ok.wf]
        simp only [List.mem_append] at hx
        rcases hx with (hx | hx) | hx
        · obtain ⟨i, h1, h2⟩ := h.di x (List.mem_append_left _ hx)
          exact ⟨i, List.mem_append_left _ h1, h2⟩
        · obtain ⟨i, h1, h2⟩ := rowFrom_mem.1 hx
          exact ⟨N.g.nodes.length + i, List.mem_append_right _ (List.mem_map.2 ⟨i, List.mem_range.2 h1, rfl⟩), h2⟩
        · obtain ⟨i, h1, h2⟩ := h.di x (List.mem_append_right _ hx)
          exact ⟨i, List.mem_append_left _ h1, h2⟩
theorem addReg_fine (h : NtFine k N) (b : Bool) : NtFine (k + 1) (addReg N b).1 := by
  have hd : drivenN (addReg N b).1 = drivenN N ++ [2 * N.g.nodes.length] := by simp [drivenN, addReg]
  have lt := drivenN_lt h
  refine ⟨addReg_ok h.ok b, h.nm, h.ni, h.no, ?_, ?_⟩
  · rw [hd, List.nodup_append]
    refine ⟨h.dn, by simp, fun a ha c hc => ?_⟩
    simp at hc
    have := lt a ha
    omega
  · intro x hx
    rw [hd] at hx
    show ∃ i ∈ ins (inputG N.g).1.nodes, x = 2 * i
    rw [(inputG_spec h.ok.wf).2.2]
    rcases List.mem_append.1 hx with hx | hx
    · obtain ⟨i, h1, h2⟩ := h.di x hx
      exact ⟨i, List.mem_append_left _ h1, h2⟩
    · simp at hx
      exact ⟨N.g.nodes.length, by simp, hx⟩
theorem putR_q (l : List Rg) (k d en : Nat) : (putR l k d en).map (·.q) = l.map (·.q) := by
  unfold putR
  apply List.ext_getElem (by simp)
  intro i h1 h2
  simp only [List.getElem_map, List.getElem_modify]
  split <;> rfl
theorem setReg_fine (h : NtFine k N) (q d en : Nat) : NtFine (k + 1) (setReg N q d en).1 := by
  have hok := setReg_ok h.ok q d en
  unfold setReg at *
  split
  · exact h.mono
  · rename_i j hj
    rw [hj] at hok
    simp only at hok
    split
    · exact h.mono
    · rename_i hg
      rw [if_neg hg] at hok
      have hd : drivenN { N with regs := putR N.regs j d en } = drivenN N := by simp [drivenN, putR_q]
      exact ⟨hok, h.nm, h.ni, h.no, by rw [hd]; exact h.dn, fun x hx => by rw [hd] at hx; exact h.di x hx⟩
theorem addOut_fine (h : NtFine k N) (s : ByteArray) (l : List Nat) : NtFine (k + 1) (addOut N s l).1 := by
  have hok := addOut_ok h.ok s l
  unfold addOut at *
  split
  · exact h.mono
  · split
    · exact h.mono
    · rename_i h1 h2
      rw [if_neg h1, if_neg h2] at hok
      exact ⟨hok, h.nm, h.ni, names_snoc h.no (by simpa using h2), h.dn, h.di⟩
theorem gateN_fine (h : NtFine k N) (two : Gr → Nat → Nat → Gr × Nat) (h2 : ∀ g a b, WF g.nodes → g.ok a → g.ok b → WF (two g a b).1.nodes ∧ Ext 3 g (two g a b).1 ∧ (two g a b).1.ok (two g a b).2) (b c : Nat) : NtFine (k + 1) (gateN N two b c).1 := by
  have hok := gateN_ok h.ok two h2 b c
  unfold gateN at *
  split
  · exact h.mono
  · rename_i hg
    rw [if_neg hg] at hok
    have hl := gone_false.1 (by simpa using hg)
    have he := (h2 N.g b c h.ok.wf (hl b (by simp)) (hl c (by simp))).2.1.ins
    exact fine_graph h hok (fun i hi => by rw [he]; exact hi)
theorem doesN_fine (h : NtFine k N) (s : NStp) : NtFine (k + 1) (doesN N s).1 := by
  have hok := doesN_ok h.ok s
  unfold doesN at *
  split
  · exact addIn_fine h _ _
  · split
    · exact addReg_fine h _
    · split
      · exact setReg_fine h _ _ _
      · split
        · exact addOut_fine h _ _
        · split
          · exact gateN_fine h _ two_and _ _
          · split
            · exact gateN_fine h _ two_xor _ _
            · split
              · rename_i h0 h1 h2 h3 h4 h5 h6
                rw [if_neg h0, if_neg h1, if_neg h2, if_neg h3, if_neg h4, if_neg h5, if_pos h6] at hok
                exact fine_graph h hok (fun i hi => by rw [(inputG_spec h.ok.wf).2.2]; exact List.mem_append_left _ hi)
              · exact h.mono
/-- a step but an input of the graph itself keeps all inputs driven -/
theorem full_new (s : ByteArray) (a b : Bool) : fullB (newN s a b) = true := by simp [fullB, newN, ins, insFrom, inAt]
end Go.Proofs.Ytdmcdhkkbkgnbaa
