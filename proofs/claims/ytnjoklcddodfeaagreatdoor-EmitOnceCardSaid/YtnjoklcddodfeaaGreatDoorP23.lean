/-
  A map of the call's own with its count; ranging over it.
  Law 06's arguments, opened: rows of steps.
  Opening a law's argument: a graph's options.
  Package net, plain: netlists whose inputs are driven once at most; what Check says of them.
-/
import Derived.Test.YtnjoklcddodfeaaGreatDoorP03
import Derived.Test.YtnjoklcddodfeaaGreatDoorP16
import Derived.Maps.RangeWalk
namespace Go.Proofs.YtnjoklcddodfeaaGreatDoor
set_option linter.unusedVariables false
variable {N : Nt} {k : Nat}
def drivenN (N : Nt) : List Nat := N.inb.flatMap (·.lits) ++ N.regs.map (·.q)
/-- besides: names differ; what is driven are inputs, each once -/
structure NtFine (k : Nat) (N : Nt) : Prop where
  ok : NtOk k N
  nm : mayB N.name = true
  ni : (N.inb.map (·.name)).Pairwise (· ≠ ·)
  no : (N.outb.map (·.name)).Pairwise (· ≠ ·)
  dn : (drivenN N).Nodup
  di : ∀ x ∈ drivenN N, ∃ i ∈ ins N.g.nodes, x = 2 * i
/-- each input is driven -/
def fullB (N : Nt) : Bool := (ins N.g.nodes).all fun i => (drivenN N).contains (2 * i)
def checkN (N : Nt) : Nat := if fullB N then 0 else 37
theorem newN_fine (s : ByteArray) (a b : Bool) (h : mayB s = true) : NtFine 0 (newN s a b) :=
  ⟨newN_ok s a b, h, by simp [newN], by simp [newN], by simp [drivenN, newN], by simp [drivenN, newN]⟩
theorem findB_none {l : List Bus} {s : ByteArray} (h : findB l s = none) : ∀ b ∈ l, b.name ≠ s := by
  unfold findB at h
  rw [List.findIdx?_eq_none_iff] at h
  intro b hb e
  have := h b hb
  simp [e] at this
theorem names_snoc {l : List Bus} {s : ByteArray} {r : List Nat} (hd : (l.map (·.name)).Pairwise (· ≠ ·)) (hf : findB l s = none) : ((l ++ [(⟨s, r⟩ : Bus)]).map (·.name)).Pairwise (· ≠ ·) := by
  rw [List.map_append, List.pairwise_append]
  refine ⟨hd, by simp, fun a ha b hb => ?_⟩
  simp at hb
  subst hb
  obtain ⟨x, hx, rfl⟩ := List.mem_map.1 ha
  exact findB_none hf x hx
theorem fine_graph {g' : Gr} (h : NtFine k N) (hok : NtOk (k + 1) { N with g := g' }) (hi : ∀ i ∈ ins N.g.nodes, i ∈ ins g'.nodes) : NtFine (k + 1) { N with g := g' } :=
  ⟨hok, h.nm, h.ni, h.no, h.dn, fun x hx => by obtain ⟨i, h1, h2⟩ := h.di x hx; exact ⟨i, hi i h1, h2⟩⟩
theorem NtFine.mono (h : NtFine k N) : NtFine (k + 1) N := ⟨h.ok.mono, h.nm, h.ni, h.no, h.dn, h.di⟩
theorem drivenN_lt (h : NtFine k N) : ∀ x ∈ drivenN N, x < 2 * N.g.nodes.length := fun x hx => by
  obtain ⟨i, h1, rfl⟩ := h.di x hx
  have := ins_lt N.g.nodes i h1
  omega
theorem rowFrom_mem {n k x : Nat} : x ∈ rowFrom n k ↔ ∃ i, i < k ∧ x = 2 * (n + i) := by
  simp only [rowFrom, List.mem_map, List.mem_range]
  constructor <;> rintro ⟨i, h1, h2⟩ <;> exact ⟨i, h1, h2.symm⟩
theorem rowFrom_nodup (n k : Nat) : (rowFrom n k).Nodup := by
  unfold rowFrom
  rw [List.nodup_iff_pairwise_ne, List.pairwise_map]
  exact List.pairwise_lt_range.imp fun h e => by omega
theorem addIn_fine (h : NtFine k N) (s : ByteArray) (wd : Int) : NtFine (k + 1) (addIn N s wd).1 := by
  have hok := addIn_ok h.ok s wd
  unfold addIn at *
  split
  · exact h.mono
  · split
    · exact h.mono
    · rename_i h1 h2
      rw [if_neg h1, if_neg h2] at hok
      have hf : findB N.inb s = none := by simpa using h2
      have hd : drivenN { N with g := inputsG N.g wd.toNat, inb := N.inb ++ [⟨s, rowFrom N.g.nodes.length wd.toNat⟩] } = N.inb.flatMap (·.lits) ++ rowFrom N.g.nodes.length wd.toNat ++ N.regs.map (·.q) := by simp [drivenN]
      have lt := drivenN_lt h
      have hdn := h.dn
      unfold drivenN at hdn lt
      rw [List.nodup_append] at hdn
      refine ⟨hok, h.nm, names_snoc h.ni hf, h.no, ?_, ?_⟩
      · rw [hd, List.nodup_append, List.nodup_append]
        refine ⟨⟨hdn.1, rowFrom_nodup _ _, fun a ha b hb => ?_⟩, hdn.2.1, fun a ha b hb => ?_⟩
        · obtain ⟨i, _, rfl⟩ := rowFrom_mem.1 hb
          have := lt a (List.mem_append_left _ ha)
          omega
        · rcases List.mem_append.1 ha with ha | ha
          · exact hdn.2.2 a ha b hb
          · obtain ⟨i, _, rfl⟩ := rowFrom_mem.1 ha
            have := lt b (List.mem_append_right _ hb)
            omega
      · intro x hx
        rw [hd] at hx
        show ∃ i ∈ ins (inputsG N.g wd.toNat).nodes, x = 2 * i
        rw [inputsG_ins h.ok.wf]
        simp only [List.mem_append] at hx
        rcases hx with (hx | hx) | hx
        · obtain ⟨i, h1, h2⟩ := h.di x (List.mem_append_left _ hx)
          exact ⟨i, List.mem_append_left _ h1, h2⟩
        · obtain ⟨i, h1, h2⟩ := rowFrom_mem.1 hx
          exact ⟨N.g.nodes.length + i, List.mem_append_right _ (List.mem_map.2 ⟨i, List.mem_range.2 h1, rfl⟩), h2⟩
        · obtain ⟨i, h1, h2⟩ := h.di x (List.mem_append_right _ hx)
          exact ⟨i, List.mem_append_left _ h1, h2⟩
theorem addReg_fine (h : NtFine k N) (b : Bool) : NtFine (k + 1) (addReg N b).1 := by
  have hd : drivenN (addReg N b).1 = drivenN N ++ [2 * N.g.nodes.length] := by simp [drivenN, addReg]
  have lt := drivenN_lt h
  refine ⟨addReg_ok h.ok b, h.nm, h.ni, h.no, ?_, ?_⟩
  · rw [hd, List.nodup_append]
    refine ⟨h.dn, by simp, fun a ha c hc => ?_⟩
    simp at hc
    have := lt a ha
    omega
  · intro x hx
    rw [hd] at hx
    show ∃ i ∈ ins (inputG N.g).1.nodes, x = 2 * i
    rw [(inputG_spec h.ok.wf).2.2]
    rcases List.mem_append.1 hx with hx | hx
    · obtain ⟨i, h1, h2⟩ := h.di x hx
      exact ⟨i, List.mem_append_left _ h1, h2⟩
    · simp at hx
      exact ⟨N.g.nodes.length, by simp, hx⟩
theorem putR_q (l : List Rg) (k d en : Nat) : (putR l k d en).map (·.q) = l.map (·.q) := by
  unfold putR
  apply List.ext_getElem (by simp)
  intro i h1 h2
  simp only [List.getElem_map, List.getElem_modify]
  split <;> rfl
theorem setReg_fine (h : NtFine k N) (q d en : Nat) : NtFine (k + 1) (setReg N q d en).1 := by
  have hok := setReg_ok h.ok q d en
  unfold setReg at *
  split
  · exact h.mono
  · rename_i j hj
    rw [hj] at hok
    simp only at hok
    split
    · exact h.mono
    · rename_i hg
      rw [if_neg hg] at hok
      have hd : drivenN { N with regs := putR N.regs j d en } = drivenN N := by simp [drivenN, putR_q]
      exact ⟨hok, h.nm, h.ni, h.no, by rw [hd]; exact h.dn, fun x hx => by rw [hd] at hx; exact h.di x hx⟩
theorem addOut_fine (h : NtFine k N) (s : ByteArray) (l : List Nat) : NtFine (k + 1) (addOut N s l).1 := by
  have hok := addOut_ok h.ok s l
  unfold addOut at *
  split
  · exact h.mono
  · split
    · exact h.mono
    · rename_i h1 h2
      rw [if_neg h1, if_neg h2] at hok
      exact ⟨hok, h.nm, h.ni, names_snoc h.no (by simpa using h2), h.dn, h.di⟩
theorem gateN_fine (h : NtFine k N) (two : Gr → Nat → Nat → Gr × Nat) (h2 : ∀ g a b, WF g.nodes → g.ok a → g.ok b → WF (two g a b).1.nodes ∧ Ext 3 g (two g a b).1 ∧ (two g a b).1.ok (two g a b).2) (b c : Nat) : NtFine (k + 1) (gateN N two b c).1 := by
  have hok := gateN_ok h.ok two h2 b c
  unfold gateN at *
  split
  · exact h.mono
  · rename_i hg
    rw [if_neg hg] at hok
    have hl := gone_false.1 (by simpa using hg)
    have he := (h2 N.g b c h.ok.wf (hl b (by simp)) (hl c (by simp))).2.1.ins
    exact fine_graph h hok (fun i hi => by rw [he]; exact hi)
theorem doesN_fine (h : NtFine k N) (s : NStp) : NtFine (k + 1) (doesN N s).1 := by
  have hok := doesN_ok h.ok s
  unfold doesN at *
  split
  · exact addIn_fine h _ _
  · split
    · exact addReg_fine h _
    · split
      · exact setReg_fine h _ _ _
      · split
        · exact addOut_fine h _ _
        · split
          · exact gateN_fine h _ two_and _ _
          · split
            · exact gateN_fine h _ two_xor _ _
            · split
              · rename_i h0 h1 h2 h3 h4 h5 h6
                rw [if_neg h0, if_neg h1, if_neg h2, if_neg h3, if_neg h4, if_neg h5, if_pos h6] at hok
                exact fine_graph h hok (fun i hi => by rw [(inputG_spec h.ok.wf).2.2]; exact List.mem_append_left _ hi)
              · exact h.mono
/-- a step but an input of the graph itself keeps all inputs driven -/
theorem full_new (s : ByteArray) (a b : Bool) : fullB (newN s a b) = true := by simp [fullB, newN, ins, insFrom, inAt]
end Go.Proofs.YtnjoklcddodfeaaGreatDoor

namespace Go.Proofs.YtnjoklcddodfeaaGreatDoor
open Go.ChangeShapes Go.WideShapes Go.ChangeAt Go.RowKit Go.Deep Go.Joins
set_option linter.unusedVariables false

section
variable {H : Type} {enc : TypeId × Value → H} {W : World} {base : Nat} {v : Value} {d : DataW H} {ps : List MemPlace}
set_option maxRecDepth 100000 in
theorem open_opts (hv : Value.okWide Tryz.prog W .any base 23 v) (h : DataW.Trod enc Tryz.prog W 0 (fun _ => true) true 23 v d ps) (hz : Sized Tryz.prog 23 d) : ∃ a b : Bool, v = .agg #[.bool a, .bool b] :=
  open_bools2 Tryz.underlying23 (by kernel_rfl) (by kernel_rfl) Tryz.underlying4 Tryz.underlying4 hv h
end
end Go.Proofs.YtnjoklcddodfeaaGreatDoor

namespace Go.Proofs.YtnjoklcddodfeaaGreatDoor
open Go.ChangeShapes Go.WideShapes Go.ChangeAt Go.RowKit Go.Deep Go.Joins
set_option linter.unusedVariables false

/-- the cells of a step -/
def StepCells (W : World) (b o : Nat) (s : NStp) (la : Option Addr) (lc : Nat) : Prop :=
  W.cell? ⟨b, o, none⟩ = some (.int .i64 s.what) ∧ W.cell? ⟨b, o + 1, none⟩ = some (.string s.name) ∧ W.cell? ⟨b, o + 2, none⟩ = some (.int .i64 s.n) ∧ W.cell? ⟨b, o + 3, none⟩ = some (.int .u32 (s.a : Int)) ∧
  W.cell? ⟨b, o + 4, none⟩ = some (.int .u32 (s.b : Int)) ∧ W.cell? ⟨b, o + 5, none⟩ = some (.int .u32 (s.c : Int)) ∧ W.cell? ⟨b, o + 6, none⟩ = some (.slice la s.lits.length lc)
/-- steps where they lie -/
def SlNSteps (W : World) (a : Option Addr) (l : List NStp) : Prop :=
  ∀ k, (hk : k < l.length) → ∃ b o, a = some ⟨b, o, none⟩ ∧ ∃ la lc, StepCells W b (o + k * 7) l[k] la lc ∧ SlN W .u32 la l[k].lits
theorem SlNSteps.kept0 {W W' : World} {a : Option Addr} {l : List NStp} (h : SlNSteps W a l) (hk : Kept [] W W') : SlNSteps W' a l := by
  intro k hkl
  obtain ⟨b, o, h1, la, lc, ⟨c0, c1, c2, c3, c4, c5, c6⟩, h3⟩ := h k hkl
  exact ⟨b, o, h1, la, lc, ⟨hk.cell c0 (by simp), hk.cell c1 (by simp), hk.cell c2 (by simp), hk.cell c3 (by simp), hk.cell c4 (by simp), hk.cell c5 (by simp), hk.cell c6 (by simp)⟩, h3.kept0 hk⟩
section
variable {H : Type} {enc : TypeId × Value → H} {W : World} {base : Nat} {v : Value} {d : DataW H} {ps : List MemPlace}
set_option maxRecDepth 100000 in
theorem open_nsteps (hv : Value.okWide Tryz.prog W .any base 24 v) (h : DataW.Trod enc Tryz.prog W 0 (fun _ => true) true 24 v d ps) (hz : Sized Tryz.prog 24 d) :
    ∃ (a : Option Addr) (l : List NStp) (c : Nat), v = .slice a l.length c ∧ l.length ≤ 140737488351232 ∧ SlNSteps W a l ∧ ∀ s ∈ l, s.ok := by
  obtain ⟨a0, len0, cap0, rfl⟩ := okWide_slice Tryz.underlying24 hv
  obtain ⟨fuel, hf⟩ := h
  obtain ⟨a, len, cap, hvv, hlc, hcb, hnil, hat⟩ := open_recs (v := .slice a0 len0 cap0) Tryz.underlying24 Tryz.underlying86 (by kernel_rfl) (by kernel_rfl) hf hz
  injection hvv with h1 h2 h3
  subst h1 h2 h3
  have hb : Tryz.prog.bytesOf 86 = 72 := by kernel_rfl
  rw [hb] at hcb
  obtain ⟨acts, hl, hacts⟩ := choose_list (n := len0) (p := fun k (x : NStp) => (∃ b o, a0 = some ⟨b, o, none⟩ ∧ ∃ la lc, StepCells W b (o + k * 7) x la lc ∧ SlN W .u32 la x.lits) ∧ x.ok) fun i hi => by
    have h00 := hat 0 (by omega)
    obtain ⟨ad, m, rfl, hfields⟩ := hat i hi
    obtain ⟨u0, z0, hc0, ht0, _⟩ := hfields 0 _ rfl
    obtain ⟨u1, z1, hc1, ht1, hz1⟩ := hfields 1 _ rfl
    obtain ⟨u2, z2, hc2, ht2, _⟩ := hfields 2 _ rfl
    obtain ⟨u3, z3, hc3, ht3, _⟩ := hfields 3 _ rfl
    obtain ⟨u4, z4, hc4, ht4, _⟩ := hfields 4 _ rfl
    obtain ⟨u5, z5, hc5, ht5, _⟩ := hfields 5 _ rfl
    obtain ⟨u6, z6, hc6, ht6, hz6⟩ := hfields 6 _ rfl
    obtain ⟨x0, e0, _, f0⟩ := DataW.trod_int Tryz.underlying3 ht0
    obtain ⟨x1, e1, d1, f1⟩ := DataW.trod_string Tryz.underlying9 ht1
    obtain ⟨x2, e2, _, f2⟩ := DataW.trod_int Tryz.underlying3 ht2
    obtain ⟨x3, e3, _, f3⟩ := DataW.trod_int Tryz.underlying38 ht3
    obtain ⟨x4, e4, _, f4⟩ := DataW.trod_int Tryz.underlying38 ht4
    obtain ⟨x5, e5, _, f5⟩ := DataW.trod_int Tryz.underlying38 ht5
    simp at e0 e1 e2 e3 e4 e5
    subst e0 e1 e2 e3 e4 e5
    obtain ⟨x3, rfl, y3⟩ := wf_nat (m := 4294967296) rfl rfl f3
    obtain ⟨x4, rfl, y4⟩ := wf_nat (m := 4294967296) rfl rfl f4
    obtain ⟨x5, rfl, y5⟩ := wf_nat (m := 4294967296) rfl rfl f5
    have fx : -9223372036854775808 ≤ x2 ∧ x2 ≤ 9223372036854775807 := by
      simp [Lit.wf, IntKind.min, IntKind.max, IntKind.signed, IntKind.bits] at f2
      omega
    have hs1 : x1.size ≤ 140737488351232 := by
      have h := hz1 x1.size (by rw [d1]; simp [DataW.weights])
      simpa [reachBytes] using h
    obtain ⟨al, cl, l, rfl, hlcl, hsl, hlm, hnl, hclb⟩ := open_natsT (m := 4294967296) (bytes := 4) Tryz.underlying84 Tryz.underlying38 (by kernel_rfl) (by kernel_rfl) rfl rfl ht6 hz6
    obtain ⟨ad2, m2, e2, hf2⟩ := h00
    injection e2 with e2
    subst e2
    obtain ⟨u7, z7, hc7, _, _⟩ := hf2 0 _ rfl
    obtain ⟨b, o, rfl⟩ := plain_spot (by simpa using hc7)
    rw [add_at] at hc0 hc1 hc2 hc3 hc4 hc5 hc6
    exact ⟨⟨x0, x1, x2, x3, x4, x5, l⟩, ⟨b, o, rfl, al, cl, ⟨hc0, hc1, hc2, hc3, hc4, hc5, hc6⟩, hsl⟩, ⟨hs1, fx.1, fx.2, y3, y4, y5, hlm, by show l.length ≤ _; omega⟩⟩
  refine ⟨a0, acts, cap0, by rw [hl], by omega, fun k hk => (hacts k hk).1, fun s hs => ?_⟩
  obtain ⟨k, hk, rfl⟩ := List.getElem_of_mem hs
  exact (hacts k hk).2
end
end Go.Proofs.YtnjoklcddodfeaaGreatDoor

namespace Go.Proofs.YtnjoklcddodfeaaGreatDoor
open Go.ChangeShapes Go.WideShapes Go.ChangeAt Go.RowKit
open Go.Maps (Keyed)
set_option linter.unusedVariables false

/-- Block m is a map that reads as f and has c entries, their stamps below the clock. -/
structure MapG (w : World) (P : Program) (k : TypeId) (m : Nat) (f : Value → Option Value) (c : Nat) : Prop where
  v : MapV w P k m f
  more : ∃ es clock, w.heap[m]? = some (.map es clock) ∧ (∀ e ∈ es.toList, e.born < clock) ∧ (es.toList.map (·.born)).Nodup ∧ es.size = c
variable {P : Program} {k : TypeId} {w w' : World} {m c : Nat} {f : Value → Option Value}
theorem MapG.kept {F : List Nat} (h : MapG w P k m f c) (hk : Kept F w w') (hn : m ∉ F) : MapG w' P k m f c := by
  obtain ⟨es, clock, hb, h2⟩ := h.more
  exact ⟨h.v.kept hk hn, es, clock, hk.heap hb hn, h2⟩
theorem MapG.new (w : World) (P : Program) (k : TypeId) : MapG (w.alloc (.map #[] 0)) P k w.heap.size (fun _ => none) 0 :=
  ⟨MapV.new w P k, #[], 0, heap_alloc_new w _, by simp, by simp, rfl⟩
theorem MapG.lt (h : MapG w P k m f c) : m < w.heap.size := h.v.lt
theorem MapG.update (h : MapG w P k m f c) (K : Keyed P k) {t e : TypeId} (ht : P.underlying t = some (.map k e)) {key val : Value} {kl : Lit} (hkey : keyOf P k key = some kl) :
    ∃ w', (Instr.mapUpdate t (.map (some m)) key val).run P w = .ok () w' ∧ MapG w' P k m (upd f key val) (if (f key).isSome then c else c + 1) ∧ Kept [m] w w' := by
  obtain ⟨w', hrun, hv, hk⟩ := h.v.update K ht (val := val) hkey
  refine ⟨w', hrun, ⟨hv, ?_⟩, hk⟩
  have hlt := h.lt
  obtain ⟨es0, clock0, hb0, hks, hun, hf⟩ := h.v
  obtain ⟨es, clock, hb, h1, h2, h3⟩ := h.more
  rw [hb] at hb0
  injection hb0 with hb0
  injection hb0 with e1 e2
  subst e1 e2
  rcases K.find w hkey es.toList hks with ⟨g1, g2⟩ | ⟨j, e0, g1, g2, g3⟩
  · have hn : f key = none := by
      cases hfk : f key with
      | none => rfl
      | some v =>
        obtain ⟨e, he, hke, _⟩ := (hf key v).1 hfk
        exact absurd hke (g2 e he)
    have hrun2 : (Instr.mapUpdate t (.map (some m)) key val).run P w = .ok () (ChangeMaps.setBlock w m (.map (es.push ⟨key, val, clock⟩) (clock + 1))) := by
      simp [Instr.mapUpdate, run_underlying ht, MapKept.run_getObj_map hb, K.check w false hkey, g1, MapKept.run_setObj_map _ hb, Result.andThen, ChangeMaps.setBlock]
    rw [hrun] at hrun2
    injection hrun2 with _ hw
    subst hw
    rw [hn]
    refine ⟨_, _, setBlock_same _ _ _ hlt, ?_, ?_, by simp [h3]⟩
    · intro x hx
      simp only [Array.toList_push, List.mem_append, List.mem_singleton] at hx
      rcases hx with hx | rfl
      · have := h1 x hx; omega
      · show clock < clock + 1; omega
    · rw [Array.toList_push, List.map_append, List.nodup_append]
      refine ⟨h2, by simp, fun a ha b hb => ?_⟩
      simp at hb
      obtain ⟨x, hx, rfl⟩ := List.mem_map.1 ha
      have := h1 x hx
      omega
  · have hn : f key = some e0.val := (hf key _).2 ⟨e0, List.mem_of_getElem? g2, g3, rfl⟩
    have hj : es[j]? = some e0 := by simpa using g2
    have hrun2 : (Instr.mapUpdate t (.map (some m)) key val).run P w = .ok () (ChangeMaps.setBlock w m (.map (es.modify j (fun e' => { e' with key := key, val := val })) clock)) := by
      simp [Instr.mapUpdate, run_underlying ht, MapKept.run_getObj_map hb, K.check w false hkey, g1, hj, g3, K.stays w hkey, MapKept.run_setObj_map _ hb, Result.andThen, ChangeMaps.setBlock]
    rw [hrun] at hrun2
    injection hrun2 with _ hw
    subst hw
    rw [hn]
    have hborn : ((es.modify j (fun e' => { e' with key := key, val := val })).toList.map (·.born)) = es.toList.map (·.born) := by
      rw [Array.toList_modify, modify_set _ _ _ _ g2, List.map_set]
      exact set_same _ _ _ (by rw [List.getElem?_map, g2]; rfl)
    refine ⟨_, _, setBlock_same _ _ _ hlt, ?_, by rw [hborn]; exact h2, by simp [h3]⟩
    intro x hx
    have : x.born ∈ es.toList.map (·.born) := by rw [← hborn]; exact List.mem_map_of_mem hx
    obtain ⟨y, hy, e⟩ := List.mem_map.1 this
    rw [← e]; exact h1 y hy
theorem MapG.len {t e : TypeId} (h : MapG w P k m f c) (ht : P.underlying t = some (.map k e)) (ty : TypeId) : (Builtin.len_ #[t] ty #[.map (some m)]).run P w = .ok (.int .i64 c) w := by
  obtain ⟨es, clock, hb, _, _, h3⟩ := h.more
  subst h3
  simp [Builtin.len_, run_underlying ht, MapKept.run_getObj_map hb, goInt, Result.andThen]
/-- block r goes through map m; so many of its entries are still to come at most; those of the keys 'todo' are -/
def RangeG (w : World) (P : Program) (k : TypeId) (m : Nat) (f : Value → Option Value) (c r left : Nat) (todo : Value → Prop) : Prop :=
  MapG w P k m f c ∧ r ≠ m ∧ ∃ es clock since c0 seen, w.heap[m]? = some (.map es clock) ∧ w.heap[r]? = some (.mapIter (some m) since seen c0) ∧ (∀ x ∈ es.toList, x.born < since) ∧ since ≤ c0 ∧ since ≤ clock ∧ (leftOf es seen).size ≤ left ∧ ∀ x ∈ es.toList, todo x.key → x.born ∉ seen
theorem RangeG.kept {F : List Nat} {r left : Nat} {todo : Value → Prop} (h : RangeG w P k m f c r left todo) (hk : Kept F w w') (h1 : m ∉ F) (h2 : r ∉ F) : RangeG w' P k m f c r left todo := by
  obtain ⟨hg, hne, es, clock, since, c0, seen, hb, hr, rest⟩ := h
  exact ⟨hg.kept hk h1, hne, es, clock, since, c0, seen, hk.heap hb h1, hk.heap hr h2, rest⟩
theorem leftOf_push {es : Array MapEntry} {seen : Array Nat} {e : MapEntry} (he : e ∈ (leftOf es seen).toList) : (leftOf es (seen.push e.born)).size < (leftOf es seen).size := by
  unfold leftOf at *
  have e1 : (es.filter fun x => !(seen.push e.born).contains x.born) = (es.filter fun x => !seen.contains x.born).filter fun x => !(x.born == e.born) := by
    rw [Array.filter_filter]
    congr 1
    funext x
    simp only [Array.contains_eq_mem, Array.mem_push, Bool.decide_or]
    by_cases h1 : x.born ∈ seen <;> by_cases h2 : x.born = e.born <;> simp [h1, h2]
  rw [e1]
  generalize es.filter (fun x => !seen.contains x.born) = L at *
  have h := Array.size_filter_lt_size_iff_exists (p := fun x : MapEntry => !(x.born == e.born)) (xs := L)
  rw [h]
  exact ⟨e, by simpa using he, by simp⟩
theorem MapG.range (h : MapG w P k m f c) {t e : TypeId} (ht : P.underlying t = some (.map k e)) :
    ∃ w', (Instr.range t (.map (some m))).run P w = .ok (.pointer (some ⟨w.heap.size, 0, none⟩)) w' ∧ RangeG w' P k m f c w.heap.size c (fun _ => True) ∧ Kept [] w w' := by
  have hlt := h.lt
  obtain ⟨es, clock, hb, h1, h2, h3⟩ := h.more
  refine ⟨w.alloc (.mapIter (some m) clock #[] clock), run_range_map w t k e m es clock ht hb, ⟨h.kept ((Kept.refl [] w).alloc _) (by simp), by omega, es, clock, clock, clock, #[], ?_, heap_alloc_new w _, h1, Nat.le_refl _, Nat.le_refl _, ?_, by simp⟩, (Kept.refl [] w).alloc _⟩
  · exact ((Kept.refl [] w).alloc _).heap hb (by simp)
  · unfold leftOf; rw [← h3]; exact Array.size_filter_le
theorem born_same {es : List MapEntry} (hn : (es.map (·.born)).Nodup) {a b : MapEntry} (ha : a ∈ es) (hb : b ∈ es) (h : a.born = b.born) : a = b := by
  have h1 := find_born a es hn ha
  have h2 := find_born b es hn hb
  rw [h] at h1
  rw [h1] at h2
  injection h2
theorem RangeG.next {r left : Nat} {todo : Value → Prop} (h : RangeG w P k m f c r left todo) (ty : TypeId) :
    ((∀ key v, f key = some v → ¬ todo key) ∧ (Instr.next (.pointer (some ⟨r, 0, none⟩)) false ty).run P w = .ok (.tuple #[.bool false]) w) ∨
    ∃ key v w' left', f key = some v ∧ (Instr.next (.pointer (some ⟨r, 0, none⟩)) false ty).run P w = .ok (.tuple #[.bool true, key, v]) w' ∧ RangeG w' P k m f c r left' (fun x => todo x ∧ x ≠ key) ∧ left' < left ∧ Kept [r] w w' ∧ (Instr.entry (.pointer (some ⟨r, 0, none⟩))).run P w' = .ok (.tuple #[key, v]) w' := by
  obtain ⟨hg, hne, es, clock, since, c0, seen, hb, hr, hold, hsc, hcl, hsz, htd⟩ := h
  obtain ⟨es0, clock0, hb0, h1, h2, h3⟩ := hg.more
  rw [hb] at hb0; injection hb0 with hb0; injection hb0 with e1 e2; subst e1 e2
  obtain ⟨es1, clock1, hb1, hks, hun, hf⟩ := hg.v
  rw [hb] at hb1; injection hb1 with hb1; injection hb1 with e1 e2; subst e1 e2
  rcases run_next_at (P := P) w ty r m since c0 seen es clock hr hb hold hsc with ⟨h0, hrun⟩ | ⟨e, he, w1, hw1, hrun⟩
  · refine .inl ⟨fun key v hkv ht => ?_, hrun⟩
    obtain ⟨e, he, rfl, rfl⟩ := (hf _ _).1 hkv
    have hns := htd e he ht
    have : e ∈ (leftOf es seen).toList := by
      unfold leftOf
      simp at he ⊢
      exact ⟨he, hns⟩
    rw [Array.eq_empty_of_size_eq_zero h0] at this
    simp at this
  · have hem : e ∈ es.toList := by
      unfold leftOf at he
      simp at he ⊢
      exact he.1
    have hk1 : Kept [r] w w1 := by
      rcases hw1 with rfl | rfl
      · exact Kept.refl _ _
      · exact (Kept.refl _ _).drew
    have hk2 : Kept [r] w1 (ChangeMaps.setBlock w1 r (.mapIter (some m) since (seen.push e.born) clock)) := setBlock_kept _ _ _
    have hk := hk1.trans hk2
    have hnm : m ∉ [r] := by simp; exact fun h => hne h.symm
    have hb' := hk.heap hb hnm
    have hrl : r < w1.heap.size := by
      have := (Array.getElem?_eq_some_iff.1 hr).1
      have := hk1.size
      omega
    have hr' : (ChangeMaps.setBlock w1 r (.mapIter (some m) since (seen.push e.born) clock)).heap[r]? = some (.mapIter (some m) since (seen.push e.born) clock) := setBlock_same _ _ _ hrl
    have hlt := leftOf_push he
    refine .inr ⟨e.key, e.val, _, (leftOf es (seen.push e.born)).size, (hf _ _).2 ⟨e, hem, rfl, rfl⟩, hrun, ⟨hg.kept hk hnm, hne, es, clock, since, clock, _, hb', hr', hold, hcl, hcl, Nat.le_refl _, fun x hx ht => ?_⟩, by omega, hk, run_entry_at _ r m since seen es clock e hr' hb' hem h2⟩
    rw [Array.mem_push]
    rintro (h | h)
    · exact htd x hx ht.1 h
    · have := born_same h2 hx hem h
      subst this
      exact ht.2 rfl
section
variable {ops : Array Oper} {rest : List Oper} {o : Oper} {a : Act} {Q : Exit → Act → World → Prop}
theorem wpList_updG {mo x y : Operand} {t e : TypeId} {key val : Value} (hg : o.guard = none) (hop : o.op = Op.mapUpdate t mo x y) (K : Keyed P k) (ht : P.underlying t = some (.map k e))
    (hm : a.eval mo = .map (some m)) (hx : a.eval x = key) (hy : a.eval y = val) (hown : MapG w P k m f c) (hkey : ∃ kl, keyOf P k key = some kl)
    (hK : ∀ w', MapG w' P k m (upd f key val) (if (f key).isSome then c else c + 1) → Kept [m] w w' → wpList P ops Q rest (a.put o.dst undef) w') : wpList P ops Q (o :: rest) a w := by
  refine wpList_plain hg fun K' hK' => ?_
  obtain ⟨kl, hkl⟩ := hkey
  obtain ⟨w', hrun, r1, r2⟩ := hown.update K ht (val := val) hkl
  unfold Oper.wp
  simp [execOp, hop, hm, hx, hy, hrun, Result.andThen]
  exact hK' _ _ (hK w' r1 r2)
theorem wpList_lenG {mo : Operand} {t e : TypeId} (hg : o.guard = none) (hop : o.op = Op.call { callee := Callee.builtin Builtin.len, args := #[mo], argTypes := #[t] }) (ht : P.underlying t = some (.map k e))
    (hm : a.eval mo = .map (some m)) (hown : MapG w P k m f c) (hK : wpList P ops Q rest (a.put o.dst (.int .i64 c)) w) : wpList P ops Q (o :: rest) a w := by
  refine wpList_plain hg fun K' hK' => ?_
  unfold Oper.wp
  simp [execOp, hop, resolve, invoke, builtin, hm, hown.len ht o.type, Result.andThen]
  exact hK' _ _ hK
theorem wpList_rangeG {mo : Operand} {t e : TypeId} (hg : o.guard = none) (hop : o.op = Op.range t mo) (ht : P.underlying t = some (.map k e)) (hm : a.eval mo = .map (some m)) (hown : MapG w P k m f c)
    (hK : ∀ w', RangeG w' P k m f c w.heap.size c (fun _ => True) → Kept [] w w' → w.heap.size < w'.heap.size → wpList P ops Q rest (a.put o.dst (.pointer (some ⟨w.heap.size, 0, none⟩))) w') : wpList P ops Q (o :: rest) a w := by
  refine wpList_plain hg fun K' hK' => ?_
  obtain ⟨w', hrun, r1, r2⟩ := hown.range ht
  unfold Oper.wp
  simp [execOp, hop, hm, hrun, Result.andThen]
  obtain ⟨_, _, es, clock, since, c0, seen, _, hr, _⟩ := id r1
  exact hK' _ _ (hK w' r1 r2 (Array.getElem?_eq_some_iff.1 hr).1)
theorem wpList_nextG {it : Operand} {r left : Nat} {todo : Value → Prop} (hg : o.guard = none) (hop : o.op = Op.next it false) (hit : a.eval it = .pointer (some ⟨r, 0, none⟩)) (h : RangeG w P k m f c r left todo)
    (hDone : (∀ key v, f key = some v → ¬ todo key) → wpList P ops Q rest (a.put o.dst (.tuple #[.bool false])) w)
    (hMore : ∀ key v w' left', f key = some v → RangeG w' P k m f c r left' (fun x => todo x ∧ x ≠ key) → left' < left → Kept [r] w w' → (Instr.entry (.pointer (some ⟨r, 0, none⟩))).run P w' = .ok (.tuple #[key, v]) w' → wpList P ops Q rest (a.put o.dst (.tuple #[.bool true, key, v])) w') :
    wpList P ops Q (o :: rest) a w := by
  refine wpList_plain hg fun K' hK' => ?_
  unfold Oper.wp
  rcases h.next o.type with ⟨h0, hrun⟩ | ⟨key, v, w', left', h1, hrun, h2, h3, h4, h5⟩
  · simp [execOp, hop, hit, hrun, Result.andThen]
    exact hK' _ _ (hDone h0)
  · simp [execOp, hop, hit, hrun, Result.andThen]
    exact hK' _ _ (hMore key v w' left' h1 h2 h3 h4 h5)
end
end Go.Proofs.YtnjoklcddodfeaaGreatDoor
