/-
  Law 10: EmitOnce: a copy in which one register, one output or the name is another.
-/
import Derived.Test.YtnjoklcddodfeaaGreatDoorQEmOnT
import Derived.Test.YtnjoklcddodfeaaGreatDoorQEmOnR
namespace Go.Proofs.YtnjoklcddodfeaaGreatDoor
open Go.ChangeShapes Go.WideShapes Go.ChangeAt Go.RowKit
open Go.Maps (Keyed)
open Go.WideMaps
set_option linter.unusedVariables false
set_option linter.unusedSimpArgs false

variable {w w' W W' : World} {p n k j : Nat} {F R F' R' S : List Nat} {g : Gr} {N : Nt}
theorem map_set_same {α β : Type} (f : α → β) (l : List α) (j : Nat) (x y : α) (h : l[j]? = some x) (e : f y = f x) : (l.set j y).map f = l.map f := by
  rw [List.map_set, e]
  exact set_same _ _ _ (by rw [List.getElem?_map, h]; rfl)
theorem flat_set_same {α β : Type} (f : α → List β) (l : List α) (j : Nat) (x y : α) (h : l[j]? = some x) (e : f y = f x) : (l.set j y).flatMap f = l.flatMap f := by
  rw [List.flatMap_def, List.flatMap_def, map_set_same f l j x y h e]
/-- a netlist whose own register j is another -/
def withReg (N : Nt) (j : Nat) (r : Rg) : Nt := { N with regs := N.regs.set j r }
def withOut (N : Nt) (j : Nat) (b : Bus) : Nt := { N with outb := N.outb.set j b }
def withName (N : Nt) (s : ByteArray) : Nt := { N with name := s }
theorem drv_reg {r r' : Rg} (hr : N.regs[j]? = some r) (hq : r'.q = r.q) : drivenN (withReg N j r') = drivenN N := by
  unfold drivenN withReg
  show _ ++ (N.regs.set j r').map (·.q) = _
  rw [map_set_same (·.q) _ _ _ _ hr hq]
theorem fine_reg {r r' : Rg} (h : NtFine k N) (hc : checkN N = 0) (hr : N.regs[j]? = some r) (hq : r'.q = r.q) (hd : N.g.ok r'.d) (he : N.g.ok r'.en) : NtFine k (withReg N j r') ∧ checkN (withReg N j r') = 0 := by
  have hdr := drv_reg hr hq
  have hok := h.ok
  refine ⟨⟨⟨hok.wf, hok.len, hok.ik, by show (N.regs.set j r').length ≤ k; rw [List.length_set]; exact hok.rk, hok.ok, hok.il, hok.ol, fun x hx => ?_⟩, h.nm, h.ni, h.no, by rw [hdr]; exact h.dn, by rw [hdr]; exact h.di⟩, ?_⟩
  · rcases List.mem_or_eq_of_mem_set hx with hx | rfl
    · exact hok.rl x hx
    · have h1 := hok.rl r (List.mem_of_getElem? hr)
      rw [hq]
      exact ⟨h1.1, hd, he⟩
  · rw [← hc]
    unfold checkN fullB
    rw [hdr]
    rfl
theorem fine_out {b b' : Bus} (h : NtFine k N) (hc : checkN N = 0) (hb : N.outb[j]? = some b) (hn : b'.name = b.name) (hl : b'.lits.length = b.lits.length) (ho : ∀ x ∈ b'.lits, N.g.ok x) : NtFine k (withOut N j b') ∧ checkN (withOut N j b') = 0 := by
  have hok := h.ok
  refine ⟨⟨⟨hok.wf, hok.len, hok.ik, hok.rk, by show (N.outb.set j b').length ≤ k; rw [List.length_set]; exact hok.ok, hok.il, fun x hx => ?_, hok.rl⟩, h.nm, h.ni, ?_, h.dn, h.di⟩, hc⟩
  · rcases List.mem_or_eq_of_mem_set hx with hx | rfl
    · exact hok.ol x hx
    · have h1 := hok.ol b (List.mem_of_getElem? hb)
      exact ⟨by omega, by omega, by rw [hn]; exact h1.2.2.1, ho⟩
  · show ((N.outb.set j b').map (·.name)).Pairwise (· ≠ ·)
    rw [map_set_same (·.name) _ _ _ _ hb hn]
    exact h.no
theorem fine_name {s : ByteArray} (h : NtFine k N) (hc : checkN N = 0) (hs : mayB s = true) : NtFine k (withName N s) ∧ checkN (withName N s) = 0 :=
  ⟨⟨⟨h.ok.wf, h.ok.len, h.ok.ik, h.ok.rk, h.ok.ok, h.ok.il, h.ok.ol, h.ok.rl⟩, hs, h.ni, h.no, h.dn, h.di⟩, hc⟩
/-! their texts -/
theorem text_reg {r r' : Rg} (h : NtFine k N) (hk : k ≤ 700) (hc : checkN N = 0) (hr : N.regs[j]? = some r) (hq : r'.q = r.q) (hd : N.g.ok r'.d) (he : N.g.ok r'.en) (hne : r'.d ≠ r.d ∨ r'.init ≠ r.init) : textL (linesN (withReg N j r')) ≠ textL (linesN N) := by
  obtain ⟨h1, h2⟩ := fine_reg h hc hr hq hd he
  intro e
  have hj := (List.getElem?_eq_some_iff.1 hr).1
  have hr' : (withReg N j r').regs[j]? = some r' := by
    show (N.regs.set j r')[j]? = _
    rw [List.getElem?_set_self hj]
  have hx := reg_text h h1 hk hk hc h2 rfl (by show _ = (N.regs.set j r').length; rw [List.length_set]) hr hr' e.symm
  injection hx with _ hx
  injection hx with hx1 hx
  injection hx with _ hx
  injection hx with hx2 _
  rcases hne with hne | hne
  · exact hne hx1.symm
  · apply hne
    cases h3 : r.init <;> cases h4 : r'.init <;> simp [h3, h4] at hx2 ⊢
theorem text_out {b b' : Bus} (h : NtFine k N) (hk : k ≤ 700) (hc : checkN N = 0) (hb : N.outb[j]? = some b) (hn : b'.name = b.name) (hl : b'.lits.length = b.lits.length) (ho : ∀ x ∈ b'.lits, N.g.ok x) (hne : b'.lits ≠ b.lits) : textL (linesN (withOut N j b')) ≠ textL (linesN N) := by
  obtain ⟨h1, h2⟩ := fine_out h hc hb hn hl ho
  intro e
  have hj := (List.getElem?_eq_some_iff.1 hb).1
  have hb' : (withOut N j b').outb[j]? = some b' := by
    show (N.outb.set j b')[j]? = _
    rw [List.getElem?_set_self hj]
  exact hne (out_text h h1 hk hk hc h2 rfl rfl rfl hb hb' hn.symm e.symm).symm
theorem text_name {s : ByteArray} (h : NtFine k N) (hc : checkN N = 0) (hs : mayB s = true) (hne : s ≠ N.name) : textL (linesN (withName N s)) ≠ textL (linesN N) := by
  obtain ⟨h1, h2⟩ := fine_name h hc hs
  intro e
  have hx := name_text h h1 hc h2 e.symm
  apply hne
  have hx2 : N.name.data.toList = s.data.toList := hx
  cases hN : N.name with | mk d =>
  cases s with | mk d' =>
  rw [hN] at hx2
  cases d; cases d'
  simp only at hx2
  rw [hx2]
/-! in memory -/
section
variable {G : List Nat} {ia ra oa : Option Addr} {ic rc oc gr : Nat} {ri ro : List BR}
theorem rgCells_init (l : List Rg) (j : Nat) (r : Rg) (hr : l[j]? = some r) (b : Bool) : (rgCells l).set (j * 4 + 3) (.bool b) = rgCells (l.set j { r with init := b }) := by
  induction l generalizing j with
  | nil => simp at hr
  | cons x l ih =>
    cases j with
    | zero => simp at hr; subst hr; simp [rgCells]
    | succ j =>
      have h := ih j (by simpa using hr)
      rw [show (j + 1) * 4 + 3 = j * 4 + 3 + 1 + 1 + 1 + 1 by omega]
      simp only [rgCells, List.flatMap_cons, List.set_cons_succ] at h ⊢
      rw [← h]
      rfl
theorem rgCells_d (l : List Rg) (j : Nat) (r : Rg) (hr : l[j]? = some r) (d : Nat) : (rgCells l).set (j * 4 + 1) (.int .u32 (d : Int)) = rgCells (l.set j { r with d := d }) := by
  induction l generalizing j with
  | nil => simp at hr
  | cons x l ih =>
    cases j with
    | zero => simp at hr; subst hr; simp [rgCells]
    | succ j =>
      have h := ih j (by simpa using hr)
      rw [show (j + 1) * 4 + 1 = j * 4 + 1 + 1 + 1 + 1 + 1 by omega]
      simp only [rgCells, List.flatMap_cons, List.set_cons_succ] at h ⊢
      rw [← h]
      rfl
/-- a register of the copy's -/
theorem put_init (h : NetC w n N p G ia ic (some ⟨gr, 0, none⟩) rc oa oc ri ro) {r : Rg} (hr : N.regs[j]? = some r) (b : Bool) :
    NetC (w.setCell ⟨gr, j * 4 + 3, none⟩ (.bool b)) n (withReg N j { r with init := b }) p G ia ic (some ⟨gr, 0, none⟩) rc oa oc ri ro ∧ Kept [gr] w (w.setCell ⟨gr, j * 4 + 3, none⟩ (.bool b)) := by
  have hkp : Kept [gr] w (w.setCell ⟨gr, j * 4 + 3, none⟩ (.bool b)) := (Kept.refl [gr] w).setCell (p := ⟨gr, j * 4 + 3, none⟩) (.inl (by simp)) _
  have h1 := (World.ownsRow.stored h.rb (j * 4 + 3) (.bool b)).1
  rw [rgCells_init _ _ _ hr] at h1
  exact ⟨h.setRegs hkp (by rw [List.length_set]) h1, hkp⟩
theorem put_d (h : NetC w n N p G ia ic (some ⟨gr, 0, none⟩) rc oa oc ri ro) {r : Rg} (hr : N.regs[j]? = some r) (d : Nat) :
    NetC (w.setCell ⟨gr, j * 4 + 1, none⟩ (.int .u32 (d : Int))) n (withReg N j { r with d := d }) p G ia ic (some ⟨gr, 0, none⟩) rc oa oc ri ro ∧ Kept [gr] w (w.setCell ⟨gr, j * 4 + 1, none⟩ (.int .u32 (d : Int))) := by
  have hkp : Kept [gr] w (w.setCell ⟨gr, j * 4 + 1, none⟩ (.int .u32 (d : Int))) := (Kept.refl [gr] w).setCell (p := ⟨gr, j * 4 + 1, none⟩) (.inl (by simp)) _
  have h1 := (World.ownsRow.stored h.rb (j * 4 + 1) (.int .u32 (d : Int))).1
  rw [rgCells_d _ _ _ hr] at h1
  exact ⟨h.setRegs hkp (by rw [List.length_set]) h1, hkp⟩
/-- the copy's name -/
theorem put_name (h : NetC w n N p G ia ic ra rc oa oc ri ro) (s : ByteArray) :
    NetC (w.setCell ⟨n, 1, none⟩ (.string s)) n (withName N s) p G ia ic ra rc oa oc ri ro ∧ Kept [n] w (w.setCell ⟨n, 1, none⟩ (.string s)) := by
  have hkp : Kept [n] w (w.setCell ⟨n, 1, none⟩ (.string s)) := (Kept.refl [n] w).setCell (p := ⟨n, 1, none⟩) (.inl (by simp)) _
  obtain ⟨a1, a2, a3, a4, a5, a6, a7, a8, a9⟩ := h.apart
  have fr := h.fr
  simp only [List.mem_cons, List.mem_append, not_or] at fr
  refine ⟨⟨?_, h.gr.kept hkp (fun b hb hx => by simp at hx; subst hx; exact a1 hb), h.ib.kept hkp (fun b hb hx => by simp at hx; subst hx; exact a2 hb) (fun b hb hx => by simp at hx; exact (fr b (.inl hb)).1 hx), own_kept h.rb hkp (fun b hb hx => by simp at hx; subst hx; exact a3 hb), h.ob.kept hkp (fun b hb hx => by simp at hx; subst hx; exact a4 hb) (fun b hb hx => by simp at hx; exact (fr b (.inr hb)).1 hx), h.io, h.fr⟩, hkp⟩
  have hb := h.blk
  have h2 := blk_set hb 1 (.string s)
  rw [h2]
  rfl
/-- a literal of an output of the copy's -/
theorem put_lit (h : NetC w n N p G ia ic ra rc oa oc ri ro) (hap : ApR ro) (how : OwR w ro) (hio : ∀ b ∈ rowsOf ri, b ∉ rowsOf ro) (hj : j < ro.length) (i x : Nat) (hi : i < ro[j].b.lits.length) :
    ∃ gb, ro[j].a = some ⟨gb, 0, none⟩ ∧ w.cell? ⟨gb, i, none⟩ = some (.int .u32 (ro[j].b.lits[i] : Nat)) ∧ w.frozen? ⟨gb, i, none⟩ = false ∧ gb ∈ rowsOf ro ∧
    (∃ ro', NetC (w.setCell ⟨gb, i, none⟩ (.int .u32 (x : Int))) n (withOut N j { ro[j].b with lits := ro[j].b.lits.set i x }) p G ia ic ra rc oa oc ri ro') ∧ Kept [gb] w (w.setCell ⟨gb, i, none⟩ (.int .u32 (x : Int))) := by
  have ho := how _ (List.getElem_mem hj)
  rcases ho.2 with ⟨hv, h0⟩ | ⟨gb, cap', cur, hv, h0, hg, hle, _⟩
  · omega
  · injection hv with hv1 hv2 hv3
    have hin : gb ∈ rowsOf ro := mem_rowsOf.2 ⟨_, List.getElem_mem hj, by rw [hv1]; simp [ft]⟩
    have hkp : Kept [gb] w (w.setCell ⟨gb, i, none⟩ (.int .u32 (x : Int))) := (Kept.refl [gb] w).setCell (p := ⟨gb, i, none⟩) (.inl (by simp)) _
    have fr := h.fr
    simp only [List.mem_cons, List.mem_append, not_or] at fr
    have frg := fr gb (.inr hin)
    have hrow := ho.sln i hi
    obtain ⟨ad, had, hcell⟩ := hrow
    rw [hv1] at had
    injection had with had
    subst had
    have hcell' : w.cell? ⟨gb, i, none⟩ = some (.int .u32 (ro[j].b.lits[i] : Nat)) := by
      have e : (⟨gb, 0, none⟩ : Addr).add i = ⟨gb, i, none⟩ := by simp [Addr.add]; exact fun h => h.symm
      rw [e] at hcell
      exact hcell
    have ho' : Own w 39 (some ⟨gb, 0, none⟩) ro[j].b.lits.length ro[j].c (nats .u32 ro[j].b.lits) := by rw [← hv1]; exact ho
    have hst : Own (w.setCell ⟨gb, i, none⟩ (.int .u32 (x : Int))) 39 (some ⟨gb, 0, none⟩) ro[j].b.lits.length ro[j].c (nats .u32 (ro[j].b.lits.set i x)) := by
      have h1 := (World.ownsRow.stored ho' i (.int .u32 (x : Int))).1
      have e1 : (nats .u32 ro[j].b.lits).set i (.int .u32 (x : Int)) = nats .u32 (ro[j].b.lits.set i x) := by simp [nats, List.map_set]
      rw [e1] at h1
      exact h1
    refine ⟨gb, hv1, hcell', blk_free hg i, hin, ⟨ro.set j ⟨{ ro[j].b with lits := ro[j].b.lits.set i x }, ro[j].a, ro[j].c⟩, ?_⟩, hkp⟩
    have hjo : N.outb[j]? = some ro[j].b := by rw [← h.ob.is, List.getElem?_map, List.getElem?_eq_getElem hj]; rfl
    obtain ⟨nr, hnr⟩ : ∃ nr, nr = (⟨{ ro[j].b with lits := ro[j].b.lits.set i x }, ro[j].a, ro[j].c⟩ : BR) := ⟨_, rfl⟩
    have hgj := List.getElem?_eq_getElem hj
    have hrows : rowsOf (ro.set j nr) = rowsOf ro := flat_set_same _ _ _ _ _ hgj (by rw [hnr])
    have hbr : brCells (ro.set j nr) = brCells ro := flat_set_same _ _ _ _ _ hgj (by rw [hnr]; simp)
    have hoth : ∀ i' (hi' : i' < ro.length), i' ≠ j → gb ∉ ft ro[i'].a := fun i' hi' hne hx => by
      have hpw := List.pairwise_iff_getElem.1 hap
      have hgb : gb ∈ ft ro[j].a := by rw [hv1]; simp [ft]
      rcases Nat.lt_or_gt_of_ne hne with hlt | hlt
      · exact hpw i' j hi' hj hlt gb hx hgb
      · exact hpw j i' hj hi' hlt gb hgb hx
    rw [← hnr]
    refine ⟨?_, h.gr.kept hkp (fun b hb hx => by simp at hx; subst hx; exact frg.2.1 hb), h.ib.kept hkp (fun b hb hx => by simp at hx; subst hx; exact frg.2.2.1 hb) (fun b hb hx => by simp at hx; subst hx; exact hio _ hb hin), own_kept h.rb hkp (fun b hb hx => by simp at hx; subst hx; exact frg.2.2.2.1 hb), ⟨?_, ?_, ?_⟩, h.io, ?_⟩
    · have hb := hkp.heap h.blk (by simp; exact fun e => frg.1 e.symm)
      rw [hb]
      show _ = some (Obj.cells (nCells p { N with outb := N.outb.set j _ } ia ic ra rc oa oc) _ _)
      simp only [nCells, List.length_set]
    · show World.ownsRow _ 0 79 2 (.slice oa (N.outb.set j _).length oc) (N.outb.set j _).length _
      rw [List.length_set, hbr]
      exact own_kept h.ob.own hkp (fun b hb hx => by simp at hx; subst hx; exact frg.2.2.2.2 hb)
    · show (ro.set j nr).map (·.b) = N.outb.set j _
      rw [List.map_set, h.ob.is, hnr]
    · intro r hr
      obtain ⟨i', hi', rfl⟩ := List.getElem_of_mem hr
      rw [List.length_set] at hi'
      rw [List.getElem_set]
      split
      · subst hnr
        refine ⟨?_, fun b hb => ?_⟩
        · show SlN _ .u32 ro[j].a (ro[j].b.lits.set i x)
          rw [hv1]
          exact hst.sln
        · have := (h.ob.rows _ (List.getElem_mem hj)).2 b hb
          exact Nat.lt_of_lt_of_le this hkp.size
      · rename_i hne
        have h1 := h.ob.rows _ (List.getElem_mem hi')
        exact ⟨h1.1.kept hkp (fun b hb hx => by simp at hx; subst hx; exact hoth i' hi' (fun e => hne e.symm) hb), fun b hb => Nat.lt_of_lt_of_le (h1.2 b hb) hkp.size⟩
    · rw [hrows]
      exact h.fr
end
end Go.Proofs.YtnjoklcddodfeaaGreatDoor
