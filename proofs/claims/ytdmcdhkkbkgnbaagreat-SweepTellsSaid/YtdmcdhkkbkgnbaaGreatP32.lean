/-
  Package orreryref06: MayName, Find, New; orreryref03: There of any literals, Many of two.
  Opening a law's arguments: arrays, slices of numbers inside structs, slices of structs, and what the reach says of each part.
  The document's netlists: a bus more, a register more, a register set.
-/
import Derived.Test.YtdmcdhkkbkgnbaaGreatP31
import Derived.Test.YtdmcdhkkbkgnbaaGreatP12
import Derived.Test.YtdmcdhkkbkgnbaaGreatP00
import Derived.Deep.Slices
import Derived.Deep.Fields
import Derived.Lib.SmallJoins
import Derived.ChangeSame
import Derived.Test.YtdmcdhkkbkgnbaaGreatP16
namespace Go.Proofs.YtdmcdhkkbkgnbaaGreat
open Go.ChangeShapes Go.WideShapes Go.ChangeAt Go.RowKit
open Go.Maps (Keyed)
open Go.WideMaps
set_option linter.unusedVariables false
set_option linter.unusedSimpArgs false

variable {w w' : World} {p n : Nat} {F R S : List Nat} {g : Gr} {N : Nt}
section
variable {G : List Nat} {ia ra oa : Option Addr} {ic rc oc : Nat} {ri ro : List BR}
/-- a bus more that comes in -/
theorem RNetC.addIn {w1 : World} {ia' a : Option Addr} {ic' c : Nat} {s : ByteArray} {l : List Nat} (h : RNetC w n N p G ia ic ra rc oa oc ri ro)
    (hown : w1.ownsRow 0 106 2 (.slice ia' (N.inb.length + 1) ic') (N.inb.length + 1) (brCells ri ++ [.string s, .slice a l.length c])) (hst : Stepped w w1 (ft ia) (ft ia')) (hrow : SlN w .u32 a l) (ha : ∀ b ∈ ft a, b < w.heap.size ∧ b ∉ n :: (G ++ (ft ia ++ (ft ra ++ ft oa)))) :
    RNetC (w1.setCell ⟨n, 2, none⟩ (.slice ia' (N.inb.length + 1) ic')) n { N with inb := N.inb ++ [⟨s, l⟩] } p G ia' ic' ra rc oa oc (ri ++ [⟨⟨s, l⟩, a, c⟩]) ro ∧
    Stepped w (w1.setCell ⟨n, 2, none⟩ (.slice ia' (N.inb.length + 1) ic')) (n :: (G ++ (ft ia ++ (ft ra ++ ft oa)))) (n :: (G ++ (ft ia' ++ (ft ra ++ ft oa)))) := by
  obtain ⟨a1, a2, a3, a4, a5, a6, a7, a8, a9⟩ := h.apart
  have lt := h.lt
  have fr := h.fr
  simp only [List.mem_cons, List.mem_append, not_or] at fr ha
  have hnew : ∀ b ∈ ft ia', b ∈ ft ia ∨ w.heap.size ≤ b := hst.fresh
  have hkn : w1.heap[n]? = some (.cells (nCells p N ia ic ra rc oa oc) 44 (0, 0)) := hst.kept.heap h.blk a2
  have hn' : n ∉ ft ia' := blk_apart hkn hown (by decide)
  have hks : Kept [n] w1 (w1.setCell ⟨n, 2, none⟩ (.slice ia' (N.inb.length + 1) ic')) := (Kept.refl [n] w1).setCell (p := ⟨n, 2, none⟩) (.inl (by simp)) _
  have gk := (h.gr.kept hst.kept (fun b hb hx => a5 b hx hb)).kept hks (fun b hb hx => by simp at hx; exact a1 (hx ▸ hb))
  have rk := own_kept (own_kept h.rb hst.kept a8) hks (fun b hb hx => by simp at hx; exact a3 (hx ▸ hb))
  have ok := (h.ob.kept hst.kept (fun b hb hx => h.io b hx hb) (fun b hb => (fr b (.inr hb)).2.2.1)).kept hks (fun b hb hx => by simp at hx; exact a4 (hx ▸ hb)) (fun b hb hx => by simp at hx; exact (fr b (.inr hb)).1 hx)
  have hkk : Kept (n :: ft ia) w (w1.setCell ⟨n, 2, none⟩ (.slice ia' (N.inb.length + 1) ic')) := (hst.kept.more (fun b hb => List.mem_cons_of_mem _ hb)).trans (hks.more (fun b hb => by simp at hb; simp [hb]))
  have rows' : ∀ b ∈ rowsOf (ri ++ [⟨⟨s, l⟩, a, c⟩]) ++ rowsOf ro, b < w.heap.size ∧ b ≠ n ∧ b ∉ G ∧ b ∉ ft ia ∧ b ∉ ft ra ∧ b ∉ ft oa := by
    intro b hb
    rcases List.mem_append.1 hb with hb | hb
    · obtain ⟨r, hr, hb⟩ := mem_rowsOf.1 hb
      rcases List.mem_append.1 hr with hr | hr
      · have hm := mem_rowsOf.2 ⟨r, hr, hb⟩
        exact ⟨lt.2 b (by simp [hm]), (fr b (.inl hm)).1, (fr b (.inl hm)).2⟩
      · rw [List.mem_singleton] at hr
        subst hr
        exact ⟨(ha b hb).1, (ha b hb).2.1, (ha b hb).2.2⟩
    · exact ⟨lt.2 b (by simp [hb]), (fr b (.inr hb)).1, (fr b (.inr hb)).2⟩
  refine ⟨⟨?_, gk, ⟨?_, ?_, ?_⟩, rk, ok, ?_, ?_⟩, ⟨hkk.more ?_, ?_⟩⟩
  · rw [blk_set hkn]
    simp [nCells]
  · have := own_kept hown hks (fun b hb hx => by simp at hx; exact hn' (hx ▸ hb))
    rw [brCells_snoc ri ⟨⟨s, l⟩, a, c⟩] at this
    simpa using this
  · simp [h.ib.is]
  · intro r hr
    rcases List.mem_append.1 hr with hr | hr
    · have hm : ∀ b ∈ ft r.a, b ∈ rowsOf ri := fun b hb => mem_rowsOf.2 ⟨r, hr, hb⟩
      exact ⟨(h.ib.rows r hr).1.kept hkk (fun b hb hx => by rcases List.mem_cons.1 hx with hx | hx; exact (fr b (.inl (hm b hb))).1 hx; exact (fr b (.inl (hm b hb))).2.2.1 hx), fun b hb => Nat.lt_of_lt_of_le ((h.ib.rows r hr).2 b hb) hkk.size⟩
    · rw [List.mem_singleton] at hr
      subst hr
      exact ⟨hrow.kept hkk (fun b hb hx => by rcases List.mem_cons.1 hx with hx | hx; exact (ha b hb).2.1 hx; exact (ha b hb).2.2.2.1 hx), fun b hb => Nat.lt_of_lt_of_le (ha b hb).1 hkk.size⟩
  · intro b hb
    rcases hnew b hb with hx | hx
    · exact h.io b hx
    · exact fun ho => by have := lt.1 b (by simp [ho]); omega
  · intro b hb
    obtain ⟨h1, h2, h3, h4, h5, h6⟩ := rows' b hb
    simp only [List.mem_cons, List.mem_append, not_or]
    exact ⟨h2, h3, fun hx => by rcases hnew b hx with hx | hx; exact h4 hx; omega, h5, h6⟩
  · intro b hb
    simp only [List.mem_cons, List.mem_append] at hb ⊢
    rcases hb with hb | hb
    · exact .inl hb
    · exact .inr (.inr (.inl hb))
  · intro b hb
    simp only [List.mem_cons, List.mem_append] at hb ⊢
    rcases hb with hb | hb | hb | hb | hb
    · exact .inl (.inl hb)
    · exact .inl (.inr (.inl hb))
    · rcases hnew b hb with hx | hx
      · exact .inl (.inr (.inr (.inl hx)))
      · exact .inr hx
    · exact .inl (.inr (.inr (.inr (.inl hb))))
    · exact .inl (.inr (.inr (.inr (.inr hb))))
/-- a register more -/
theorem RNetC.addReg {w1 : World} {ra' : Option Addr} {rc' : Nat} {r : Rg} (h : RNetC w n N p G ia ic ra rc oa oc ri ro)
    (hown : w1.ownsRow 0 48 4 (.slice ra' (N.regs.length + 1) rc') (N.regs.length + 1) (rgCells N.regs ++ [.int .u32 (r.q : Int), .int .u32 (r.d : Int), .int .u32 (r.en : Int), .bool r.init])) (hst : Stepped w w1 (ft ra) (ft ra')) :
    RNetC (w1.setCell ⟨n, 3, none⟩ (.slice ra' (N.regs.length + 1) rc')) n { N with regs := N.regs ++ [r] } p G ia ic ra' rc' oa oc ri ro ∧
    Stepped w (w1.setCell ⟨n, 3, none⟩ (.slice ra' (N.regs.length + 1) rc')) (n :: (G ++ (ft ia ++ (ft ra ++ ft oa)))) (n :: (G ++ (ft ia ++ (ft ra' ++ ft oa)))) := by
  obtain ⟨a1, a2, a3, a4, a5, a6, a7, a8, a9⟩ := h.apart
  have lt := h.lt
  have fr := h.fr
  simp only [List.mem_cons, List.mem_append, not_or] at fr
  have hnew : ∀ b ∈ ft ra', b ∈ ft ra ∨ w.heap.size ≤ b := hst.fresh
  have hkn : w1.heap[n]? = some (.cells (nCells p N ia ic ra rc oa oc) 44 (0, 0)) := hst.kept.heap h.blk a3
  have hn' : n ∉ ft ra' := blk_apart hkn hown (by decide)
  have hks : Kept [n] w1 (w1.setCell ⟨n, 3, none⟩ (.slice ra' (N.regs.length + 1) rc')) := (Kept.refl [n] w1).setCell (p := ⟨n, 3, none⟩) (.inl (by simp)) _
  have gk := (h.gr.kept hst.kept (fun b hb hx => a6 b hx hb)).kept hks (fun b hb hx => by simp at hx; exact a1 (hx ▸ hb))
  have ik := (h.ib.kept hst.kept (fun b hb hx => a8 b hx hb) (fun b hb => (fr b (.inl hb)).2.2.2.1)).kept hks (fun b hb hx => by simp at hx; exact a2 (hx ▸ hb)) (fun b hb hx => by simp at hx; exact (fr b (.inl hb)).1 hx)
  have ok := (h.ob.kept hst.kept (fun b hb hx => a9 b hx hb) (fun b hb => (fr b (.inr hb)).2.2.2.1)).kept hks (fun b hb hx => by simp at hx; exact a4 (hx ▸ hb)) (fun b hb hx => by simp at hx; exact (fr b (.inr hb)).1 hx)
  have hkk : Kept (n :: ft ra) w (w1.setCell ⟨n, 3, none⟩ (.slice ra' (N.regs.length + 1) rc')) := (hst.kept.more (fun b hb => List.mem_cons_of_mem _ hb)).trans (hks.more (fun b hb => by simp at hb; simp [hb]))
  refine ⟨⟨?_, gk, ik, ?_, ok, h.io, ?_⟩, ⟨hkk.more ?_, ?_⟩⟩
  · rw [blk_set hkn]
    simp [nCells]
  · have := own_kept hown hks (fun b hb hx => by simp at hx; exact hn' (hx ▸ hb))
    rw [rgCells_snoc N.regs r] at this
    simpa using this
  · intro b hb
    have f := fr b (List.mem_append.1 hb)
    have l := lt.2 b hb
    simp only [List.mem_cons, List.mem_append, not_or]
    exact ⟨f.1, f.2.1, f.2.2.1, fun hx => by rcases hnew b hx with hx | hx; exact f.2.2.2.1 hx; omega, f.2.2.2.2⟩
  · intro b hb
    simp only [List.mem_cons, List.mem_append] at hb ⊢
    rcases hb with hb | hb
    · exact .inl hb
    · exact .inr (.inr (.inr (.inl hb)))
  · intro b hb
    simp only [List.mem_cons, List.mem_append] at hb ⊢
    rcases hb with hb | hb | hb | hb | hb
    · exact .inl (.inl hb)
    · exact .inl (.inr (.inl hb))
    · exact .inl (.inr (.inr (.inl hb)))
    · rcases hnew b hb with hx | hx
      · exact .inl (.inr (.inr (.inr (.inl hx))))
      · exact .inr hx
    · exact .inl (.inr (.inr (.inr (.inr hb))))
/-- a bus more that goes out -/
theorem RNetC.addOut {w1 : World} {oa' a : Option Addr} {oc' c : Nat} {s : ByteArray} {l : List Nat} (h : RNetC w n N p G ia ic ra rc oa oc ri ro)
    (hown : w1.ownsRow 0 106 2 (.slice oa' (N.outb.length + 1) oc') (N.outb.length + 1) (brCells ro ++ [.string s, .slice a l.length c])) (hst : Stepped w w1 (ft oa) (ft oa')) (hrow : SlN w .u32 a l) (ha : ∀ b ∈ ft a, b < w.heap.size ∧ b ∉ n :: (G ++ (ft ia ++ (ft ra ++ ft oa)))) :
    RNetC (w1.setCell ⟨n, 4, none⟩ (.slice oa' (N.outb.length + 1) oc')) n { N with outb := N.outb ++ [⟨s, l⟩] } p G ia ic ra rc oa' oc' ri (ro ++ [⟨⟨s, l⟩, a, c⟩]) ∧
    Stepped w (w1.setCell ⟨n, 4, none⟩ (.slice oa' (N.outb.length + 1) oc')) (n :: (G ++ (ft ia ++ (ft ra ++ ft oa)))) (n :: (G ++ (ft ia ++ (ft ra ++ ft oa')))) := by
  obtain ⟨a1, a2, a3, a4, a5, a6, a7, a8, a9⟩ := h.apart
  have lt := h.lt
  have fr := h.fr
  simp only [List.mem_cons, List.mem_append, not_or] at fr ha
  have hnew : ∀ b ∈ ft oa', b ∈ ft oa ∨ w.heap.size ≤ b := hst.fresh
  have hkn : w1.heap[n]? = some (.cells (nCells p N ia ic ra rc oa oc) 44 (0, 0)) := hst.kept.heap h.blk a4
  have hn' : n ∉ ft oa' := blk_apart hkn hown (by decide)
  have hks : Kept [n] w1 (w1.setCell ⟨n, 4, none⟩ (.slice oa' (N.outb.length + 1) oc')) := (Kept.refl [n] w1).setCell (p := ⟨n, 4, none⟩) (.inl (by simp)) _
  have gk := (h.gr.kept hst.kept (fun b hb hx => a7 b hx hb)).kept hks (fun b hb hx => by simp at hx; exact a1 (hx ▸ hb))
  have rk := own_kept (own_kept h.rb hst.kept a9) hks (fun b hb hx => by simp at hx; exact a3 (hx ▸ hb))
  have ik := (h.ib.kept hst.kept h.io (fun b hb => (fr b (.inl hb)).2.2.2.2)).kept hks (fun b hb hx => by simp at hx; exact a2 (hx ▸ hb)) (fun b hb hx => by simp at hx; exact (fr b (.inl hb)).1 hx)
  have hkk : Kept (n :: ft oa) w (w1.setCell ⟨n, 4, none⟩ (.slice oa' (N.outb.length + 1) oc')) := (hst.kept.more (fun b hb => List.mem_cons_of_mem _ hb)).trans (hks.more (fun b hb => by simp at hb; simp [hb]))
  have rows' : ∀ b ∈ rowsOf ri ++ rowsOf (ro ++ [⟨⟨s, l⟩, a, c⟩]), b < w.heap.size ∧ b ≠ n ∧ b ∉ G ∧ b ∉ ft ia ∧ b ∉ ft ra ∧ b ∉ ft oa := by
    intro b hb
    rcases rows_out b hb with hb | hb
    · exact ⟨lt.2 b hb, (fr b (List.mem_append.1 hb)).1, (fr b (List.mem_append.1 hb)).2⟩
    · exact ⟨(ha b hb).1, (ha b hb).2.1, (ha b hb).2.2⟩
  refine ⟨⟨?_, gk, ik, rk, ⟨?_, ?_, ?_⟩, ?_, ?_⟩, ⟨hkk.more ?_, ?_⟩⟩
  · rw [blk_set hkn]
    simp [nCells]
  · have := own_kept hown hks (fun b hb hx => by simp at hx; exact hn' (hx ▸ hb))
    rw [brCells_snoc ro ⟨⟨s, l⟩, a, c⟩] at this
    simpa using this
  · simp [h.ob.is]
  · intro r hr
    rcases List.mem_append.1 hr with hr | hr
    · have hm : ∀ b ∈ ft r.a, b ∈ rowsOf ro := fun b hb => mem_rowsOf.2 ⟨r, hr, hb⟩
      exact ⟨(h.ob.rows r hr).1.kept hkk (fun b hb hx => by rcases List.mem_cons.1 hx with hx | hx; exact (fr b (.inr (hm b hb))).1 hx; exact (fr b (.inr (hm b hb))).2.2.2.2 hx), fun b hb => Nat.lt_of_lt_of_le ((h.ob.rows r hr).2 b hb) hkk.size⟩
    · rw [List.mem_singleton] at hr
      subst hr
      exact ⟨hrow.kept hkk (fun b hb hx => by rcases List.mem_cons.1 hx with hx | hx; exact (ha b hb).2.1 hx; exact (ha b hb).2.2.2.2.2 hx), fun b hb => Nat.lt_of_lt_of_le (ha b hb).1 hkk.size⟩
  · intro b hb hx
    rcases hnew b hx with hx | hx
    · exact h.io b hb hx
    · have := lt.1 b (by simp [hb]); omega
  · intro b hb
    obtain ⟨h1, h2, h3, h4, h5, h6⟩ := rows' b hb
    simp only [List.mem_cons, List.mem_append, not_or]
    exact ⟨h2, h3, h4, h5, fun hx => by rcases hnew b hx with hx | hx; exact h6 hx; omega⟩
  · intro b hb
    simp only [List.mem_cons, List.mem_append] at hb ⊢
    rcases hb with hb | hb
    · exact .inl hb
    · exact .inr (.inr (.inr (.inr hb)))
  · intro b hb
    simp only [List.mem_cons, List.mem_append] at hb ⊢
    rcases hb with hb | hb | hb | hb | hb
    · exact .inl (.inl hb)
    · exact .inl (.inr (.inl hb))
    · exact .inl (.inr (.inr (.inl hb)))
    · exact .inl (.inr (.inr (.inr (.inl hb))))
    · rcases hnew b hb with hx | hx
      · exact .inl (.inr (.inr (.inr (.inr hx))))
      · exact .inr hx
end
section
variable {G : List Nat} {ia oa : Option Addr} {ic rc oc gr : Nat} {ri ro : List BR}
theorem RNetC.setRegs {l' : List Rg} {W : World} (h : RNetC w n N p G ia ic (some ⟨gr, 0, none⟩) rc oa oc ri ro) (hk : Kept [gr] w W) (hl : l'.length = N.regs.length) (hown : W.ownsRow 0 48 4 (.slice (some ⟨gr, 0, none⟩) N.regs.length rc) N.regs.length (rgCells l')) :
    RNetC W n { N with regs := l' } p G ia ic (some ⟨gr, 0, none⟩) rc oa oc ri ro := by
  obtain ⟨a1, a2, a3, a4, a5, a6, a7, a8, a9⟩ := h.apart
  have fr := h.fr
  simp only [List.mem_cons, List.mem_append, not_or] at fr
  have one : ∀ b, b ∈ ft (some (⟨gr, 0, none⟩ : Addr)) ↔ b = gr := fun b => mem_ft
  have nn : n ∉ [gr] := by simp; exact fun e => a3 ((one n).2 e)
  refine ⟨?_, h.gr.kept hk (fun b hb hx => by simp at hx; exact a6 b ((one b).2 hx) hb), h.ib.kept hk (fun b hb hx => by simp at hx; exact a8 b ((one b).2 hx) hb) (fun b hb hx => by simp at hx; exact (fr b (.inl hb)).2.2.2.1 ((one b).2 hx)), ?_, h.ob.kept hk (fun b hb hx => by simp at hx; exact a9 b ((one b).2 hx) hb) (fun b hb hx => by simp at hx; exact (fr b (.inr hb)).2.2.2.1 ((one b).2 hx)), h.io, h.fr⟩
  · have := hk.heap h.blk nn
    rw [this]
    simp only [nCells, hl]
  · show W.ownsRow 0 48 4 (.slice (some ⟨gr, 0, none⟩) l'.length rc) l'.length (rgCells l')
    rw [hl]
    exact hown
theorem rset_regs1 (h : RNetC w n N p G ia ic (some ⟨gr, 0, none⟩) rc oa oc ri ro) {k d en : Nat} (hk : k < N.regs.length) :
    RNetC ((w.setCell ⟨gr, k * 4 + 1, none⟩ (.int .u32 (d : Int))).setCell ⟨gr, k * 4 + 2, none⟩ (.int .u32 (en : Int))) n { N with regs := putR N.regs k d en } p G ia ic (some ⟨gr, 0, none⟩) rc oa oc ri ro ∧
    Kept [gr] w ((w.setCell ⟨gr, k * 4 + 1, none⟩ (.int .u32 (d : Int))).setCell ⟨gr, k * 4 + 2, none⟩ (.int .u32 (en : Int))) := by
  have hkp : Kept [gr] w ((w.setCell ⟨gr, k * 4 + 1, none⟩ (.int .u32 (d : Int))).setCell ⟨gr, k * 4 + 2, none⟩ (.int .u32 (en : Int))) := ((Kept.refl [gr] w).setCell (p := ⟨gr, k * 4 + 1, none⟩) (.inl (by simp)) _).setCell (p := ⟨gr, k * 4 + 2, none⟩) (.inl (by simp)) _
  have lc := rgCells_length N.regs
  have h1 := (World.ownsRow.stored h.rb (k * 4 + 1) (.int .u32 (d : Int))).1
  have h2 := (World.ownsRow.stored h1 (k * 4 + 2) (.int .u32 (en : Int))).1
  rw [← rgCells_put _ _ _ _ hk] at h2
  exact ⟨h.setRegs hkp (putR_length _ _ _ _) h2, hkp⟩
end
theorem RBusesAt.slb {a : Option Addr} {c : Nat} {l : List Bus} {rs : List BR} (h : RBusesAt w a c l rs) : SlB w a rs := fun i hi => by
  have hl : rs.length = l.length := by rw [← h.is]; simp
  obtain ⟨gb, h1, h2⟩ := own2_form (h := h.own) (by omega)
  have hg := brCells_get rs i rs[i] (List.getElem?_eq_getElem hi)
  exact ⟨gb, h1, by rw [h2 _ (by omega), ← hg.1, Nat.mul_comm], by rw [h2 _ (by omega), ← hg.2, Nat.mul_comm]⟩
theorem rregs_sl {a : Option Addr} {c m : Nat} {l : List Rg} (hl : l.length = m) (h : w.ownsRow 0 48 4 (.slice a m c) m (rgCells l)) : SlR w a l := fun i hi => by
  rcases h.2 with ⟨hv, h0⟩ | ⟨gb, cap', cur, hv, _⟩
  · omega
  · injection hv with hv
    subst hv
    have hg := rgCells_get l i l[i] (List.getElem?_eq_getElem hi)
    have hc : ∀ j, j < 4 * m → w.cell? ⟨gb, j, none⟩ = (rgCells l)[j]? := fun j hj => World.ownsRow.cellAt h j (by omega)
    exact ⟨gb, rfl, by rw [hc _ (by omega), ← hg.1, Nat.mul_comm], by rw [hc _ (by omega), ← hg.2.1, Nat.mul_comm], by rw [hc _ (by omega), ← hg.2.2.1, Nat.mul_comm], by rw [hc _ (by omega), ← hg.2.2.2, Nat.mul_comm]⟩
end Go.Proofs.YtdmcdhkkbkgnbaaGreat

namespace Go.Proofs.YtdmcdhkkbkgnbaaGreat
open Go.ChangeShapes Go.WideShapes Go.ChangeAt Go.RowKit Go.Deep Go.Joins
set_option linter.unusedVariables false

theorem choose_list {α : Type} {n : Nat} {p : Nat → α → Prop} (h : ∀ i, i < n → ∃ x, p i x) : ∃ l : List α, l.length = n ∧ ∀ i (hi : i < l.length), p i l[i] := by
  induction n with
  | zero => exact ⟨[], rfl, fun i hi => absurd hi (by simp)⟩
  | succ n ih =>
    obtain ⟨l, h1, h2⟩ := ih fun i hi => h i (by omega)
    obtain ⟨x, hx⟩ := h n (by omega)
    refine ⟨l ++ [x], by simp [h1], fun i hi => ?_⟩
    by_cases hin : i < l.length
    · rw [List.getElem_append_left hin]
      exact h2 i hin
    · have : i = n := by simp at hi; omega
      subst this
      rw [List.getElem_append_right (by omega)]
      simpa using hx

section
variable {H : Type} {enc : TypeId × Value → H} {P : Program} {W : World} {base : Nat}

/-- The reach, said of a datum: each slice and string in it is within it. -/
def Sized (P : Program) (t : TypeId) (d : DataW H) : Prop := ∀ n ∈ d.weights P t, n ≤ reachBytes
theorem Sized.arg {ts : List TypeId} {ds : List (DataW H)} (h : (DataW.weightsEach P ts ds).all (· ≤ reachBytes) = true) {j : Nat} {t : TypeId} {d : DataW H} (ht : ts[j]? = some t) (hd : ds[j]? = some d) : Sized P t d := fun n hn => by
  simpa using List.all_eq_true.1 h n (DataW.weights_mem_each ht hd n hn)
theorem weightsAll_mem {e : TypeId} : ∀ {es : List (DataW H)} {d : DataW H}, d ∈ es → ∀ n ∈ d.weights P e, n ∈ DataW.weightsAll P e es
  | x :: es, d, hd, n, hn => by
    simp only [DataW.weightsAll, List.mem_append]
    rcases List.mem_cons.1 hd with h | h
    · subst h; exact .inl hn
    · exact .inr (weightsAll_mem h n hn)
theorem Sized.slice {t e : TypeId} {es sp : List (DataW H)} (h : Sized P t (.slice es sp)) (hu : P.underlying t = some (.slice e)) : (es.length + sp.length) * P.bytesOf e ≤ reachBytes ∧ ∀ d ∈ es, Sized P e d := by
  refine ⟨h _ (by simp [DataW.weights, hu]), fun d hd n hn => h n ?_⟩
  simp only [DataW.weights, hu, List.mem_cons, List.mem_append]
  exact .inr (.inl (weightsAll_mem hd n hn))
theorem Sized.field {t : TypeId} {fs : Array Field} {parts : List (DataW H)} (h : Sized P t (.agg parts)) (hu : P.underlying t = some (.struct fs)) {j : Nat} {f : Field} {p : DataW H} (hf : fs[j]? = some f) (hp : parts[j]? = some p) : Sized P f.type p := fun n hn => by
  refine h n ?_
  simp only [DataW.weights, hu]
  exact DataW.weights_mem_each (j := j) (by simp [hf]) hp n hn

/-- A slice of unsigned numbers, wherever it was read. -/
theorem open_natsT {t e : TypeId} {K : IntKind} {m bytes : Nat} {fuel : Nat} {v : Value} {y : DataW H × List MemPlace} (ht : P.underlying t = some (.slice e)) (he : P.underlying e = some (.int K)) (hc : P.cellsOf e = 1) (hb : P.bytesOf e = bytes)
    (hK : K.signed = false) (hm : (2 : Int) ^ K.bits = m) (h : DataW.trod enc P W 0 (fun _ => true) true fuel t [v] = some y) (hz : Sized P t y.1) :
    ∃ (a : Option Addr) (cap : Nat) (l : List Nat), v = .slice a l.length cap ∧ l.length ≤ cap ∧ SlN W K a l ∧ (∀ n ∈ l, n < m) ∧ (a = none → l.length = 0 ∧ cap = 0) ∧ cap * bytes ≤ 140737488351232 := by
  rcases open_ints ht he hc h with ⟨hcs, hx⟩ | ⟨a, len, cap, zs, hcs, _, hl, hmx, hzl, hx, hcell, hwz⟩
  · simp at hcs
    subst hcs
    exact ⟨none, 0, [], rfl, Nat.le_refl _, SlN.nil _ _ _, by simp, by simp, by simp⟩
  · simp at hcs
    subst hcs
    simp at hzl
    have hnat : ∀ i (hi : i < zs.length), ((zs[i].toNat : Nat) : Int) = zs[i] ∧ zs[i].toNat < m := by
      intro i hi
      obtain ⟨k, hk, hkm⟩ := wf_nat hK hm (hwz zs[i] (List.getElem_mem hi))
      rw [hk]
      simp [hkm]
    have hlen : ((zs.take len).map Int.toNat).length = len := by simp; omega
    refine ⟨some a, cap, (zs.take len).map Int.toNat, by rw [hlen], by rw [hlen]; exact hl, fun k hk => ⟨a, rfl, ?_⟩, ?_, by simp, ?_⟩
    · rw [hlen] at hk
      rw [hcell k (by omega)]
      simp [List.getD_eq_getElem?_getD, (hnat k (by omega)).1, List.getElem?_eq_getElem (show k < zs.length by omega)]
    · intro n hn
      obtain ⟨y, hy, rfl⟩ := List.mem_map.1 hn
      obtain ⟨i, hi, rfl⟩ := List.getElem_of_mem (List.mem_of_mem_take hy)
      exact (hnat i hi).2
    · rw [hx] at hz
      have := (hz.slice ht).1
      rw [hb] at this
      simp [lits, hzl, reachBytes] at this
      rw [Nat.min_eq_left hl] at this
      rwa [show len + (cap - len) = cap by omega] at this

/-- One element that is a struct of one-cell fields: each field's cell, and its reading. -/
theorem rec_elem {e : TypeId} {fs : Array Field} {a : Addr} {cs : List Value} {n : Nat} {x : DataW H × List MemPlace} (he : P.underlying e = some (.struct fs)) (hone : oneCellFields P fs = true) (hC : P.cellsOf e = fs.size)
    (hc : W.cells? base a (P.cellsOf e) = some cs) (ht : DataW.trod enc P W base (fun _ => true) true n e cs = some x) :
    ∃ (ys : List (DataW H × List MemPlace)) (m : Nat), x.1 = .agg (ys.map (·.1)) ∧ ys.length = fs.size ∧ ∀ (j : Nat) (f : Field), fs[j]? = some f → ∃ (v : Value) (y : DataW H × List MemPlace), W.cell? (a.add j) = some v ∧ ys[j]? = some y ∧ DataW.trod enc P W base (fun _ => true) true m f.type [v] = some y := by
  obtain ⟨ys, m, _, hx, hl, hyl, hf⟩ := DataW.trod_struct he ht
  obtain ⟨_, hcl, hat⟩ := World.cells?_some hc
  refine ⟨ys, m, by rw [hx], hyl, fun j f hj => ?_⟩
  have hjl : j < fs.size := (Array.getElem?_eq_some_iff.1 hj).1
  obtain ⟨ho, hk⟩ := hone_of hone j f hj
  have h1 := hf j f hj
  have hjc : j < cs.length := by omega
  have e1 : (cs.drop f.offset).take (P.cellsOf f.type) = [cs[j]] := by
    rw [ho, hk, List.drop_eq_getElem_cons hjc]
    rfl
  rw [e1] at h1
  have hys : ys[j]? = some (ys[j]'(by omega)) := List.getElem?_eq_getElem (by omega)
  exact ⟨cs[j], ys[j]'(by omega), by rw [hat j (by omega)]; exact List.getElem?_eq_getElem hjc, hys, h1.trans hys⟩

/-- A slice of structs of one-cell fields. -/
theorem open_recs {t e : TypeId} {fs : Array Field} {fuel : Nat} {v : Value} {y : DataW H × List MemPlace} (ht : P.underlying t = some (.slice e)) (he : P.underlying e = some (.struct fs)) (hone : oneCellFields P fs = true) (hC : P.cellsOf e = fs.size)
    (h : DataW.trod enc P W 0 (fun _ => true) true fuel t [v] = some y) (hz : Sized P t y.1) :
    ∃ (a : Option Addr) (len cap : Nat), v = .slice a len cap ∧ len ≤ cap ∧ cap * P.bytesOf e ≤ 140737488351232 ∧ (a = none → len = 0 ∧ cap = 0) ∧
      ∀ i, i < len → ∃ (ad : Addr) (m : Nat), a = some ad ∧ ∀ (j : Nat) (f : Field), fs[j]? = some f → ∃ (u : Value) (z : DataW H × List MemPlace), W.cell? (ad.add (i * fs.size + j)) = some u ∧ DataW.trod enc P W 0 (fun _ => true) true m f.type [u] = some z ∧ Sized P f.type z.1 := by
  rcases open_slice ht h with ⟨hcs, hx⟩ | ⟨a, len, cap, m, n, D, Pl, hcs, hb, hl, hm, hmm, hx, hi⟩
  · simp at hcs
    subst hcs
    exact ⟨none, 0, 0, rfl, Nat.le_refl _, by simp, by simp, fun i hi => absurd hi (by omega)⟩
  · simp at hcs hmm
    subst hcs hmm
    rw [hx] at hz
    obtain ⟨hz1, hz2⟩ := hz.slice ht
    refine ⟨some a, len, m, rfl, hl, ?_, by simp, fun i hil => ⟨a, ?_⟩⟩
    · simp [reachBytes] at hz1
      rwa [show len + (m - len) = m by omega] at hz1
    · obtain ⟨cs', hc', ht'⟩ := hi i (by omega)
      obtain ⟨ys, m', hy1, hy2, hy3⟩ := rec_elem he hone hC hc' ht'
      refine ⟨m', rfl, fun j f hj => ?_⟩
      obtain ⟨u, z, h1, h2, h3⟩ := hy3 j f hj
      refine ⟨u, z, ?_, h3, ?_⟩
      · rw [← Go.Deep.add_add, ← hC]; exact h1
      · have hs := hz2 (D i) (List.mem_map.2 ⟨i, List.mem_range.2 hil, rfl⟩)
        have hy1' : D i = .agg (ys.map (·.1)) := hy1
        rw [hy1'] at hs
        exact hs.field he hj (by rw [List.getElem?_map, h2]; rfl)
theorem plain_spot {ad : Addr} {v : Value} (h : W.cell? (ad.add 0) = some v) : ∃ b o, ad = ⟨b, o, none⟩ := by
  obtain ⟨b, o, s⟩ := ad
  have hs : s = none := by simpa [Addr.add] using World.cell?_spot h
  subst hs
  exact ⟨b, o, rfl⟩
theorem add_at (b o k : Nat) : (⟨b, o, none⟩ : Addr).add k = ⟨b, o + k, none⟩ := by unfold Addr.add; split <;> simp_all
/-- A struct of two bools, by value. -/
theorem open_bools2 {t : TypeId} {f0 f1 : Field} {v : Value} {d : DataW H} {p : List MemPlace} (hs : P.underlying t = some (.struct #[f0, f1])) (hone : oneCellFields P #[f0, f1] = true) (hC : P.cellsOf t = 2) (h0 : P.underlying f0.type = some .bool) (h1 : P.underlying f1.type = some .bool)
    (hv : Value.okWide P W .any base t v) (h : DataW.Trod enc P W 0 (fun _ => true) true t v d p) : ∃ a b : Bool, v = .agg #[.bool a, .bool b] := by
  obtain ⟨c0, c1, y0, y1, m, rfl, _, _, hy0, hy1⟩ := open_agg2 hs hone hC hv h
  obtain ⟨a, e0, _⟩ := DataW.trod_bool h0 hy0
  obtain ⟨b, e1, _⟩ := DataW.trod_bool h1 hy1
  simp at e0 e1
  subst e0 e1
  exact ⟨a, b, rfl⟩
end
end Go.Proofs.YtdmcdhkkbkgnbaaGreat

namespace Go.Proofs.YtdmcdhkkbkgnbaaGreat
open Go.ChangeShapes Go.WideShapes Go.ChangeAt Go.RowKit
open Go.Maps (Keyed)
open Go.WideMaps
set_option linter.unusedVariables false
set_option linter.unusedSimpArgs false

variable {w w' : World} {p q n : Nat} {F R S : List Nat} {g : Gr} {N : Nt}
theorem lit_ne {x L : Nat} (h : x ≠ L) : ((x : Int) != (L : Int)) = true := by simp; omega
theorem lit_eq {x L : Nat} (h : x = L) : ((x : Int) != (L : Int)) = false := by simp; omega
theorem byte_cases (c : Nat) : (97 ≤ c ∧ c ≤ 122) ∨ (65 ≤ c ∧ c ≤ 90) ∨ (48 ≤ c ∧ c ≤ 57) ∨ c = 95 ∨ c = 64 ∨ c = 63 ∨ c < 48 ∨ (57 < c ∧ c < 63) ∨ (90 < c ∧ c < 95) ∨ c = 96 ∨ 122 < c := by omega
set_option maxHeartbeats 3200000 in
set_option maxRecDepth 100000 in
theorem mayname06 (s : ByteArray) (w : World) (hs : s.size ≤ 140737488351232) : Calls Tryz.prog 56 #[.string s] w fun e w' => e = .returned (.bool (mayB s)) ∧ w = w' := by
  by_cases h0 : s.size < 1
  · have HM := Lib.hid (show mayB s = false from by unfold mayB; rw [show decide (0 < s.size) = false from decide_eq_false (by omega)]; rfl)
    go_enter Tryz.func56, Tryz.ntmps56
    go_wp2_with fail
    go_ret
    exact ⟨by rw [HM.out]; rfl, rfl⟩
  by_cases h8 : 80 < s.size
  · have HM := Lib.hid (show mayB s = false from by unfold mayB; rw [show decide (s.size ≤ 80) = false from decide_eq_false (by omega)]; simp)
    go_enter Tryz.func56, Tryz.ntmps56
    go_wp2_with fail
    go_ret
    exact ⟨by rw [HM.out]; rfl, rfl⟩
  have HM := Lib.hid (show mayB s = allOk s from by unfold mayB; rw [decide_eq_true (show 0 < s.size by omega), decide_eq_true (show s.size ≤ 80 by omega)]; rfl)
  go_enter Tryz.func56, Tryz.ntmps56
  go_wp2_with fail
  go_loop [3] (fun i => ∃ k : Nat, k ≤ s.size ∧ i = .int .i64 k ∧ ∀ j (h : j < s.size), j < k → okR (s[j]'h).toNat = true) (fun i => s.size - (intOf i).toNat)
  case atStart => exact ⟨0, Nat.zero_le _, rfl, fun j h h2 => by omega⟩
  case round =>
    obtain ⟨k, hk, rfl, hall⟩ := hrel
    have HALL := Lib.hid hall
    clear hall
    by_cases hlt : k < s.size
    · have HG := Lib.hid (fun (ho : okR (s[k]'hlt).toNat = true) => show ∀ j (h : j < s.size), j < k + 1 → okR (s[j]'h).toNat = true from fun j h h2 => by
        rcases Nat.lt_or_ge j k with h3 | h3
        · exact HALL.out j h h3
        · have : j = k := by omega
          subst this; exact ho)
      have HB := Lib.hid (fun (ho : okR (s[k]'hlt).toNat = false) => allOk_no s k hlt ho)
      have HI := Lib.hid (okR_iff (s[k]'hlt).toNat)
      have hyes : ((97 ≤ (s[k]'hlt).toNat ∧ (s[k]'hlt).toNat ≤ 122) ∨ (65 ≤ (s[k]'hlt).toNat ∧ (s[k]'hlt).toNat ≤ 90) ∨ (48 ≤ (s[k]'hlt).toNat ∧ (s[k]'hlt).toNat ≤ 57) ∨ ((s[k]'hlt).toNat = 95) ∨ ((s[k]'hlt).toNat = 64) ∨ ((s[k]'hlt).toNat = 63)) ∨
          ((s[k]'hlt).toNat < 48 ∨ (57 < (s[k]'hlt).toNat ∧ (s[k]'hlt).toNat < 63) ∨ (90 < (s[k]'hlt).toNat ∧ (s[k]'hlt).toNat < 95) ∨ ((s[k]'hlt).toNat = 96) ∨ 122 < (s[k]'hlt).toNat) := by omega
      rcases hyes with hyes | hno
      · have HG2 := Lib.hid (HG.out (HI.out.2 hyes))
        clear HG HB HI
        rcases hyes with ⟨h1, h2⟩ | ⟨h1, h2⟩ | ⟨h1, h2⟩ | h1 | h1 | h1
        ·
          go_wp2_with fail
          go_round
          case rel => exact ⟨k + 1, by omega, by go_num, HG2.out⟩
          case measure => simp [intOf]; omega
        ·
          go_wp2_with fail
          go_round
          case rel => exact ⟨k + 1, by omega, by go_num, HG2.out⟩
          case measure => simp [intOf]; omega
        ·
          go_wp2_with fail
          go_round
          case rel => exact ⟨k + 1, by omega, by go_num, HG2.out⟩
          case measure => simp [intOf]; omega
        ·
          have e95 : (((s[k]'hlt).toNat : Int) != 95) = false := lit_eq (L := 95) (by omega)
          go_wp2_with fail
          go_round
          case rel => exact ⟨k + 1, by omega, by go_num, HG2.out⟩
          case measure => simp [intOf]; omega
        ·
          have e95 : (((s[k]'hlt).toNat : Int) != 95) = true := lit_ne (L := 95) (by omega)
          have e64 : (((s[k]'hlt).toNat : Int) != 64) = false := lit_eq (L := 64) (by omega)
          go_wp2_with fail
          go_round
          case rel => exact ⟨k + 1, by omega, by go_num, HG2.out⟩
          case measure => simp [intOf]; omega
        ·
          have e95 : (((s[k]'hlt).toNat : Int) != 95) = true := lit_ne (L := 95) (by omega)
          have e64 : (((s[k]'hlt).toNat : Int) != 64) = true := lit_ne (L := 64) (by omega)
          have e63 : (((s[k]'hlt).toNat : Int) != 63) = false := lit_eq (L := 63) (by omega)
          go_wp2_with fail
          go_round
          case rel => exact ⟨k + 1, by omega, by go_num, HG2.out⟩
          case measure => simp [intOf]; omega
      · have HB2 := Lib.hid (HB.out (by
          cases h : okR (s[k]'hlt).toNat
          · rfl
          · have := HI.out.1 h; omega))
        clear HG HB HI
        have e95 : (((s[k]'hlt).toNat : Int) != 95) = true := lit_ne (L := 95) (by omega)
        have e64 : (((s[k]'hlt).toNat : Int) != 64) = true := lit_ne (L := 64) (by omega)
        have e63 : (((s[k]'hlt).toNat : Int) != 63) = true := lit_ne (L := 63) (by omega)
        rcases hno with h1 | ⟨h1, h2⟩ | ⟨h1, h2⟩ | h1 | h1
        ·
          go_wp2_with fail
          go_ret
          exact ⟨by rw [HM.out, HB2.out]; rfl, rfl⟩
        ·
          have d57 : decide (((s[k]'hlt).toNat : Int) ≤ 57) = false := decide_eq_false (by omega)
          go_wp2_with fail
          go_ret
          exact ⟨by rw [HM.out, HB2.out]; rfl, rfl⟩
        ·
          have d57 : decide (((s[k]'hlt).toNat : Int) ≤ 57) = false := decide_eq_false (by omega)
          have d90 : decide (((s[k]'hlt).toNat : Int) ≤ 90) = false := decide_eq_false (by omega)
          go_wp2_with fail
          go_ret
          exact ⟨by rw [HM.out, HB2.out]; rfl, rfl⟩
        ·
          have d57 : decide (((s[k]'hlt).toNat : Int) ≤ 57) = false := decide_eq_false (by omega)
          have d90 : decide (((s[k]'hlt).toNat : Int) ≤ 90) = false := decide_eq_false (by omega)
          go_wp2_with fail
          go_ret
          exact ⟨by rw [HM.out, HB2.out]; rfl, rfl⟩
        ·
          have d57 : decide (((s[k]'hlt).toNat : Int) ≤ 57) = false := decide_eq_false (by omega)
          have d90 : decide (((s[k]'hlt).toNat : Int) ≤ 90) = false := decide_eq_false (by omega)
          have d122 : decide (((s[k]'hlt).toNat : Int) ≤ 122) = false := decide_eq_false (by omega)
          go_wp2_with fail
          go_ret
          exact ⟨by rw [HM.out, HB2.out]; rfl, rfl⟩
    · have HY := Lib.hid (show allOk s = true from (allOk_iff s).2 fun j h => HALL.out j h (by omega))
      go_wp2_with fail
      go_ret
      exact ⟨by rw [HM.out, HY.out]; rfl, rfl⟩
def FindR (o : Option BR) (w : World) (e : Ending) (w' : World) : Prop :=
  (o = none ∧ e = .returned (.tuple #[.slice none 0 0, .bool false]) ∧ w = w') ∨ ∃ r, o = some r ∧ e = .returned (.tuple #[.slice r.a r.b.lits.length r.c, .bool true]) ∧ w = w'
set_option maxHeartbeats 1600000 in
set_option maxRecDepth 100000 in
theorem find06 (s : ByteArray) (a : Option Addr) (c len : Nat) (rs : List BR) (hl : rs.length = len) (hm : len ≤ 1000000) (hs : SlB w a rs) :
    Calls Tryz.prog 104 #[.slice a len c, .string s] w (FindR (findRow rs s) w) := by
  have HL := Lib.hid hl
  have HS := Lib.hid hs
  clear hl hs
  go_enter Tryz.func104, Tryz.ntmps104
  go_wp2_with fail
  go_loop [6] (fun i => ∃ k : Nat, k ≤ len ∧ i = .int .i64 k ∧ ∀ j (h : j < rs.length), j < k → rs[j].b.name ≠ s) (fun i => len - (intOf i).toNat)
  case atStart => exact ⟨0, Nat.zero_le _, rfl, fun j h h2 => by omega⟩
  case round =>
    obtain ⟨k, hk, rfl, hall⟩ := hrel
    have HA := Lib.hid hall
    clear hall
    by_cases hlt : k < len
    · have hkl : k < rs.length := by rw [HL.out]; exact hlt
      obtain ⟨b, rfl, h1, h2⟩ := HS.out k hkl
      by_cases hn : rs[k].b.name = s
      · have HF := Lib.hid (show findRow rs s = some rs[k] from by
          unfold findRow
          rw [show findP rs s = some k from by
            unfold findP
            rw [List.findIdx?_eq_some_iff_getElem]
            exact ⟨hkl, by simpa using hn, fun j hj => by simpa using HA.out j (by omega) hj⟩]
          exact List.getElem?_eq_getElem hkl)
        have e1 : (rs[k].b.name.toList == s.toList) = true := by rw [str_eq]; simpa using hn
        clear hn
        generalize rs[k] = r at *
        go_wp2_with fail
        go_ret2
        exact .inr ⟨r, HF.out, rfl, rfl⟩
      · have HN := Lib.hid (show ∀ j (h : j < rs.length), j < k + 1 → rs[j].b.name ≠ s from fun j h hj => by
          rcases Nat.lt_or_ge j k with h3 | h3
          · exact HA.out j h h3
          · have : j = k := by omega
            subst this; exact hn)
        have e1 : (rs[k].b.name.toList == s.toList) = false := by rw [str_eq]; simpa using hn
        clear hn
        generalize rs[k] = r at *
        go_wp2_with fail
        go_round
        case rel => exact ⟨k + 1, by omega, by go_num, HN.out⟩
        case measure => simp [intOf]; omega
    · obtain rfl : k = len := by omega
      have HF := Lib.hid (show findRow rs s = none from by
        unfold findRow
        rw [show findP rs s = none from by
          unfold findP
          rw [List.findIdx?_eq_none_iff]
          intro x hx
          obtain ⟨j, hj, rfl⟩ := List.getElem_of_mem hx
          simpa using HA.out j hj (by have := HL.out; omega)]
        rfl)
      go_wp2_with fail
      go_ret2
      exact .inl ⟨HF.out, rfl, rfl⟩
set_option maxHeartbeats 800000 in
theorem there03 (hg : RefAt w q R g) (hm : g.nodes.length ≤ 90000) (a : Option Addr) (c n : Nat) (l : List Nat) (hl : l.length = n) (hn : n ≤ 140737488351232) (hs : SlN w .u32 a l) (hx : ∀ x ∈ l, x < 4294967296) :
    Calls Tryz.prog 59 #[.pointer (some ⟨q, 0, none⟩), .slice a n c] w fun e w' => e = .returned (.bool (!gone g l)) ∧ ∃ k, w' = w.drewN k := by
  obtain ⟨an, cn, rfl, hc⟩ := hg
  have c2 := hc.c2
  have HL := Lib.hid hl
  have HS := Lib.hid hs
  have HX := Lib.hid hx
  clear hc hl hs hx
  obtain ⟨nn, hnn⟩ : ∃ k, k = g.nodes.length := ⟨_, rfl⟩
  have HNN := Lib.hid hnn
  rw [← hnn] at c2 hm
  clear hnn
  go_enter Tryz.func59, Tryz.ntmps59
  go_wp2_with fail
  go_loopw [5] (fun i wr => ∃ k m : Nat, k ≤ n ∧ i = .int .i64 k ∧ wr = w.drewN m ∧ ∀ x ∈ l.take k, g.ok x) (fun i _ => n - (intOf i).toNat)
  case atStart => exact ⟨0, 0, Nat.zero_le _, rfl, rfl, by simp⟩
  case round =>
    obtain ⟨k, m, hk, rfl, rfl, hall⟩ := hrel
    have HA := Lib.hid hall
    clear hall
    by_cases hlt : k < n
    · have hkl : k < l.length := by rw [HL.out]; exact hlt
      obtain ⟨ad, rfl, hcx⟩ := HS.out k hkl
      have hx := HX.out _ (List.getElem_mem hkl)
      have HT := Lib.hid (take_snoc l k hkl)
      have HM := Lib.hid (List.getElem_mem hkl)
      generalize l[k] = x at *
      by_cases hok : x / 2 < nn
      · have t1 : decide ((nn : Int) ≤ (x : Int) / 2) = false := by rw [decide_eq_false_iff_not]; omega
        have HA2 := Lib.hid (show ∀ y ∈ l.take (k + 1), g.ok y from fun y hy => by
          rw [HT.out] at hy
          rcases List.mem_append.1 hy with hy | hy
          · exact HA.out y hy
          · rw [List.mem_singleton] at hy
            subst hy
            unfold Gr.ok; rw [← HNN.out]; exact hok)
        go_wp2_with fail
        go_quiet (fail)
        go_wp2_with fail
        go_roundw
        case rel => exact ⟨k + 1, _, by omega, by go_num, rfl, HA2.out⟩
        case measure => simp [intOf]; omega
      · have t1 : decide ((nn : Int) ≤ (x : Int) / 2) = true := by rw [decide_eq_true_eq]; omega
        have HG := Lib.hid (show gone g l = true from by
          unfold gone
          rw [List.any_eq_true]
          exact ⟨x, HM.out, by rw [decide_eq_true_eq, ← HNN.out]; omega⟩)
        go_wp2_with fail
        go_quiet (fail)
        go_wp2_with fail
        go_ret
        exact ⟨by rw [HG.out]; rfl, _, World.drewN_drewN _ _ _⟩
    · obtain rfl : k = n := by omega
      have HG := Lib.hid (show gone g l = false from gone_false.2 (by have h := HA.out; rw [List.take_of_length_le (by rw [HL.out]; exact Nat.le_refl _)] at h; exact h))
      go_wp2_with fail
      go_ret
      exact ⟨by rw [HG.out]; rfl, m, rfl⟩
def TwoPost (g : Gr) (r : Gr × Nat) (bad : Bool) (w : World) (q : Nat) (R : List Nat) (e : Ending) (w' : World) : Prop :=
  if bad = true then e = .returned (.tuple #[.int .u32 0, .int .i64 1]) ∧ Kept [] w w' else RefPost r w q R e w'
set_option maxHeartbeats 1600000 in
theorem many_two (op : Int) (two : Gr → Nat → Nat → Gr × Nat) (x y : Nat) (hop : op = 1 ∨ op = 3) (hg : RefAt w q R g) (hm : g.nodes.length ≤ 70000) (b : Nat) (hs : SlN w .u32 (some ⟨b, 0, none⟩) [x, y]) (hx : x < 4294967296) (hy : y < 4294967296)
    (h2 : ∀ W, RefAt W q R g → g.ok x → g.ok y → Calls Tryz.prog 132 #[.pointer (some ⟨q, 0, none⟩), .int .i64 op, .int .u32 (x : Int), .int .u32 (y : Int)] W (RefPost (two g x y) W q R)) :
    Calls Tryz.prog 99 #[.pointer (some ⟨q, 0, none⟩), .int .i64 op, .slice (some ⟨b, 0, none⟩) 2 2] w (TwoPost g (two g x y) (gone g [x, y]) w q R) := by
  have HT := Lib.hid (there03 hg (by omega) (some ⟨b, 0, none⟩) 2 2 [x, y] rfl (by omega) hs (by intro z hz; simp at hz; omega))
  have HG := Lib.hid hg
  have H2 := Lib.hid h2
  have c0 : w.cell? ⟨b, 0, none⟩ = some (.int .u32 (x : Int)) := by obtain ⟨ad, h1, h2⟩ := hs 0 (by simp); injection h1 with h1; subst h1; simpa [add_at] using h2
  have c1 : w.cell? ⟨b, 1, none⟩ = some (.int .u32 (y : Int)) := by obtain ⟨ad, h1, h2⟩ := hs 1 (by simp); injection h1 with h1; subst h1; simpa [add_at] using h2
  clear hg h2 hs
  cases hgn : gone g [x, y] with
  | true =>
    rw [hgn] at HT
    clear hgn c0 c1
    rcases hop with rfl | rfl
    all_goals
      go_enter Tryz.func99, Tryz.ntmps99
      go_wp2_with fail
      refine HT.out.mono ?_
      rintro e w1 ⟨rfl, m, hm1⟩
      have K := Lib.hid (show Kept [] w w1 from by rw [hm1]; exact (Kept.refl [] w).drewN m)
      clear hm1
      go_wp2_with fail
      go_ret2
      exact by unfold TwoPost; rw [if_pos rfl]; exact ⟨rfl, K.out⟩
  | false =>
    rw [hgn] at HT
    have hok := gone_false.1 hgn
    have HOK := Lib.hid (And.intro (hok x (by simp)) (hok y (by simp)))
    clear hgn hok
    generalize two g x y = r at *
    rcases hop with rfl | rfl
    all_goals
      go_enter Tryz.func99, Tryz.ntmps99
      go_wp2_with fail
      refine HT.out.mono ?_
      rintro e w1 ⟨rfl, m, hm1⟩
      have K := Lib.hid (show Kept [] w w1 from by rw [hm1]; exact (Kept.refl [] w).drewN m)
      have d0 := K.out.cell c0 (by simp)
      have d1 := K.out.cell c1 (by simp)
      clear hm1 c0 c1
      go_wp2_with fail
      go_loopw [8, 9] (fun v i wr => (i = .int .i64 1 ∧ v = .int .u32 (x : Int) ∧ wr = w1) ∨ (i = .int .i64 2 ∧ v = .int .u32 ((r.2 : Nat) : Int) ∧ ∃ R', RefAt wr q R' r.1 ∧ Stepped w wr R R')) (fun _ i _ => 2 - (intOf i).toNat)
      case atStart => exact .inl ⟨rfl, rfl, rfl⟩
      case round =>
        rcases hrel with ⟨rfl, rfl, rfl⟩ | ⟨rfl, rfl, R', h1, h2⟩
        · go_wp2_with fail
          refine (H2.out _ (HG.out.kept0 K.out) HOK.out.1 HOK.out.2).mono ?_
          rintro e w3 ⟨R3, rfl, hr3, hs3⟩
          have HR3 := Lib.hid hr3
          have HS3 := Lib.hid (((Stepped.refl w R).keep0 K.out).trans hs3)
          clear hr3 hs3
          go_wp2_with fail
          go_roundw
          case rel => exact .inr ⟨rfl, rfl, R3, HR3.out, HS3.out⟩
          case measure => simp [intOf]
        · have HR3 := Lib.hid h1
          have HS3 := Lib.hid h2
          clear h1 h2
          go_wp2_with fail
          go_ret2
          exact by unfold TwoPost; rw [if_neg (by simp)]; exact ⟨R', rfl, HR3.out, HS3.out⟩
def NewPostR (N : Nt) (w : World) (e : Ending) (w' : World) : Prop := ∃ n F, e = .returned (.tuple #[.pointer (some ⟨n, 0, none⟩), .int .i64 0]) ∧ RNetAt w' n F [] N ∧ Kept [] w w' ∧ ∀ b ∈ F, w.heap.size ≤ b
set_option maxHeartbeats 800000 in
theorem new06 (s : ByteArray) (o1 o2 : Bool) (w : World) (hs : s.size ≤ 140737488351232) (hm : mayB s = true) : Calls Tryz.prog 33 #[.string s, .bool o1, .bool o2] w (NewPostR (newN s o1 o2) w) := by
  have H := Lib.hid (fun (W : World) => mayname06 s W hs)
  rw [hm] at H
  clear hm
  go_enter Tryz.func33, Tryz.ntmps33
  go_wp2_with fail
  refine (H.out _).mono ?_
  rintro e w1 ⟨rfl, rfl⟩
  go_wp2_with fail
  refine (ref_new o1 o2 _).mono ?_
  rintro e w2 ⟨p, G, rfl, hg, hst⟩
  have GG := Lib.hid hg
  have K2 := Lib.hid hst.kept
  have FR := Lib.hid (show ∀ b ∈ G, w.heap.size ≤ b from fun b hb => (hst.fresh b hb).elim (by simp) id)
  clear hg hst
  go_wp2_with fail
  refine bodyPost_ret (v := .tuple #[.pointer (some ⟨w2.heap.size, 0, none⟩), .int .i64 0]) (by simp [results, Tryz.results33, go_sem]) rfl ⟨w2.heap.size, _, rfl, ⟨p, G, none, 0, none, 0, none, 0, [], [], rfl, by simp [rowsOf], ?_⟩, K2.out.alloc _, ?_⟩
  · have hk3 : Kept [] w2 (w2.alloc (.cells (nCells p (newN s o1 o2) none 0 none 0 none 0) 44)) := (Kept.refl [] w2).alloc _
    exact ⟨heap_alloc_new w2 _, GG.out.kept0 hk3, ⟨World.ownsRow_nil _ _ _ _, rfl, by simp⟩, World.ownsRow_nil _ _ _ _, ⟨World.ownsRow_nil _ _ _ _, rfl, by simp⟩, by simp [ft], by simp [rowsOf]⟩
  · intro b hb
    simp only [ft, List.mem_cons, List.mem_append, Option.map_none, Option.toList_none, List.not_mem_nil, or_false] at hb
    rcases hb with rfl | hb
    · exact K2.out.size
    · exact FR.out b hb
end Go.Proofs.YtdmcdhkkbkgnbaaGreat
