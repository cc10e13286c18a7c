/-
  The document's netlists: a bus more, a register more, a register set.
-/
import Derived.Test.YtnjoklcddodfeaaGreatDoorP18
import Derived.Test.YtnjoklcddodfeaaGreatDoorP22
namespace Go.Proofs.YtnjoklcddodfeaaGreatDoor
open Go.ChangeShapes Go.WideShapes Go.ChangeAt Go.RowKit
open Go.Maps (Keyed)
open Go.WideMaps
set_option linter.unusedVariables false
set_option linter.unusedSimpArgs false

variable {w w' : World} {p n : Nat} {F R S : List Nat} {g : Gr} {N : Nt}
section
variable {G : List Nat} {ia ra oa : Option Addr} {ic rc oc : Nat} {ri ro : List BR}
/-- a bus more that comes in -/
theorem RNetC.addIn {w1 : World} {ia' a : Option Addr} {ic' c : Nat} {s : ByteArray} {l : List Nat} (h : RNetC w n N p G ia ic ra rc oa oc ri ro)
    (hown : w1.ownsRow 0 110 2 (.slice ia' (N.inb.length + 1) ic') (N.inb.length + 1) (brCells ri ++ [.string s, .slice a l.length c])) (hst : Stepped w w1 (ft ia) (ft ia')) (hrow : SlN w .u32 a l) (ha : ∀ b ∈ ft a, b < w.heap.size ∧ b ∉ n :: (G ++ (ft ia ++ (ft ra ++ ft oa)))) :
    RNetC (w1.setCell ⟨n, 2, none⟩ (.slice ia' (N.inb.length + 1) ic')) n { N with inb := N.inb ++ [⟨s, l⟩] } p G ia' ic' ra rc oa oc (ri ++ [⟨⟨s, l⟩, a, c⟩]) ro ∧
    Stepped w (w1.setCell ⟨n, 2, none⟩ (.slice ia' (N.inb.length + 1) ic')) (n :: (G ++ (ft ia ++ (ft ra ++ ft oa)))) (n :: (G ++ (ft ia' ++ (ft ra ++ ft oa)))) := by
  obtain ⟨a1, a2, a3, a4, a5, a6, a7, a8, a9⟩ := h.apart
  have lt := h.lt
  have fr := h.fr
  simp only [List.mem_cons, List.mem_append, not_or] at fr ha
  have hnew : ∀ b ∈ ft ia', b ∈ ft ia ∨ w.heap.size ≤ b := hst.fresh
  have hkn : w1.heap[n]? = some (.cells (nCells p N ia ic ra rc oa oc) 108 (0, 0)) := hst.kept.heap h.blk a2
  have hn' : n ∉ ft ia' := blk_apart hkn hown (by decide)
  have hks : Kept [n] w1 (w1.setCell ⟨n, 2, none⟩ (.slice ia' (N.inb.length + 1) ic')) := (Kept.refl [n] w1).setCell (p := ⟨n, 2, none⟩) (.inl (by simp)) _
  have gk := (h.gr.kept hst.kept (fun b hb hx => a5 b hx hb)).kept hks (fun b hb hx => by simp at hx; exact a1 (hx ▸ hb))
  have rk := own_kept (own_kept h.rb hst.kept a8) hks (fun b hb hx => by simp at hx; exact a3 (hx ▸ hb))
  have ok := (h.ob.kept hst.kept (fun b hb hx => h.io b hx hb) (fun b hb => (fr b (.inr hb)).2.2.1)).kept hks (fun b hb hx => by simp at hx; exact a4 (hx ▸ hb)) (fun b hb hx => by simp at hx; exact (fr b (.inr hb)).1 hx)
  have hkk : Kept (n :: ft ia) w (w1.setCell ⟨n, 2, none⟩ (.slice ia' (N.inb.length + 1) ic')) := (hst.kept.more (fun b hb => List.mem_cons_of_mem _ hb)).trans (hks.more (fun b hb => by simp at hb; simp [hb]))
  have rows' : ∀ b ∈ rowsOf (ri ++ [⟨⟨s, l⟩, a, c⟩]) ++ rowsOf ro, b < w.heap.size ∧ b ≠ n ∧ b ∉ G ∧ b ∉ ft ia ∧ b ∉ ft ra ∧ b ∉ ft oa := by
    intro b hb
    rcases List.mem_append.1 hb with hb | hb
    · obtain ⟨r, hr, hb⟩ := mem_rowsOf.1 hb
      rcases List.mem_append.1 hr with hr | hr
      · have hm := mem_rowsOf.2 ⟨r, hr, hb⟩
        exact ⟨lt.2 b (by simp [hm]), (fr b (.inl hm)).1, (fr b (.inl hm)).2⟩
      · rw [List.mem_singleton] at hr
        subst hr
        exact ⟨(ha b hb).1, (ha b hb).2.1, (ha b hb).2.2⟩
    · exact ⟨lt.2 b (by simp [hb]), (fr b (.inr hb)).1, (fr b (.inr hb)).2⟩
  refine ⟨⟨?_, gk, ⟨?_, ?_, ?_⟩, rk, ok, ?_, ?_⟩, ⟨hkk.more ?_, ?_⟩⟩
  · rw [blk_set hkn]
    simp [nCells]
  · have := own_kept hown hks (fun b hb hx => by simp at hx; exact hn' (hx ▸ hb))
    rw [brCells_snoc ri ⟨⟨s, l⟩, a, c⟩] at this
    simpa using this
  · simp [h.ib.is]
  · intro r hr
    rcases List.mem_append.1 hr with hr | hr
    · have hm : ∀ b ∈ ft r.a, b ∈ rowsOf ri := fun b hb => mem_rowsOf.2 ⟨r, hr, hb⟩
      exact ⟨(h.ib.rows r hr).1.kept hkk (fun b hb hx => by rcases List.mem_cons.1 hx with hx | hx; exact (fr b (.inl (hm b hb))).1 hx; exact (fr b (.inl (hm b hb))).2.2.1 hx), fun b hb => Nat.lt_of_lt_of_le ((h.ib.rows r hr).2 b hb) hkk.size⟩
    · rw [List.mem_singleton] at hr
      subst hr
      exact ⟨hrow.kept hkk (fun b hb hx => by rcases List.mem_cons.1 hx with hx | hx; exact (ha b hb).2.1 hx; exact (ha b hb).2.2.2.1 hx), fun b hb => Nat.lt_of_lt_of_le (ha b hb).1 hkk.size⟩
  · intro b hb
    rcases hnew b hb with hx | hx
    · exact h.io b hx
    · exact fun ho => by have := lt.1 b (by simp [ho]); omega
  · intro b hb
    obtain ⟨h1, h2, h3, h4, h5, h6⟩ := rows' b hb
    simp only [List.mem_cons, List.mem_append, not_or]
    exact ⟨h2, h3, fun hx => by rcases hnew b hx with hx | hx; exact h4 hx; omega, h5, h6⟩
  · intro b hb
    simp only [List.mem_cons, List.mem_append] at hb ⊢
    rcases hb with hb | hb
    · exact .inl hb
    · exact .inr (.inr (.inl hb))
  · intro b hb
    simp only [List.mem_cons, List.mem_append] at hb ⊢
    rcases hb with hb | hb | hb | hb | hb
    · exact .inl (.inl hb)
    · exact .inl (.inr (.inl hb))
    · rcases hnew b hb with hx | hx
      · exact .inl (.inr (.inr (.inl hx)))
      · exact .inr hx
    · exact .inl (.inr (.inr (.inr (.inl hb))))
    · exact .inl (.inr (.inr (.inr (.inr hb))))
/-- a register more -/
theorem RNetC.addReg {w1 : World} {ra' : Option Addr} {rc' : Nat} {r : Rg} (h : RNetC w n N p G ia ic ra rc oa oc ri ro)
    (hown : w1.ownsRow 0 113 4 (.slice ra' (N.regs.length + 1) rc') (N.regs.length + 1) (rgCells N.regs ++ [.int .u32 (r.q : Int), .int .u32 (r.d : Int), .int .u32 (r.en : Int), .bool r.init])) (hst : Stepped w w1 (ft ra) (ft ra')) :
    RNetC (w1.setCell ⟨n, 3, none⟩ (.slice ra' (N.regs.length + 1) rc')) n { N with regs := N.regs ++ [r] } p G ia ic ra' rc' oa oc ri ro ∧
    Stepped w (w1.setCell ⟨n, 3, none⟩ (.slice ra' (N.regs.length + 1) rc')) (n :: (G ++ (ft ia ++ (ft ra ++ ft oa)))) (n :: (G ++ (ft ia ++ (ft ra' ++ ft oa)))) := by
  obtain ⟨a1, a2, a3, a4, a5, a6, a7, a8, a9⟩ := h.apart
  have lt := h.lt
  have fr := h.fr
  simp only [List.mem_cons, List.mem_append, not_or] at fr
  have hnew : ∀ b ∈ ft ra', b ∈ ft ra ∨ w.heap.size ≤ b := hst.fresh
  have hkn : w1.heap[n]? = some (.cells (nCells p N ia ic ra rc oa oc) 108 (0, 0)) := hst.kept.heap h.blk a3
  have hn' : n ∉ ft ra' := blk_apart hkn hown (by decide)
  have hks : Kept [n] w1 (w1.setCell ⟨n, 3, none⟩ (.slice ra' (N.regs.length + 1) rc')) := (Kept.refl [n] w1).setCell (p := ⟨n, 3, none⟩) (.inl (by simp)) _
  have gk := (h.gr.kept hst.kept (fun b hb hx => a6 b hx hb)).kept hks (fun b hb hx => by simp at hx; exact a1 (hx ▸ hb))
  have ik := (h.ib.kept hst.kept (fun b hb hx => a8 b hx hb) (fun b hb => (fr b (.inl hb)).2.2.2.1)).kept hks (fun b hb hx => by simp at hx; exact a2 (hx ▸ hb)) (fun b hb hx => by simp at hx; exact (fr b (.inl hb)).1 hx)
  have ok := (h.ob.kept hst.kept (fun b hb hx => a9 b hx hb) (fun b hb => (fr b (.inr hb)).2.2.2.1)).kept hks (fun b hb hx => by simp at hx; exact a4 (hx ▸ hb)) (fun b hb hx => by simp at hx; exact (fr b (.inr hb)).1 hx)
  have hkk : Kept (n :: ft ra) w (w1.setCell ⟨n, 3, none⟩ (.slice ra' (N.regs.length + 1) rc')) := (hst.kept.more (fun b hb => List.mem_cons_of_mem _ hb)).trans (hks.more (fun b hb => by simp at hb; simp [hb]))
  refine ⟨⟨?_, gk, ik, ?_, ok, h.io, ?_⟩, ⟨hkk.more ?_, ?_⟩⟩
  · rw [blk_set hkn]
    simp [nCells]
  · have := own_kept hown hks (fun b hb hx => by simp at hx; exact hn' (hx ▸ hb))
    rw [rgCells_snoc N.regs r] at this
    simpa using this
  · intro b hb
    have f := fr b (List.mem_append.1 hb)
    have l := lt.2 b hb
    simp only [List.mem_cons, List.mem_append, not_or]
    exact ⟨f.1, f.2.1, f.2.2.1, fun hx => by rcases hnew b hx with hx | hx; exact f.2.2.2.1 hx; omega, f.2.2.2.2⟩
  · intro b hb
    simp only [List.mem_cons, List.mem_append] at hb ⊢
    rcases hb with hb | hb
    · exact .inl hb
    · exact .inr (.inr (.inr (.inl hb)))
  · intro b hb
    simp only [List.mem_cons, List.mem_append] at hb ⊢
    rcases hb with hb | hb | hb | hb | hb
    · exact .inl (.inl hb)
    · exact .inl (.inr (.inl hb))
    · exact .inl (.inr (.inr (.inl hb)))
    · rcases hnew b hb with hx | hx
      · exact .inl (.inr (.inr (.inr (.inl hx))))
      · exact .inr hx
    · exact .inl (.inr (.inr (.inr (.inr hb))))
/-- a bus more that goes out -/
theorem RNetC.addOut {w1 : World} {oa' a : Option Addr} {oc' c : Nat} {s : ByteArray} {l : List Nat} (h : RNetC w n N p G ia ic ra rc oa oc ri ro)
    (hown : w1.ownsRow 0 110 2 (.slice oa' (N.outb.length + 1) oc') (N.outb.length + 1) (brCells ro ++ [.string s, .slice a l.length c])) (hst : Stepped w w1 (ft oa) (ft oa')) (hrow : SlN w .u32 a l) (ha : ∀ b ∈ ft a, b < w.heap.size ∧ b ∉ n :: (G ++ (ft ia ++ (ft ra ++ ft oa)))) :
    RNetC (w1.setCell ⟨n, 4, none⟩ (.slice oa' (N.outb.length + 1) oc')) n { N with outb := N.outb ++ [⟨s, l⟩] } p G ia ic ra rc oa' oc' ri (ro ++ [⟨⟨s, l⟩, a, c⟩]) ∧
    Stepped w (w1.setCell ⟨n, 4, none⟩ (.slice oa' (N.outb.length + 1) oc')) (n :: (G ++ (ft ia ++ (ft ra ++ ft oa)))) (n :: (G ++ (ft ia ++ (ft ra ++ ft oa')))) := by
  obtain ⟨a1, a2, a3, a4, a5, a6, a7, a8, a9⟩ := h.apart
  have lt := h.lt
  have fr := h.fr
  simp only [List.mem_cons, List.mem_append, not_or] at fr ha
  have hnew : ∀ b ∈ ft oa', b ∈ ft oa ∨ w.heap.size ≤ b := hst.fresh
  have hkn : w1.heap[n]? = some (.cells (nCells p N ia ic ra rc oa oc) 108 (0, 0)) := hst.kept.heap h.blk a4
  have hn' : n ∉ ft oa' := blk_apart hkn hown (by decide)
  have hks : Kept [n] w1 (w1.setCell ⟨n, 4, none⟩ (.slice oa' (N.outb.length + 1) oc')) := (Kept.refl [n] w1).setCell (p := ⟨n, 4, none⟩) (.inl (by simp)) _
  have gk := (h.gr.kept hst.kept (fun b hb hx => a7 b hx hb)).kept hks (fun b hb hx => by simp at hx; exact a1 (hx ▸ hb))
  have rk := own_kept (own_kept h.rb hst.kept a9) hks (fun b hb hx => by simp at hx; exact a3 (hx ▸ hb))
  have ik := (h.ib.kept hst.kept h.io (fun b hb => (fr b (.inl hb)).2.2.2.2)).kept hks (fun b hb hx => by simp at hx; exact a2 (hx ▸ hb)) (fun b hb hx => by simp at hx; exact (fr b (.inl hb)).1 hx)
  have hkk : Kept (n :: ft oa) w (w1.setCell ⟨n, 4, none⟩ (.slice oa' (N.outb.length + 1) oc')) := (hst.kept.more (fun b hb => List.mem_cons_of_mem _ hb)).trans (hks.more (fun b hb => by simp at hb; simp [hb]))
  have rows' : ∀ b ∈ rowsOf ri ++ rowsOf (ro ++ [⟨⟨s, l⟩, a, c⟩]), b < w.heap.size ∧ b ≠ n ∧ b ∉ G ∧ b ∉ ft ia ∧ b ∉ ft ra ∧ b ∉ ft oa := by
    intro b hb
    rcases rows_out b hb with hb | hb
    · exact ⟨lt.2 b hb, (fr b (List.mem_append.1 hb)).1, (fr b (List.mem_append.1 hb)).2⟩
    · exact ⟨(ha b hb).1, (ha b hb).2.1, (ha b hb).2.2⟩
  refine ⟨⟨?_, gk, ik, rk, ⟨?_, ?_, ?_⟩, ?_, ?_⟩, ⟨hkk.more ?_, ?_⟩⟩
  · rw [blk_set hkn]
    simp [nCells]
  · have := own_kept hown hks (fun b hb hx => by simp at hx; exact hn' (hx ▸ hb))
    rw [brCells_snoc ro ⟨⟨s, l⟩, a, c⟩] at this
    simpa using this
  · simp [h.ob.is]
  · intro r hr
    rcases List.mem_append.1 hr with hr | hr
    · have hm : ∀ b ∈ ft r.a, b ∈ rowsOf ro := fun b hb => mem_rowsOf.2 ⟨r, hr, hb⟩
      exact ⟨(h.ob.rows r hr).1.kept hkk (fun b hb hx => by rcases List.mem_cons.1 hx with hx | hx; exact (fr b (.inr (hm b hb))).1 hx; exact (fr b (.inr (hm b hb))).2.2.2.2 hx), fun b hb => Nat.lt_of_lt_of_le ((h.ob.rows r hr).2 b hb) hkk.size⟩
    · rw [List.mem_singleton] at hr
      subst hr
      exact ⟨hrow.kept hkk (fun b hb hx => by rcases List.mem_cons.1 hx with hx | hx; exact (ha b hb).2.1 hx; exact (ha b hb).2.2.2.2.2 hx), fun b hb => Nat.lt_of_lt_of_le (ha b hb).1 hkk.size⟩
  · intro b hb hx
    rcases hnew b hx with hx | hx
    · exact h.io b hb hx
    · have := lt.1 b (by simp [hb]); omega
  · intro b hb
    obtain ⟨h1, h2, h3, h4, h5, h6⟩ := rows' b hb
    simp only [List.mem_cons, List.mem_append, not_or]
    exact ⟨h2, h3, h4, h5, fun hx => by rcases hnew b hx with hx | hx; exact h6 hx; omega⟩
  · intro b hb
    simp only [List.mem_cons, List.mem_append] at hb ⊢
    rcases hb with hb | hb
    · exact .inl hb
    · exact .inr (.inr (.inr (.inr hb)))
  · intro b hb
    simp only [List.mem_cons, List.mem_append] at hb ⊢
    rcases hb with hb | hb | hb | hb | hb
    · exact .inl (.inl hb)
    · exact .inl (.inr (.inl hb))
    · exact .inl (.inr (.inr (.inl hb)))
    · exact .inl (.inr (.inr (.inr (.inl hb))))
    · rcases hnew b hb with hx | hx
      · exact .inl (.inr (.inr (.inr (.inr hx))))
      · exact .inr hx
end
section
variable {G : List Nat} {ia oa : Option Addr} {ic rc oc gr : Nat} {ri ro : List BR}
theorem RNetC.setRegs {l' : List Rg} {W : World} (h : RNetC w n N p G ia ic (some ⟨gr, 0, none⟩) rc oa oc ri ro) (hk : Kept [gr] w W) (hl : l'.length = N.regs.length) (hown : W.ownsRow 0 113 4 (.slice (some ⟨gr, 0, none⟩) N.regs.length rc) N.regs.length (rgCells l')) :
    RNetC W n { N with regs := l' } p G ia ic (some ⟨gr, 0, none⟩) rc oa oc ri ro := by
  obtain ⟨a1, a2, a3, a4, a5, a6, a7, a8, a9⟩ := h.apart
  have fr := h.fr
  simp only [List.mem_cons, List.mem_append, not_or] at fr
  have one : ∀ b, b ∈ ft (some (⟨gr, 0, none⟩ : Addr)) ↔ b = gr := fun b => mem_ft
  have nn : n ∉ [gr] := by simp; exact fun e => a3 ((one n).2 e)
  refine ⟨?_, h.gr.kept hk (fun b hb hx => by simp at hx; exact a6 b ((one b).2 hx) hb), h.ib.kept hk (fun b hb hx => by simp at hx; exact a8 b ((one b).2 hx) hb) (fun b hb hx => by simp at hx; exact (fr b (.inl hb)).2.2.2.1 ((one b).2 hx)), ?_, h.ob.kept hk (fun b hb hx => by simp at hx; exact a9 b ((one b).2 hx) hb) (fun b hb hx => by simp at hx; exact (fr b (.inr hb)).2.2.2.1 ((one b).2 hx)), h.io, h.fr⟩
  · have := hk.heap h.blk nn
    rw [this]
    simp only [nCells, hl]
  · show W.ownsRow 0 113 4 (.slice (some ⟨gr, 0, none⟩) l'.length rc) l'.length (rgCells l')
    rw [hl]
    exact hown
theorem rset_regs1 (h : RNetC w n N p G ia ic (some ⟨gr, 0, none⟩) rc oa oc ri ro) {k d en : Nat} (hk : k < N.regs.length) :
    RNetC ((w.setCell ⟨gr, k * 4 + 1, none⟩ (.int .u32 (d : Int))).setCell ⟨gr, k * 4 + 2, none⟩ (.int .u32 (en : Int))) n { N with regs := putR N.regs k d en } p G ia ic (some ⟨gr, 0, none⟩) rc oa oc ri ro ∧
    Kept [gr] w ((w.setCell ⟨gr, k * 4 + 1, none⟩ (.int .u32 (d : Int))).setCell ⟨gr, k * 4 + 2, none⟩ (.int .u32 (en : Int))) := by
  have hkp : Kept [gr] w ((w.setCell ⟨gr, k * 4 + 1, none⟩ (.int .u32 (d : Int))).setCell ⟨gr, k * 4 + 2, none⟩ (.int .u32 (en : Int))) := ((Kept.refl [gr] w).setCell (p := ⟨gr, k * 4 + 1, none⟩) (.inl (by simp)) _).setCell (p := ⟨gr, k * 4 + 2, none⟩) (.inl (by simp)) _
  have lc := rgCells_length N.regs
  have h1 := (World.ownsRow.stored h.rb (k * 4 + 1) (.int .u32 (d : Int))).1
  have h2 := (World.ownsRow.stored h1 (k * 4 + 2) (.int .u32 (en : Int))).1
  rw [← rgCells_put _ _ _ _ hk] at h2
  exact ⟨h.setRegs hkp (putR_length _ _ _ _) h2, hkp⟩
end
theorem RBusesAt.slb {a : Option Addr} {c : Nat} {l : List Bus} {rs : List BR} (h : RBusesAt w a c l rs) : SlB w a rs := fun i hi => by
  have hl : rs.length = l.length := by rw [← h.is]; simp
  obtain ⟨gb, h1, h2⟩ := own2_form (h := h.own) (by omega)
  have hg := brCells_get rs i rs[i] (List.getElem?_eq_getElem hi)
  exact ⟨gb, h1, by rw [h2 _ (by omega), ← hg.1, Nat.mul_comm], by rw [h2 _ (by omega), ← hg.2, Nat.mul_comm]⟩
theorem rregs_sl {a : Option Addr} {c m : Nat} {l : List Rg} (hl : l.length = m) (h : w.ownsRow 0 113 4 (.slice a m c) m (rgCells l)) : SlR w a l := fun i hi => by
  rcases h.2 with ⟨hv, h0⟩ | ⟨gb, cap', cur, hv, _⟩
  · omega
  · injection hv with hv
    subst hv
    have hg := rgCells_get l i l[i] (List.getElem?_eq_getElem hi)
    have hc : ∀ j, j < 4 * m → w.cell? ⟨gb, j, none⟩ = (rgCells l)[j]? := fun j hj => World.ownsRow.cellAt h j (by omega)
    exact ⟨gb, rfl, by rw [hc _ (by omega), ← hg.1, Nat.mul_comm], by rw [hc _ (by omega), ← hg.2.1, Nat.mul_comm], by rw [hc _ (by omega), ← hg.2.2.1, Nat.mul_comm], by rw [hc _ (by omega), ← hg.2.2.2, Nat.mul_comm]⟩
end Go.Proofs.YtnjoklcddodfeaaGreatDoor
