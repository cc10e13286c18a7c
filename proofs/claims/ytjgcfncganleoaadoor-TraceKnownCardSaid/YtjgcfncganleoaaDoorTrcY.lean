/-
  Package trace: the reader's table.
-/
import Derived.Test.YtjgcfncganleoaaDoorTrcX
namespace Go.Proofs.YtjgcfncganleoaaDoor
open Go.ChangeShapes Go.WideShapes Go.ChangeAt Go.RowKit
set_option linter.unusedVariables false
set_option linter.unusedSimpArgs false

variable {w w' w1 W : World}
/-- a table that grows in a struct at block p3, its parts of the call's own; beside it the result's variable at block p2, not written yet; the reader at block q -/
structure TabAt (w0 w : World) (p2 p3 q : Nat) (ba : Option Addr) (bn bc : Nat) (ra : Option Addr) (rn rc : Nat) (bs : List (ByteArray × Int)) (wl : List WR) (rs : List (List Nat)) : Prop where
  blk : w.heap[p3]? = some (.cells #[.slice ba bn bc, .slice ra rn rc] 25 (0, 0))
  res : w.heap[p2]? = some (.cells #[.slice none 0 0, .slice none 0 0] 25 (0, 0))
  bus : Own2 w 35 ba bn bc (busCells bs)
  rows : WRows w ra rn rc wl
  own : ∀ r ∈ wl, Own w 27 r.a r.l.length r.c (nats .u64 r.l)
  rm : wl.map (·.l) = rs
  pw : wl.Pairwise fun x y => ∀ b ∈ ft x.a, b ∉ ft y.a
  new : ∀ b ∈ ft ba ++ (ft ra ++ wrBlocks wl), w0.heap.size ≤ b
  kept : Kept [q] w0 w
  po : w0.heap.size ≤ p3 ∧ w0.heap.size ≤ p2 ∧ p2 ≠ p3
  qo : q < w0.heap.size
theorem TabAt.keep {w0 w2 : World} {p2 p3 q : Nat} {ba ra : Option Addr} {bn bc rn rc : Nat} {bs : List (ByteArray × Int)} {wl : List WR} {rs : List (List Nat)} (h : TabAt w0 w p2 p3 q ba bn bc ra rn rc bs wl rs) (hk : Kept [q] w w2) : TabAt w0 w2 p2 p3 q ba bn bc ra rn rc bs wl rs :=
  have hn : ∀ b, w0.heap.size ≤ b → b ∉ [q] := fun b hb => by have := h.qo; simp; omega
  ⟨hk.heap h.blk (hn _ h.po.1), hk.heap h.res (hn _ h.po.2.1), h.bus.kept hk (fun b hb => hn b (h.new b (by simp [hb]))), h.rows.kept hk (fun b hb => hn b (h.new b (by simp [hb]))) (fun b hb => hn b (h.new b (by simp [hb]))), fun r hr => (h.own r hr).kept hk (fun b hb => hn b (h.new b (by simp only [List.mem_append]; exact .inr (.inr (mem_wrBlocks.2 ⟨r, hr, hb⟩))))), h.rm, h.pw, h.new, h.kept.trans hk, h.po, h.qo⟩
theorem TabAt.row {w0 w1 w9 : World} {p2 p3 q : Nat} {ba ra a9 : Option Addr} {bn bc rn rc c9 : Nat} {bs : List (ByteArray × Int)} {wl : List WR} {rs : List (List Nat)} {r : WR} (h : TabAt w0 w p2 p3 q ba bn bc ra rn rc bs wl rs) (hk : Kept [q] w w1)
    (hr : Own w1 27 r.a r.l.length r.c (nats .u64 r.l)) (hf : ∀ b ∈ ft r.a, w.heap.size ≤ b) (ho : Own w9 33 a9 (rn + 1) c9 (wrCells wl ++ [.slice r.a r.l.length r.c])) (hst : Stepped w1 w9 (ft ra) (ft a9)) :
    TabAt w0 (w9.setCell ⟨p3, 1, none⟩ (.slice a9 (rn + 1) c9)) p2 p3 q ba bn bc a9 (rn + 1) c9 bs (wl ++ [r]) (rs ++ [r.l]) := by
  have h1 := h.keep hk
  have z0 := h.kept.size
  have zp := blk_lt h.blk
  have hp3a : p3 ∉ ft ra := blk_apart h1.blk h1.rows.own (by decide)
  have hp2a : p2 ∉ ft ra := blk_apart h1.res h1.rows.own (by decide)
  have hap : ∀ b ∈ wrBlocks wl, b ∉ ft ra := fun b hb => by
    obtain ⟨x, hx, hbx⟩ := mem_wrBlocks.1 hb
    exact owns_apart (h1.own x hx) h1.rows.own (by decide) b hbx
  have hra : ∀ b ∈ ft r.a, b < w1.heap.size ∧ b ∉ ft ra := fun b hb => ⟨hr.lt b hb, owns_apart hr h1.rows.own (by decide) b hb⟩
  obtain ⟨hW, hWap⟩ := WRows.snoc (w0 := w1) h1.rows (Kept.refl [] w1) ho hst hr.sln hra hap
  have b9 := hst.kept.heap h1.blk hp3a
  have hp3 : ∀ b, b ∈ ft ba ++ (ft a9 ++ wrBlocks (wl ++ [r])) → b ∉ [p3] := fun b hb hx => by
    rw [List.mem_singleton] at hx
    subst hx
    simp only [List.mem_append] at hb
    rcases hb with hb | hb | hb
    · exact blk_apart h1.blk h1.bus (by decide) hb
    · exact blk_apart b9 ho (by decide) hb
    · obtain ⟨x, hx, hbx⟩ := mem_wrBlocks.1 hb
      rcases List.mem_append.1 hx with hx | hx
      · exact blk_apart h1.blk (h1.own x hx) (by decide) hbx
      · rw [List.mem_singleton] at hx
        subst hx
        have := hf _ hbx
        omega
  have hk9 : Kept [p3] w9 (w9.setCell ⟨p3, 1, none⟩ (.slice a9 (rn + 1) c9)) := (Kept.refl [p3] w9).setCell (p := ⟨p3, 1, none⟩) (.inl (by simp)) _
  have hbus : ∀ b ∈ ft ba, b ∉ ft ra := owns_apart h1.bus h1.rows.own (by decide)
  refine ⟨by simpa using blk_set b9 1 (.slice a9 (rn + 1) c9), hk9.heap (hst.kept.heap h1.res hp2a) (by simpa using h.po.2.2), (h1.bus.kept hst.kept hbus).kept hk9 (fun b hb => hp3 b (by simp [hb])), hW.kept hk9 (fun b hb => hp3 b (by simp [hb])) (fun b hb => hp3 b (by simp [hb])), fun x hx => ?_, by simp [h.rm], ?_, fun b hb => ?_, ?_, h.po, h.qo⟩
  · have hq2 : Own w9 27 x.a x.l.length x.c (nats .u64 x.l) := by
      rcases List.mem_append.1 hx with hx | hx
      · exact (h1.own x hx).kept hst.kept (fun b hb => hap b (mem_wrBlocks.2 ⟨x, hx, hb⟩))
      · rw [List.mem_singleton] at hx
        subst hx
        exact hr.kept hst.kept (fun b hb => (hra b hb).2)
    exact hq2.kept hk9 (fun b hb => hp3 b (by simp only [List.mem_append]; exact .inr (.inr (mem_wrBlocks.2 ⟨x, hx, hb⟩))))
  · rw [List.pairwise_append]
    refine ⟨h.pw, List.pairwise_singleton _ _, fun x hx y hy b hb hb2 => ?_⟩
    rw [List.mem_singleton] at hy
    subst hy
    have e1 := (h.own x hx).lt b hb
    have e2 := hf b hb2
    omega
  · simp only [List.mem_append] at hb
    rcases hb with hb | hb | hb
    · exact h.new b (by simp [hb])
    · rcases hst.fresh b hb with hb | hb
      · exact h.new b (by simp [hb])
      · have := hk.size; omega
    · obtain ⟨x, hx, hbx⟩ := mem_wrBlocks.1 hb
      rcases List.mem_append.1 hx with hx | hx
      · exact h.new b (by simp only [List.mem_append]; exact .inr (.inr (mem_wrBlocks.2 ⟨x, hx, hbx⟩)))
      · rw [List.mem_singleton] at hx
        subst hx
        have := hf b hbx
        omega
  · exact (kept_upS (h.kept.trans hk) hst.kept (fun b hb => h.new b (by simp [hb]))).setCell (.inr h.po.1) _
theorem TabAt.done {w0 : World} {p2 p3 q : Nat} {ba ra : Option Addr} {bn bc rn rc : Nat} {bs : List (ByteArray × Int)} {wl : List WR} {rs : List (List Nat)} (h : TabAt w0 w p2 p3 q ba bn bc ra rn rc bs wl rs) (hbn : bn = bs.length) :
    (((w.setCell ⟨p2, 0, none⟩ (.slice ba bn bc)).setCell ⟨p2, 1, none⟩ (.slice ra rn rc)).drew.heap[p2]? = some (.cells #[.slice ba bn bc, .slice ra rn rc] 25 (0, 0))) ∧ TabN ((w.setCell ⟨p2, 0, none⟩ (.slice ba bn bc)).setCell ⟨p2, 1, none⟩ (.slice ra rn rc)).drew ba bn bc ra rn rc ⟨bs, rs⟩ wl ∧ Kept [q] w0 ((w.setCell ⟨p2, 0, none⟩ (.slice ba bn bc)).setCell ⟨p2, 1, none⟩ (.slice ra rn rc)).drew := by
  have b1 := blk_set h.res 0 (.slice ba bn bc)
  have b2 := blk_set (by simpa using b1) 1 (.slice ra rn rc)
  have hk : Kept [p2] w ((w.setCell ⟨p2, 0, none⟩ (.slice ba bn bc)).setCell ⟨p2, 1, none⟩ (.slice ra rn rc)).drew := (((Kept.refl [p2] w).setCell (p := ⟨p2, 0, none⟩) (.inl (by simp)) _).setCell (p := ⟨p2, 1, none⟩) (.inl (by simp)) _).drew
  have b3 : ((w.setCell ⟨p2, 0, none⟩ (.slice ba bn bc)).setCell ⟨p2, 1, none⟩ (.slice ra rn rc)).heap[p2]? = some (.cells #[.slice ba bn bc, .slice ra rn rc] 25 (0, 0)) := by simpa using b2
  refine ⟨b3, (TabN.kept (S := [p2]) (⟨hbn.symm, h.bus, h.rows, h.own, h.rm, h.pw⟩ : TabN w ba bn bc ra rn rc ⟨bs, rs⟩ wl) hk fun b hb hx => ?_), kept_mix h.kept hk (by simpa using .inr h.po.2.1)⟩
  rw [List.mem_singleton] at hx
  subst hx
  simp only [List.mem_append] at hb
  rcases hb with hb | hb | hb
  · exact blk_apart h.res h.bus (by decide) hb
  · exact blk_apart h.res h.rows.own (by decide) hb
  · obtain ⟨x, hx, hbx⟩ := mem_wrBlocks.1 hb
    exact blk_apart h.res (h.own x hx) (by decide) hbx
theorem okB_width : ∀ (bs l : List (ByteArray × Int)), okB l bs = true → ∀ b ∈ bs, 1 ≤ b.2 ∧ b.2 ≤ 64 := by
  intro bs
  induction bs with
  | nil => intro l _ b hb; exact absurd hb (by simp)
  | cons b bs ih =>
    intro l h x hx
    simp only [okB, Bool.and_eq_true] at h
    rcases List.mem_cons.1 hx with rfl | hx
    · have := h.1
      simp only [busB, fitsB, Bool.and_eq_true, decide_eq_true_eq] at this
      exact this.2.2.1
    · exact ih _ h.2 x hx
section
variable {k n wd : Nat} {rest : List (ByteArray × Int)} {acc : List Nat} {S l l2 : List UInt8} {m : Bool} {nm : ByteArray}
theorem rw_e1 (h1 : numT 16 0 (2 ^ wd - 1) S = .error k) : rowRd ((nm, (wd : Int)) :: rest) acc S = .error k := by simp [rowRd, cellRd, bd, h1]
theorem rw_e2 (h1 : numT 16 0 (2 ^ wd - 1) S = .ok (n, l)) (h2 : oneT 32 10 l = .error k) : rowRd ((nm, (wd : Int)) :: rest) acc S = .error k := by simp [rowRd, cellRd, bd, h1, h2]
theorem rw_e3 (h1 : numT 16 0 (2 ^ wd - 1) S = .ok (n, l)) (h2 : oneT 32 10 l = .ok (m, l2)) (h3 : m ≠ !rest.isEmpty) : rowRd ((nm, (wd : Int)) :: rest) acc S = .error 5 := by simp only [rowRd, cellRd, bd, Int.toNat_natCast, h1, h2, h3, if_false]
theorem rw_e4 (h1 : numT 16 0 (2 ^ wd - 1) S = .ok (n, l)) (h2 : oneT 32 10 l = .ok (m, l2)) (h3 : m = !rest.isEmpty) : rowRd ((nm, (wd : Int)) :: rest) acc S = rowRd rest (acc ++ [n]) l2 := by simp only [rowRd, cellRd, bd, Int.toNat_natCast, h1, h2, h3, if_true]
end
theorem drop_more (bs : List (ByteArray × Int)) (k : Nat) : (!(bs.drop (k + 1)).isEmpty) = decide (k + 1 < bs.length) := by
  rw [Bool.eq_iff_iff]
  simp
/-- what table ends in -/
def TablePost (q : Nat) (a : Option Addr) (c : Nat) (s : List UInt8) (r : Except Nat Tb) (w : World) (e : Ending) (w' : World) : Prop := match r with
  | .error k => Dies k [q] w e w'
  | .ok t => ∃ ba bc ra rn rc wl, e = .returned (.agg #[.slice ba t.bs.length bc, .slice ra rn rc]) ∧ TabN w' ba t.bs.length bc ra rn rc t wl ∧ Kept [q] w w' ∧ (∀ b ∈ ft ba, w.heap.size ≤ b) ∧ (∀ b ∈ ft ra, w.heap.size ≤ b) ∧ (∀ b ∈ wrBlocks wl, w.heap.size ≤ b)
set_option maxHeartbeats 3200000 in
set_option maxRecDepth 100000 in
theorem table_c {q c p0 : Nat} {a : Option Addr} {s : List UInt8} (w : World) (h : RdAt w q a c s p0) :
    Calls Tryd.prog 57 #[.pointer (some ⟨q, 0, none⟩)] w (TablePost q a c s (tableT (s.drop p0)) w) := by
  have HH := Lib.hid h
  have HQ := Lib.hid (blk_lt h.blk)
  have HHD := Lib.hid (headr_c (w.alloc (.cells #[.slice none 0 0, .slice none 0 0] 25)) (h.kept ((Kept.refl [] w).alloc _)))
  clear h
  go_enter Tryd.func57, Tryd.ntmps57
  go_wp2_with fail
  refine HHD.out.mono ?_
  intro e w1 hp
  rcases e1 : headT 512 [] (s.drop p0) with k | ⟨bs, l⟩
  · have HD := Lib.hid (show tableT (s.drop p0) = .error k from by unfold tableT; rw [e1])
    rw [e1] at hp
    obtain ⟨rfl, k1⟩ := hp
    have K1 := Lib.hid k1
    clear k1 e1
    go_wp2_with fail
    refine ⟨rfl, ?_⟩
    rw [HD.out]
    exact ⟨rfl, (((Kept.refl [q] w).alloc _).trans K1.out)⟩
  rw [e1] at hp
  obtain ⟨p1, ba, bc, rfl, hd1, hr1, ho1, k1, hfa⟩ := hp
  have HD := Lib.hid (show tableT (s.drop p0) = match rowsRd bs 4096 [] (s.drop p1) with | .error k => .error k | .ok rs => .ok ⟨bs, rs⟩ from by
    unfold tableT; rw [e1, hd1]; simp only; cases rowsRd bs 4096 [] l <;> rfl)
  have HBI := Lib.hid (headT_inv _ _ _ _ _ e1)
  have HO1 := Lib.hid ho1
  have HR1 := Lib.hid hr1
  have K1 := Lib.hid (show Kept [q] w w1 from ((Kept.refl [q] w).alloc _).trans k1)
  have HT2 := Lib.hid (k1.heap (heap_new w (.cells #[.slice none 0 0, .slice none 0 0] 25)) (by have := HQ.out; simp; omega))
  have HFA := Lib.hid (show ∀ b ∈ ft ba, w.heap.size < b from fun b hb => by have := hfa b hb; simp at this; omega)
  have HBL := Lib.hid (show bs.length ≤ 512 ∧ bs ≠ [] from by
    obtain ⟨bs', h1, h2, h3, h4, h5⟩ := HBI.out
    have h2 : bs = bs' := h2
    subst h2
    exact ⟨h4, h1⟩)
  obtain ⟨bn, hbn⟩ : ∃ n, n = bs.length := ⟨_, rfl⟩
  have HBN := Lib.hid hbn
  rw [← hbn]
  clear e1 hd1 hr1 ho1 k1 hfa hbn
  have HTA := Lib.hid (show TabAt w (w1.alloc (.cells #[.slice ba bn bc, .slice none 0 0] 25)) w.heap.size w1.heap.size q ba bn bc none 0 0 bs [] [] from
    have hz : w.heap.size < w1.heap.size := blk_lt HT2.out
    ⟨heap_new _ _, ((Kept.refl [] w1).alloc _).heap HT2.out (by simp), HBN.out.symm ▸ HO1.out.kept ((Kept.refl [] w1).alloc _) (by simp), WRows.nil _, by simp, rfl, .nil, fun b hb => by
      simp only [ft_none, wrBlocks, List.flatMap_nil, List.append_nil] at hb
      exact Nat.le_of_lt (HFA.out b hb), K1.out.alloc _, ⟨by omega, by omega, by omega⟩, HQ.out⟩)
  have HRA := Lib.hid (HR1.out.kept ((Kept.refl [] w1).alloc (.cells #[.slice ba bn bc, .slice none 0 0] 25)))
  go_wp2_with fail
  go_loopw [11] (fun _ wr => ∃ (pos f rn rc : Nat) (ra : Option Addr) (wl : List WR) (rs : List (List Nat)), rn + f = 4096 ∧ rs.length = rn ∧ RdAt wr q a c s pos ∧ TabAt w wr w.heap.size w1.heap.size q ba bn bc ra rn rc bs wl rs ∧ rowsRd bs 4096 [] (s.drop p1) = rowsRd bs f rs (s.drop pos)) (fun _ W => 4096 - sLen ((W.cell? ⟨w1.heap.size, 1, none⟩).getD undef))
  case atStart => exact ⟨p1, 4096, 0, 0, none, [], [], rfl, rfl, HRA.out, HTA.out, rfl⟩
  case round =>
    obtain ⟨pos, f, rn, rc, ra, wl, rs, hf, hrs, hr, ht, hrun⟩ := hrel
    have HR := Lib.hid hr
    have HT := Lib.hid ht
    have HRS := Lib.hid hrs
    have HRUN := Lib.hid hrun
    have c0 : wr.cell? ⟨q, 0, none⟩ = some (.slice a s.length c) := blk_cell hr.blk 0
    have c1 : wr.cell? ⟨q, 1, none⟩ = some (.int .i64 (pos : Int)) := blk_cell hr.blk 1
    have hps := hr.pos
    have hsl := hr.len
    have d0 : wr.cell? ⟨w1.heap.size, 0, none⟩ = some (.slice ba bn bc) := blk_cell ht.blk 0
    have d1 : wr.cell? ⟨w1.heap.size, 1, none⟩ = some (.slice ra rn rc) := blk_cell ht.blk 1
    have g0 : wr.cell? ⟨w.heap.size, 0, none⟩ = some (.slice none 0 0) := blk_cell ht.res 0
    have g1 : wr.cell? ⟨w.heap.size, 1, none⟩ = some (.slice none 0 0) := blk_cell ht.res 1
    have gf0 := blk_free ht.res 0
    have gf1 := blk_free ht.res 1
    clear hr ht hrs hrun
    obtain ⟨sl, hsn⟩ : ∃ n, n = s.length := ⟨_, rfl⟩
    have HSN := Lib.hid hsn
    rw [← hsn] at c0 hps hsl
    by_cases hend : pos = sl
    · have HRE := Lib.hid (show tableT (s.drop p0) = .ok ⟨bs, rs⟩ from by rw [HD.out, HRUN.out, hend, hsn, List.drop_length]; cases f <;> simp [rowsRd])
      have hlt : ¬ (pos : Int) < (sl : Int) := by omega
      have hlt2 : ¬ pos < sl := by omega
      clear hend hsn hf
      have HDN := Lib.hid (HT.out.done HBN.out)
      go_wp2_with fail
      go_region
      go_wp2_with fail
      have e0 := blk_cell HDN.out.1 0
      have e1 := blk_cell HDN.out.1 1
      refine bodyPost_ret (v := .agg #[.slice ba bn bc, .slice ra rn rc]) (by simp [results, Tryd.results57, go_sem] at e0 e1 ⊢; simp [e0, e1]) rfl ?_
      rw [HRE.out]
      refine ⟨ba, bc, ra, rn, rc, wl, by rw [HBN.out], HBN.out ▸ HDN.out.2.1, HDN.out.2.2, fun b hb => HT.out.new b (by simp [hb]), fun b hb => HT.out.new b (by simp [hb]), fun b hb => HT.out.new b (by simp [hb])⟩
    · have hlt : pos < sl := by omega
      obtain ⟨ch, hch⟩ : ∃ ch : UInt8, s.drop pos = ch :: s.drop (pos + 1) := ⟨s[pos], List.drop_eq_getElem_cons (by omega)⟩
      have HCH := Lib.hid hch
      clear hend hsn hch
      by_cases hz : f = 0
      · have HRE := Lib.hid (show tableT (s.drop p0) = .error 5 from by rw [HD.out, HRUN.out, hz, HCH.out]; simp [rowsRd])
        have hrn : ((rn : Int) == 4096) = true := beq_iff_eq.2 (by omega)
        clear hf hz
        go_wp2_with fail
        go_region
        go_wp2_with fail
        refine ⟨rfl, ?_⟩
        rw [HRE.out]
        exact ⟨rfl, HT.out.kept.drew⟩
      · have hrn : ((rn : Int) == 4096) = false := beq_eq_false_iff_ne.2 (by omega)
        obtain ⟨g, hg⟩ : ∃ g, f = g + 1 := ⟨f - 1, by omega⟩
        have HG := Lib.hid hg
        have HF := Lib.hid hf
        have HBS := Lib.hid (show rowsRd bs 4096 [] (s.drop p1) = match rowRd bs [] (s.drop pos) with | .error k => .error k | .ok (l, r) => rowsRd bs g (rs ++ [l]) r from by rw [HRUN.out, HG.out, HCH.out, rowsRd]; rcases rowRd bs [] (ch :: s.drop (pos + 1)) with k | ⟨l, r⟩ <;> rfl)
        have HERR := Lib.hid (fun k (hk : rowRd bs [] (s.drop pos) = .error k) => show tableT (s.drop p0) = .error k from by rw [HD.out, HBS.out, hk])
        have hbn512 : bn ≤ 512 := by have := HBL.out.1; rw [HBN.out]; exact this
        have hrn4 : rn < 4096 := by omega
        clear hf hz hg
        go_wp2_with fail
        go_region
        go_wp2_with fail
        obtain ⟨wA, rfl⟩ : ∃ v : World, v = wr := ⟨_, rfl⟩
        go_loopw [29, 4] (fun iv rv W => ∃ (k pos2 ac : Nat) (aa : Option Addr) (acc : List Nat), k ≤ bn ∧ iv = .int .i64 k ∧ rv = .slice aa k ac ∧ acc.length = k ∧ RdAt W q a c s pos2 ∧ TabAt w W w.heap.size w1.heap.size q ba bn bc ra rn rc bs wl rs ∧ Own W 27 aa k ac (nats .u64 acc) ∧ (∀ b ∈ ft aa, wA.heap.size ≤ b) ∧ rowRd bs [] (s.drop pos) = rowRd (bs.drop k) acc (s.drop pos2) ∧ Kept [q] wA W) (fun iv _ _ => bn - (intOf iv).toNat)
        case atStart => exact ⟨0, pos, 0, none, [], Nat.zero_le _, rfl, rfl, rfl, HR.out.kept ((Kept.refl [] wA).drew), HT.out.keep ((Kept.refl [q] wA).drew), Own.nil _ _, by simp [ft], rfl, (Kept.refl [q] wA).drew⟩
        case round =>
          obtain ⟨k, pos2, ac, aa, acc, hk, rfl, rfl, hacc, hr2, ht2, ho2, hfr2, hrun2, hk2⟩ := hrel
          have HK2 := Lib.hid hk2
          have HR2 := Lib.hid hr2
          have HT3 := Lib.hid ht2
          have HO2 := Lib.hid ho2
          have HF2 := Lib.hid hfr2
          have HRU2 := Lib.hid hrun2
          have HAC := Lib.hid hacc
          clear hk2 hr2 ht2 ho2 hfr2 hrun2 hacc
          have d0 : wr.cell? ⟨w1.heap.size, 0, none⟩ = some (.slice ba bn bc) := blk_cell HT3.out.blk 0
          by_cases hlt : k < bn
          · have hkb : k < bs.length := by have := HBN.out; omega
            obtain ⟨gb, go_, hba, x0, x1⟩ := own2_bus HT3.out.bus k hkb
            have hwd := okB_width bs [] (by obtain ⟨bs', h1, h2, h3, _⟩ := HBI.out; have h2 : bs = bs' := h2; rw [h2]; exact h3) _ (List.getElem_mem hkb)
            obtain ⟨wd, hw⟩ : ∃ wd : Nat, bs[k].2 = (wd : Int) := ⟨bs[k].2.toNat, by omega⟩
            obtain ⟨nm, hnm⟩ : ∃ nm, nm = bs[k].1 := ⟨_, rfl⟩
            have HDR := Lib.hid (show bs.drop k = (nm, (wd : Int)) :: bs.drop (k + 1) from by rw [List.drop_eq_getElem_cons hkb, hnm, ← hw])
            have HEM := Lib.hid (show (!(bs.drop (k + 1)).isEmpty) = decide (k + 1 < bn) from by rw [HBN.out]; exact drop_more bs k)
            rw [← hnm] at x0
            rw [hw] at x1 hwd
            subst hba
            obtain ⟨most, hmost⟩ : ∃ m, m = 2 ^ wd - 1 := ⟨_, rfl⟩
            have hm64 : most < 18446744073709551616 := by
              have : 2 ^ wd ≤ 2 ^ 64 := Nat.pow_le_pow_right (by omega) (by omega)
              omega
            have hmi : (18446744073709551615 / 2 ^ (64 - wd) : Int) = (most : Int) := by
              rw [hmost, ← ones_nat wd (by omega), Int.natCast_ediv, Int.natCast_pow]
              rfl
            have HM := Lib.hid hmost
            have K4 := Lib.hid (show Kept [q] wr (wr.alloc (.cells #[.string nm, .int .i64 (wd : Int)] 35)) from (Kept.refl [q] wr).alloc _)
            have HNU := Lib.hid (number_c 16 0 most (.inr rfl) hm64 _ (HR2.out.kept ((Kept.refl [] wr).alloc (.cells #[.string nm, .int .i64 (wd : Int)] 35))))
            have hw1 : 1 ≤ wd := by omega
            have hw2 : wd ≤ 64 := by omega
            clear hkb hwd hw hnm hmost
            go_wp2_with fail
            refine HNU.out.mono ?_
            intro e w5 hp
            rcases e4 : numT 16 0 most (s.drop pos2) with kk | ⟨x, l3⟩
            · have HDE := Lib.hid (HERR.out kk (by rw [HRU2.out, HDR.out]; exact rw_e1 (HM.out ▸ e4)))
              rw [e4] at hp
              obtain ⟨rfl, k5⟩ := hp
              have K5 := Lib.hid (K4.out.trans k5)
              clear k5 e4
              go_wp2_with fail
              refine ⟨rfl, ?_⟩
              rw [HDE.out]
              exact ⟨rfl, HT3.out.kept.trans K5.out⟩
            rw [e4] at hp
            obtain ⟨p3, rfl, hd3, hr3, k5⟩ := hp
            have hxm : x ≤ most := numT_le (.inr rfl) (by omega) e4
            have E4 := Lib.hid (HM.out ▸ e4)
            have HD3 := Lib.hid hd3
            have HR5 := Lib.hid hr3
            have K5 := Lib.hid (K4.out.trans k5)
            have hqr : q < wr.heap.size := blk_lt HR2.out.blk
            have hqw : q < w.heap.size := HQ.out
            have hwA : w.heap.size ≤ wA.heap.size := HT.out.kept.size
            have hqaa : ∀ b ∈ ft aa, b ∉ [q] := fun b hb => by have := HF2.out b hb; simp; omega
            have hown5 : Own w5 27 aa k ac (nats .u64 acc) := HO2.out.kept K5.out hqaa
            have HOW5 := Lib.hid hown5
            clear e4 hd3 hr3 k5 hown5 hqaa
            go_wp2_with (at_builtin; refine wpList_push2 (w := w5) (news := [.int .u64 (x : Int)]) rfl rfl Tryd.underlying33 u64_info rfl (by omega) rfl rfl rfl HOW5.out rfl (by simp [Value.oneCell']) (by unfold maxLen; omega) (by omega) rfl ?_; intro a6 c6 w6 hown6 hst6)
            have hfa6 : ∀ b ∈ ft a6, wA.heap.size ≤ b := fun b hb => by
              rcases hst6.fresh b hb with h1 | h1
              · exact HF2.out b h1
              · have := HK2.out.size; have := K5.out.size; omega
            have HFA6 := Lib.hid hfa6
            have HT5 := Lib.hid (HT3.out.keep K5.out)
            have hnew : ∀ b ∈ ft aa, wA.heap.size ≤ b := HF2.out
            have HK6 := Lib.hid (show Kept (ft aa) w5 w6 from hst6.kept)
            have HKA6 := Lib.hid (show Kept [q] wA w6 from kept_mix (HK2.out.trans K5.out) hst6.kept (fun b hb => .inr (HF2.out b hb)))
            have HOW6 := Lib.hid hown6
            have HR6 := Lib.hid (show RdAt w6 q a c s p3 from by
              have h1 := HR5.out
              have hqa : q ∉ ft aa := fun hm => by have := hnew _ hm; omega
              have haa : s ≠ [] → ∀ b ∈ ft a, b ∉ ft aa := fun hs b hb hm => by
                have := hnew _ hm
                have := HH.out.al hs b hb
                omega
              exact ⟨hst6.kept.heap h1.blk hqa, fun j hj => by
                obtain ⟨ad, rfl, x0⟩ := h1.txt j hj
                exact ⟨ad, rfl, hst6.kept.cell x0 (by rw [add_block]; exact haa (ne_of_lt hj) _ (by simp [ft]))⟩, h1.len, h1.pos, h1.ap, h1.cp⟩)
            have HONE := Lib.hid (one_any (xa := 32) (xb := 10) w6 HR6.out)
            clear hown6 hst6 hfa6 hnew
            refine HONE.out.mono ?_
            intro e w7 hp
            rcases e5 : oneT 32 10 (s.drop p3) with kk | ⟨more, l4⟩
            · have HDE := Lib.hid (HERR.out kk (by rw [HRU2.out, HDR.out]; exact rw_e2 E4.out (HD3.out ▸ e5)))
              rw [e5] at hp
              obtain ⟨rfl, k7⟩ := hp
              have K7 := Lib.hid k7
              clear k7 e5
              go_wp2_with fail
              refine ⟨rfl, ?_⟩
              rw [HDE.out]
              exact ⟨rfl, HT.out.kept.trans (HKA6.out.trans K7.out)⟩
            rw [e5] at hp
            obtain ⟨p4, rfl, hd4, hr4, k7⟩ := hp
            have HR7 := Lib.hid hr4
            have HD4 := Lib.hid hd4
            have HK7 := Lib.hid (HKA6.out.trans k7)
            have HT7 := Lib.hid (HT.out.keep (HKA6.out.trans k7))
            have hqa6 : ∀ b ∈ ft a6, b ∉ [q] := fun b hb => by have := HFA6.out b hb; simp; omega
            have HOW7 := Lib.hid (show Own w7 27 a6 (k + 1) c6 (nats .u64 acc ++ [.int .u64 (x : Int)]) from Own.kept HOW6.out k7 hqa6)
            have E5 := Lib.hid (show oneT 32 10 l3 = .ok (more, l4) from HD3.out ▸ e5)
            have t0 : w7.cell? ⟨w1.heap.size, 0, none⟩ = some (.slice (some ⟨gb, go_, none⟩) bn bc) := blk_cell HT7.out.blk 0
            clear k7 hr4 hd4 e5 hqa6
            by_cases hk1 : k + 1 < bn
            · have hk1i : (k : Int) + 1 < (bn : Int) := by omega
              have hk1d : decide (k + 1 < bn) = true := decide_eq_true hk1
              have hk1b : decide ((k : Int) + 1 < (bn : Int)) = true := decide_eq_true hk1i
              cases more with
              | true =>
                have HRE := Lib.hid (show rowRd bs [] (s.drop pos) = rowRd (bs.drop (k + 1)) (acc ++ [x]) (s.drop p4) from by rw [HRU2.out, HDR.out, rw_e4 E4.out E5.out (by rw [HEM.out, hk1d]), HD4.out])
                go_wp2_with fail
                go_roundw
                case rel => exact ⟨k + 1, p4, c6, a6, acc ++ [x], by omega, by go_num, rfl, by rw [List.length_append, HAC.out]; rfl, HR7.out, HT7.out, by rw [← nats_append]; exact HOW7.out, HFA6.out, HRE.out, HK7.out⟩
                case measure => simp [intOf]; omega
              | false =>
                have HDE := Lib.hid (HERR.out 5 (by rw [HRU2.out, HDR.out]; exact rw_e3 E4.out E5.out (by rw [HEM.out, hk1d]; decide)))
                go_wp2_with fail
                refine ⟨rfl, ?_⟩
                rw [HDE.out]
                exact ⟨rfl, HT.out.kept.trans HK7.out⟩
            · have hk1i : ¬ (k : Int) + 1 < (bn : Int) := by omega
              have hk1d : decide (k + 1 < bn) = false := decide_eq_false hk1
              have hk1b : decide ((k : Int) + 1 < (bn : Int)) = false := decide_eq_false hk1i
              cases more with
              | false =>
                have HRE := Lib.hid (show rowRd bs [] (s.drop pos) = rowRd (bs.drop (k + 1)) (acc ++ [x]) (s.drop p4) from by rw [HRU2.out, HDR.out, rw_e4 E4.out E5.out (by rw [HEM.out, hk1d]), HD4.out])
                go_wp2_with fail
                go_roundw
                case rel => exact ⟨k + 1, p4, c6, a6, acc ++ [x], by omega, by go_num, rfl, by rw [List.length_append, HAC.out]; rfl, HR7.out, HT7.out, by rw [← nats_append]; exact HOW7.out, HFA6.out, HRE.out, HK7.out⟩
                case measure => simp [intOf]; omega
              | true =>
                have HDE := Lib.hid (HERR.out 5 (by rw [HRU2.out, HDR.out]; exact rw_e3 E4.out E5.out (by rw [HEM.out, hk1d]; decide)))
                go_wp2_with fail
                refine ⟨rfl, ?_⟩
                rw [HDE.out]
                exact ⟨rfl, HT.out.kept.trans HK7.out⟩
          · obtain rfl : k = bn := by omega
            have HRE := Lib.hid (show rowsRd bs 4096 [] (s.drop p1) = rowsRd bs g (rs ++ [acc]) (s.drop pos2) from by
              rw [HBS.out, HRU2.out, List.drop_eq_nil_of_le (by have := HBN.out; omega)]; rfl)
            have d1 : wr.cell? ⟨w1.heap.size, 1, none⟩ = some (.slice ra rn rc) := blk_cell HT3.out.blk 1
            have f1 := blk_free HT3.out.blk 1
            have hlt3 : w1.heap.size < wr.heap.size := blk_lt HT3.out.blk
            have hna : w1.heap.size ∉ ft ra := blk_apart HT3.out.blk HT3.out.rows.own (by decide)
            have hrows := HT3.out.rows.own
            have HROW := Lib.hid hrows
            clear hrows
            go_wp2_with (at_builtin; refine wpList_push2 (w := wr) (news := [.slice aa k ac]) rfl rfl Tryd.underlying23 row_info rfl (by omega) rfl rfl rfl HROW.out rfl (by simp [Value.oneCell']) (by unfold maxLen; omega) (by omega) rfl ?_; intro a9 c9 w9 hown9 hst9; have cw9 : w9.cell? ⟨w1.heap.size, 1, none⟩ = some (.slice ra rn rc) := hst9.kept.cell d1 hna; have fw9 : w9.frozen? ⟨w1.heap.size, 1, none⟩ = false := (hst9.kept.frozen hlt3 hna).trans f1)
            go_roundw
            case rel =>
              have hlen : acc.length = k := HAC.out
              have hro : Own wr 27 aa acc.length ac (nats .u64 acc) := hlen.symm ▸ HO2.out
              have htr := TabAt.row (r := ⟨acc, aa, ac⟩) HT.out HK2.out hro HF2.out (by show Own w9 _ a9 (rn + 1) c9 (wrCells wl ++ [.slice aa acc.length ac]); rw [hlen]; exact hown9) hst9
              have hra : ∀ b ∈ ft ra, w.heap.size ≤ b := fun b hb => HT.out.new b (by simp [hb])
              have hq := HQ.out
              have hT3 := HT.out.po.1
              refine ⟨pos2, g, rn + 1, c9, a9, wl ++ [⟨acc, aa, ac⟩], rs ++ [acc], by have := HF.out; have := HG.out; omega, by rw [List.length_append, HRS.out]; rfl, ?_, htr, HRE.out⟩
              have h1 := HR2.out
              have k9 : Kept (w1.heap.size :: ft ra) wr (w9.setCell ⟨w1.heap.size, 1, none⟩ (.slice a9 (rn + 1) c9)) := (hst9.kept.more (fun b hb => by simp [hb])).setCell (.inl (by simp)) _
              exact ⟨k9.heap h1.blk (fun hm => by
                rcases List.mem_cons.1 hm with hm | hm
                · omega
                · have := hra _ hm; omega), fun j hj => by
                obtain ⟨ad, rfl, x0⟩ := h1.txt j hj
                exact ⟨ad, rfl, k9.cell x0 (fun hm => by
                  rw [add_block] at hm
                  have := HH.out.al (ne_of_lt hj) ad.block (by simp [ft])
                  rcases List.mem_cons.1 hm with hm | hm
                  · omega
                  · have := hra _ hm; omega)⟩, h1.len, h1.pos, h1.ap, h1.cp⟩
            case measure =>
              have e1 := blk_cell (TabAt.row (r := ⟨acc, aa, ac⟩) HT.out HK2.out (show Own wr 27 aa acc.length ac (nats .u64 acc) from HAC.out.symm ▸ HO2.out) HF2.out (by show Own w9 _ a9 (rn + 1) c9 (wrCells wl ++ [.slice aa acc.length ac]); rw [HAC.out]; exact hown9) hst9).blk 1
              have e2 := blk_cell HT.out.blk 1
              rw [e1, e2]
              simp [sLen]
              omega
end Go.Proofs.YtjgcfncganleoaaDoor
