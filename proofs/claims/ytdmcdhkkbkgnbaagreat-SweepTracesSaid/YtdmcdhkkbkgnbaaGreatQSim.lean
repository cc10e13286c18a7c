/-
  A simulation in memory; rows of words; none, fits, of.
-/
import Derived.Test.YtdmcdhkkbkgnbaaGreatP28
import Derived.Test.YtdmcdhkkbkgnbaaGreatP14
import Derived.Test.YtdmcdhkkbkgnbaaGreatP19
namespace Go.Proofs.YtdmcdhkkbkgnbaaGreat
open Go.ChangeShapes Go.WideShapes Go.ChangeAt Go.RowKit
open Go.Maps (Keyed)
open Go.WideMaps
set_option linter.unusedVariables false
set_option linter.unusedSimpArgs false

/-- a row of words, and where it lies -/
structure WR where
  l : List Nat
  a : Option Addr
  c : Nat
def wrCells (rs : List WR) : List Value := rs.map fun r => .slice r.a r.l.length r.c
theorem wrCells_length (rs : List WR) : (wrCells rs).length = rs.length := by simp [wrCells]
theorem wrCells_snoc (rs : List WR) (r : WR) : wrCells rs ++ [.slice r.a r.l.length r.c] = wrCells (rs ++ [r]) := by simp [wrCells]
theorem wrCells_one (rs : List WR) : ∀ u ∈ wrCells rs, u.oneCell' = true := by
  intro u hu
  obtain ⟨r, _, rfl⟩ := List.mem_map.1 hu
  rfl
def wrBlocks (rs : List WR) : List Nat := rs.flatMap fun r => ft r.a
theorem mem_wrBlocks {rs : List WR} {b : Nat} : b ∈ wrBlocks rs ↔ ∃ r ∈ rs, b ∈ ft r.a := by simp [wrBlocks]
/-- rows of words in memory -/
structure WRows (w : World) (a : Option Addr) (n c : Nat) (rs : List WR) : Prop where
  own : Own w 78 a n c (wrCells rs)
  rows : ∀ r ∈ rs, SlN w .u64 r.a r.l ∧ ∀ b ∈ ft r.a, b < w.heap.size
variable {w w' : World} {s p n : Nat} {F R S : List Nat} {g : Gr} {N : Nt}
theorem WRows.len {a : Option Addr} {n c : Nat} {rs : List WR} (h : WRows w a n c rs) : rs.length = n := by have := h.own.len; rwa [wrCells_length] at this
theorem WRows.kept {a : Option Addr} {n c : Nat} {rs : List WR} (h : WRows w a n c rs) (hk : Kept S w w') (h1 : ∀ b ∈ ft a, b ∉ S) (h2 : ∀ b ∈ wrBlocks rs, b ∉ S) : WRows w' a n c rs :=
  ⟨h.own.kept hk h1, fun r hr => ⟨(h.rows r hr).1.kept hk (fun b hb => h2 b (mem_wrBlocks.2 ⟨r, hr, hb⟩)), fun b hb => Nat.lt_of_lt_of_le ((h.rows r hr).2 b hb) hk.size⟩⟩
theorem WRows.kept0 {a : Option Addr} {n c : Nat} {rs : List WR} (h : WRows w a n c rs) (hk : Kept [] w w') : WRows w' a n c rs := h.kept hk (by simp) (by simp)
theorem WRows.lt {a : Option Addr} {n c : Nat} {rs : List WR} (h : WRows w a n c rs) : (∀ b ∈ ft a, b < w.heap.size) ∧ ∀ b ∈ wrBlocks rs, b < w.heap.size :=
  ⟨h.own.lt, fun b hb => by obtain ⟨r, hr, hb⟩ := mem_wrBlocks.1 hb; exact (h.rows r hr).2 b hb⟩
theorem WRows.nil (w : World) : WRows w none 0 0 [] := ⟨Own.nil _ _, by simp⟩
theorem WRows.cell {a : Option Addr} {n c : Nat} {rs : List WR} (h : WRows w a n c rs) (k : Nat) (hk : k < rs.length) : ∃ b, a = some ⟨b, 0, none⟩ ∧ w.cell? ⟨b, k, none⟩ = some (.slice rs[k].a rs[k].l.length rs[k].c) := by
  have hl := h.len
  obtain ⟨gb, rfl⟩ := h.own.form (by omega)
  obtain ⟨ad, h1, h2⟩ := h.own.cell (k := k) (by rw [wrCells_length]; exact hk)
  injection h1 with h1
  subst h1
  refine ⟨gb, rfl, ?_⟩
  have he : ((⟨gb, 0, none⟩ : Addr).add k) = ⟨gb, k, none⟩ := by unfold Addr.add; split <;> simp_all
  rw [he] at h2
  rw [h2]
  simp [wrCells]
/-- one row more -/
theorem WRows.snoc {a a' : Option Addr} {n c c' : Nat} {rs : List WR} {r : WR} {w0 w1 : World} (h : WRows w a n c rs) (hk : Kept [] w w1) (ho : Own w' 78 a' (n + 1) c' (wrCells rs ++ [.slice r.a r.l.length r.c])) (hst : Stepped w1 w' (ft a) (ft a')) (hr : SlN w1 .u64 r.a r.l) (hrl : ∀ b ∈ ft r.a, b < w1.heap.size ∧ b ∉ ft a)
    (hap : ∀ b ∈ wrBlocks rs, b ∉ ft a) : WRows w' a' (n + 1) c' (rs ++ [r]) ∧ ∀ b ∈ wrBlocks (rs ++ [r]), b ∉ ft a' := by
  have sz := hk.size
  have sz1 := hst.kept.size
  have lt := h.lt
  refine ⟨⟨by rw [← wrCells_snoc]; exact ho, fun q hq => ?_⟩, fun b hb => ?_⟩
  · rcases List.mem_append.1 hq with hq | hq
    · have := h.rows q hq
      exact ⟨(this.1.kept0 hk).kept hst.kept (fun b hb => hap b (mem_wrBlocks.2 ⟨q, hq, hb⟩)), fun b hb => by have := this.2 b hb; omega⟩
    · rw [List.mem_singleton] at hq
      subst hq
      exact ⟨hr.kept hst.kept (fun b hb => (hrl b hb).2), fun b hb => by have := (hrl b hb).1; omega⟩
  · obtain ⟨q, hq, hbq⟩ := mem_wrBlocks.1 hb
    rcases List.mem_append.1 hq with hq | hq
    · have h1 := hap b (mem_wrBlocks.2 ⟨q, hq, hbq⟩)
      have h2 := lt.2 b (mem_wrBlocks.2 ⟨q, hq, hbq⟩)
      exact fun hx => (hst.fresh b hx).elim h1 (fun h => by omega)
    · rw [List.mem_singleton] at hq
      subst hq
      have h1 := hrl b hbq
      exact fun hx => (hst.fresh b hx).elim h1.2 (fun h => by omega)

theorem place_law : Keyed Tryz.prog 3 := Go.Maps.int_keyed Tryz.underlying3
theorem place_key (n : Nat) (h : n ≤ 1000000) : ∃ kl, keyOf Tryz.prog 3 (.int .i64 (n : Int)) = some kl :=
  ⟨_, Go.Maps.keyOf_int_mk Tryz.underlying3 (by simp [Lit.wf, IntKind.min, IntKind.max, IntKind.signed, IntKind.bits]; omega)⟩
/-- places -/
def Placed (f : Value → Option Value) (is : List Nat) : Prop := ∀ (k i : Nat), is[k]? = some i → f (.int .i64 (i : Int)) = some (.int .i64 (k : Int))
theorem place_look {m c : Nat} {f : Value → Option Value} {is : List Nat} (h : MapG w Tryz.prog 3 m f c) (hp : Placed f is) (k i : Nat) (hk : is[k]? = some i) (hi : i ≤ 1000000) :
    (Instr.lookup 71 (.map (some m)) (.int .i64 (i : Int)) false).run Tryz.prog w = .ok (.int .i64 (k : Int)) w := by
  obtain ⟨kl, hkl⟩ := place_key i hi
  have h2 := MapV.look h.v false place_law Tryz.underlying71 (int_zero' _) hkl
  rw [hp k i hk] at h2
  exact h2
/-- what a simulation is, besides its memory -/
structure Sm where
  N : Nt
  regs : List Nat
  ws : List Nat
  cy : Nat
structure SimC (w : World) (s n : Nat) (NF NR : List Nat) (ra : Option Addr) (rc mm : Nat) (f : Value → Option Value) (wa : Option Addr) (wc : Nat) (σ : Sm) : Prop where
  blk : w.heap[s]? = some (.cells #[.pointer (some ⟨n, 0, none⟩), .slice ra σ.regs.length rc, .map (some mm), .slice wa σ.ws.length wc, .int .i64 (σ.cy : Int)] 154 (0, 0))
  net : NetAt w n NF NR σ.N
  rg : Own w 79 ra σ.regs.length rc (nats .u64 σ.regs)
  mp : MapG w Tryz.prog 3 mm f (ins σ.N.g.nodes).length
  pl : Placed f (ins σ.N.g.nodes)
  wd : SlN w .u64 wa σ.ws
  wl : ∀ b ∈ ft wa, b < w.heap.size
  ap : ∀ b ∈ s :: ft ra, b ∉ mm :: (ft wa ++ (NF ++ NR))
/-- F: what may be written; R: what is read alone -/
def SimAt (w : World) (s : Nat) (F R : List Nat) (σ : Sm) : Prop :=
  ∃ n NF NR ra rc mm f wa wc, F = s :: ft ra ∧ R = mm :: (ft wa ++ (NF ++ NR)) ∧ SimC w s n NF NR ra rc mm f wa wc σ
section
variable {NF NR : List Nat} {ra wa : Option Addr} {rc mm wc : Nat} {f : Value → Option Value} {σ : Sm}
theorem SimC.kept (h : SimC w s n NF NR ra rc mm f wa wc σ) (hk : Kept S w w') (h1 : ∀ b ∈ s :: ft ra, b ∉ S) (h2 : ∀ b ∈ mm :: (ft wa ++ (NF ++ NR)), b ∉ S) : SimC w' s n NF NR ra rc mm f wa wc σ :=
  ⟨hk.heap h.blk (h1 _ (by simp)), h.net.kept hk (fun b hb => h2 b (by simp [hb])) (fun b hb => h2 b (by simp [hb])), h.rg.kept hk (fun b hb => h1 b (by simp [hb])), h.mp.kept hk (h2 _ (by simp)), h.pl,
    h.wd.kept hk (fun b hb => h2 b (by simp [hb])), fun b hb => Nat.lt_of_lt_of_le (h.wl b hb) hk.size, h.ap⟩
theorem SimAt.kept (h : SimAt w s F R σ) (hk : Kept S w w') (h1 : ∀ b ∈ F, b ∉ S) (h2 : ∀ b ∈ R, b ∉ S) : SimAt w' s F R σ := by
  obtain ⟨n, NF, NR, ra, rc, mm, f, wa, wc, rfl, rfl, hc⟩ := h
  exact ⟨n, NF, NR, ra, rc, mm, f, wa, wc, rfl, rfl, hc.kept hk h1 h2⟩
theorem SimAt.kept0 (h : SimAt w s F R σ) (hk : Kept [] w w') : SimAt w' s F R σ := h.kept hk (by simp) (by simp)
theorem SimC.lt (h : SimC w s n NF NR ra rc mm f wa wc σ) : (∀ b ∈ s :: ft ra, b < w.heap.size) ∧ ∀ b ∈ mm :: (ft wa ++ (NF ++ NR)), b < w.heap.size := by
  refine ⟨fun b hb => ?_, fun b hb => ?_⟩
  · rcases List.mem_cons.1 hb with rfl | hb
    · exact blk_lt h.blk
    · exact h.rg.lt b hb
  · simp only [List.mem_cons, List.mem_append] at hb
    rcases hb with rfl | hb | hb | hb
    · exact h.mp.lt
    · exact h.wl b hb
    · exact h.net.lt.1 b hb
    · exact h.net.lt.2 b hb
theorem SimAt.lt (h : SimAt w s F R σ) : (∀ b ∈ F, b < w.heap.size) ∧ ∀ b ∈ R, b < w.heap.size := by
  obtain ⟨n, NF, NR, ra, rc, mm, f, wa, wc, rfl, rfl, hc⟩ := h
  exact hc.lt
theorem SimC.s_ra (h : SimC w s n NF NR ra rc mm f wa wc σ) : s ∉ ft ra := blk_apart h.blk h.rg (by decide)
theorem SimC.c0 (h : SimC w s n NF NR ra rc mm f wa wc σ) : w.cell? ⟨s, 0, none⟩ = some (.pointer (some ⟨n, 0, none⟩)) := blk_cell h.blk 0
theorem SimC.c1 (h : SimC w s n NF NR ra rc mm f wa wc σ) : w.cell? ⟨s, 1, none⟩ = some (.slice ra σ.regs.length rc) := blk_cell h.blk 1
theorem SimC.c2 (h : SimC w s n NF NR ra rc mm f wa wc σ) : w.cell? ⟨s, 2, none⟩ = some (.map (some mm)) := blk_cell h.blk 2
theorem SimC.c3 (h : SimC w s n NF NR ra rc mm f wa wc σ) : w.cell? ⟨s, 3, none⟩ = some (.slice wa σ.ws.length wc) := blk_cell h.blk 3
theorem SimC.c4 (h : SimC w s n NF NR ra rc mm f wa wc σ) : w.cell? ⟨s, 4, none⟩ = some (.int .i64 (σ.cy : Int)) := blk_cell h.blk 4
end
theorem sim_none (hc : w.cell? ⟨s, 0, none⟩ = some (.pointer (some ⟨n, 0, none⟩))) : Calls Tryz.prog 82 #[.pointer (some ⟨s, 0, none⟩)] w fun e w' => e = .returned (.bool false) ∧ w = w' := by
  go_enter Tryz.func82, Tryz.ntmps82
  go_wp2_with fail
  go_ret
  exact ⟨rfl, rfl⟩
theorem fits1_c (ra : Option Addr) (rn rc : Nat) (nm : Value) (ba : Option Addr) (bn bc : Nat) (w : World) : Calls Tryz.prog 126 #[.slice ra rn rc, .agg #[nm, .slice ba bn bc]] w (BoolIs (decide (rn = bn)) w) := by
  have h := Lib.hid (show ((rn : Int) == (bn : Int)) = decide (rn = bn) from by rw [Bool.eq_iff_iff, beq_iff_eq, decide_eq_true_eq]; omega)
  go_enter Tryz.func126, Tryz.ntmps126
  go_wp2_with fail
  go_ret
  exact ⟨by rw [← h.out]; rfl, (Kept.refl [] w).alloc _⟩
/-- as long as the buses are -/
def fitB (l : List Bus) (rows : List (List Nat)) : Bool := decide (rows.map List.length = l.map (·.lits.length))
set_option maxHeartbeats 1600000 in
set_option maxRecDepth 100000 in
theorem equal_words (a b : Option Addr) (c d n m : Nat) (r1 : List WR) (r2 : List BR) (w : World) (hl : r1.length = n) (hl2 : r2.length = m) (hn : n ≤ 1000000) (hm : m ≤ 1000000) (ha : WRows w a n c r1) (hb : SlB w b r2) :
    Calls Tryz.prog 125 #[.slice a n c, .slice b m d, .func (.func 126) #[] #[]] w (BoolIs (fitB (r2.map (·.b)) (r1.map (·.l))) w) := by
  have HL1 := Lib.hid hl
  have HL2 := Lib.hid hl2
  obtain ⟨A, hA⟩ : ∃ A, A = (r1.map (·.l)).map List.length := ⟨_, rfl⟩
  obtain ⟨B, hB⟩ : ∃ B, B = (r2.map (·.b)).map (·.lits.length) := ⟨_, rfl⟩
  have HFB := Lib.hid (show fitB (r2.map (·.b)) (r1.map (·.l)) = decide (A = B) from by unfold fitB; rw [hA, hB])
  have HAL := Lib.hid (show A.length = n from by rw [hA]; simp [hl])
  have HBL := Lib.hid (show B.length = m from by rw [hB]; simp [hl2])
  have HAK := Lib.hid (fun k (h : k < r1.length) => show A[k]? = some r1[k].l.length from by rw [hA]; simp [List.getElem?_eq_getElem h])
  have HBK := Lib.hid (fun k (h : k < r2.length) => show B[k]? = some r2[k].b.lits.length from by rw [hB]; simp [List.getElem?_eq_getElem h])
  have HA := Lib.hid ha
  have HB := Lib.hid hb
  clear hl hl2 ha hb hA hB
  by_cases hnm : n = m
  · subst hnm
    go_enter Tryz.func125, Tryz.ntmps125
    go_wp2_with fail
    go_loopw [17] (fun i wr => ∃ k : Nat, k ≤ n ∧ i = .int .i64 k ∧ Kept [] w wr ∧ A.take k = B.take k) (fun i _ => n - (intOf i).toNat)
    case atStart => exact ⟨0, Nat.zero_le _, rfl, .refl _ _, rfl⟩
    case round =>
      obtain ⟨k, hk, rfl, hkr, hak⟩ := hrel
      have KR := Lib.hid hkr
      have HAKK := Lib.hid hak
      clear hkr hak
      by_cases hlt : k < n
      · have hk1 : k < r1.length := by rw [HL1.out]; exact hlt
        have hk2 : k < r2.length := by rw [HL2.out]; exact hlt
        obtain ⟨b1, rfl, x0⟩ := (HA.out.kept0 KR.out).cell k hk1
        obtain ⟨b2, rfl, y0, y1⟩ := (HB.out.kept0 KR.out) k hk2
        have h1 := HAK.out k hk1
        have h2 := HBK.out k hk2
        have HSN := Lib.hid (show A.take (k + 1) = A.take k ++ [r1[k].l.length] from by rw [List.take_add_one, h1]; rfl)
        have HSB := Lib.hid (show B.take (k + 1) = B.take k ++ [r2[k].b.lits.length] from by rw [List.take_add_one, h2]; rfl)
        have HNE := Lib.hid (show r1[k].l.length ≠ r2[k].b.lits.length → decide (A = B) = false from fun h => by
          rw [decide_eq_false_iff_not]
          intro e
          rw [e, h2] at h1
          injection h1 with h1
          exact h h1.symm)
        clear h1 h2
        generalize r2[k].b.name = nm at *
        generalize r1[k].a = a1 at *
        generalize r2[k].a = a2 at *
        generalize r1[k].c = c1 at *
        generalize r2[k].c = c2 at *
        generalize r1[k].l.length = l1 at *
        generalize r2[k].b.lits.length = l2 at *
        have y0' := fun o => cell_alloc y0 o
        have y1' := fun o => cell_alloc y1 o
        have HC := Lib.hid (fun (W : World) => fits1_c a1 l1 c1 (.string nm) a2 l2 c2 W)
        by_cases hl12 : l1 = l2
        · have hd : decide (l1 = l2) = true := by simp [hl12]
          have HLL := Lib.hid hl12
          rw [hd] at HC
          clear hl12 hd
          go_wp2_with fail
          refine (HC.out _).mono ?_
          rintro e w5 ⟨rfl, hk5⟩
          have K5 := Lib.hid (KR.out.trans (((Kept.refl [] wr).alloc _).trans hk5))
          clear hk5 x0 y0 y1 y0' y1'
          go_wp2_with fail
          go_roundw
          case rel => exact ⟨k + 1, by omega, by go_num, K5.out, by rw [HSN.out, HSB.out, HAKK.out, HLL.out]⟩
          case measure => simp [intOf]; omega
        · have hd : decide (l1 = l2) = false := by simp [hl12]
          have HRS := Lib.hid (HFB.out.trans (HNE.out hl12))
          rw [hd] at HC
          clear hl12 hd
          go_wp2_with fail
          refine (HC.out _).mono ?_
          rintro e w5 ⟨rfl, hk5⟩
          have K5 := Lib.hid (KR.out.trans (((Kept.refl [] wr).alloc _).trans hk5))
          clear hk5 x0 y0 y1 y0' y1'
          go_wp2_with fail
          go_ret
          exact ⟨by rw [HRS.out]; rfl, K5.out⟩
      · obtain rfl : k = n := by omega
        have HRS := Lib.hid (show fitB (r2.map (·.b)) (r1.map (·.l)) = true from by
          rw [HFB.out, decide_eq_true_eq]
          have := HAKK.out
          rwa [List.take_of_length_le (by rw [HAL.out]; exact Nat.le_refl _), List.take_of_length_le (by rw [HBL.out]; exact Nat.le_refl _)] at this)
        go_wp2_with fail
        go_ret
        exact ⟨by rw [HRS.out]; rfl, KR.out⟩
  · have HRS := Lib.hid (show fitB (r2.map (·.b)) (r1.map (·.l)) = false from by
      rw [HFB.out, decide_eq_false_iff_not]
      intro e
      have := congrArg List.length e
      rw [HAL.out, HBL.out] at this
      exact hnm this)
    have hne : ((n : Int) != (m : Int)) = true := by rw [bne_iff_ne]; omega
    go_enter Tryz.func125, Tryz.ntmps125
    go_wp2_with fail
    go_ret
    exact ⟨by rw [HRS.out]; rfl, Kept.refl _ _⟩
theorem fits_c {NF NR : List Nat} {a : Option Addr} {m c : Nat} {rs : List WR} (hc : w.cell? ⟨s, 0, none⟩ = some (.pointer (some ⟨n, 0, none⟩))) (hn : NetAt w n NF NR N) (hi : N.inb.length ≤ 1000000) (hm : m ≤ 1000000) (hr : WRows w a m c rs) :
    Calls Tryz.prog 83 #[.pointer (some ⟨s, 0, none⟩), .slice a m c] w (BoolIs (fitB N.inb (rs.map (·.l))) w) := by
  obtain ⟨p, G, ia, ic, ra, rc, oa, oc, ri, ro, rfl, rfl, hnc⟩ := hn
  have c2 := hnc.c2
  have HE := Lib.hid (equal_words a ia c ic m N.inb.length rs ri w hr.len (by rw [← hnc.ib.is]; simp) hm hi hr hnc.ib.slb)
  rw [hnc.ib.is] at HE
  clear hnc
  go_enter Tryz.func83, Tryz.ntmps83
  go_wp2_with fail
  refine HE.out.mono ?_
  rintro e w5 ⟨rfl, hk5⟩
  have K5 := Lib.hid hk5
  clear hk5
  go_wp2_with fail
  go_ret
  exact ⟨rfl, K5.out⟩
def RowWords (l : List Nat) (n : Nat) (w : World) (e : Ending) (w' : World) : Prop := ∃ a c, e = .returned (.slice a n c) ∧ Own w' 79 a n c (nats .u64 l) ∧ Stepped w w' [] (ft a)
set_option maxHeartbeats 800000 in
theorem simof_c (wa : Option Addr) (wc wn : Nat) (ws : List Nat) (a : Option Addr) (c m : Nat) (l : List Nat) (w : World) (hc : w.cell? ⟨s, 3, none⟩ = some (.slice wa wn wc)) (hwn : ws.length = wn) (hws : SlN w .u64 wa ws) (hww : Words ws) (hl : l.length = m) (hm : m ≤ 1000000) (hs : SlN w .u32 a l) (hr : Lits l) :
    Calls Tryz.prog 87 #[.pointer (some ⟨s, 0, none⟩), .slice a m c] w (RowWords (l.map (wd ws)) m w) := by
  have HL := Lib.hid hl
  have HWD := Lib.hid (fun (x : Nat) (hx : x < 4294967296) (W : World) (hk : Kept [] w W) => lit_word x wa wc wn ws W hwn hx (hws.kept0 hk) hww)
  have HC := Lib.hid (fun (W : World) (hk : Kept [] w W) => hk.cell hc (by simp))
  have HS := Lib.hid hs
  clear hl hwn hws hww hc hs
  go_enter Tryz.func87, Tryz.ntmps87
  go_wp2_with fail
  go_loopw [5, 10] (fun v i wr => ∃ (k : Nat) (a' : Option Addr) (c' : Nat), k ≤ m ∧ i = .int .i64 k ∧ v = .slice a' k c' ∧ Own wr 79 a' k c' (nats .u64 ((l.take k).map (wd ws))) ∧ Stepped w wr [] (ft a')) (fun _ i _ => m - (intOf i).toNat)
  case atStart => exact ⟨0, none, 0, Nat.zero_le _, rfl, rfl, Own.nil _ _, .refl _ _⟩
  case round =>
    obtain ⟨k, a', c', hk, rfl, rfl, hown, hst⟩ := hrel
    by_cases hlt : k < m
    · have hkl : k < l.length := by rw [HL.out]; exact hlt
      obtain ⟨ad, rfl, hcx⟩ := (HS.out.kept0 hst.kept) k hkl
      have HT := Lib.hid (show (l.take (k + 1)).map (wd ws) = (l.take k).map (wd ws) ++ [wd ws l[k]] from by rw [take_snoc l k hkl, List.map_append]; rfl)
      have hx := hr _ (List.getElem_mem hkl)
      have cw := HC.out wr hst.kept
      have HW := Lib.hid (HWD.out l[k] hx wr hst.kept)
      generalize l[k] = x at *
      generalize wd ws x = v at *
      go_wp2_with fail
      refine HW.out.mono ?_
      rintro e w4 ⟨rfl, rfl⟩
      go_wp2_with (at_builtin; refine wpList_push rfl rfl Tryz.underlying78 u64_info rfl rfl rfl hown rfl (by unfold maxLen; omega) (by omega) ?_; intro a1 c1 w5 hown5 hst5)
      go_roundw
      case rel => exact ⟨k + 1, a1, c1, by omega, by go_num, rfl, by rw [HT.out, ← nats_append]; exact hown5, hst.trans hst5⟩
      case measure => simp [intOf]; omega
    · obtain rfl : k = m := by omega
      have HT := Lib.hid (show l.take k = l from List.take_of_length_le (by rw [HL.out]; exact Nat.le_refl _))
      rw [HT.out] at hown
      go_wp2_with fail
      go_ret
      exact ⟨a', c', rfl, hown, hst⟩
end Go.Proofs.YtdmcdhkkbkgnbaaGreat
