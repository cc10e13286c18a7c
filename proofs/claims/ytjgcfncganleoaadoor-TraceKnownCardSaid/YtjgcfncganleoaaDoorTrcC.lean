/-
  Law 09: few: the call's own table.
-/
import Derived.Test.YtjgcfncganleoaaDoorTrcB
import Derived.StillTailTactics
import Derived.Deep.DeepCutAuto
import Derived.Deep.LoopGhost
import Derived.Deep.CutBlock
namespace Go.Proofs.YtjgcfncganleoaaDoor
open Go.ChangeShapes Go.WideShapes Go.ChangeAt Go.RowKit
open Go.Maps (Keyed)
open Go.WideMaps
set_option linter.unusedVariables false
set_option linter.unusedSimpArgs false

variable {w w' : World} {S : List Nat}
def busCells (bs : List (ByteArray × Int)) : List Value := bs.flatMap fun b => [.string b.1, .int .i64 b.2]
theorem busCells_length (bs : List (ByteArray × Int)) : (busCells bs).length = 2 * bs.length := by
  induction bs with
  | nil => rfl
  | cons p bs ih => simp [busCells] at ih ⊢; omega
theorem busCells_snoc (bs : List (ByteArray × Int)) (b : ByteArray × Int) : busCells bs ++ [.string b.1, .int .i64 b.2] = busCells (bs ++ [b]) := by simp [busCells]
theorem busCells_get (bs : List (ByteArray × Int)) (i : Nat) (p : ByteArray × Int) (h : bs[i]? = some p) : (busCells bs)[2 * i]? = some (.string p.1) ∧ (busCells bs)[2 * i + 1]? = some (.int .i64 p.2) := by
  induction bs generalizing i with
  | nil => simp at h
  | cons q bs ih =>
    cases i with
    | zero => simp at h; subst h; simp [busCells]
    | succ i =>
      have := ih i (by simpa using h)
      have e1 : 2 * (i + 1) = (2 * i) + 1 + 1 := by omega
      rw [e1]
      simpa [busCells] using this
theorem own2_form {e : TypeId} {a : Option Addr} {n cap : Nat} {xs : List Value} (h : Own2 w e a n cap xs) (hn : 0 < n) : ∃ g, a = some ⟨g, 0, none⟩ := by
  rcases h.2 with ⟨hv, h0⟩ | ⟨g, cap', cur, hv, _⟩
  · omega
  · injection hv with hv; exact ⟨g, hv⟩
theorem own2_bus {e : TypeId} {a : Option Addr} {n cap : Nat} {bs : List (ByteArray × Int)} (h : Own2 w e a n cap (busCells bs)) : SlBus w a bs := by
  intro k hk
  have hl : (busCells bs).length = n * 2 := h.1
  rw [busCells_length] at hl
  obtain ⟨g, rfl⟩ := own2_form h (by omega)
  have hc := fun j u (hj : (busCells bs)[j]? = some u) => World.ownsRow.cells h (g := g) rfl j u hj
  have hg := busCells_get bs k _ (List.getElem?_eq_getElem hk)
  have h0 := hc _ _ hg.1
  have h1 := hc _ _ hg.2
  rw [add_at] at h0 h1
  exact ⟨g, 0, rfl, by rw [← h0]; congr 2; omega, by rw [← h1]; congr 2; omega⟩
theorem owns_cap {e : TypeId} {size m cap : Nat} {a : Option Addr} {xs : List Value} (h : w.ownsRow 0 e size (.slice a m cap) m xs) : m ≤ cap := by
  rcases h.2 with ⟨hv, h0⟩ | ⟨g, c, cur, hv, hc, _⟩
  · injection hv; omega
  · injection hv with _ _ hv
    omega
/-- a table of the call's own: its buses, its rows, each in memory of its own -/
structure TabN (w : World) (ba : Option Addr) (bn bc : Nat) (ra : Option Addr) (rn rc : Nat) (t : Tb) (wl : List WR) : Prop where
  bl : t.bs.length = bn
  bus : Own2 w 35 ba bn bc (busCells t.bs)
  rows : WRows w ra rn rc wl
  own : ∀ r ∈ wl, Own w 27 r.a r.l.length r.c (nats .u64 r.l)
  rm : wl.map (·.l) = t.rs
  pw : wl.Pairwise fun x y => ∀ b ∈ ft x.a, b ∉ ft y.a
theorem TabN.tabV {ba ra : Option Addr} {bn bc rn rc : Nat} {t : Tb} {wl : List WR} (h : TabN w ba bn bc ra rn rc t wl) : TabV w ba bn bc ra rn rc t wl :=
  ⟨h.bl, h.rows.len, h.rm, own2_bus h.bus, h.rows.slw, owns_cap h.bus, owns_cap h.rows.own, fun r hr => owns_cap (h.own r hr)⟩
theorem TabN.kept {ba ra : Option Addr} {bn bc rn rc : Nat} {t : Tb} {wl : List WR} (h : TabN w ba bn bc ra rn rc t wl) (hk : Kept S w w') (h1 : ∀ b ∈ ft ba ++ (ft ra ++ wrBlocks wl), b ∉ S) : TabN w' ba bn bc ra rn rc t wl :=
  ⟨h.bl, h.bus.kept hk (fun b hb => h1 b (by simp [hb])), h.rows.kept hk (fun b hb => h1 b (by simp [hb])) (fun b hb => h1 b (by simp [hb])), fun r hr => (h.own r hr).kept hk (fun b hb => h1 b (by
    simp only [List.mem_append]
    exact .inr (.inr (mem_wrBlocks.2 ⟨r, hr, hb⟩)))), h.rm, h.pw⟩
theorem TabN.kept0 {ba ra : Option Addr} {bn bc rn rc : Nat} {t : Tb} {wl : List WR} (h : TabN w ba bn bc ra rn rc t wl) (hk : Kept [] w w') : TabN w' ba bn bc ra rn rc t wl := h.kept hk (by simp)
theorem bus_info : (Tryd.prog.info? 35).map (fun i => (i.zero, i.size, i.bytes)) = some (some (.agg #[.string ByteArray.empty, .int .i64 0]), 2, 24) := by kernel_rfl
theorem row_info : (Tryd.prog.info? 33).map (fun i => (i.zero, i.size, i.bytes)) = some (some (.slice none 0 0), 1, 24) := by kernel_rfl
/-- a row's clone -/
theorem clone_row (a : Option Addr) (c n : Nat) (l : List Nat) (w : World) (hl : l.length = n) (hs : SlN w .u64 a l) (hm : n ≤ 1000000) :
    Calls Tryd.prog 33 #[.slice a n c] w (RowWords l n w) := by
  have q := fun (w : World) (a : Option Addr) (n c : Nat) => Lib.run_eql_slice_nil (P := Tryd.prog) w 33 27 a n c 0 0 Tryd.underlying33
  have HS := Lib.hid hs; clear hs
  have HL := Lib.hid hl; clear hl
  cases a with
  | none =>
    have hl0 : l = [] := by
      match l, HS.out with
      | [], _ => rfl
      | x :: l, h => obtain ⟨ad, h1, _⟩ := h 0 (by simp); cases h1
    subst hl0
    obtain rfl : n = 0 := by have := HL.out; simpa using this.symm
    go_enter Tryd.func33, Tryd.ntmps33
    go_wp2
    go_ret
    exact ⟨none, 0, rfl, Own.nil _ _, .refl _ _⟩
  | some ad =>
    have HC := Lib.hid (show ∀ j u, (nats .u64 l)[j]? = some u → (w.alloc (.cells #[] 27)).cell? (ad.add j) = some u from fun j u hu => by
      obtain ⟨hj, rfl⟩ := List.getElem?_eq_some_iff.1 hu
      rw [nats_length] at hj
      obtain ⟨ad', h1, h2⟩ := HS.out j hj
      injection h1 with h1
      subst h1
      have := cell_alloc h2 (.cells #[] 27)
      rw [this]
      simp [nats])
    go_enter Tryd.func33, Tryd.ntmps33
    go_wp2_with (at_builtin; refine wpList_cat (news := nats .u64 l) rfl rfl Tryd.underlying33 u64_info rfl (by omega) rfl rfl (own_empty w 27 1) (by rw [nats_length, HL.out, Nat.mul_one]) HC.out (nats_one _ _) (by unfold maxLen; omega) (by omega) ?_; intro a' c' w1 hown1 hst1)
    go_ret
    refine ⟨a', c', by simp [go_sem], by simpa [Own] using hown1, ?_⟩
    have := (((Stepped.refl w []).allocOwn (.cells #[] 27))).trans (by simpa [ft] using hst1)
    exact this
/-- a table that grows in a struct at block p3, its parts of the call's own -/
structure FewAt (w0 w : World) (p3 : Nat) (ba : Option Addr) (bn bc : Nat) (ra : Option Addr) (rn rc : Nat) (bs : List (ByteArray × Int)) (wl : List WR) (rs : List (List Nat)) : Prop where
  blk : w.heap[p3]? = some (.cells #[.slice ba bn bc, .slice ra rn rc] 25 (0, 0))
  bus : Own2 w 35 ba bn bc (busCells bs)
  rows : WRows w ra rn rc wl
  own : ∀ r ∈ wl, Own w 27 r.a r.l.length r.c (nats .u64 r.l)
  rm : wl.map (·.l) = rs
  pw : wl.Pairwise fun x y => ∀ b ∈ ft x.a, b ∉ ft y.a
  new : ∀ b ∈ ft ba ++ (ft ra ++ wrBlocks wl), w0.heap.size ≤ b
  kept : Kept [p3] w0 w
  old : p3 < w0.heap.size
theorem FewAt.keep {w0 w2 : World} {p3 : Nat} {ba ra : Option Addr} {bn bc rn rc : Nat} {bs : List (ByteArray × Int)} {wl : List WR} {rs : List (List Nat)} (h : FewAt w0 w p3 ba bn bc ra rn rc bs wl rs) (hk : Kept [] w w2) : FewAt w0 w2 p3 ba bn bc ra rn rc bs wl rs :=
  ⟨hk.heap h.blk (by simp), h.bus.kept hk (by simp), h.rows.kept0 hk, fun r hr => (h.own r hr).kept0 hk, h.rm, h.pw, h.new, h.kept.trans (hk.more (by simp)), h.old⟩
theorem FewAt.row {w0 w1 w9 : World} {p3 : Nat} {ba ra a9 : Option Addr} {bn bc rn rc c9 : Nat} {bs : List (ByteArray × Int)} {wl : List WR} {rs : List (List Nat)} {r : WR} (h : FewAt w0 w p3 ba bn bc ra rn rc bs wl rs) (hk : Kept [] w w1)
    (hr : Own w1 27 r.a r.l.length r.c (nats .u64 r.l)) (hf : ∀ b ∈ ft r.a, w.heap.size ≤ b) (ho : Own w9 33 a9 (rn + 1) c9 (wrCells wl ++ [.slice r.a r.l.length r.c])) (hst : Stepped w1 w9 (ft ra) (ft a9)) :
    FewAt w0 (w9.setCell ⟨p3, 1, none⟩ (.slice a9 (rn + 1) c9)) p3 ba bn bc a9 (rn + 1) c9 bs (wl ++ [r]) (rs ++ [r.l]) := by
  have h1 := h.keep hk
  have z0 := h.kept.size
  have hp3a : p3 ∉ ft ra := blk_apart h1.blk h1.rows.own (by decide)
  have hap : ∀ b ∈ wrBlocks wl, b ∉ ft ra := fun b hb => by
    obtain ⟨q, hq, hbq⟩ := mem_wrBlocks.1 hb
    exact owns_apart (h1.own q hq) h1.rows.own (by decide) b hbq
  have hra : ∀ b ∈ ft r.a, b < w1.heap.size ∧ b ∉ ft ra := fun b hb => ⟨hr.lt b hb, owns_apart hr h1.rows.own (by decide) b hb⟩
  obtain ⟨hW, hWap⟩ := WRows.snoc (w0 := w) h.rows hk ho hst hr.sln hra hap
  have b9 := hst.kept.heap h1.blk hp3a
  have hp3 : ∀ b, b ∈ ft ba ++ (ft a9 ++ wrBlocks (wl ++ [r])) → b ∉ [p3] := fun b hb hx => by
    rw [List.mem_singleton] at hx
    subst hx
    simp only [List.mem_append] at hb
    rcases hb with hb | hb | hb
    · exact blk_apart h1.blk h1.bus (by decide) hb
    · exact blk_apart b9 ho (by decide) hb
    · obtain ⟨q, hq, hbq⟩ := mem_wrBlocks.1 hb
      rcases List.mem_append.1 hq with hq | hq
      · exact blk_apart h1.blk (h1.own q hq) (by decide) hbq
      · rw [List.mem_singleton] at hq
        subst hq
        have := h.old
        have := hf _ hbq
        omega
  have hk9 : Kept [p3] w9 (w9.setCell ⟨p3, 1, none⟩ (.slice a9 (rn + 1) c9)) := (Kept.refl [p3] w9).setCell (p := ⟨p3, 1, none⟩) (.inl (by simp)) _
  have hbus : ∀ b ∈ ft ba, b ∉ ft ra := owns_apart h1.bus h1.rows.own (by decide)
  refine ⟨by simpa using blk_set b9 1 (.slice a9 (rn + 1) c9), (h1.bus.kept hst.kept hbus).kept hk9 (fun b hb => hp3 b (by simp [hb])), hW.kept hk9 (fun b hb => hp3 b (by simp [hb])) (fun b hb => hp3 b (by simp [hb])), fun q hq => ?_, by simp [h.rm], ?_, fun b hb => ?_, ?_, h.old⟩
  · have hq2 : Own w9 27 q.a q.l.length q.c (nats .u64 q.l) := by
      rcases List.mem_append.1 hq with hq | hq
      · exact (h1.own q hq).kept hst.kept (fun b hb => hap b (mem_wrBlocks.2 ⟨q, hq, hb⟩))
      · rw [List.mem_singleton] at hq
        subst hq
        exact hr.kept hst.kept (fun b hb => (hra b hb).2)
    exact hq2.kept hk9 (fun b hb => hp3 b (by simp only [List.mem_append]; exact .inr (.inr (mem_wrBlocks.2 ⟨q, hq, hb⟩))))
  · rw [List.pairwise_append]
    refine ⟨h.pw, List.pairwise_singleton _ _, fun x hx y hy b hb hb2 => ?_⟩
    rw [List.mem_singleton] at hy
    subst hy
    have e1 := (h.own x hx).lt b hb
    have e2 := hf b hb2
    omega
  · simp only [List.mem_append] at hb
    rcases hb with hb | hb | hb
    · exact h.new b (by simp [hb])
    · rcases hst.fresh b hb with hb | hb
      · exact h.new b (by simp [hb])
      · have := hk.size; omega
    · obtain ⟨q, hq, hbq⟩ := mem_wrBlocks.1 hb
      rcases List.mem_append.1 hq with hq | hq
      · exact h.new b (by simp only [List.mem_append]; exact .inr (.inr (mem_wrBlocks.2 ⟨q, hq, hbq⟩)))
      · rw [List.mem_singleton] at hq
        subst hq
        have := hf b hbq
        omega
  · refine (kept_upS (h.kept.trans (hk.more (by simp))) hst.kept (fun b hb => h.new b (by simp [hb]))).setCell (.inl (by simp)) _
/-- the call's own few rows and buses -/
def FewPost (t : Tb) (w : World) (e : Ending) (w' : World) : Prop :=
  ∃ ba bc ra rc wl, e = .returned (.agg #[.slice ba t.bs.length bc, .slice ra t.rs.length rc]) ∧ TabN w' ba t.bs.length bc ra t.rs.length rc t wl ∧ Kept [] w w' ∧ ∀ b ∈ ft ba ++ (ft ra ++ wrBlocks wl), w.heap.size ≤ b
set_option maxHeartbeats 6400000 in
set_option maxRecDepth 100000 in
theorem few_c {ba ra : Option Addr} {bn bc rn rc : Nat} {t : Tb} {wl : List WR} (h : TabV w ba bn bc ra rn rc t wl) (hok : t.ok) :
    Calls Tryd.prog 9 #[.agg #[.slice ba bn bc, .slice ra rn rc]] w (FewPost (fewT t) w) := by
  have HT := Lib.hid h
  have HOK := Lib.hid hok
  have HBL := Lib.hid h.bl
  have HRL := Lib.hid h.rl
  have hbm : bn ≤ 140737488351232 := by rw [← h.bl]; exact hok.bl
  have hrm : rn ≤ 140737488351232 := by rw [← h.rlen]; exact hok.rl
  clear h hok
  obtain ⟨NB, hNB⟩ : ∃ x, x = (fewT t).bs := ⟨_, rfl⟩
  obtain ⟨NR, hNR⟩ : ∃ x, x = (fewT t).rs := ⟨_, rfl⟩
  have HNB := Lib.hid hNB
  have HNR := Lib.hid hNR
  have hnb : NB.length = min bn 20 := by rw [hNB, ← HBL.out]; simp [fewT]; omega
  have hnr : NR.length = min rn 30 := by rw [hNR, ← HT.out.rlen]; simp [fewT]; omega
  have HNBL := Lib.hid hnb
  have HNRL := Lib.hid hnr
  have HNBK := Lib.hid (show ∀ k (h : k < t.bs.length), k < 20 → NB[k]? = some (cutS t.bs[k].1 40, t.bs[k].2) from fun k h h20 => by
    rw [hNB]; simp [fewT, h, h20])
  have HNRK := Lib.hid (show ∀ k (h : k < t.rs.length), k < 30 → NR[k]? = some (t.rs[k].take 25) from fun k h h30 => by
    rw [hNR]; simp [fewT, h, h30])
  clear hNB hNR hnb hnr
  go_enter Tryd.func9, Tryd.ntmps9; (try simp only [List.append])
  go_wp2_with fail
  obtain ⟨p1, hp1⟩ : ∃ q, q = w.heap.size := ⟨_, rfl⟩
  obtain ⟨p2, hp2⟩ : ∃ q, q = w.heap.size + 1 := ⟨_, rfl⟩
  obtain ⟨p3, hp3⟩ : ∃ q, q = w.heap.size + 1 + 1 := ⟨_, rfl⟩
  obtain ⟨w3, hw3⟩ : ∃ W, W = ((w.alloc (.cells #[.slice ba bn bc, .slice ra rn rc] 25)).alloc (.cells #[.slice none 0 0, .slice none 0 0] 25)).alloc (.cells #[.slice none 0 0, .slice none 0 0] 25) := ⟨_, rfl⟩
  have HZ := Lib.hid (show w3.heap.size = p3 + 1 ∧ p1 = w.heap.size ∧ p2 = w.heap.size + 1 ∧ p3 = w.heap.size + 2 from by rw [hw3]; simp; omega)
  have K3 := Lib.hid (show Kept [] w w3 from by rw [hw3]; exact (((Kept.refl [] w).alloc _).alloc _).alloc _)
  have HP1 := Lib.hid (show w3.cell? ⟨p1, 0, none⟩ = some (.slice ba bn bc) ∧ w3.cell? ⟨p1, 1, none⟩ = some (.slice ra rn rc) from by
    rw [hw3, hp1]
    exact ⟨cell_alloc (cell_alloc (blk_cell (heap_alloc_new w _) 0) _) _, cell_alloc (cell_alloc (blk_cell (heap_alloc_new w _) 1) _) _⟩)
  have HP2 := Lib.hid (show w3.heap[p2]? = some (.cells #[.slice none 0 0, .slice none 0 0] 25 (0, 0)) from by
    rw [hw3, hp2]
    have h := heap_alloc_new (w.alloc (.cells #[.slice ba bn bc, .slice ra rn rc] 25)) (.cells #[.slice none 0 0, .slice none 0 0] 25)
    have hs : (w.alloc (.cells #[.slice ba bn bc, .slice ra rn rc] 25)).heap.size = w.heap.size + 1 := by simp
    rw [hs] at h
    rw [Below.heap_alloc _ _ _ (by simp)]
    exact h)
  have HP3 := Lib.hid (show w3.heap[p3]? = some (.cells #[.slice none 0 0, .slice none 0 0] 25 (0, 0)) from by
    rw [hw3, hp3]
    have h := heap_alloc_new ((w.alloc (.cells #[.slice ba bn bc, .slice ra rn rc] 25)).alloc (.cells #[.slice none 0 0, .slice none 0 0] 25)) (.cells #[.slice none 0 0, .slice none 0 0] 25)
    have hs : ((w.alloc (.cells #[.slice ba bn bc, .slice ra rn rc] 25)).alloc (.cells #[.slice none 0 0, .slice none 0 0] 25)).heap.size = w.heap.size + 1 + 1 := by simp
    rw [hs] at h
    exact h)
  try rw [← hp3]
  try rw [← hp2]
  try rw [← hp1]
  try rw [← hw3]
  clear hp1 hp2 hp3 hw3
  go_loopw [11] (fun i wr => ∃ (k m : Nat) (a : Option Addr) (c : Nat), k ≤ bn ∧ m = min k 20 ∧ i = .int .i64 k ∧ wr.heap[p3]? = some (.cells #[.slice a m c, .slice none 0 0] 25 (0, 0)) ∧ Own2 wr 35 a m c (busCells (NB.take m)) ∧ Kept [p3] w3 wr ∧ ∀ b ∈ ft a, w3.heap.size ≤ b) (fun i _ => bn - (intOf i).toNat)
  case atStart => exact ⟨0, 0, none, 0, Nat.zero_le _, rfl, rfl, HP3.out, World.ownsRow_nil _ _ _ _, .refl _ _, by simp [ft]⟩
  case round =>
    obtain ⟨k, m, a, c, hk, hm, rfl, hb3, hown, hkr, hfr⟩ := hrel
    have HM := Lib.hid hm
    have HB3 := Lib.hid hb3
    have HO := Lib.hid hown
    have KR := Lib.hid hkr
    have HFR := Lib.hid hfr
    have KW := Lib.hid (show Kept [] w wr from kept_up K3.out hkr (fun b hb => by rw [List.mem_singleton.1 hb]; have := HZ.out; omega))
    have hp13 : p1 ∉ [p3] := by have := HZ.out; simp; omega
    have d0 := hkr.cell HP1.out.1 hp13
    have d1 := hkr.cell HP1.out.2 hp13
    clear hm hb3 hown hkr hfr hp13
    by_cases hlt : k < bn
    · have hkl : k < t.bs.length := by rw [HBL.out]; exact hlt
      obtain ⟨gb, go_, rfl, x0, x1⟩ := (HT.out.bs.kept0 KW.out) k hkl
      have HSZ := Lib.hid (HOK.out.bn _ (List.getElem_mem hkl))
      have HNK := Lib.hid (fun h20 => HNBK.out k hkl h20)
      generalize t.bs[k] = b at *
      obtain ⟨nm, x⟩ := b
      simp only at x0 x1
      obtain ⟨w5, hw5⟩ : ∃ W, W = wr.alloc (.cells #[.string nm, .int .i64 x] 35) := ⟨_, rfl⟩
      have K5 := Lib.hid (show Kept [] wr w5 from by rw [hw5]; exact (Kept.refl [] wr).alloc _)
      obtain ⟨pb, hpb⟩ : ∃ q, q = wr.heap.size := ⟨_, rfl⟩
      have HPB := Lib.hid hpb
      have E5 := Lib.hid (show w5.cell? ⟨pb, 0, none⟩ = some (.string nm) ∧ w5.cell? ⟨pb, 1, none⟩ = some (.int .i64 x) from by
        rw [hw5, hpb]
        exact ⟨blk_cell (heap_alloc_new wr _) 0, blk_cell (heap_alloc_new wr _) 1⟩)
      by_cases h20 : k < 20
      · obtain rfl : k = m := by have := HM.out; omega
        obtain ⟨z, hz⟩ : ∃ z, z = min nm.size 40 := ⟨_, rfl⟩
        have hzi : (if (40 : Int) < (nm.size : Int) then (40 : Int) else (nm.size : Int)) = (z : Int) := by split <;> omega
        have hz0 : (0 : Int) ≤ (z : Int) := by omega
        have hzs : (z : Int) ≤ (nm.size : Int) := by omega
        have hz1 : z ≤ nm.size := by omega
        have HZZ := Lib.hid hz
        clear hz
        go_upto_region 6 with (fail)
        try rw [← hpb]
        try rw [← hw5]
        clear hpb hw5
        have b3 := K5.out.heap HB3.out (by simp)
        have c3 : w5.cell? ⟨p3, 0, none⟩ = some (.slice a k c) := blk_cell b3 0
        have c3a : ∀ o, (w5.alloc o).cell? ⟨p3, 0, none⟩ = some (.slice a k c) := fun o => cell_alloc c3 o
        have e0 := E5.out.1
        have e1 := E5.out.2
        have e0a : ∀ o, (w5.alloc o).cell? ⟨pb, 0, none⟩ = some (.string nm) := fun o => cell_alloc e0 o
        have e1a : ∀ o, (w5.alloc o).cell? ⟨pb, 1, none⟩ = some (.int .i64 x) := fun o => cell_alloc e1 o
        have hlt3 := blk_lt b3
        have f3 : w5.frozen? ⟨p3, 0, none⟩ = false := blk_free b3 0
        have f3a : ∀ o, (w5.alloc o).frozen? ⟨p3, 0, none⟩ = false := fun o => (((Kept.refl [] w5).alloc o).frozen hlt3 (by simp)).trans f3
        have hpa : p3 ∉ ft a := fun hx => by have h1 := HFR.out _ hx; have := HZ.out; omega
        have ho := HO.out.kept K5.out (by simp)
        clear x0 x1
        have hpb3 : pb ≠ p3 := by have h1 := hlt3; have h2 := HPB.out; have h3 := blk_lt HB3.out; omega
        have hpba : pb ∉ ft a := fun hx => by have h1 := owns_lt HO.out _ hx; have h2 := HPB.out; omega
        have KEEP := Lib.hid (fun (W : World) (hW : Kept (p3 :: ft a) w5 W) => show W.cell? ⟨pb, 0, none⟩ = some (.string nm) ∧ W.cell? ⟨pb, 1, none⟩ = some (.int .i64 x) from
          ⟨hW.cell e0 (by simp only [List.mem_cons, not_or]; exact ⟨hpb3, hpba⟩), hW.cell e1 (by simp only [List.mem_cons, not_or]; exact ⟨hpb3, hpba⟩)⟩)
        have k9 := Kept.refl (p3 :: ft a) w5
        have HS3 := Lib.hid (show (⟨p3, 0, none⟩ : Addr).block ∈ p3 :: ft a ∨ w5.heap.size ≤ (⟨p3, 0, none⟩ : Addr).block from .inl (by simp))
        clear hpb3 hpba
        refine wp_region_held_drew (S := fun W => W.cell? ⟨pb, 0, none⟩ = some (.string nm) ∧ W.cell? ⟨pb, 1, none⟩ = some (.int .i64 x)) (by kernel_rfl) ?_ (fun hHeld => ?_)
        · try dsimp only
          (with_reducible refine KEEP.out _ ?_; (repeat (first | with_reducible exact k9 | with_reducible refine Kept.setCell ?_ HS3.out _ | with_reducible exact Kept.refl _ _ | with_reducible apply Kept.drew | with_reducible apply Kept.drewN | with_reducible apply Kept.alloc)))
        refine wpAnyH_take (i := 0) (v := ?_) rfl (by kernel_rfl) (by kernel_rfl) (by kernel_rfl) (fun _ _ _ h => h) (Or.inl ⟨by rfl, ?_⟩) (by assumption) ?_
        rotate_left
        · intro w hSw; (try dsimp only at hSw); go_simp
          all_goals with_reducible rfl
        try simp only [Act.put, List.setIfInBounds_toArray, List.set_cons_zero, List.set_cons_succ]
        refine wpAnyH_take (i := 2) (v := ?_) rfl (by kernel_rfl) (by kernel_rfl) (by kernel_rfl) (fun _ _ _ h => h) (Or.inl ⟨by rfl, ?_⟩) (by assumption) ?_
        rotate_left
        · intro w hSw; (try dsimp only at hSw); go_simp
          all_goals with_reducible rfl
        try simp only [Act.put, List.setIfInBounds_toArray, List.set_cons_zero, List.set_cons_succ]
        refine wpAnyH_take (i := 3) (v := ?_) rfl (by kernel_rfl) (by kernel_rfl) (by kernel_rfl) (fun _ _ _ h => h) (Or.inl ⟨by rfl, ?_⟩) (by assumption) ?_
        rotate_left
        · intro w hSw; (try dsimp only at hSw); go_simp
          all_goals with_reducible rfl
        try simp only [Act.put, List.setIfInBounds_toArray, List.set_cons_zero, List.set_cons_succ]
        refine wpAnyH_take (i := 4) (v := ?_) rfl (by kernel_rfl) (by kernel_rfl) (by kernel_rfl) (fun _ _ _ h => h) (Or.inl ⟨by rfl, ?_⟩) (by assumption) ?_
        rotate_left
        · intro w hSw; (try dsimp only at hSw); go_simp
          all_goals with_reducible rfl
        try simp only [Act.put, List.setIfInBounds_toArray, List.set_cons_zero, List.set_cons_succ]
        refine wpAnyH_take (i := 5) (v := ?_) rfl (by kernel_rfl) (by kernel_rfl) (by kernel_rfl) (fun _ _ _ h => h) (Or.inl ⟨by rfl, ?_⟩) (by assumption) ?_
        rotate_left
        · intro w hSw; (try dsimp only at hSw); go_simp
          all_goals with_reducible rfl
        try simp only [Act.put, List.setIfInBounds_toArray, List.set_cons_zero, List.set_cons_succ]
        refine wpAnyH_take (i := 6) (v := ?_) rfl (by kernel_rfl) (by kernel_rfl) (by kernel_rfl) (fun _ _ _ h => h) (Or.inl ⟨by rfl, ?_⟩) (by assumption) ?_
        rotate_left
        · intro w hSw; (try dsimp only at hSw); go_simp
          all_goals with_reducible rfl
        try simp only [Act.put, List.setIfInBounds_toArray, List.set_cons_zero, List.set_cons_succ]
        refine wpAnyH_take (i := 7) (v := ?_) rfl (by kernel_rfl) (by kernel_rfl) (by kernel_rfl) (fun _ _ _ h => h) (Or.inl ⟨by rfl, ?_⟩) (by assumption) ?_
        rotate_left
        · intro w hSw; (try dsimp only at hSw); go_simp
          all_goals with_reducible rfl
        try simp only [Act.put, List.setIfInBounds_toArray, List.set_cons_zero, List.set_cons_succ]
        refine wpAnyH_take (i := 8) (v := ?_) rfl (by kernel_rfl) (by kernel_rfl) (by kernel_rfl) (fun _ _ _ h => h) (Or.inl ⟨by rfl, ?_⟩) (by assumption) ?_
        rotate_left
        · intro w hSw; (try dsimp only at hSw); go_simp
          all_goals with_reducible rfl
        try simp only [Act.put, List.setIfInBounds_toArray, List.set_cons_zero, List.set_cons_succ]
        refine wpAnyH_take (i := 9) (v := ?_) rfl (by kernel_rfl) (by kernel_rfl) (by kernel_rfl) (fun _ _ _ h => h) (Or.inl ⟨by rfl, ?_⟩) (by assumption) ?_
        rotate_left
        · intro w hSw; (try dsimp only at hSw); go_simp
          all_goals with_reducible rfl
        try simp only [Act.put, List.setIfInBounds_toArray, List.set_cons_zero, List.set_cons_succ]
        refine wpAnyH_take (i := 10) (v := ?_) rfl (by kernel_rfl) (by kernel_rfl) (by kernel_rfl) (fun _ _ _ h => h) (Or.inl ⟨by rfl, ?_⟩) (by assumption) ?_
        rotate_left
        · intro w hSw; (try dsimp only at hSw); go_simp
          all_goals with_reducible rfl
        try simp only [Act.put, List.setIfInBounds_toArray, List.set_cons_zero, List.set_cons_succ]
        refine wpAnyH_take (i := 11) (v := ?_) rfl (by kernel_rfl) (by kernel_rfl) (by kernel_rfl) (fun _ _ _ h => h) (Or.inl ⟨by rfl, ?_⟩) (by assumption) ?_
        rotate_left
        · intro w hSw; (try dsimp only at hSw); go_simp
          all_goals with_reducible rfl
        try simp only [Act.put, List.setIfInBounds_toArray, List.set_cons_zero, List.set_cons_succ]
        refine wpAnyH_ready (rs := [1, 12]) (by kernel_rfl) (by simp) ?_
        refine AllReadyH.cons rfl (fun K hK => ?_) ?_
        · go_simp
          refine hK.out _ _ ?_ (fun hHeld => ?_)
          · (with_reducible refine KEEP.out _ ?_; (repeat (first | with_reducible exact k9 | with_reducible refine Kept.setCell ?_ HS3.out _ | with_reducible exact Kept.refl _ _ | with_reducible apply Kept.drew | with_reducible apply Kept.drewN | with_reducible apply Kept.alloc)))
          clear hK K
          try simp only [Act.put, List.setIfInBounds_toArray, List.set_cons_zero, List.set_cons_succ]
          refine wpAnyH_ready (rs := [12]) (by kernel_rfl) (by simp) ?_
          refine AllReadyH.cons rfl (fun K hK => ?_) ?_
          · go_simp
            refine hK.out _ _ ?_ (fun hHeld => ?_)
            · (with_reducible refine KEEP.out _ ?_; (repeat (first | with_reducible exact k9 | with_reducible refine Kept.setCell ?_ HS3.out _ | with_reducible exact Kept.refl _ _ | with_reducible apply Kept.drew | with_reducible apply Kept.drewN | with_reducible apply Kept.alloc)))
            clear hK K
            try simp only [Act.put, List.setIfInBounds_toArray, List.set_cons_zero, List.set_cons_succ]
            refine wpAnyH_ready (rs := [13]) (by kernel_rfl) (by simp) ?_
            refine AllReadyH.cons rfl (fun K hK => ?_) ?_
            · refine step_push (a := a) (n := k) (cap := c) (by rfl) (by rfl) Tryd.underlying22 bus_info rfl (by omega) (by rfl) (by rfl) (news := [.string (nm.extract 0 z), .int .i64 x]) (own_kept (w := w5) (F := []) ho (by (repeat (first | with_reducible exact Kept.refl _ _ | with_reducible apply Kept.drew | with_reducible apply Kept.drewN | with_reducible apply Kept.alloc))) (by simp)) rfl (news_blk (t := 35) (by exact heap_alloc_new _ _)) (by simp [Value.oneCell']) (by unfold maxLen; omega) (by omega) ?_
              intro a9 c9 w9 hown9 hst9
              have cw : w9.cell? ⟨p3, 0, none⟩ = some (.slice a k c) := hst9.kept.cell (c3a _) hpa
              have fw : w9.frozen? ⟨p3, 0, none⟩ = false := (hst9.kept.frozen (Nat.lt_of_lt_of_le hlt3 (Kept.size (F := []) (by (repeat (first | with_reducible exact Kept.refl _ _ | with_reducible apply Kept.drew | with_reducible apply Kept.drewN | with_reducible apply Kept.alloc))))) hpa).trans (f3a _)
              have k9 := ((show Kept (p3 :: ft a) w5 _ from (by (repeat (first | with_reducible exact Kept.refl _ _ | with_reducible apply Kept.drew | with_reducible apply Kept.drewN | with_reducible apply Kept.alloc)))).trans (hst9.kept.more (fun b hb => by simp [hb])))
              refine hK.out _ _ ?_ (fun hHeld => ?_)
              · (with_reducible refine KEEP.out _ ?_; (repeat (first | with_reducible exact k9 | with_reducible refine Kept.setCell ?_ HS3.out _ | with_reducible exact Kept.refl _ _ | with_reducible apply Kept.drew | with_reducible apply Kept.drewN | with_reducible apply Kept.alloc)))
              clear hK K
              try simp only [Act.put, List.setIfInBounds_toArray, List.set_cons_zero, List.set_cons_succ]
              refine wpAnyH_ready (rs := [14]) (by kernel_rfl) (by simp) ?_
              refine AllReadyH.cons rfl (fun K hK => ?_) ?_
              · go_simp
                refine hK.out _ _ ?_ (fun hHeld => ?_)
                · (with_reducible refine KEEP.out _ ?_; (repeat (first | with_reducible exact k9 | with_reducible refine Kept.setCell ?_ HS3.out _ | with_reducible exact Kept.refl _ _ | with_reducible apply Kept.drew | with_reducible apply Kept.drewN | with_reducible apply Kept.alloc)))
                clear hK K
                try simp only [Act.put, List.setIfInBounds_toArray, List.set_cons_zero, List.set_cons_succ]
                refine wpAnyH_ready (rs := [15]) (by kernel_rfl) (by simp) ?_
                refine AllReadyH.cons rfl (fun K hK => ?_) ?_
                · go_simp
                  refine hK.out _ _ ?_ (fun hHeld => ?_)
                  · (with_reducible refine KEEP.out _ ?_; (repeat (first | with_reducible exact k9 | with_reducible refine Kept.setCell ?_ HS3.out _ | with_reducible exact Kept.refl _ _ | with_reducible apply Kept.drew | with_reducible apply Kept.drewN | with_reducible apply Kept.alloc)))
                  clear hK K
                  try simp only [Act.put, List.setIfInBounds_toArray, List.set_cons_zero, List.set_cons_succ]
                  refine wpAnyH_done (by kernel_rfl) ?_ _
                  have kx : Kept [] w5 (w5.alloc (.cells #[.string (nm.extract 0 z), .int .i64 x] 35)).drew := ((Kept.refl [] w5).alloc _).drew
                  have b9 := hst9.kept.heap (kx.heap b3 (by simp)) hpa
                  have HB9 := Lib.hid (show (w9.setCell ⟨p3, 0, none⟩ (.slice a9 (k + 1) c9)).heap[p3]? = some (.cells #[.slice a9 (k + 1) c9, .slice none 0 0] 25 (0, 0)) from by simpa using blk_set b9 0 (.slice a9 (k + 1) c9))
                  have hpa9 : p3 ∉ ft a9 := blk_apart b9 hown9 (by decide)
                  have HO9 := Lib.hid (show Own2 (w9.setCell ⟨p3, 0, none⟩ (.slice a9 (k + 1) c9)) 35 a9 (k + 1) c9 (busCells (NB.take (k + 1))) from by
                    have h := own_kept hown9 ((Kept.refl [p3] w9).setCell (p := ⟨p3, 0, none⟩) (.inl (by simp)) (.slice a9 (k + 1) c9)) (fun b hb h => hpa9 (by simp at h; exact h ▸ hb))
                    have hz : nm.extract 0 z = cutS nm 40 := by unfold cutS; rw [HZZ.out]
                    rw [hz, busCells_snoc _ (cutS nm 40, x)] at h
                    rw [List.take_add_one, HNK.out h20]
                    exact h)
                  have HK9 := Lib.hid (show Kept [p3] w3 (w9.setCell ⟨p3, 0, none⟩ (.slice a9 (k + 1) c9)) from (kept_upS ((KR.out.trans (K5.out.more (by simp))).trans (kx.more (by simp))) hst9.kept HFR.out).setCell (.inl (by simp)) _)
                  have HF9 := Lib.hid (show ∀ b ∈ ft a9, w3.heap.size ≤ b from fun b hb => (hst9.fresh b hb).elim (HFR.out b) (fun h => by have h1 := KR.out.size; have h2 := K5.out.size; have h3 := kx.size; omega))
                  clear kx b9 hpa9 hown9 hst9 cw fw k9
                  go_wp2_with fail
                  go_roundw
                  case rel => exact ⟨k + 1, k + 1, a9, c9, by omega, by omega, by go_num, HB9.out, HO9.out, HK9.out, HF9.out⟩
                  case measure => simp [intOf]; omega
                exact AllReadyH.nil
              exact AllReadyH.nil
            exact AllReadyH.nil
          exact AllReadyH.nil
        refine AllReadyH.cons rfl (fun K hK => ?_) ?_
        · go_simp
          refine hK.out _ _ ?_ (fun hHeld => ?_)
          · (with_reducible refine KEEP.out _ ?_; (repeat (first | with_reducible exact k9 | with_reducible refine Kept.setCell ?_ HS3.out _ | with_reducible exact Kept.refl _ _ | with_reducible apply Kept.drew | with_reducible apply Kept.drewN | with_reducible apply Kept.alloc)))
          clear hK K
          try simp only [Act.put, List.setIfInBounds_toArray, List.set_cons_zero, List.set_cons_succ]
          refine wpAnyH_ready (rs := [1]) (by kernel_rfl) (by simp) ?_
          refine AllReadyH.cons rfl (fun K hK => ?_) ?_
          · go_simp
            refine hK.out _ _ ?_ (fun hHeld => ?_)
            · (with_reducible refine KEEP.out _ ?_; (repeat (first | with_reducible exact k9 | with_reducible refine Kept.setCell ?_ HS3.out _ | with_reducible exact Kept.refl _ _ | with_reducible apply Kept.drew | with_reducible apply Kept.drewN | with_reducible apply Kept.alloc)))
            clear hK K
            try simp only [Act.put, List.setIfInBounds_toArray, List.set_cons_zero, List.set_cons_succ]
            refine wpAnyH_ready (rs := [13]) (by kernel_rfl) (by simp) ?_
            refine AllReadyH.cons rfl (fun K hK => ?_) ?_
            · refine step_push (a := a) (n := k) (cap := c) (by rfl) (by rfl) Tryd.underlying22 bus_info rfl (by omega) (by rfl) (by rfl) (news := [.string (nm.extract 0 z), .int .i64 x]) (own_kept (w := w5) (F := []) ho (by (repeat (first | with_reducible exact Kept.refl _ _ | with_reducible apply Kept.drew | with_reducible apply Kept.drewN | with_reducible apply Kept.alloc))) (by simp)) rfl (news_blk (t := 35) (by exact heap_alloc_new _ _)) (by simp [Value.oneCell']) (by unfold maxLen; omega) (by omega) ?_
              intro a9 c9 w9 hown9 hst9
              have cw : w9.cell? ⟨p3, 0, none⟩ = some (.slice a k c) := hst9.kept.cell (c3a _) hpa
              have fw : w9.frozen? ⟨p3, 0, none⟩ = false := (hst9.kept.frozen (Nat.lt_of_lt_of_le hlt3 (Kept.size (F := []) (by (repeat (first | with_reducible exact Kept.refl _ _ | with_reducible apply Kept.drew | with_reducible apply Kept.drewN | with_reducible apply Kept.alloc))))) hpa).trans (f3a _)
              have k9 := ((show Kept (p3 :: ft a) w5 _ from (by (repeat (first | with_reducible exact Kept.refl _ _ | with_reducible apply Kept.drew | with_reducible apply Kept.drewN | with_reducible apply Kept.alloc)))).trans (hst9.kept.more (fun b hb => by simp [hb])))
              refine hK.out _ _ ?_ (fun hHeld => ?_)
              · (with_reducible refine KEEP.out _ ?_; (repeat (first | with_reducible exact k9 | with_reducible refine Kept.setCell ?_ HS3.out _ | with_reducible exact Kept.refl _ _ | with_reducible apply Kept.drew | with_reducible apply Kept.drewN | with_reducible apply Kept.alloc)))
              clear hK K
              try simp only [Act.put, List.setIfInBounds_toArray, List.set_cons_zero, List.set_cons_succ]
              refine wpAnyH_ready (rs := [14]) (by kernel_rfl) (by simp) ?_
              refine AllReadyH.cons rfl (fun K hK => ?_) ?_
              · go_simp
                refine hK.out _ _ ?_ (fun hHeld => ?_)
                · (with_reducible refine KEEP.out _ ?_; (repeat (first | with_reducible exact k9 | with_reducible refine Kept.setCell ?_ HS3.out _ | with_reducible exact Kept.refl _ _ | with_reducible apply Kept.drew | with_reducible apply Kept.drewN | with_reducible apply Kept.alloc)))
                clear hK K
                try simp only [Act.put, List.setIfInBounds_toArray, List.set_cons_zero, List.set_cons_succ]
                refine wpAnyH_ready (rs := [15]) (by kernel_rfl) (by simp) ?_
                refine AllReadyH.cons rfl (fun K hK => ?_) ?_
                · go_simp
                  refine hK.out _ _ ?_ (fun hHeld => ?_)
                  · (with_reducible refine KEEP.out _ ?_; (repeat (first | with_reducible exact k9 | with_reducible refine Kept.setCell ?_ HS3.out _ | with_reducible exact Kept.refl _ _ | with_reducible apply Kept.drew | with_reducible apply Kept.drewN | with_reducible apply Kept.alloc)))
                  clear hK K
                  try simp only [Act.put, List.setIfInBounds_toArray, List.set_cons_zero, List.set_cons_succ]
                  refine wpAnyH_done (by kernel_rfl) ?_ _
                  have kx : Kept [] w5 (w5.alloc (.cells #[.string (nm.extract 0 z), .int .i64 x] 35)).drew := ((Kept.refl [] w5).alloc _).drew
                  have b9 := hst9.kept.heap (kx.heap b3 (by simp)) hpa
                  have HB9 := Lib.hid (show (w9.setCell ⟨p3, 0, none⟩ (.slice a9 (k + 1) c9)).heap[p3]? = some (.cells #[.slice a9 (k + 1) c9, .slice none 0 0] 25 (0, 0)) from by simpa using blk_set b9 0 (.slice a9 (k + 1) c9))
                  have hpa9 : p3 ∉ ft a9 := blk_apart b9 hown9 (by decide)
                  have HO9 := Lib.hid (show Own2 (w9.setCell ⟨p3, 0, none⟩ (.slice a9 (k + 1) c9)) 35 a9 (k + 1) c9 (busCells (NB.take (k + 1))) from by
                    have h := own_kept hown9 ((Kept.refl [p3] w9).setCell (p := ⟨p3, 0, none⟩) (.inl (by simp)) (.slice a9 (k + 1) c9)) (fun b hb h => hpa9 (by simp at h; exact h ▸ hb))
                    have hz : nm.extract 0 z = cutS nm 40 := by unfold cutS; rw [HZZ.out]
                    rw [hz, busCells_snoc _ (cutS nm 40, x)] at h
                    rw [List.take_add_one, HNK.out h20]
                    exact h)
                  have HK9 := Lib.hid (show Kept [p3] w3 (w9.setCell ⟨p3, 0, none⟩ (.slice a9 (k + 1) c9)) from (kept_upS ((KR.out.trans (K5.out.more (by simp))).trans (kx.more (by simp))) hst9.kept HFR.out).setCell (.inl (by simp)) _)
                  have HF9 := Lib.hid (show ∀ b ∈ ft a9, w3.heap.size ≤ b from fun b hb => (hst9.fresh b hb).elim (HFR.out b) (fun h => by have h1 := KR.out.size; have h2 := K5.out.size; have h3 := kx.size; omega))
                  clear kx b9 hpa9 hown9 hst9 cw fw k9
                  go_wp2_with fail
                  go_roundw
                  case rel => exact ⟨k + 1, k + 1, a9, c9, by omega, by omega, by go_num, HB9.out, HO9.out, HK9.out, HF9.out⟩
                  case measure => simp [intOf]; omega
                exact AllReadyH.nil
              exact AllReadyH.nil
            exact AllReadyH.nil
          exact AllReadyH.nil
        exact AllReadyH.nil
      · have h20' : 20 ≤ k := by omega
        have HM1 := Lib.hid (show m = min (k + 1) 20 from by have := HM.out; omega)
        have b3 := K5.out.heap HB3.out (by simp)
        have HB5 := Lib.hid b3
        have HO5 := Lib.hid (HO.out.kept K5.out (by simp))
        have HK5 := Lib.hid (KR.out.trans (K5.out.more (F' := [p3]) (by simp)))
        clear b3
        go_upto_if 17 with (fail)
        try rw [← hpb]
        try rw [← hw5]
        clear hpb hw5 x0 x1
        go_wp2_with fail
        go_roundw
        case rel => exact ⟨k + 1, m, a, c, by omega, HM1.out, by go_num, HB5.out, HO5.out, HK5.out, HFR.out⟩
        case measure => simp [intOf]; omega
    · obtain rfl : bn = k := by omega
      have HNT := Lib.hid (show NB.take m = NB ∧ m = NB.length from by
        have h1 := HNBL.out
        have h2 := HM.out
        exact ⟨List.take_of_length_le (by omega), by omega⟩)
      have HFW := Lib.hid (show FewAt w3 wr p3 a m c none 0 0 NB [] [] from by
        have ho := HO.out
        rw [HNT.out.1] at ho
        exact ⟨HB3.out, ho, WRows.nil _, by simp, rfl, List.Pairwise.nil, fun b hb => HFR.out b (by simpa [ft, wrBlocks] using hb), KR.out, by have := HZ.out; omega⟩)
      obtain ⟨wA, rfl⟩ : ∃ v : World, v = wr := ⟨_, rfl⟩
      clear HM HB3 HO KR HFR d0
      have D1 := Lib.hid d1
      go_wp2_with fail
      clear d1
      go_loopw [37] (fun i wq => ∃ (j q : Nat) (ra' : Option Addr) (rc' : Nat) (wl' : List WR), j ≤ rn ∧ q = min j 30 ∧ i = .int .i64 j ∧ FewAt w3 wq p3 a m c ra' q rc' NB wl' (NR.take q)) (fun i _ => rn - (intOf i).toNat)
      case atStart => exact ⟨0, 0, none, 0, [], Nat.zero_le _, rfl, rfl, HFW.out⟩
      case round =>
        obtain ⟨j, q, ra', rc', wl', hj, hq, rfl, hfw⟩ := hrel
        clear HFW
        have HFW := Lib.hid hfw
        have HQ := Lib.hid hq
        have KW2 := Lib.hid (show Kept [] w wr from kept_up K3.out hfw.kept (fun b hb => by rw [List.mem_singleton.1 hb]; have := HZ.out; omega))
        have hp13 : p1 ∉ [p3] := by have := HZ.out; simp; omega
        have d1 := hfw.kept.cell HP1.out.2 hp13
        clear hfw hq hp13
        by_cases hlt : j < rn
        · have hjl : j < wl.length := by rw [HRL.out]; exact hlt
          obtain ⟨gr, gro, rfl, x0, x1⟩ := (HT.out.rs.kept0 KW2.out) j hjl
          have HX := Lib.hid x1
          have hwk := HT.out.wk _ (List.getElem_mem hjl)
          have HRW := Lib.hid (HT.out.row j hjl)
          have hjr : j < t.rs.length := by rw [HT.out.rlen]; exact hlt
          have HNK := Lib.hid (fun h30 => HNRK.out j hjr h30)
          rw [show t.rs[j] = wl[j].l from by have := HRW.out; rw [List.getElem?_eq_getElem hjr] at this; exact Option.some.inj this] at HNK
          have hsz := (HOK.out.rw _ (List.mem_of_getElem? HRW.out)).2
          clear x1 HRW
          generalize wl[j] = rj at *
          obtain ⟨l, la, lc⟩ := rj
          simp only at x0 hwk hsz
          obtain ⟨ln, hln⟩ : ∃ y, y = l.length := ⟨_, rfl⟩
          rw [← hln] at x0 hwk hsz
          have HLN := Lib.hid hln
          clear hln
          by_cases h30 : j < 30
          · obtain rfl : j = q := by have := HQ.out; omega
            obtain ⟨z, hz⟩ : ∃ z, z = min ln 25 := ⟨_, rfl⟩
            have hzi : (if (25 : Int) < (ln : Int) then (25 : Int) else (ln : Int)) = (z : Int) := by split <;> omega
            have hz0 : (0 : Int) ≤ (z : Int) := by omega
            have hzs : (z : Int) ≤ (lc : Int) := by omega
            have hzm : z ≤ 25 := by omega
            have HZZ := Lib.hid (show l.take 25 = l.take z ∧ (l.take z).length = z from by
              have := HLN.out
              refine ⟨?_, by rw [List.length_take]; omega⟩
              by_cases h : ln ≤ 25
              · rw [List.take_of_length_le (by omega), List.take_of_length_le (by omega)]
              · rw [show z = 25 from by omega])
            have HCL := Lib.hid (fun (W : World) (hW : Kept [] wr W) => clone_row la lc z (l.take z) W HZZ.out.2 ((HX.out.kept0 hW).take z) (by omega))
            clear hz
            obtain ⟨wr, rfl⟩ : ∃ v : World, v = wr := ⟨_, rfl⟩
            go_upto_region 12 with (fail)
            have b3 := HFW.out.blk
            have c1 : wr.cell? ⟨p3, 1, none⟩ = some (.slice ra' j rc') := blk_cell b3 1
            have hlt3 := blk_lt b3
            have f3 : wr.frozen? ⟨p3, 1, none⟩ = false := blk_free b3 1
            have hp3a : p3 ∉ ft ra' := blk_apart b3 HFW.out.rows.own (by decide)
            clear b3 x0 d1
            refine wp_region_held_drew (S := fun _ => True) (by kernel_rfl) ?_ (fun hHeld => ?_)
            · try dsimp only
              all_goals trivial
            refine wpAnyH_take (i := 0) (v := ?_) rfl (by kernel_rfl) (by kernel_rfl) (by kernel_rfl) (fun _ _ _ h => h) (Or.inl ⟨by rfl, ?_⟩) (by assumption) ?_
            rotate_left
            · intro w hSw; (try dsimp only at hSw); go_simp
              all_goals with_reducible rfl
            try simp only [Act.put, List.setIfInBounds_toArray, List.set_cons_zero, List.set_cons_succ]
            refine wpAnyH_take (i := 2) (v := ?_) rfl (by kernel_rfl) (by kernel_rfl) (by kernel_rfl) (fun _ _ _ h => h) (Or.inl ⟨by rfl, ?_⟩) (by assumption) ?_
            rotate_left
            · intro w hSw; (try dsimp only at hSw); go_simp
              all_goals with_reducible rfl
            try simp only [Act.put, List.setIfInBounds_toArray, List.set_cons_zero, List.set_cons_succ]
            refine wpAnyH_take (i := 3) (v := ?_) rfl (by kernel_rfl) (by kernel_rfl) (by kernel_rfl) (fun _ _ _ h => h) (Or.inl ⟨by rfl, ?_⟩) (by assumption) ?_
            rotate_left
            · intro w hSw; (try dsimp only at hSw); go_simp
              all_goals with_reducible rfl
            try simp only [Act.put, List.setIfInBounds_toArray, List.set_cons_zero, List.set_cons_succ]
            refine wpAnyH_take (i := 4) (v := ?_) rfl (by kernel_rfl) (by kernel_rfl) (by kernel_rfl) (fun _ _ _ h => h) (Or.inl ⟨by rfl, ?_⟩) (by assumption) ?_
            rotate_left
            · intro w hSw; (try dsimp only at hSw); go_simp
              all_goals with_reducible rfl
            try simp only [Act.put, List.setIfInBounds_toArray, List.set_cons_zero, List.set_cons_succ]
            refine wpAnyH_take (i := 5) (v := ?_) rfl (by kernel_rfl) (by kernel_rfl) (by kernel_rfl) (fun _ _ _ h => h) (Or.inl ⟨by rfl, ?_⟩) (by assumption) ?_
            rotate_left
            · intro w hSw; (try dsimp only at hSw); go_simp
              all_goals with_reducible rfl
            try simp only [Act.put, List.setIfInBounds_toArray, List.set_cons_zero, List.set_cons_succ]
            refine wpAnyH_take (i := 6) (v := ?_) rfl (by kernel_rfl) (by kernel_rfl) (by kernel_rfl) (fun _ _ _ h => h) (Or.inl ⟨by rfl, ?_⟩) (by assumption) ?_
            rotate_left
            · intro w hSw; (try dsimp only at hSw); go_simp
              all_goals with_reducible rfl
            try simp only [Act.put, List.setIfInBounds_toArray, List.set_cons_zero, List.set_cons_succ]
            refine wpAnyH_ready (rs := [1, 7]) (by kernel_rfl) (by simp) ?_
            refine AllReadyH.cons rfl (fun K hK => ?_) ?_
            · go_simp
              refine hK.out _ _ ?_ (fun hHeld => ?_)
              · trivial
              clear hK K
              try simp only [Act.put, List.setIfInBounds_toArray, List.set_cons_zero, List.set_cons_succ]
              refine wpAnyH_ready (rs := [7]) (by kernel_rfl) (by simp) ?_
              refine AllReadyH.cons rfl (fun K hK => ?_) ?_
              · go_simp
                go_at_call 33
                refine Calls.mono (HCL.out _ ?_) ?_
                · (repeat (first | with_reducible exact Kept.refl _ _ | with_reducible apply Kept.drew | with_reducible apply Kept.drewN | with_reducible apply Kept.alloc))
                rintro e w6 ⟨a6, c6, rfl, ho6, hst6⟩
                have k6 : Kept [] wr w6 := ((Kept.refl [] wr).drew).trans hst6.kept
                have c1b : w6.cell? ⟨p3, 1, none⟩ = some (.slice ra' j rc') := k6.cell c1 (by simp)
                have c1c : ∀ o, (w6.alloc o).cell? ⟨p3, 1, none⟩ = some (.slice ra' j rc') := fun o => cell_alloc c1b o
                refine hK.out _ _ ?_ (fun hHeld => ?_)
                · trivial
                clear hK K
                try simp only [Act.put, List.setIfInBounds_toArray, List.set_cons_zero, List.set_cons_succ]
                refine wpAnyH_ready (rs := [8]) (by kernel_rfl) (by simp) ?_
                refine AllReadyH.cons rfl (fun K hK => ?_) ?_
                · go_simp
                  refine hK.out _ _ ?_ (fun hHeld => ?_)
                  · trivial
                  clear hK K
                  try simp only [Act.put, List.setIfInBounds_toArray, List.set_cons_zero, List.set_cons_succ]
                  refine wpAnyH_ready (rs := [9]) (by kernel_rfl) (by simp) ?_
                  refine AllReadyH.cons rfl (fun K hK => ?_) ?_
                  · refine step_push (a := ra') (n := j) (cap := rc') (by rfl) (by rfl) Tryd.underlying23 row_info rfl (by omega) (by rfl) (by rfl) (news := [.slice a6 z c6]) (own_kept (w := wr) (F := []) HFW.out.rows.own (by (repeat (first | with_reducible exact k6 | with_reducible exact Kept.refl _ _ | with_reducible apply Kept.drew | with_reducible apply Kept.drewN | with_reducible apply Kept.alloc))) (by simp)) rfl (news_blk (t := 33) (by exact heap_alloc_new _ _)) (by simp [Value.oneCell']) (by unfold maxLen; omega) (by omega) ?_
                    intro a9 c9 w9 hown9 hst9
                    have cw : w9.cell? ⟨p3, 1, none⟩ = some (.slice ra' j rc') := hst9.kept.cell (c1c _) hp3a
                    have fw : w9.frozen? ⟨p3, 1, none⟩ = false := (hst9.kept.frozen (Nat.lt_of_lt_of_le hlt3 (Kept.size (F := []) (by (repeat (first | with_reducible exact k6 | with_reducible exact Kept.refl _ _ | with_reducible apply Kept.drew | with_reducible apply Kept.drewN | with_reducible apply Kept.alloc))))) hp3a).trans ((Kept.frozen (F := []) (w := wr) (by (repeat (first | with_reducible exact k6 | with_reducible exact Kept.refl _ _ | with_reducible apply Kept.drew | with_reducible apply Kept.drewN | with_reducible apply Kept.alloc))) hlt3 (by simp)).trans f3)
                    refine hK.out _ _ ?_ (fun hHeld => ?_)
                    · trivial
                    clear hK K
                    try simp only [Act.put, List.setIfInBounds_toArray, List.set_cons_zero, List.set_cons_succ]
                    refine wpAnyH_ready (rs := [10]) (by kernel_rfl) (by simp) ?_
                    refine AllReadyH.cons rfl (fun K hK => ?_) ?_
                    · go_simp
                      refine hK.out _ _ ?_ (fun hHeld => ?_)
                      · trivial
                      clear hK K
                      try simp only [Act.put, List.setIfInBounds_toArray, List.set_cons_zero, List.set_cons_succ]
                      refine wpAnyH_ready (rs := [11]) (by kernel_rfl) (by simp) ?_
                      refine AllReadyH.cons rfl (fun K hK => ?_) ?_
                      · go_simp
                        refine hK.out _ _ ?_ (fun hHeld => ?_)
                        · trivial
                        clear hK K
                        try simp only [Act.put, List.setIfInBounds_toArray, List.set_cons_zero, List.set_cons_succ]
                        refine wpAnyH_done (by kernel_rfl) ?_ _
                        have k1 := k6.alloc (.cells #[.slice a6 z c6] 33)
                        have hR := HFW.out.row (r := ⟨l.take z, a6, c6⟩) k1 (by rw [HZZ.out.2]; exact ho6.kept0 ((Kept.refl [] w6).alloc _)) (fun b hb => (hst6.fresh b hb).elim (fun h => by simp at h) (fun h => by simpa using h)) (by rw [HZZ.out.2]; exact hown9) hst9
                        have hT : NR.take (j + 1) = NR.take j ++ [l.take z] := by rw [List.take_add_one, HNK.out h30, HZZ.out.1]; rfl
                        rw [← hT] at hR
                        have HR := Lib.hid hR
                        clear k1 hR hT ho6 hst6 k6 c1b c1c hown9 hst9 cw fw
                        go_wp2_with fail
                        go_roundw
                        case rel => exact ⟨j + 1, j + 1, a9, c9, _, by omega, by omega, by go_num, HR.out⟩
                        case measure => simp [intOf]; omega
                      exact AllReadyH.nil
                    exact AllReadyH.nil
                  exact AllReadyH.nil
                exact AllReadyH.nil
              exact AllReadyH.nil
            refine AllReadyH.cons rfl (fun K hK => ?_) ?_
            · go_simp
              go_at_call 33
              refine Calls.mono (HCL.out _ ?_) ?_
              · (repeat (first | with_reducible exact Kept.refl _ _ | with_reducible apply Kept.drew | with_reducible apply Kept.drewN | with_reducible apply Kept.alloc))
              rintro e w6 ⟨a6, c6, rfl, ho6, hst6⟩
              have k6 : Kept [] wr w6 := ((Kept.refl [] wr).drew).trans hst6.kept
              have c1b : w6.cell? ⟨p3, 1, none⟩ = some (.slice ra' j rc') := k6.cell c1 (by simp)
              have c1c : ∀ o, (w6.alloc o).cell? ⟨p3, 1, none⟩ = some (.slice ra' j rc') := fun o => cell_alloc c1b o
              refine hK.out _ _ ?_ (fun hHeld => ?_)
              · trivial
              clear hK K
              try simp only [Act.put, List.setIfInBounds_toArray, List.set_cons_zero, List.set_cons_succ]
              refine wpAnyH_ready (rs := [1, 8]) (by kernel_rfl) (by simp) ?_
              refine AllReadyH.cons rfl (fun K hK => ?_) ?_
              · go_simp
                refine hK.out _ _ ?_ (fun hHeld => ?_)
                · trivial
                clear hK K
                try simp only [Act.put, List.setIfInBounds_toArray, List.set_cons_zero, List.set_cons_succ]
                refine wpAnyH_ready (rs := [8]) (by kernel_rfl) (by simp) ?_
                refine AllReadyH.cons rfl (fun K hK => ?_) ?_
                · go_simp
                  refine hK.out _ _ ?_ (fun hHeld => ?_)
                  · trivial
                  clear hK K
                  try simp only [Act.put, List.setIfInBounds_toArray, List.set_cons_zero, List.set_cons_succ]
                  refine wpAnyH_ready (rs := [9]) (by kernel_rfl) (by simp) ?_
                  refine AllReadyH.cons rfl (fun K hK => ?_) ?_
                  · refine step_push (a := ra') (n := j) (cap := rc') (by rfl) (by rfl) Tryd.underlying23 row_info rfl (by omega) (by rfl) (by rfl) (news := [.slice a6 z c6]) (own_kept (w := wr) (F := []) HFW.out.rows.own (by (repeat (first | with_reducible exact k6 | with_reducible exact Kept.refl _ _ | with_reducible apply Kept.drew | with_reducible apply Kept.drewN | with_reducible apply Kept.alloc))) (by simp)) rfl (news_blk (t := 33) (by exact heap_alloc_new _ _)) (by simp [Value.oneCell']) (by unfold maxLen; omega) (by omega) ?_
                    intro a9 c9 w9 hown9 hst9
                    have cw : w9.cell? ⟨p3, 1, none⟩ = some (.slice ra' j rc') := hst9.kept.cell (c1c _) hp3a
                    have fw : w9.frozen? ⟨p3, 1, none⟩ = false := (hst9.kept.frozen (Nat.lt_of_lt_of_le hlt3 (Kept.size (F := []) (by (repeat (first | with_reducible exact k6 | with_reducible exact Kept.refl _ _ | with_reducible apply Kept.drew | with_reducible apply Kept.drewN | with_reducible apply Kept.alloc))))) hp3a).trans ((Kept.frozen (F := []) (w := wr) (by (repeat (first | with_reducible exact k6 | with_reducible exact Kept.refl _ _ | with_reducible apply Kept.drew | with_reducible apply Kept.drewN | with_reducible apply Kept.alloc))) hlt3 (by simp)).trans f3)
                    refine hK.out _ _ ?_ (fun hHeld => ?_)
                    · trivial
                    clear hK K
                    try simp only [Act.put, List.setIfInBounds_toArray, List.set_cons_zero, List.set_cons_succ]
                    refine wpAnyH_ready (rs := [10]) (by kernel_rfl) (by simp) ?_
                    refine AllReadyH.cons rfl (fun K hK => ?_) ?_
                    · go_simp
                      refine hK.out _ _ ?_ (fun hHeld => ?_)
                      · trivial
                      clear hK K
                      try simp only [Act.put, List.setIfInBounds_toArray, List.set_cons_zero, List.set_cons_succ]
                      refine wpAnyH_ready (rs := [11]) (by kernel_rfl) (by simp) ?_
                      refine AllReadyH.cons rfl (fun K hK => ?_) ?_
                      · go_simp
                        refine hK.out _ _ ?_ (fun hHeld => ?_)
                        · trivial
                        clear hK K
                        try simp only [Act.put, List.setIfInBounds_toArray, List.set_cons_zero, List.set_cons_succ]
                        refine wpAnyH_done (by kernel_rfl) ?_ _
                        have k1 := k6.alloc (.cells #[.slice a6 z c6] 33)
                        have hR := HFW.out.row (r := ⟨l.take z, a6, c6⟩) k1 (by rw [HZZ.out.2]; exact ho6.kept0 ((Kept.refl [] w6).alloc _)) (fun b hb => (hst6.fresh b hb).elim (fun h => by simp at h) (fun h => by simpa using h)) (by rw [HZZ.out.2]; exact hown9) hst9
                        have hT : NR.take (j + 1) = NR.take j ++ [l.take z] := by rw [List.take_add_one, HNK.out h30, HZZ.out.1]; rfl
                        rw [← hT] at hR
                        have HR := Lib.hid hR
                        clear k1 hR hT ho6 hst6 k6 c1b c1c hown9 hst9 cw fw
                        go_wp2_with fail
                        go_roundw
                        case rel => exact ⟨j + 1, j + 1, a9, c9, _, by omega, by omega, by go_num, HR.out⟩
                        case measure => simp [intOf]; omega
                      exact AllReadyH.nil
                    exact AllReadyH.nil
                  exact AllReadyH.nil
                exact AllReadyH.nil
              refine AllReadyH.cons rfl (fun K hK => ?_) ?_
              · go_simp
                refine hK.out _ _ ?_ (fun hHeld => ?_)
                · trivial
                clear hK K
                try simp only [Act.put, List.setIfInBounds_toArray, List.set_cons_zero, List.set_cons_succ]
                refine wpAnyH_ready (rs := [1]) (by kernel_rfl) (by simp) ?_
                refine AllReadyH.cons rfl (fun K hK => ?_) ?_
                · go_simp
                  refine hK.out _ _ ?_ (fun hHeld => ?_)
                  · trivial
                  clear hK K
                  try simp only [Act.put, List.setIfInBounds_toArray, List.set_cons_zero, List.set_cons_succ]
                  refine wpAnyH_ready (rs := [9]) (by kernel_rfl) (by simp) ?_
                  refine AllReadyH.cons rfl (fun K hK => ?_) ?_
                  · refine step_push (a := ra') (n := j) (cap := rc') (by rfl) (by rfl) Tryd.underlying23 row_info rfl (by omega) (by rfl) (by rfl) (news := [.slice a6 z c6]) (own_kept (w := wr) (F := []) HFW.out.rows.own (by (repeat (first | with_reducible exact k6 | with_reducible exact Kept.refl _ _ | with_reducible apply Kept.drew | with_reducible apply Kept.drewN | with_reducible apply Kept.alloc))) (by simp)) rfl (news_blk (t := 33) (by exact heap_alloc_new _ _)) (by simp [Value.oneCell']) (by unfold maxLen; omega) (by omega) ?_
                    intro a9 c9 w9 hown9 hst9
                    have cw : w9.cell? ⟨p3, 1, none⟩ = some (.slice ra' j rc') := hst9.kept.cell (c1c _) hp3a
                    have fw : w9.frozen? ⟨p3, 1, none⟩ = false := (hst9.kept.frozen (Nat.lt_of_lt_of_le hlt3 (Kept.size (F := []) (by (repeat (first | with_reducible exact k6 | with_reducible exact Kept.refl _ _ | with_reducible apply Kept.drew | with_reducible apply Kept.drewN | with_reducible apply Kept.alloc))))) hp3a).trans ((Kept.frozen (F := []) (w := wr) (by (repeat (first | with_reducible exact k6 | with_reducible exact Kept.refl _ _ | with_reducible apply Kept.drew | with_reducible apply Kept.drewN | with_reducible apply Kept.alloc))) hlt3 (by simp)).trans f3)
                    refine hK.out _ _ ?_ (fun hHeld => ?_)
                    · trivial
                    clear hK K
                    try simp only [Act.put, List.setIfInBounds_toArray, List.set_cons_zero, List.set_cons_succ]
                    refine wpAnyH_ready (rs := [10]) (by kernel_rfl) (by simp) ?_
                    refine AllReadyH.cons rfl (fun K hK => ?_) ?_
                    · go_simp
                      refine hK.out _ _ ?_ (fun hHeld => ?_)
                      · trivial
                      clear hK K
                      try simp only [Act.put, List.setIfInBounds_toArray, List.set_cons_zero, List.set_cons_succ]
                      refine wpAnyH_ready (rs := [11]) (by kernel_rfl) (by simp) ?_
                      refine AllReadyH.cons rfl (fun K hK => ?_) ?_
                      · go_simp
                        refine hK.out _ _ ?_ (fun hHeld => ?_)
                        · trivial
                        clear hK K
                        try simp only [Act.put, List.setIfInBounds_toArray, List.set_cons_zero, List.set_cons_succ]
                        refine wpAnyH_done (by kernel_rfl) ?_ _
                        have k1 := k6.alloc (.cells #[.slice a6 z c6] 33)
                        have hR := HFW.out.row (r := ⟨l.take z, a6, c6⟩) k1 (by rw [HZZ.out.2]; exact ho6.kept0 ((Kept.refl [] w6).alloc _)) (fun b hb => (hst6.fresh b hb).elim (fun h => by simp at h) (fun h => by simpa using h)) (by rw [HZZ.out.2]; exact hown9) hst9
                        have hT : NR.take (j + 1) = NR.take j ++ [l.take z] := by rw [List.take_add_one, HNK.out h30, HZZ.out.1]; rfl
                        rw [← hT] at hR
                        have HR := Lib.hid hR
                        clear k1 hR hT ho6 hst6 k6 c1b c1c hown9 hst9 cw fw
                        go_wp2_with fail
                        go_roundw
                        case rel => exact ⟨j + 1, j + 1, a9, c9, _, by omega, by omega, by go_num, HR.out⟩
                        case measure => simp [intOf]; omega
                      exact AllReadyH.nil
                    exact AllReadyH.nil
                  exact AllReadyH.nil
                exact AllReadyH.nil
              exact AllReadyH.nil
            exact AllReadyH.nil
          · have HQ1 := Lib.hid (show q = min (j + 1) 30 from by have := HQ.out; omega)
            go_wp2_with fail
            go_roundw
            case rel => exact ⟨j + 1, q, ra', rc', wl', by omega, HQ1.out, by go_num, HFW.out⟩
            case measure => simp [intOf]; omega
        · obtain rfl : rn = j := by omega
          have HQT := Lib.hid (show NR.take q = NR ∧ q = NR.length from by
            have h1 := HNRL.out
            have h2 := HQ.out
            exact ⟨List.take_of_length_le (by omega), by omega⟩)
          have b3 := HFW.out.blk
          have e0 : wr.cell? ⟨p3, 0, none⟩ = some (.slice a m c) := blk_cell b3 0
          have e1 : wr.cell? ⟨p3, 1, none⟩ = some (.slice ra' q rc') := blk_cell b3 1
          have b2 := HFW.out.kept.heap HP2.out (by have h := HZ.out; rw [List.mem_singleton]; omega)
          have f20 : wr.frozen? ⟨p2, 0, none⟩ = false := blk_free b2 0
          have f21 : wr.frozen? ⟨p2, 1, none⟩ = false := blk_free b2 1
          have g20 : wr.cell? ⟨p2, 0, none⟩ = some (.slice none 0 0) := blk_cell b2 0
          have g21 : wr.cell? ⟨p2, 1, none⟩ = some (.slice none 0 0) := blk_cell b2 1
          go_wp2_with fail
          clear e0 e1 f20 f21 g20 g21 d1
          have hb2 := blk_set (blk_set b2 0 (.slice a m c)) 1 (.slice ra' q rc')
          simp only [List.setIfInBounds_toArray, List.set_cons_zero, List.set_cons_succ] at hb2
          have g0 := blk_cell hb2 0
          have g1 := blk_cell hb2 1
          have HK2 := Lib.hid (show Kept [p2] wr ((wr.setCell ⟨p2, 0, none⟩ (.slice a m c)).setCell ⟨p2, 1, none⟩ (.slice ra' q rc')) from ((Kept.refl [p2] wr).setCell (p := ⟨p2, 0, none⟩) (.inl (by simp)) _).setCell (p := ⟨p2, 1, none⟩) (.inl (by simp)) _)
          generalize (wr.setCell ⟨p2, 0, none⟩ (.slice a m c)).setCell ⟨p2, 1, none⟩ (.slice ra' q rc') = wE at *
          refine bodyPost_ret (v := .agg #[.slice a m c, .slice ra' q rc']) (by simp [results, Tryd.results9, go_sem, g0, g1]) rfl ?_
          have hnb := HNB.out
          have hnr := HNR.out
          have e1 := HNT.out.2
          have e2 := HQT.out.2
          have hN : TabN wr a m c ra' q rc' ⟨NB, NR⟩ wl' := ⟨e1.symm, HFW.out.bus, HFW.out.rows, HFW.out.own, by rw [HFW.out.rm, HQT.out.1], HFW.out.pw⟩
          have hnew := HFW.out.new
          have hz := HZ.out
          have hN2 := hN.kept HK2.out (fun b hb hx => by rw [List.mem_singleton] at hx; have := hnew b hb; omega)
          have hft : (⟨NB, NR⟩ : Tb) = fewT t := by rw [hnb, hnr]
          rw [← hft]
          refine ⟨a, c, ra', rc', wl', ?_, ?_, kept_up KW2.out HK2.out (fun b hb => by rw [List.mem_singleton] at hb; omega), fun b hb => by have := hnew b hb; omega⟩
          · show _ = Ending.returned (.agg #[.slice a NB.length c, .slice ra' NR.length rc'])
            rw [← e1, ← e2]
          · show TabN wE a NB.length c ra' NR.length rc' ⟨NB, NR⟩ wl'
            rw [← e1, ← e2]
            exact hN2
end Go.Proofs.YtjgcfncganleoaaDoor
