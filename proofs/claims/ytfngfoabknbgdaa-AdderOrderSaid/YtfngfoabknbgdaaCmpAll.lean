/-
  Package compare: all bits, by a closure that calls itself.
-/
import Derived.Test.YtfngfoabknbgdaaCmpBitLess
import Derived.Deep.DeepCutAuto
import Derived.Test.YtfngfoabknbgdaaMine
namespace Go.Proofs.Ytfngfoabknbgdaa
open Go.ChangeShapes Go.WideShapes Go.ChangeAt Go.RowKit
open Go.Maps (Keyed)
open Go.WideMaps
set_option linter.unusedVariables false
set_option linter.unusedSimpArgs false

variable {w w' w1 : World} {p mb : Nat} {F F1 S : List Nat} {g : Gr} {sa sb : Value} {sg so : Bool}

theorem bit_any {x y k n ca cb : Nat} {ada adb : Addr} (h : CmpAt w mb p F g (.slice (some ada) n ca) (.slice (some adb) n cb) sg so) (hm : g.nodes.length ≤ 180000) (hn : n ≤ 64) (hk : k < n)
    (hca : w.cell? (ada.add k) = some (.int .u32 x)) (hcb : w.cell? (adb.add k) = some (.int .u32 y)) (hx : g.ok x) (hy : g.ok y) :
    Calls Try.prog 120 #[.pointer (some ⟨mb, 0, none⟩), .int .i64 k] w (PairPost (bitG g so (sg && decide (k = n - 1)) x y) (.slice (some ada) n ca) (.slice (some adb) n cb) sg so w mb p F) := by
  cases so with
  | true => exact bit_same h (by omega) hn hk hca hcb hx hy
  | false => exact bit_less h hm hn hk hca hcb hx hy

/-- a new block that nobody asks for, over a step -/
theorem CmpAt.new (h : CmpAt w mb p F g sa sb sg so) {F' : List Nat} {cs : Array Value} {t : TypeId} (hst : Stepped (w.alloc (.cells cs t)) w1 (mb :: F) F') :
    w1.heap[w.heap.size]? = some (.cells cs t (0, 0)) ∧ w.heap.size ∉ F' := by
  have hlt := blk_lt h.blk
  have hn : w.heap.size ∉ mb :: F := fun hm => by
    rcases List.mem_cons.1 hm with h2 | h2
    · omega
    · exact absurd (h.graph.lt _ h2) (Nat.lt_irrefl _)
  refine ⟨hst.kept.heap (by show (w.heap.push _)[w.heap.size]? = _; simp) hn, fun hm => ?_⟩
  rcases hst.fresh _ hm with h1 | h1
  · exact hn h1
  · rw [size_new] at h1; omega

theorem CmpAt.far (h : CmpAt w mb p F g sa sb sg so) : ∀ b ∈ mb :: F, b < w.heap.size := fun b hm => by
  rcases List.mem_cons.1 hm with h1 | h1
  · rw [h1]; exact blk_lt h.blk
  · exact h.graph.lt _ h1

/-- the comparer in its box, the closure in its own, both rows -/
structure StrAt (w : World) (mb p cbx sbx : Nat) (F : List Nat) (g : Gr) (n ca cb : Nat) (ada adb : Addr) (la lb : List Nat) (sg so : Bool) : Prop where
  cmp : CmpAt w mb p F g (.slice (some ada) n ca) (.slice (some adb) n cb) sg so
  cbox : w.heap[cbx]? = some (.cells #[.pointer (some ⟨mb, 0, none⟩)] 118 (0, 0))
  sbox : w.heap[sbx]? = some (.cells #[.func (.func 119) #[] #[.pointer (some ⟨cbx, 0, none⟩), .pointer (some ⟨sbx, 0, none⟩)]] 178 (0, 0))
  sla : SlN w .u32 (some ada) la
  slb : SlN w .u32 (some adb) lb
  da : ∀ x ∈ ft (some ada), x ∉ mb :: F
  db : ∀ x ∈ ft (some adb), x ∉ mb :: F
  pos : 0 < la.length ∧ 0 < lb.length

variable {cbx sbx n ca cb k m : Nat} {ada adb : Addr} {la lb : List Nat}
theorem StrAt.notin (h : StrAt w mb p cbx sbx F g n ca cb ada adb la lb sg so) : cbx ∉ mb :: F ∧ sbx ∉ mb :: F := by
  constructor
  · intro hm
    rcases List.mem_cons.1 hm with h1 | h1
    · have h2 := h.cmp.blk
      rw [← h1, h.cbox] at h2
      injection h2 with h2
      injection h2 with _ h2 _
      exact absurd h2 (by decide)
    · exact h.cmp.graph.notin h.cbox (by decide) (by decide) (by decide) h1
  · intro hm
    rcases List.mem_cons.1 hm with h1 | h1
    · have h2 := h.cmp.blk
      rw [← h1, h.sbox] at h2
      injection h2 with h2
      injection h2 with _ h2 _
      exact absurd h2 (by decide)
    · exact h.cmp.graph.notin h.sbox (by decide) (by decide) (by decide) h1
theorem far_step {F' : List Nat} {ad : Addr} {l : List Nat} {K : IntKind} (hs : SlN w K (some ad) l) (hp : 0 < l.length) (hd : ∀ x ∈ ft (some ad), x ∉ S) (hst : Stepped w w' S F') : SlN w' K (some ad) l ∧ ∀ x ∈ ft (some ad), x ∉ F' := by
  refine ⟨hs.kept hst.kept hd, fun x hx hm => ?_⟩
  obtain ⟨a, ha, hc⟩ := hs 0 hp
  injection ha with ha
  subst ha
  have hb := World.block_lt_of_cell? w _ hc
  rw [block_add] at hb
  rw [mem_ft] at hx
  subst hx
  rcases hst.fresh _ hm with h1 | h1
  · exact hd _ (mem_ft.2 rfl) h1
  · omega
theorem StrAt.step {F' : List Nat} {g' : Gr} (h : StrAt w mb p cbx sbx F g n ca cb ada adb la lb sg so) (hst : Stepped w w' (mb :: F) (mb :: F')) (hc : CmpAt w' mb p F' g' (.slice (some ada) n ca) (.slice (some adb) n cb) sg so) : StrAt w' mb p cbx sbx F' g' n ca cb ada adb la lb sg so := by
  have h1 := far_step h.sla h.pos.1 h.da hst
  have h2 := far_step h.slb h.pos.2 h.db hst
  exact ⟨hc, hst.kept.heap h.cbox h.notin.1, hst.kept.heap h.sbox h.notin.2, h1.1, h2.1, h1.2, h2.2, h.pos⟩
theorem StrAt.kept0 (h : StrAt w mb p cbx sbx F g n ca cb ada adb la lb sg so) (hk : Kept [] w w') : StrAt w' mb p cbx sbx F g n ca cb ada adb la lb sg so :=
  h.step ⟨hk.more (by simp), fun _ h => .inl h⟩ (h.cmp.kept0 hk)
theorem StrAt.keptF (h : StrAt w mb p cbx sbx F g n ca cb ada adb la lb sg so) {G : List Nat} (hk : Kept G w w') (hG : ∀ b ∈ G, w.heap.size ≤ b) : StrAt w' mb p cbx sbx F g n ca cb ada adb la lb sg so := by
  have hk0 : Kept [] w w' := ⟨hk.os, hk.tape, hk.output, hk.size, fun i hi _ => hk.block i hi fun hm => by have := hG i hm; omega⟩
  exact h.kept0 hk0
/-- a block of two cells: read, and written whole -/
theorem two_facts {b : Nat} {x0 x1 : Value} {t : TypeId} (z0 : w.heap[b]? = some (.cells #[x0, x1] t (0, 0))) :
    (w.cell? ⟨b, 0, none⟩ = some x0 ∧ w.cell? ⟨b, 1, none⟩ = some x1 ∧ w.frozen? ⟨b, 0, none⟩ = false) ∧ (∀ v, (w.setCell ⟨b, 0, none⟩ v).cell? ⟨b, 1, none⟩ = some x1) ∧ (∀ v, (w.setCell ⟨b, 0, none⟩ v).frozen? ⟨b, 1, none⟩ = false) ∧
    (∀ v u, ((w.setCell ⟨b, 0, none⟩ v).setCell ⟨b, 1, none⟩ u).cell? ⟨b, 0, none⟩ = some v) ∧ (∀ v u, ((w.setCell ⟨b, 0, none⟩ v).setCell ⟨b, 1, none⟩ u).cell? ⟨b, 1, none⟩ = some u) ∧ b < w.heap.size := by
  have z5 : ∀ v u, ((w.setCell ⟨b, 0, none⟩ v).setCell ⟨b, 1, none⟩ u).heap[b]? = some (.cells #[v, u] t (0, 0)) := fun v u => blk_set (blk_set z0 0 v) 1 u
  exact ⟨⟨blk_cell z0 0, blk_cell z0 1, blk_free z0 0⟩, fun v => blk_cell (blk_set z0 0 v) 1, fun v => blk_free (blk_set z0 0 v) 1, fun v u => blk_cell (z5 v u) 0, fun v u => blk_cell (z5 v u) 1, blk_lt z0⟩
theorem StrAt.low (h : StrAt w mb p cbx sbx F g n ca cb ada adb la lb sg so) : cbx < w.heap.size ∧ sbx < w.heap.size ∧ ada.block < w.heap.size ∧ adb.block < w.heap.size := by
  refine ⟨blk_lt h.cbox, blk_lt h.sbox, ?_, ?_⟩
  · obtain ⟨a, ha, hc⟩ := h.sla 0 h.pos.1
    injection ha with ha
    subst ha
    have := World.block_lt_of_cell? w _ hc
    rwa [block_add] at this
  · obtain ⟨a, ha, hc⟩ := h.slb 0 h.pos.2
    injection ha with ha
    subst ha
    have := World.block_lt_of_cell? w _ hc
    rwa [block_add] at this
/-- where the walk stands: the comparer at hand, and what has been done since the world w -/
structure Mid (w : World) (mb p cbx sbx : Nat) (F : List Nat) (n ca cb : Nat) (ada adb : Addr) (la lb : List Nat) (sg so : Bool) (wx : World) (F2 : List Nat) (g2 : Gr) : Prop where
  str : StrAt wx mb p cbx sbx F2 g2 n ca cb ada adb la lb sg so
  st : Stepped w wx (mb :: F) (mb :: F2)
variable {wx wy : World} {F2 F3 : List Nat} {g2 g3 : Gr}
theorem Mid.alloc (h : Mid w mb p cbx sbx F n ca cb ada adb la lb sg so wx F2 g2) (o : Obj) : Mid w mb p cbx sbx F n ca cb ada adb la lb sg so (wx.alloc o) F2 g2 := ⟨h.str.kept0 ((Kept.refl [] _).alloc o), h.st.alloc o⟩
theorem Mid.drew (h : Mid w mb p cbx sbx F n ca cb ada adb la lb sg so wx F2 g2) : Mid w mb p cbx sbx F n ca cb ada adb la lb sg so wx.drew F2 g2 := ⟨h.str.kept0 (Kept.refl [] _).drew, h.st.drew⟩
theorem Mid.call (h : Mid w mb p cbx sbx F n ca cb ada adb la lb sg so wx F2 g2) (hst : Stepped wx wy (mb :: F2) (mb :: F3)) (hc : CmpAt wy mb p F3 g3 (.slice (some ada) n ca) (.slice (some adb) n cb) sg so) : Mid w mb p cbx sbx F n ca cb ada adb la lb sg so wy F3 g3 := ⟨h.str.step hst hc, h.st.trans hst⟩
theorem Mid.row (H : StrAt w mb p cbx sbx F g n ca cb ada adb la lb sg so) {b : Nat} {cs : Array Value} (hb : w.heap.size ≤ b) (ho : b ∉ mb :: F2) (h : Mid w mb p cbx sbx F n ca cb ada adb la lb sg so wx F2 g2) : Mid w mb p cbx sbx F n ca cb ada adb la lb sg so (wx.setRow b cs) F2 g2 := by
  obtain ⟨l1, l2, l3, l4⟩ := H.low
  have hk : Kept [b] wx (wx.setRow b cs) := (Kept.refl [b] wx).setRow (.inl (by simp)) cs
  refine ⟨⟨h.str.cmp.keptF hk (by simpa using ho), hk.heap h.str.cbox (by simp; omega), hk.heap h.str.sbox (by simp; omega), h.str.sla.kept hk ?_, h.str.slb.kept hk ?_, h.str.da, h.str.db, h.str.pos⟩, h.st.rowNew hb cs⟩
  · intro x hx; rw [mem_ft] at hx; simp; omega
  · intro x hx; rw [mem_ft] at hx; simp; omega

theorem Mid.cell (H : StrAt w mb p cbx sbx F g n ca cb ada adb la lb sg so) {b i : Nat} {v : Value} (hb : w.heap.size ≤ b) (ho : b ∉ mb :: F2) (h : Mid w mb p cbx sbx F n ca cb ada adb la lb sg so wx F2 g2) : Mid w mb p cbx sbx F n ca cb ada adb la lb sg so (wx.setCell ⟨b, i, none⟩ v) F2 g2 := by
  obtain ⟨l1, l2, l3, l4⟩ := H.low
  have hk : Kept [b] wx (wx.setCell ⟨b, i, none⟩ v) := (Kept.refl [b] wx).setCell (p := ⟨b, i, none⟩) (.inl (by simp)) v
  refine ⟨⟨h.str.cmp.keptF hk (by simpa using ho), hk.heap h.str.cbox (by simp; omega), hk.heap h.str.sbox (by simp; omega), h.str.sla.kept hk ?_, h.str.slb.kept hk ?_, h.str.da, h.str.db, h.str.pos⟩, h.st.setNew (p := ⟨b, i, none⟩) hb v⟩
  · intro x hx; rw [mem_ft] at hx; simp; omega
  · intro x hx; rw [mem_ft] at hx; simp; omega
theorem s5_of {b8 b9 : Nat} {lo hi : Nat × Nat} (h : Mid w mb p cbx sbx F n ca cb ada adb la lb sg so wx F2 g2) (m8 : Mine wx (mb :: F2) b8 (.cells #[.int .u32 (lo.1 : Nat), .int .u32 (lo.2 : Nat)] 122 (0, 0))) (m9 : Mine wx (mb :: F2) b9 (.cells #[.int .u32 (hi.1 : Nat), .int .u32 (hi.2 : Nat)] 122 (0, 0))) :
    wx.cell? ⟨cbx, 0, none⟩ = some (.pointer (some ⟨mb, 0, none⟩)) ∧ wx.cell? ⟨mb, 0, none⟩ = some (.pointer (some ⟨p, 0, none⟩)) ∧ (wx.cell? ⟨b8, 0, none⟩ = some (.int .u32 (lo.1 : Nat)) ∧ wx.cell? ⟨b8, 1, none⟩ = some (.int .u32 (lo.2 : Nat))) ∧ (wx.cell? ⟨b9, 0, none⟩ = some (.int .u32 (hi.1 : Nat)) ∧ wx.cell? ⟨b9, 1, none⟩ = some (.int .u32 (hi.2 : Nat))) :=
  ⟨blk_cell h.str.cbox 0, blk_cell h.str.cmp.blk 0, ⟨blk_cell m8.heap 0, blk_cell m8.heap 1⟩, ⟨blk_cell m9.heap 0, blk_cell m9.heap 1⟩⟩
theorem sln_mine {b x y : Nat} {t : TypeId} (h : Mine w F b (.cells #[.int .u32 (x : Nat), .int .u32 (y : Nat)] t (0, 0))) : SlN w .u32 (some ⟨b, 0, none⟩) [x, y] := fun i hi => by
  refine ⟨_, rfl, ?_⟩
  have e : (⟨b, 0, none⟩ : Addr).add i = ⟨b, i, none⟩ := by unfold Addr.add; split <;> simp_all
  rw [e, blk_cell h.heap i]
  match i, hi with
  | 0, _ => rfl
  | 1, _ => rfl
theorem far_mine {b : Nat} {o : Obj} (h : Mine w (mb :: F) b o) : ∀ x ∈ ft (some (⟨b, 0, none⟩ : Addr)), x ∉ F := fun x hx hm => by rw [mem_ft] at hx; subst hx; exact h.out (by simp [hm])
section
variable {x y b : Nat} {t : TypeId}
theorem cm_and (h : CmpAt w mb p F g sa sb sg so) (hs : Mine w (mb :: F) b (.cells #[.int .u32 (x : Nat), .int .u32 (y : Nat)] t (0, 0))) (hm : g.nodes.length ≤ 190000) (hx : g.ok x) (hy : g.ok y) :
    Calls Try.prog 121 #[.pointer (some ⟨mb, 0, none⟩), .func (.func 84) #[.pointer (some ⟨p, 0, none⟩)] #[], .slice (some ⟨b, 0, none⟩) 2 2] w (CmpPost (andG g x y) sa sb sg so w mb p F) :=
  cmp_of 84 Try.call84 h _ 2 2 (aig_And_ h.graph _ 2 2 [x, y] rfl (by omega) (sln_mine hs) (by simp [hx, hy]) (far_mine hs))
theorem cm_or (h : CmpAt w mb p F g sa sb sg so) (hs : Mine w (mb :: F) b (.cells #[.int .u32 (x : Nat), .int .u32 (y : Nat)] t (0, 0))) (hm : g.nodes.length ≤ 190000) (hx : g.ok x) (hy : g.ok y) :
    Calls Try.prog 121 #[.pointer (some ⟨mb, 0, none⟩), .func (.func 109) #[.pointer (some ⟨p, 0, none⟩)] #[], .slice (some ⟨b, 0, none⟩) 2 2] w (CmpPost (orG g x y) sa sb sg so w mb p F) :=
  cmp_of 109 Try.call109 h _ 2 2 (aig_Or_ h.graph _ 2 2 [x, y] rfl (by omega) (sln_mine hs) (by simp [hx, hy]) (far_mine hs))
end
set_option maxHeartbeats 4000000 in
set_option maxRecDepth 100000 in
theorem all1_c (hn : n ≤ 64) (hla : la.length = n) (hlb : lb.length = n) (d : Nat) : ∀ (g : Gr) (F : List Nat) (w : World) (k m : Nat) (x y : Int), x = k → y = (k + m : Nat) → 1 ≤ m → m ≤ d → k + m ≤ n → g.nodes.length + 7 * m ≤ 180000 → StrAt w mb p cbx sbx F g n ca cb ada adb la lb sg so → (∀ x ∈ la, g.ok x) → (∀ x ∈ lb, g.ok x) →
    Calls Try.prog 119 #[.int .i64 x, .int .i64 y, .pointer (some ⟨cbx, 0, none⟩), .pointer (some ⟨sbx, 0, none⟩)] w (PairPost (allTo so sg n la lb d g k m) (.slice (some ada) n ca) (.slice (some adb) n cb) sg so w mb p F) := by
  induction d with
  | zero => intro g F w k m x y _ _ h1 h2; omega
  | succ d ih =>
    intro g F w k m x y hx hy0 h1 h2 hkm hm h hoa hob
    have hy : y = (k : Int) + (m : Int) := by omega
    clear hy0
    subst hx hy
    by_cases hm1 : m = 1
    · subst hm1
      obtain ⟨a1, ha1, hca⟩ := h.sla.getD (k := k) (by omega)
      obtain ⟨a2, ha2, hcb⟩ := h.slb.getD (k := k) (by omega)
      injection ha1 with ha1
      injection ha2 with ha2
      subst ha1 ha2
      have HB := Lib.hid (fun o => bit_any (h.cmp.kept0 ((Kept.refl [] w).alloc o)) (by omega) hn (show k < n by omega) (((Kept.refl [] w).alloc o).cell hca (by simp)) (((Kept.refl [] w).alloc o).cell hcb (by simp)) (hoa _ (getD_in (by omega))) (hob _ (getD_in (by omega))))
      have c0 : ∀ o, (w.alloc o).cell? ⟨cbx, 0, none⟩ = some (.pointer (some ⟨mb, 0, none⟩)) := fun o => ((Kept.refl [] w).alloc o).cell (blk_cell h.cbox 0) (by simp)
      have HE := Lib.hid (show allTo so sg n la lb (d + 1) g k 1 = bitG g so (sg && decide (k = n - 1)) (la.getD k 0) (lb.getD k 0) from by simp [allTo])
      have H := Lib.hid h
      clear hca hcb hla hlb hoa hob ih h1 h2
      clear h
      go_enter Try.func119, Try.ntmps119
      go_wp2_with fail
      refine (HB.out _).mono ?_
      generalize bitG g so (sg && decide (k = n - 1)) (la.getD k 0) (lb.getD k 0) = r at *
      rintro e w1 ⟨F1, rfl, h1, hst1⟩
      obtain ⟨hb1, hnf⟩ := H.out.cmp.new hst1
      have HN := Lib.hid hnf
      obtain ⟨⟨z1, z2, z3⟩, z4, z5, z6, z7, hlt1⟩ := two_facts hb1
      have H1 := Lib.hid h1
      have HST := Lib.hid hst1
      clear hnf hb1 h1 hst1
      go_wp2_with fail
      refine bodyPost_ret (v := .agg #[.int .u32 (r.2.1 : Nat), .int .u32 (r.2.2 : Nat)]) (by simp [results, Try.results119, go_sem, z6, z7]) rfl ?_
      rw [HE.out]
      refine ⟨F1, rfl, H1.out.keptF (G := [w.heap.size]) (((Kept.refl [w.heap.size] w1).setCell (.inl (by simp)) _).setCell (.inl (by simp)) _) (by simpa using HN.out), ?_⟩
      have h3 := ((Stepped.refl w (mb :: F)).alloc _).trans HST.out
      exact ⟨(h3.kept.setCell (p := ⟨w.heap.size, 0, none⟩) (.inr (Nat.le_refl _)) _).setCell (p := ⟨w.heap.size, 1, none⟩) (.inr (Nat.le_refl _)) _, h3.fresh⟩
    · have hge : 2 ≤ m := by omega
      clear hm1
      have hz : ((m : Int) == 1) = false := by simp only [beq_eq_false_iff_ne, ne_eq]; omega
      obtain ⟨lo, hlo⟩ : ∃ lo, lo = allTo so sg n la lb d g k (m / 2) := ⟨_, rfl⟩
      obtain ⟨hh, hhh⟩ : ∃ hh, hh = allTo so sg n la lb d lo.1 (k + m / 2) (m - m / 2) := ⟨_, rfl⟩
      have HE := Lib.hid (show allTo so sg n la lb (d + 1) g k m = joinG so hh.1 lo.2 hh.2 from by simp only [allTo]; rw [if_neg (by omega), hhh, hlo])
      have G1 : Good3 (7 * (m / 2) - 3) g lo := by
        rw [hlo]; exact allTo_good (la := la) (lb := lb) so sg n d g k (m / 2) (by omega) (by omega) (by omega) (by omega) h.cmp.graph.wf hoa hob
      have G2 : Good3 (7 * (m - m / 2) - 3) lo.1 hh := by
        rw [hhh]; exact allTo_good (la := la) (lb := lb) so sg n d lo.1 (k + m / 2) (m - m / 2) (by omega) (by omega) (by omega) (by omega) G1.1 (fun x hx => G1.2.1.ok (hoa x hx)) (fun x hx => G1.2.1.ok (hob x hx))
      have l1 := G1.2.1.le
      have l2 := G2.2.1.le
      have C1 := Lib.hid (fun (F : List Nat) (w : World) (h : StrAt w mb p cbx sbx F g n ca cb ada adb la lb sg so) => ih g F w k (m / 2) ((k : Int)) ((k : Int) + (m : Int) / 2) rfl (by omega) (by omega) (by omega) (by omega) (by omega) h hoa hob)
      have C2 := Lib.hid (fun (F : List Nat) (w : World) (h : StrAt w mb p cbx sbx F lo.1 n ca cb ada adb la lb sg so) => ih lo.1 F w (k + m / 2) (m - m / 2) ((k : Int) + (m : Int) / 2) ((k : Int) + (m : Int)) (by omega) (by omega) (by omega) (by omega) (by omega) (by omega) h (fun x hx => G1.2.1.ok (hoa x hx)) (fun x hx => G1.2.1.ok (hob x hx)))
      rw [← hlo] at C1
      rw [← hhh] at C2
      have HG1 := Lib.hid G1
      have HG2 := Lib.hid G2
      have hmz : (k : Int) + ((k : Int) + (m : Int) - (k : Int)) / 2 = (k : Int) + (m : Int) / 2 := by omega
      have HMZ := Lib.hid hmz
      have c1 : ∀ o, (w.alloc o).cell? ⟨sbx, 0, none⟩ = some (.func (.func 119) #[] #[.pointer (some ⟨cbx, 0, none⟩), .pointer (some ⟨sbx, 0, none⟩)]) := fun o => ((Kept.refl [] w).alloc o).cell (blk_cell h.sbox 0) (by simp)
      have H := Lib.hid h
      have HM0 := Lib.hid (show Mid w mb p cbx sbx F n ca cb ada adb la lb sg so w F g from ⟨h, .refl _ _⟩)
      clear h ih hla hlb hoa hob hlo hhh G1 G2 hmz
      go_enter Try.func119, Try.ntmps119
      go_upto_region 4 with (fail)
      rw [HMZ.out]
      clear HMZ
      go_cut [8, 9] (fun s8 s9 wx => ∃ b8 b9 F2, s8 = .pointer (some ⟨b8, 0, none⟩) ∧ s9 = .pointer (some ⟨b9, 0, none⟩) ∧ Mid w mb p cbx sbx F n ca cb ada adb la lb sg so wx F2 hh.1 ∧ Mine wx (mb :: F2) b8 (.cells #[.int .u32 (lo.2.1 : Nat), .int .u32 (lo.2.2 : Nat)] 122 (0, 0)) ∧ Mine wx (mb :: F2) b9 (.cells #[.int .u32 (hh.2.1 : Nat), .int .u32 (hh.2.2 : Nat)] 122 (0, 0)) ∧ Mine wx (mb :: F2) w.heap.size (.cells #[.int .u32 0, .int .u32 0] 122 (0, 0)) ∧ w.heap.size < b8 ∧ w.heap.size < b9 ∧ b8 ≠ b9)
      case first =>
        refine wp_region_held_drew (S := fun w' => w'.cell? ⟨sbx, 0, none⟩ = some (.func (.func 119) #[] #[.pointer (some ⟨cbx, 0, none⟩), .pointer (some ⟨sbx, 0, none⟩)])) (by kernel_rfl) ?_ (fun hHeld => ?_)
        · try dsimp only
          exact blk_cell (StrAt.sbox (Mid.str (HM0.out.alloc _).drew)) 0
        refine wpAnyH_take (i := 0) (v := ?_) rfl (by kernel_rfl) (by kernel_rfl) (by kernel_rfl) (fun _ _ _ h => h) (Or.inl ⟨by rfl, ?_⟩) (by assumption) ?_
        rotate_left
        · intro w hSw; (try dsimp only at hSw); go_simp
          all_goals with_reducible rfl
        try simp only [Act.put, List.setIfInBounds_toArray, List.set_cons_zero, List.set_cons_succ]
        refine wpAnyH_take (i := 1) (v := ?_) rfl (by kernel_rfl) (by kernel_rfl) (by kernel_rfl) (fun _ _ _ h => h) (Or.inl ⟨by rfl, ?_⟩) (by assumption) ?_
        rotate_left
        · intro w hSw; (try dsimp only at hSw); go_simp
          all_goals with_reducible rfl
        try simp only [Act.put, List.setIfInBounds_toArray, List.set_cons_zero, List.set_cons_succ]
        refine wpAnyH_take (i := 2) (v := ?_) rfl (by kernel_rfl) (by kernel_rfl) (by kernel_rfl) (fun _ _ _ h => h) (Or.inl ⟨by rfl, ?_⟩) (by assumption) ?_
        rotate_left
        · intro w hSw; (try dsimp only at hSw); go_simp
          all_goals with_reducible rfl
        try simp only [Act.put, List.setIfInBounds_toArray, List.set_cons_zero, List.set_cons_succ]
        refine wpAnyH_take (i := 4) (v := ?_) rfl (by kernel_rfl) (by kernel_rfl) (by kernel_rfl) (fun _ _ _ h => h) (Or.inl ⟨by rfl, ?_⟩) (by assumption) ?_
        rotate_left
        · intro w hSw; (try dsimp only at hSw); go_simp
          all_goals with_reducible rfl
        try simp only [Act.put, List.setIfInBounds_toArray, List.set_cons_zero, List.set_cons_succ]
        refine wpAnyH_take (i := 5) (v := ?_) rfl (by kernel_rfl) (by kernel_rfl) (by kernel_rfl) (fun _ _ _ h => h) (Or.inl ⟨by rfl, ?_⟩) (by assumption) ?_
        rotate_left
        · intro w hSw; (try dsimp only at hSw); go_simp
          all_goals with_reducible rfl
        try simp only [Act.put, List.setIfInBounds_toArray, List.set_cons_zero, List.set_cons_succ]
        refine wpAnyH_take (i := 6) (v := ?_) rfl (by kernel_rfl) (by kernel_rfl) (by kernel_rfl) (fun _ _ _ h => h) (Or.inl ⟨by rfl, ?_⟩) (by assumption) ?_
        rotate_left
        · intro w hSw; (try dsimp only at hSw); go_simp
          all_goals with_reducible rfl
        try simp only [Act.put, List.setIfInBounds_toArray, List.set_cons_zero, List.set_cons_succ]
        refine wpAnyH_ready (rs := [3, 8, 9]) (by kernel_rfl) (by simp) ?_
        refine AllReadyH.cons rfl (fun K hK => ?_) ?_
        · go_simp
          go_at_call 119
          refine Calls.mono (C1.out F _ (Mid.str (?_ : Mid w mb p cbx sbx F n ca cb ada adb la lb sg so _ F g))) ?_
          · (repeat (first | with_reducible exact HM2.out | with_reducible exact HM1.out | with_reducible exact HM0.out | with_reducible apply Mid.alloc | with_reducible apply Mid.drew | with_reducible refine Mid.row H.out (by omega) M8.out.out ?_ | with_reducible refine Mid.row H.out (by omega) M9.out.out ?_))
          rintro e w1 ⟨F1, rfl, h1, hst1⟩
          have HM1 : Hid (Mid w mb p cbx sbx F n ca cb ada adb la lb sg so w1 F1 lo.1) := by
            refine Lib.hid (Mid.call (g2 := g) ?_ hst1 h1)
            (repeat (first | with_reducible exact HM2.out | with_reducible exact HM1.out | with_reducible exact HM0.out | with_reducible apply Mid.alloc | with_reducible apply Mid.drew | with_reducible refine Mid.row H.out (by omega) M8.out.out ?_ | with_reducible refine Mid.row H.out (by omega) M9.out.out ?_))
          have HST1 := Lib.hid hst1
          have z1 := hst1.kept.size
          (try simp at z1)
          clear hst1 h1
          try dsimp only
          refine hK.out _ _ ?_ (fun hHeld => ?_)
          · try dsimp only
            refine blk_cell (StrAt.sbox (Mid.str (?_ : Mid w mb p cbx sbx F n ca cb ada adb la lb sg so _ F1 lo.1))) 0
            (repeat (first | with_reducible exact HM2.out | with_reducible exact HM1.out | with_reducible exact HM0.out | with_reducible apply Mid.alloc | with_reducible apply Mid.drew | with_reducible refine Mid.row H.out (by omega) M8.out.out ?_ | with_reducible refine Mid.row H.out (by omega) M9.out.out ?_))
          clear hK K
          try simp only [Act.put, List.setIfInBounds_toArray, List.set_cons_zero, List.set_cons_succ]
          refine wpAnyH_ready (rs := [7, 8, 9]) (by kernel_rfl) (by simp) ?_
          refine AllReadyH.cons rfl (fun K hK => ?_) ?_
          · go_simp
            go_at_call 119
            refine Calls.mono (C2.out F1 _ (Mid.str (?_ : Mid w mb p cbx sbx F n ca cb ada adb la lb sg so _ F1 lo.1))) ?_
            · (repeat (first | with_reducible exact HM2.out | with_reducible exact HM1.out | with_reducible exact HM0.out | with_reducible apply Mid.alloc | with_reducible apply Mid.drew | with_reducible refine Mid.row H.out (by omega) M8.out.out ?_ | with_reducible refine Mid.row H.out (by omega) M9.out.out ?_))
            rintro e w2 ⟨F2, rfl, h2, hst2⟩
            have HM2 : Hid (Mid w mb p cbx sbx F n ca cb ada adb la lb sg so w2 F2 hh.1) := by
              refine Lib.hid (Mid.call (g2 := lo.1) ?_ hst2 h2)
              (repeat (first | with_reducible exact HM2.out | with_reducible exact HM1.out | with_reducible exact HM0.out | with_reducible apply Mid.alloc | with_reducible apply Mid.drew | with_reducible refine Mid.row H.out (by omega) M8.out.out ?_ | with_reducible refine Mid.row H.out (by omega) M9.out.out ?_))
            have HST2 := Lib.hid hst2
            have z2 := hst2.kept.size
            (try simp at z2)
            clear hst2 h2
            try dsimp only
            refine hK.out _ _ ?_ (fun hHeld => ?_)
            · try dsimp only
              refine blk_cell (StrAt.sbox (Mid.str (?_ : Mid w mb p cbx sbx F n ca cb ada adb la lb sg so _ F2 hh.1))) 0
              (repeat (first | with_reducible exact HM2.out | with_reducible exact HM1.out | with_reducible exact HM0.out | with_reducible apply Mid.alloc | with_reducible apply Mid.drew | with_reducible refine Mid.row H.out (by omega) M8.out.out ?_ | with_reducible refine Mid.row H.out (by omega) M9.out.out ?_))
            clear hK K
            try simp only [Act.put, List.setIfInBounds_toArray, List.set_cons_zero, List.set_cons_succ]
            refine wpAnyH_ready (rs := [8, 9]) (by kernel_rfl) (by simp) ?_
            refine AllReadyH.cons rfl (fun K hK => ?_) ?_
            · go_simp
              refine hK.out _ _ ?_ (fun hHeld => ?_)
              · try dsimp only
                refine blk_cell (StrAt.sbox (Mid.str (?_ : Mid w mb p cbx sbx F n ca cb ada adb la lb sg so _ F2 hh.1))) 0
                (repeat (first | with_reducible exact HM2.out | with_reducible exact HM1.out | with_reducible exact HM0.out | with_reducible apply Mid.alloc | with_reducible apply Mid.drew | with_reducible refine Mid.row H.out (by omega) M8.out.out ?_ | with_reducible refine Mid.row H.out (by omega) M9.out.out ?_))
              clear hK K
              try simp only [Act.put, List.setIfInBounds_toArray, List.set_cons_zero, List.set_cons_succ]
              refine wpAnyH_ready (rs := [9]) (by kernel_rfl) (by simp) ?_
              refine AllReadyH.cons rfl (fun K hK => ?_) ?_
              · go_simp
                refine hK.out _ _ ?_ (fun hHeld => ?_)
                · try dsimp only
                  refine blk_cell (StrAt.sbox (Mid.str (?_ : Mid w mb p cbx sbx F n ca cb ada adb la lb sg so _ F2 hh.1))) 0
                  (repeat (first | with_reducible exact HM2.out | with_reducible exact HM1.out | with_reducible exact HM0.out | with_reducible apply Mid.alloc | with_reducible apply Mid.drew | with_reducible refine Mid.row H.out (by omega) M8.out.out ?_ | with_reducible refine Mid.row H.out (by omega) M9.out.out ?_))
                clear hK K
                try simp only [Act.put, List.setIfInBounds_toArray, List.set_cons_zero, List.set_cons_succ]
                refine wpAnyH_ready (rs := [10]) (by kernel_rfl) (by simp) ?_
                refine AllReadyH.cons rfl (fun K hK => ?_) ?_
                · have M8 : Hid (Mine ((w2.alloc (.cells #[.int .u32 0, .int .u32 0] 122)).alloc (.cells #[.int .u32 0, .int .u32 0] 122)) (mb :: F2) (w2.heap.size) (.cells #[.int .u32 0, .int .u32 0] 122 (0, 0))) := by
                    refine Lib.hid ?_
                    (repeat (first | (with_reducible refine Mine.new ?_ ?_; focus (simp; done)) | with_reducible apply Mine.alloc | with_reducible apply Mine.drew | with_reducible refine Mine.step ?_ HST2.out | with_reducible refine Mine.step ?_ HST1.out))
                    all_goals (intro x hx; first | (have := HM2.out.str.cmp.far x hx; simp; omega) | (have := HM1.out.str.cmp.far x hx; simp; omega) | (have := H.out.cmp.far x hx; simp; omega))
                  have M9 : Hid (Mine ((w2.alloc (.cells #[.int .u32 0, .int .u32 0] 122)).alloc (.cells #[.int .u32 0, .int .u32 0] 122)) (mb :: F2) (w2.heap.size + 1) (.cells #[.int .u32 0, .int .u32 0] 122 (0, 0))) := by
                    refine Lib.hid ?_
                    (repeat (first | (with_reducible refine Mine.new ?_ ?_; focus (simp; done)) | with_reducible apply Mine.alloc | with_reducible apply Mine.drew | with_reducible refine Mine.step ?_ HST2.out | with_reducible refine Mine.step ?_ HST1.out))
                    all_goals (intro x hx; first | (have := HM2.out.str.cmp.far x hx; simp; omega) | (have := HM1.out.str.cmp.far x hx; simp; omega) | (have := H.out.cmp.far x hx; simp; omega))
                  refine step_row (e := 122) (t := 122) (old := #[.int .u32 0, .int .u32 0]) (cells := #[.int .u32 (lo.2.1 : Nat), .int .u32 (lo.2.2 : Nat)]) rfl rfl rfl rfl (by kernel_rfl) rfl (by simp [Value.oneCell']) M8.out.heap ?_
                  refine hK.out _ _ ?_ (fun hHeld => ?_)
                  · try dsimp only
                    refine blk_cell (StrAt.sbox (Mid.str (?_ : Mid w mb p cbx sbx F n ca cb ada adb la lb sg so _ F2 hh.1))) 0
                    (repeat (first | with_reducible exact HM2.out | with_reducible exact HM1.out | with_reducible exact HM0.out | with_reducible apply Mid.alloc | with_reducible apply Mid.drew | with_reducible refine Mid.row H.out (by omega) M8.out.out ?_ | with_reducible refine Mid.row H.out (by omega) M9.out.out ?_))
                  clear hK K
                  try simp only [Act.put, List.setIfInBounds_toArray, List.set_cons_zero, List.set_cons_succ]
                  refine wpAnyH_ready (rs := [11]) (by kernel_rfl) (by simp) ?_
                  refine AllReadyH.cons rfl (fun K hK => ?_) ?_
                  · refine step_row (e := 122) (t := 122) (old := #[.int .u32 0, .int .u32 0]) (cells := #[.int .u32 (hh.2.1 : Nat), .int .u32 (hh.2.2 : Nat)]) rfl rfl rfl rfl (by kernel_rfl) rfl (by simp [Value.oneCell']) (Mine.rowOther M9.out (by omega)).heap ?_
                    refine hK.out _ _ ?_ (fun hHeld => ?_)
                    · try dsimp only
                      refine blk_cell (StrAt.sbox (Mid.str (?_ : Mid w mb p cbx sbx F n ca cb ada adb la lb sg so _ F2 hh.1))) 0
                      (repeat (first | with_reducible exact HM2.out | with_reducible exact HM1.out | with_reducible exact HM0.out | with_reducible apply Mid.alloc | with_reducible apply Mid.drew | with_reducible refine Mid.row H.out (by omega) M8.out.out ?_ | with_reducible refine Mid.row H.out (by omega) M9.out.out ?_))
                    clear hK K
                    try simp only [Act.put, List.setIfInBounds_toArray, List.set_cons_zero, List.set_cons_succ]
                    refine wpAnyH_done (by kernel_rfl) ?_ _
                    go_wp2_with fail
                    go_meet
                    refine ⟨_, _, F2, rfl, rfl, ?_, Mine.rowOther (Mine.row M8.out) (by omega), Mine.row (Mine.rowOther M9.out (by omega)), ?_, by omega, by omega, by omega⟩
                    · (repeat (first | with_reducible exact HM2.out | with_reducible exact HM1.out | with_reducible exact HM0.out | with_reducible apply Mid.alloc | with_reducible apply Mid.drew | with_reducible refine Mid.row H.out (by omega) M8.out.out ?_ | with_reducible refine Mid.row H.out (by omega) M9.out.out ?_))
                    · refine Mine.rowOther (Mine.rowOther ?_ (by omega)) (by omega)
                      (repeat (first | (with_reducible refine Mine.new ?_ ?_; focus (simp; done)) | with_reducible apply Mine.alloc | with_reducible apply Mine.drew | with_reducible refine Mine.step ?_ HST2.out | with_reducible refine Mine.step ?_ HST1.out))
                      all_goals (intro x hx; first | (have := HM2.out.str.cmp.far x hx; simp; omega) | (have := HM1.out.str.cmp.far x hx; simp; omega) | (have := H.out.cmp.far x hx; simp; omega))
                  exact AllReadyH.nil
                exact AllReadyH.nil
              exact AllReadyH.nil
            refine AllReadyH.cons rfl (fun K hK => ?_) ?_
            · go_simp
              refine hK.out _ _ ?_ (fun hHeld => ?_)
              · try dsimp only
                refine blk_cell (StrAt.sbox (Mid.str (?_ : Mid w mb p cbx sbx F n ca cb ada adb la lb sg so _ F2 hh.1))) 0
                (repeat (first | with_reducible exact HM2.out | with_reducible exact HM1.out | with_reducible exact HM0.out | with_reducible apply Mid.alloc | with_reducible apply Mid.drew | with_reducible refine Mid.row H.out (by omega) M8.out.out ?_ | with_reducible refine Mid.row H.out (by omega) M9.out.out ?_))
              clear hK K
              try simp only [Act.put, List.setIfInBounds_toArray, List.set_cons_zero, List.set_cons_succ]
              refine wpAnyH_ready (rs := [8]) (by kernel_rfl) (by simp) ?_
              refine AllReadyH.cons rfl (fun K hK => ?_) ?_
              · go_simp
                refine hK.out _ _ ?_ (fun hHeld => ?_)
                · try dsimp only
                  refine blk_cell (StrAt.sbox (Mid.str (?_ : Mid w mb p cbx sbx F n ca cb ada adb la lb sg so _ F2 hh.1))) 0
                  (repeat (first | with_reducible exact HM2.out | with_reducible exact HM1.out | with_reducible exact HM0.out | with_reducible apply Mid.alloc | with_reducible apply Mid.drew | with_reducible refine Mid.row H.out (by omega) M8.out.out ?_ | with_reducible refine Mid.row H.out (by omega) M9.out.out ?_))
                clear hK K
                try simp only [Act.put, List.setIfInBounds_toArray, List.set_cons_zero, List.set_cons_succ]
                refine wpAnyH_ready (rs := [10]) (by kernel_rfl) (by simp) ?_
                refine AllReadyH.cons rfl (fun K hK => ?_) ?_
                · have M8 : Hid (Mine ((w2.alloc (.cells #[.int .u32 0, .int .u32 0] 122)).alloc (.cells #[.int .u32 0, .int .u32 0] 122)) (mb :: F2) (w2.heap.size + 1) (.cells #[.int .u32 0, .int .u32 0] 122 (0, 0))) := by
                    refine Lib.hid ?_
                    (repeat (first | (with_reducible refine Mine.new ?_ ?_; focus (simp; done)) | with_reducible apply Mine.alloc | with_reducible apply Mine.drew | with_reducible refine Mine.step ?_ HST2.out | with_reducible refine Mine.step ?_ HST1.out))
                    all_goals (intro x hx; first | (have := HM2.out.str.cmp.far x hx; simp; omega) | (have := HM1.out.str.cmp.far x hx; simp; omega) | (have := H.out.cmp.far x hx; simp; omega))
                  have M9 : Hid (Mine ((w2.alloc (.cells #[.int .u32 0, .int .u32 0] 122)).alloc (.cells #[.int .u32 0, .int .u32 0] 122)) (mb :: F2) (w2.heap.size) (.cells #[.int .u32 0, .int .u32 0] 122 (0, 0))) := by
                    refine Lib.hid ?_
                    (repeat (first | (with_reducible refine Mine.new ?_ ?_; focus (simp; done)) | with_reducible apply Mine.alloc | with_reducible apply Mine.drew | with_reducible refine Mine.step ?_ HST2.out | with_reducible refine Mine.step ?_ HST1.out))
                    all_goals (intro x hx; first | (have := HM2.out.str.cmp.far x hx; simp; omega) | (have := HM1.out.str.cmp.far x hx; simp; omega) | (have := H.out.cmp.far x hx; simp; omega))
                  refine step_row (e := 122) (t := 122) (old := #[.int .u32 0, .int .u32 0]) (cells := #[.int .u32 (lo.2.1 : Nat), .int .u32 (lo.2.2 : Nat)]) rfl rfl rfl rfl (by kernel_rfl) rfl (by simp [Value.oneCell']) M8.out.heap ?_
                  refine hK.out _ _ ?_ (fun hHeld => ?_)
                  · try dsimp only
                    refine blk_cell (StrAt.sbox (Mid.str (?_ : Mid w mb p cbx sbx F n ca cb ada adb la lb sg so _ F2 hh.1))) 0
                    (repeat (first | with_reducible exact HM2.out | with_reducible exact HM1.out | with_reducible exact HM0.out | with_reducible apply Mid.alloc | with_reducible apply Mid.drew | with_reducible refine Mid.row H.out (by omega) M8.out.out ?_ | with_reducible refine Mid.row H.out (by omega) M9.out.out ?_))
                  clear hK K
                  try simp only [Act.put, List.setIfInBounds_toArray, List.set_cons_zero, List.set_cons_succ]
                  refine wpAnyH_ready (rs := [11]) (by kernel_rfl) (by simp) ?_
                  refine AllReadyH.cons rfl (fun K hK => ?_) ?_
                  · refine step_row (e := 122) (t := 122) (old := #[.int .u32 0, .int .u32 0]) (cells := #[.int .u32 (hh.2.1 : Nat), .int .u32 (hh.2.2 : Nat)]) rfl rfl rfl rfl (by kernel_rfl) rfl (by simp [Value.oneCell']) (Mine.rowOther M9.out (by omega)).heap ?_
                    refine hK.out _ _ ?_ (fun hHeld => ?_)
                    · try dsimp only
                      refine blk_cell (StrAt.sbox (Mid.str (?_ : Mid w mb p cbx sbx F n ca cb ada adb la lb sg so _ F2 hh.1))) 0
                      (repeat (first | with_reducible exact HM2.out | with_reducible exact HM1.out | with_reducible exact HM0.out | with_reducible apply Mid.alloc | with_reducible apply Mid.drew | with_reducible refine Mid.row H.out (by omega) M8.out.out ?_ | with_reducible refine Mid.row H.out (by omega) M9.out.out ?_))
                    clear hK K
                    try simp only [Act.put, List.setIfInBounds_toArray, List.set_cons_zero, List.set_cons_succ]
                    refine wpAnyH_done (by kernel_rfl) ?_ _
                    go_wp2_with fail
                    go_meet
                    refine ⟨_, _, F2, rfl, rfl, ?_, Mine.rowOther (Mine.row M8.out) (by omega), Mine.row (Mine.rowOther M9.out (by omega)), ?_, by omega, by omega, by omega⟩
                    · (repeat (first | with_reducible exact HM2.out | with_reducible exact HM1.out | with_reducible exact HM0.out | with_reducible apply Mid.alloc | with_reducible apply Mid.drew | with_reducible refine Mid.row H.out (by omega) M8.out.out ?_ | with_reducible refine Mid.row H.out (by omega) M9.out.out ?_))
                    · refine Mine.rowOther (Mine.rowOther ?_ (by omega)) (by omega)
                      (repeat (first | (with_reducible refine Mine.new ?_ ?_; focus (simp; done)) | with_reducible apply Mine.alloc | with_reducible apply Mine.drew | with_reducible refine Mine.step ?_ HST2.out | with_reducible refine Mine.step ?_ HST1.out))
                      all_goals (intro x hx; first | (have := HM2.out.str.cmp.far x hx; simp; omega) | (have := HM1.out.str.cmp.far x hx; simp; omega) | (have := H.out.cmp.far x hx; simp; omega))
                  exact AllReadyH.nil
                exact AllReadyH.nil
              exact AllReadyH.nil
            exact AllReadyH.nil
          refine AllReadyH.cons rfl (fun K hK => ?_) ?_
          · go_simp
            refine hK.out _ _ ?_ (fun hHeld => ?_)
            · try dsimp only
              refine blk_cell (StrAt.sbox (Mid.str (?_ : Mid w mb p cbx sbx F n ca cb ada adb la lb sg so _ F1 lo.1))) 0
              (repeat (first | with_reducible exact HM2.out | with_reducible exact HM1.out | with_reducible exact HM0.out | with_reducible apply Mid.alloc | with_reducible apply Mid.drew | with_reducible refine Mid.row H.out (by omega) M8.out.out ?_ | with_reducible refine Mid.row H.out (by omega) M9.out.out ?_))
            clear hK K
            try simp only [Act.put, List.setIfInBounds_toArray, List.set_cons_zero, List.set_cons_succ]
            refine wpAnyH_ready (rs := [7, 9]) (by kernel_rfl) (by simp) ?_
            refine AllReadyH.cons rfl (fun K hK => ?_) ?_
            · go_simp
              go_at_call 119
              refine Calls.mono (C2.out F1 _ (Mid.str (?_ : Mid w mb p cbx sbx F n ca cb ada adb la lb sg so _ F1 lo.1))) ?_
              · (repeat (first | with_reducible exact HM2.out | with_reducible exact HM1.out | with_reducible exact HM0.out | with_reducible apply Mid.alloc | with_reducible apply Mid.drew | with_reducible refine Mid.row H.out (by omega) M8.out.out ?_ | with_reducible refine Mid.row H.out (by omega) M9.out.out ?_))
              rintro e w2 ⟨F2, rfl, h2, hst2⟩
              have HM2 : Hid (Mid w mb p cbx sbx F n ca cb ada adb la lb sg so w2 F2 hh.1) := by
                refine Lib.hid (Mid.call (g2 := lo.1) ?_ hst2 h2)
                (repeat (first | with_reducible exact HM2.out | with_reducible exact HM1.out | with_reducible exact HM0.out | with_reducible apply Mid.alloc | with_reducible apply Mid.drew | with_reducible refine Mid.row H.out (by omega) M8.out.out ?_ | with_reducible refine Mid.row H.out (by omega) M9.out.out ?_))
              have HST2 := Lib.hid hst2
              have z2 := hst2.kept.size
              (try simp at z2)
              clear hst2 h2
              try dsimp only
              refine hK.out _ _ ?_ (fun hHeld => ?_)
              · try dsimp only
                refine blk_cell (StrAt.sbox (Mid.str (?_ : Mid w mb p cbx sbx F n ca cb ada adb la lb sg so _ F2 hh.1))) 0
                (repeat (first | with_reducible exact HM2.out | with_reducible exact HM1.out | with_reducible exact HM0.out | with_reducible apply Mid.alloc | with_reducible apply Mid.drew | with_reducible refine Mid.row H.out (by omega) M8.out.out ?_ | with_reducible refine Mid.row H.out (by omega) M9.out.out ?_))
              clear hK K
              try simp only [Act.put, List.setIfInBounds_toArray, List.set_cons_zero, List.set_cons_succ]
              refine wpAnyH_ready (rs := [9]) (by kernel_rfl) (by simp) ?_
              refine AllReadyH.cons rfl (fun K hK => ?_) ?_
              · go_simp
                refine hK.out _ _ ?_ (fun hHeld => ?_)
                · try dsimp only
                  refine blk_cell (StrAt.sbox (Mid.str (?_ : Mid w mb p cbx sbx F n ca cb ada adb la lb sg so _ F2 hh.1))) 0
                  (repeat (first | with_reducible exact HM2.out | with_reducible exact HM1.out | with_reducible exact HM0.out | with_reducible apply Mid.alloc | with_reducible apply Mid.drew | with_reducible refine Mid.row H.out (by omega) M8.out.out ?_ | with_reducible refine Mid.row H.out (by omega) M9.out.out ?_))
                clear hK K
                try simp only [Act.put, List.setIfInBounds_toArray, List.set_cons_zero, List.set_cons_succ]
                refine wpAnyH_ready (rs := [10]) (by kernel_rfl) (by simp) ?_
                refine AllReadyH.cons rfl (fun K hK => ?_) ?_
                · have M8 : Hid (Mine (w2.alloc (.cells #[.int .u32 0, .int .u32 0] 122)) (mb :: F2) (w1.heap.size) (.cells #[.int .u32 0, .int .u32 0] 122 (0, 0))) := by
                    refine Lib.hid ?_
                    (repeat (first | (with_reducible refine Mine.new ?_ ?_; focus (simp; done)) | with_reducible apply Mine.alloc | with_reducible apply Mine.drew | with_reducible refine Mine.step ?_ HST2.out | with_reducible refine Mine.step ?_ HST1.out))
                    all_goals (intro x hx; first | (have := HM2.out.str.cmp.far x hx; simp; omega) | (have := HM1.out.str.cmp.far x hx; simp; omega) | (have := H.out.cmp.far x hx; simp; omega))
                  have M9 : Hid (Mine (w2.alloc (.cells #[.int .u32 0, .int .u32 0] 122)) (mb :: F2) (w2.heap.size) (.cells #[.int .u32 0, .int .u32 0] 122 (0, 0))) := by
                    refine Lib.hid ?_
                    (repeat (first | (with_reducible refine Mine.new ?_ ?_; focus (simp; done)) | with_reducible apply Mine.alloc | with_reducible apply Mine.drew | with_reducible refine Mine.step ?_ HST2.out | with_reducible refine Mine.step ?_ HST1.out))
                    all_goals (intro x hx; first | (have := HM2.out.str.cmp.far x hx; simp; omega) | (have := HM1.out.str.cmp.far x hx; simp; omega) | (have := H.out.cmp.far x hx; simp; omega))
                  refine step_row (e := 122) (t := 122) (old := #[.int .u32 0, .int .u32 0]) (cells := #[.int .u32 (lo.2.1 : Nat), .int .u32 (lo.2.2 : Nat)]) rfl rfl rfl rfl (by kernel_rfl) rfl (by simp [Value.oneCell']) M8.out.heap ?_
                  refine hK.out _ _ ?_ (fun hHeld => ?_)
                  · try dsimp only
                    refine blk_cell (StrAt.sbox (Mid.str (?_ : Mid w mb p cbx sbx F n ca cb ada adb la lb sg so _ F2 hh.1))) 0
                    (repeat (first | with_reducible exact HM2.out | with_reducible exact HM1.out | with_reducible exact HM0.out | with_reducible apply Mid.alloc | with_reducible apply Mid.drew | with_reducible refine Mid.row H.out (by omega) M8.out.out ?_ | with_reducible refine Mid.row H.out (by omega) M9.out.out ?_))
                  clear hK K
                  try simp only [Act.put, List.setIfInBounds_toArray, List.set_cons_zero, List.set_cons_succ]
                  refine wpAnyH_ready (rs := [11]) (by kernel_rfl) (by simp) ?_
                  refine AllReadyH.cons rfl (fun K hK => ?_) ?_
                  · refine step_row (e := 122) (t := 122) (old := #[.int .u32 0, .int .u32 0]) (cells := #[.int .u32 (hh.2.1 : Nat), .int .u32 (hh.2.2 : Nat)]) rfl rfl rfl rfl (by kernel_rfl) rfl (by simp [Value.oneCell']) (Mine.rowOther M9.out (by omega)).heap ?_
                    refine hK.out _ _ ?_ (fun hHeld => ?_)
                    · try dsimp only
                      refine blk_cell (StrAt.sbox (Mid.str (?_ : Mid w mb p cbx sbx F n ca cb ada adb la lb sg so _ F2 hh.1))) 0
                      (repeat (first | with_reducible exact HM2.out | with_reducible exact HM1.out | with_reducible exact HM0.out | with_reducible apply Mid.alloc | with_reducible apply Mid.drew | with_reducible refine Mid.row H.out (by omega) M8.out.out ?_ | with_reducible refine Mid.row H.out (by omega) M9.out.out ?_))
                    clear hK K
                    try simp only [Act.put, List.setIfInBounds_toArray, List.set_cons_zero, List.set_cons_succ]
                    refine wpAnyH_done (by kernel_rfl) ?_ _
                    go_wp2_with fail
                    go_meet
                    refine ⟨_, _, F2, rfl, rfl, ?_, Mine.rowOther (Mine.row M8.out) (by omega), Mine.row (Mine.rowOther M9.out (by omega)), ?_, by omega, by omega, by omega⟩
                    · (repeat (first | with_reducible exact HM2.out | with_reducible exact HM1.out | with_reducible exact HM0.out | with_reducible apply Mid.alloc | with_reducible apply Mid.drew | with_reducible refine Mid.row H.out (by omega) M8.out.out ?_ | with_reducible refine Mid.row H.out (by omega) M9.out.out ?_))
                    · refine Mine.rowOther (Mine.rowOther ?_ (by omega)) (by omega)
                      (repeat (first | (with_reducible refine Mine.new ?_ ?_; focus (simp; done)) | with_reducible apply Mine.alloc | with_reducible apply Mine.drew | with_reducible refine Mine.step ?_ HST2.out | with_reducible refine Mine.step ?_ HST1.out))
                      all_goals (intro x hx; first | (have := HM2.out.str.cmp.far x hx; simp; omega) | (have := HM1.out.str.cmp.far x hx; simp; omega) | (have := H.out.cmp.far x hx; simp; omega))
                  exact AllReadyH.nil
                exact AllReadyH.nil
              exact AllReadyH.nil
            refine AllReadyH.cons rfl (fun K hK => ?_) ?_
            · go_simp
              refine hK.out _ _ ?_ (fun hHeld => ?_)
              · try dsimp only
                refine blk_cell (StrAt.sbox (Mid.str (?_ : Mid w mb p cbx sbx F n ca cb ada adb la lb sg so _ F1 lo.1))) 0
                (repeat (first | with_reducible exact HM2.out | with_reducible exact HM1.out | with_reducible exact HM0.out | with_reducible apply Mid.alloc | with_reducible apply Mid.drew | with_reducible refine Mid.row H.out (by omega) M8.out.out ?_ | with_reducible refine Mid.row H.out (by omega) M9.out.out ?_))
              clear hK K
              try simp only [Act.put, List.setIfInBounds_toArray, List.set_cons_zero, List.set_cons_succ]
              refine wpAnyH_ready (rs := [7]) (by kernel_rfl) (by simp) ?_
              refine AllReadyH.cons rfl (fun K hK => ?_) ?_
              · go_simp
                go_at_call 119
                refine Calls.mono (C2.out F1 _ (Mid.str (?_ : Mid w mb p cbx sbx F n ca cb ada adb la lb sg so _ F1 lo.1))) ?_
                · (repeat (first | with_reducible exact HM2.out | with_reducible exact HM1.out | with_reducible exact HM0.out | with_reducible apply Mid.alloc | with_reducible apply Mid.drew | with_reducible refine Mid.row H.out (by omega) M8.out.out ?_ | with_reducible refine Mid.row H.out (by omega) M9.out.out ?_))
                rintro e w2 ⟨F2, rfl, h2, hst2⟩
                have HM2 : Hid (Mid w mb p cbx sbx F n ca cb ada adb la lb sg so w2 F2 hh.1) := by
                  refine Lib.hid (Mid.call (g2 := lo.1) ?_ hst2 h2)
                  (repeat (first | with_reducible exact HM2.out | with_reducible exact HM1.out | with_reducible exact HM0.out | with_reducible apply Mid.alloc | with_reducible apply Mid.drew | with_reducible refine Mid.row H.out (by omega) M8.out.out ?_ | with_reducible refine Mid.row H.out (by omega) M9.out.out ?_))
                have HST2 := Lib.hid hst2
                have z2 := hst2.kept.size
                (try simp at z2)
                clear hst2 h2
                try dsimp only
                refine hK.out _ _ ?_ (fun hHeld => ?_)
                · try dsimp only
                  refine blk_cell (StrAt.sbox (Mid.str (?_ : Mid w mb p cbx sbx F n ca cb ada adb la lb sg so _ F2 hh.1))) 0
                  (repeat (first | with_reducible exact HM2.out | with_reducible exact HM1.out | with_reducible exact HM0.out | with_reducible apply Mid.alloc | with_reducible apply Mid.drew | with_reducible refine Mid.row H.out (by omega) M8.out.out ?_ | with_reducible refine Mid.row H.out (by omega) M9.out.out ?_))
                clear hK K
                try simp only [Act.put, List.setIfInBounds_toArray, List.set_cons_zero, List.set_cons_succ]
                refine wpAnyH_ready (rs := [10]) (by kernel_rfl) (by simp) ?_
                refine AllReadyH.cons rfl (fun K hK => ?_) ?_
                · have M8 : Hid (Mine w2 (mb :: F2) (w1.heap.size) (.cells #[.int .u32 0, .int .u32 0] 122 (0, 0))) := by
                    refine Lib.hid ?_
                    (repeat (first | (with_reducible refine Mine.new ?_ ?_; focus (simp; done)) | with_reducible apply Mine.alloc | with_reducible apply Mine.drew | with_reducible refine Mine.step ?_ HST2.out | with_reducible refine Mine.step ?_ HST1.out))
                    all_goals (intro x hx; first | (have := HM2.out.str.cmp.far x hx; simp; omega) | (have := HM1.out.str.cmp.far x hx; simp; omega) | (have := H.out.cmp.far x hx; simp; omega))
                  have M9 : Hid (Mine w2 (mb :: F2) (w1.heap.size + 1) (.cells #[.int .u32 0, .int .u32 0] 122 (0, 0))) := by
                    refine Lib.hid ?_
                    (repeat (first | (with_reducible refine Mine.new ?_ ?_; focus (simp; done)) | with_reducible apply Mine.alloc | with_reducible apply Mine.drew | with_reducible refine Mine.step ?_ HST2.out | with_reducible refine Mine.step ?_ HST1.out))
                    all_goals (intro x hx; first | (have := HM2.out.str.cmp.far x hx; simp; omega) | (have := HM1.out.str.cmp.far x hx; simp; omega) | (have := H.out.cmp.far x hx; simp; omega))
                  refine step_row (e := 122) (t := 122) (old := #[.int .u32 0, .int .u32 0]) (cells := #[.int .u32 (lo.2.1 : Nat), .int .u32 (lo.2.2 : Nat)]) rfl rfl rfl rfl (by kernel_rfl) rfl (by simp [Value.oneCell']) M8.out.heap ?_
                  refine hK.out _ _ ?_ (fun hHeld => ?_)
                  · try dsimp only
                    refine blk_cell (StrAt.sbox (Mid.str (?_ : Mid w mb p cbx sbx F n ca cb ada adb la lb sg so _ F2 hh.1))) 0
                    (repeat (first | with_reducible exact HM2.out | with_reducible exact HM1.out | with_reducible exact HM0.out | with_reducible apply Mid.alloc | with_reducible apply Mid.drew | with_reducible refine Mid.row H.out (by omega) M8.out.out ?_ | with_reducible refine Mid.row H.out (by omega) M9.out.out ?_))
                  clear hK K
                  try simp only [Act.put, List.setIfInBounds_toArray, List.set_cons_zero, List.set_cons_succ]
                  refine wpAnyH_ready (rs := [11]) (by kernel_rfl) (by simp) ?_
                  refine AllReadyH.cons rfl (fun K hK => ?_) ?_
                  · refine step_row (e := 122) (t := 122) (old := #[.int .u32 0, .int .u32 0]) (cells := #[.int .u32 (hh.2.1 : Nat), .int .u32 (hh.2.2 : Nat)]) rfl rfl rfl rfl (by kernel_rfl) rfl (by simp [Value.oneCell']) (Mine.rowOther M9.out (by omega)).heap ?_
                    refine hK.out _ _ ?_ (fun hHeld => ?_)
                    · try dsimp only
                      refine blk_cell (StrAt.sbox (Mid.str (?_ : Mid w mb p cbx sbx F n ca cb ada adb la lb sg so _ F2 hh.1))) 0
                      (repeat (first | with_reducible exact HM2.out | with_reducible exact HM1.out | with_reducible exact HM0.out | with_reducible apply Mid.alloc | with_reducible apply Mid.drew | with_reducible refine Mid.row H.out (by omega) M8.out.out ?_ | with_reducible refine Mid.row H.out (by omega) M9.out.out ?_))
                    clear hK K
                    try simp only [Act.put, List.setIfInBounds_toArray, List.set_cons_zero, List.set_cons_succ]
                    refine wpAnyH_done (by kernel_rfl) ?_ _
                    go_wp2_with fail
                    go_meet
                    refine ⟨_, _, F2, rfl, rfl, ?_, Mine.rowOther (Mine.row M8.out) (by omega), Mine.row (Mine.rowOther M9.out (by omega)), ?_, by omega, by omega, by omega⟩
                    · (repeat (first | with_reducible exact HM2.out | with_reducible exact HM1.out | with_reducible exact HM0.out | with_reducible apply Mid.alloc | with_reducible apply Mid.drew | with_reducible refine Mid.row H.out (by omega) M8.out.out ?_ | with_reducible refine Mid.row H.out (by omega) M9.out.out ?_))
                    · refine Mine.rowOther (Mine.rowOther ?_ (by omega)) (by omega)
                      (repeat (first | (with_reducible refine Mine.new ?_ ?_; focus (simp; done)) | with_reducible apply Mine.alloc | with_reducible apply Mine.drew | with_reducible refine Mine.step ?_ HST2.out | with_reducible refine Mine.step ?_ HST1.out))
                      all_goals (intro x hx; first | (have := HM2.out.str.cmp.far x hx; simp; omega) | (have := HM1.out.str.cmp.far x hx; simp; omega) | (have := H.out.cmp.far x hx; simp; omega))
                  exact AllReadyH.nil
                exact AllReadyH.nil
              exact AllReadyH.nil
            exact AllReadyH.nil
          refine AllReadyH.cons rfl (fun K hK => ?_) ?_
          · go_simp
            refine hK.out _ _ ?_ (fun hHeld => ?_)
            · try dsimp only
              refine blk_cell (StrAt.sbox (Mid.str (?_ : Mid w mb p cbx sbx F n ca cb ada adb la lb sg so _ F1 lo.1))) 0
              (repeat (first | with_reducible exact HM2.out | with_reducible exact HM1.out | with_reducible exact HM0.out | with_reducible apply Mid.alloc | with_reducible apply Mid.drew | with_reducible refine Mid.row H.out (by omega) M8.out.out ?_ | with_reducible refine Mid.row H.out (by omega) M9.out.out ?_))
            clear hK K
            try simp only [Act.put, List.setIfInBounds_toArray, List.set_cons_zero, List.set_cons_succ]
            refine wpAnyH_ready (rs := [7, 8]) (by kernel_rfl) (by simp) ?_
            refine AllReadyH.cons rfl (fun K hK => ?_) ?_
            · go_simp
              go_at_call 119
              refine Calls.mono (C2.out F1 _ (Mid.str (?_ : Mid w mb p cbx sbx F n ca cb ada adb la lb sg so _ F1 lo.1))) ?_
              · (repeat (first | with_reducible exact HM2.out | with_reducible exact HM1.out | with_reducible exact HM0.out | with_reducible apply Mid.alloc | with_reducible apply Mid.drew | with_reducible refine Mid.row H.out (by omega) M8.out.out ?_ | with_reducible refine Mid.row H.out (by omega) M9.out.out ?_))
              rintro e w2 ⟨F2, rfl, h2, hst2⟩
              have HM2 : Hid (Mid w mb p cbx sbx F n ca cb ada adb la lb sg so w2 F2 hh.1) := by
                refine Lib.hid (Mid.call (g2 := lo.1) ?_ hst2 h2)
                (repeat (first | with_reducible exact HM2.out | with_reducible exact HM1.out | with_reducible exact HM0.out | with_reducible apply Mid.alloc | with_reducible apply Mid.drew | with_reducible refine Mid.row H.out (by omega) M8.out.out ?_ | with_reducible refine Mid.row H.out (by omega) M9.out.out ?_))
              have HST2 := Lib.hid hst2
              have z2 := hst2.kept.size
              (try simp at z2)
              clear hst2 h2
              try dsimp only
              refine hK.out _ _ ?_ (fun hHeld => ?_)
              · try dsimp only
                refine blk_cell (StrAt.sbox (Mid.str (?_ : Mid w mb p cbx sbx F n ca cb ada adb la lb sg so _ F2 hh.1))) 0
                (repeat (first | with_reducible exact HM2.out | with_reducible exact HM1.out | with_reducible exact HM0.out | with_reducible apply Mid.alloc | with_reducible apply Mid.drew | with_reducible refine Mid.row H.out (by omega) M8.out.out ?_ | with_reducible refine Mid.row H.out (by omega) M9.out.out ?_))
              clear hK K
              try simp only [Act.put, List.setIfInBounds_toArray, List.set_cons_zero, List.set_cons_succ]
              refine wpAnyH_ready (rs := [8]) (by kernel_rfl) (by simp) ?_
              refine AllReadyH.cons rfl (fun K hK => ?_) ?_
              · go_simp
                refine hK.out _ _ ?_ (fun hHeld => ?_)
                · try dsimp only
                  refine blk_cell (StrAt.sbox (Mid.str (?_ : Mid w mb p cbx sbx F n ca cb ada adb la lb sg so _ F2 hh.1))) 0
                  (repeat (first | with_reducible exact HM2.out | with_reducible exact HM1.out | with_reducible exact HM0.out | with_reducible apply Mid.alloc | with_reducible apply Mid.drew | with_reducible refine Mid.row H.out (by omega) M8.out.out ?_ | with_reducible refine Mid.row H.out (by omega) M9.out.out ?_))
                clear hK K
                try simp only [Act.put, List.setIfInBounds_toArray, List.set_cons_zero, List.set_cons_succ]
                refine wpAnyH_ready (rs := [10]) (by kernel_rfl) (by simp) ?_
                refine AllReadyH.cons rfl (fun K hK => ?_) ?_
                · have M8 : Hid (Mine (w2.alloc (.cells #[.int .u32 0, .int .u32 0] 122)) (mb :: F2) (w2.heap.size) (.cells #[.int .u32 0, .int .u32 0] 122 (0, 0))) := by
                    refine Lib.hid ?_
                    (repeat (first | (with_reducible refine Mine.new ?_ ?_; focus (simp; done)) | with_reducible apply Mine.alloc | with_reducible apply Mine.drew | with_reducible refine Mine.step ?_ HST2.out | with_reducible refine Mine.step ?_ HST1.out))
                    all_goals (intro x hx; first | (have := HM2.out.str.cmp.far x hx; simp; omega) | (have := HM1.out.str.cmp.far x hx; simp; omega) | (have := H.out.cmp.far x hx; simp; omega))
                  have M9 : Hid (Mine (w2.alloc (.cells #[.int .u32 0, .int .u32 0] 122)) (mb :: F2) (w1.heap.size) (.cells #[.int .u32 0, .int .u32 0] 122 (0, 0))) := by
                    refine Lib.hid ?_
                    (repeat (first | (with_reducible refine Mine.new ?_ ?_; focus (simp; done)) | with_reducible apply Mine.alloc | with_reducible apply Mine.drew | with_reducible refine Mine.step ?_ HST2.out | with_reducible refine Mine.step ?_ HST1.out))
                    all_goals (intro x hx; first | (have := HM2.out.str.cmp.far x hx; simp; omega) | (have := HM1.out.str.cmp.far x hx; simp; omega) | (have := H.out.cmp.far x hx; simp; omega))
                  refine step_row (e := 122) (t := 122) (old := #[.int .u32 0, .int .u32 0]) (cells := #[.int .u32 (lo.2.1 : Nat), .int .u32 (lo.2.2 : Nat)]) rfl rfl rfl rfl (by kernel_rfl) rfl (by simp [Value.oneCell']) M8.out.heap ?_
                  refine hK.out _ _ ?_ (fun hHeld => ?_)
                  · try dsimp only
                    refine blk_cell (StrAt.sbox (Mid.str (?_ : Mid w mb p cbx sbx F n ca cb ada adb la lb sg so _ F2 hh.1))) 0
                    (repeat (first | with_reducible exact HM2.out | with_reducible exact HM1.out | with_reducible exact HM0.out | with_reducible apply Mid.alloc | with_reducible apply Mid.drew | with_reducible refine Mid.row H.out (by omega) M8.out.out ?_ | with_reducible refine Mid.row H.out (by omega) M9.out.out ?_))
                  clear hK K
                  try simp only [Act.put, List.setIfInBounds_toArray, List.set_cons_zero, List.set_cons_succ]
                  refine wpAnyH_ready (rs := [11]) (by kernel_rfl) (by simp) ?_
                  refine AllReadyH.cons rfl (fun K hK => ?_) ?_
                  · refine step_row (e := 122) (t := 122) (old := #[.int .u32 0, .int .u32 0]) (cells := #[.int .u32 (hh.2.1 : Nat), .int .u32 (hh.2.2 : Nat)]) rfl rfl rfl rfl (by kernel_rfl) rfl (by simp [Value.oneCell']) (Mine.rowOther M9.out (by omega)).heap ?_
                    refine hK.out _ _ ?_ (fun hHeld => ?_)
                    · try dsimp only
                      refine blk_cell (StrAt.sbox (Mid.str (?_ : Mid w mb p cbx sbx F n ca cb ada adb la lb sg so _ F2 hh.1))) 0
                      (repeat (first | with_reducible exact HM2.out | with_reducible exact HM1.out | with_reducible exact HM0.out | with_reducible apply Mid.alloc | with_reducible apply Mid.drew | with_reducible refine Mid.row H.out (by omega) M8.out.out ?_ | with_reducible refine Mid.row H.out (by omega) M9.out.out ?_))
                    clear hK K
                    try simp only [Act.put, List.setIfInBounds_toArray, List.set_cons_zero, List.set_cons_succ]
                    refine wpAnyH_done (by kernel_rfl) ?_ _
                    go_wp2_with fail
                    go_meet
                    refine ⟨_, _, F2, rfl, rfl, ?_, Mine.rowOther (Mine.row M8.out) (by omega), Mine.row (Mine.rowOther M9.out (by omega)), ?_, by omega, by omega, by omega⟩
                    · (repeat (first | with_reducible exact HM2.out | with_reducible exact HM1.out | with_reducible exact HM0.out | with_reducible apply Mid.alloc | with_reducible apply Mid.drew | with_reducible refine Mid.row H.out (by omega) M8.out.out ?_ | with_reducible refine Mid.row H.out (by omega) M9.out.out ?_))
                    · refine Mine.rowOther (Mine.rowOther ?_ (by omega)) (by omega)
                      (repeat (first | (with_reducible refine Mine.new ?_ ?_; focus (simp; done)) | with_reducible apply Mine.alloc | with_reducible apply Mine.drew | with_reducible refine Mine.step ?_ HST2.out | with_reducible refine Mine.step ?_ HST1.out))
                      all_goals (intro x hx; first | (have := HM2.out.str.cmp.far x hx; simp; omega) | (have := HM1.out.str.cmp.far x hx; simp; omega) | (have := H.out.cmp.far x hx; simp; omega))
                  exact AllReadyH.nil
                exact AllReadyH.nil
              exact AllReadyH.nil
            refine AllReadyH.cons rfl (fun K hK => ?_) ?_
            · go_simp
              refine hK.out _ _ ?_ (fun hHeld => ?_)
              · try dsimp only
                refine blk_cell (StrAt.sbox (Mid.str (?_ : Mid w mb p cbx sbx F n ca cb ada adb la lb sg so _ F1 lo.1))) 0
                (repeat (first | with_reducible exact HM2.out | with_reducible exact HM1.out | with_reducible exact HM0.out | with_reducible apply Mid.alloc | with_reducible apply Mid.drew | with_reducible refine Mid.row H.out (by omega) M8.out.out ?_ | with_reducible refine Mid.row H.out (by omega) M9.out.out ?_))
              clear hK K
              try simp only [Act.put, List.setIfInBounds_toArray, List.set_cons_zero, List.set_cons_succ]
              refine wpAnyH_ready (rs := [7]) (by kernel_rfl) (by simp) ?_
              refine AllReadyH.cons rfl (fun K hK => ?_) ?_
              · go_simp
                go_at_call 119
                refine Calls.mono (C2.out F1 _ (Mid.str (?_ : Mid w mb p cbx sbx F n ca cb ada adb la lb sg so _ F1 lo.1))) ?_
                · (repeat (first | with_reducible exact HM2.out | with_reducible exact HM1.out | with_reducible exact HM0.out | with_reducible apply Mid.alloc | with_reducible apply Mid.drew | with_reducible refine Mid.row H.out (by omega) M8.out.out ?_ | with_reducible refine Mid.row H.out (by omega) M9.out.out ?_))
                rintro e w2 ⟨F2, rfl, h2, hst2⟩
                have HM2 : Hid (Mid w mb p cbx sbx F n ca cb ada adb la lb sg so w2 F2 hh.1) := by
                  refine Lib.hid (Mid.call (g2 := lo.1) ?_ hst2 h2)
                  (repeat (first | with_reducible exact HM2.out | with_reducible exact HM1.out | with_reducible exact HM0.out | with_reducible apply Mid.alloc | with_reducible apply Mid.drew | with_reducible refine Mid.row H.out (by omega) M8.out.out ?_ | with_reducible refine Mid.row H.out (by omega) M9.out.out ?_))
                have HST2 := Lib.hid hst2
                have z2 := hst2.kept.size
                (try simp at z2)
                clear hst2 h2
                try dsimp only
                refine hK.out _ _ ?_ (fun hHeld => ?_)
                · try dsimp only
                  refine blk_cell (StrAt.sbox (Mid.str (?_ : Mid w mb p cbx sbx F n ca cb ada adb la lb sg so _ F2 hh.1))) 0
                  (repeat (first | with_reducible exact HM2.out | with_reducible exact HM1.out | with_reducible exact HM0.out | with_reducible apply Mid.alloc | with_reducible apply Mid.drew | with_reducible refine Mid.row H.out (by omega) M8.out.out ?_ | with_reducible refine Mid.row H.out (by omega) M9.out.out ?_))
                clear hK K
                try simp only [Act.put, List.setIfInBounds_toArray, List.set_cons_zero, List.set_cons_succ]
                refine wpAnyH_ready (rs := [10]) (by kernel_rfl) (by simp) ?_
                refine AllReadyH.cons rfl (fun K hK => ?_) ?_
                · have M8 : Hid (Mine w2 (mb :: F2) (w1.heap.size + 1) (.cells #[.int .u32 0, .int .u32 0] 122 (0, 0))) := by
                    refine Lib.hid ?_
                    (repeat (first | (with_reducible refine Mine.new ?_ ?_; focus (simp; done)) | with_reducible apply Mine.alloc | with_reducible apply Mine.drew | with_reducible refine Mine.step ?_ HST2.out | with_reducible refine Mine.step ?_ HST1.out))
                    all_goals (intro x hx; first | (have := HM2.out.str.cmp.far x hx; simp; omega) | (have := HM1.out.str.cmp.far x hx; simp; omega) | (have := H.out.cmp.far x hx; simp; omega))
                  have M9 : Hid (Mine w2 (mb :: F2) (w1.heap.size) (.cells #[.int .u32 0, .int .u32 0] 122 (0, 0))) := by
                    refine Lib.hid ?_
                    (repeat (first | (with_reducible refine Mine.new ?_ ?_; focus (simp; done)) | with_reducible apply Mine.alloc | with_reducible apply Mine.drew | with_reducible refine Mine.step ?_ HST2.out | with_reducible refine Mine.step ?_ HST1.out))
                    all_goals (intro x hx; first | (have := HM2.out.str.cmp.far x hx; simp; omega) | (have := HM1.out.str.cmp.far x hx; simp; omega) | (have := H.out.cmp.far x hx; simp; omega))
                  refine step_row (e := 122) (t := 122) (old := #[.int .u32 0, .int .u32 0]) (cells := #[.int .u32 (lo.2.1 : Nat), .int .u32 (lo.2.2 : Nat)]) rfl rfl rfl rfl (by kernel_rfl) rfl (by simp [Value.oneCell']) M8.out.heap ?_
                  refine hK.out _ _ ?_ (fun hHeld => ?_)
                  · try dsimp only
                    refine blk_cell (StrAt.sbox (Mid.str (?_ : Mid w mb p cbx sbx F n ca cb ada adb la lb sg so _ F2 hh.1))) 0
                    (repeat (first | with_reducible exact HM2.out | with_reducible exact HM1.out | with_reducible exact HM0.out | with_reducible apply Mid.alloc | with_reducible apply Mid.drew | with_reducible refine Mid.row H.out (by omega) M8.out.out ?_ | with_reducible refine Mid.row H.out (by omega) M9.out.out ?_))
                  clear hK K
                  try simp only [Act.put, List.setIfInBounds_toArray, List.set_cons_zero, List.set_cons_succ]
                  refine wpAnyH_ready (rs := [11]) (by kernel_rfl) (by simp) ?_
                  refine AllReadyH.cons rfl (fun K hK => ?_) ?_
                  · refine step_row (e := 122) (t := 122) (old := #[.int .u32 0, .int .u32 0]) (cells := #[.int .u32 (hh.2.1 : Nat), .int .u32 (hh.2.2 : Nat)]) rfl rfl rfl rfl (by kernel_rfl) rfl (by simp [Value.oneCell']) (Mine.rowOther M9.out (by omega)).heap ?_
                    refine hK.out _ _ ?_ (fun hHeld => ?_)
                    · try dsimp only
                      refine blk_cell (StrAt.sbox (Mid.str (?_ : Mid w mb p cbx sbx F n ca cb ada adb la lb sg so _ F2 hh.1))) 0
                      (repeat (first | with_reducible exact HM2.out | with_reducible exact HM1.out | with_reducible exact HM0.out | with_reducible apply Mid.alloc | with_reducible apply Mid.drew | with_reducible refine Mid.row H.out (by omega) M8.out.out ?_ | with_reducible refine Mid.row H.out (by omega) M9.out.out ?_))
                    clear hK K
                    try simp only [Act.put, List.setIfInBounds_toArray, List.set_cons_zero, List.set_cons_succ]
                    refine wpAnyH_done (by kernel_rfl) ?_ _
                    go_wp2_with fail
                    go_meet
                    refine ⟨_, _, F2, rfl, rfl, ?_, Mine.rowOther (Mine.row M8.out) (by omega), Mine.row (Mine.rowOther M9.out (by omega)), ?_, by omega, by omega, by omega⟩
                    · (repeat (first | with_reducible exact HM2.out | with_reducible exact HM1.out | with_reducible exact HM0.out | with_reducible apply Mid.alloc | with_reducible apply Mid.drew | with_reducible refine Mid.row H.out (by omega) M8.out.out ?_ | with_reducible refine Mid.row H.out (by omega) M9.out.out ?_))
                    · refine Mine.rowOther (Mine.rowOther ?_ (by omega)) (by omega)
                      (repeat (first | (with_reducible refine Mine.new ?_ ?_; focus (simp; done)) | with_reducible apply Mine.alloc | with_reducible apply Mine.drew | with_reducible refine Mine.step ?_ HST2.out | with_reducible refine Mine.step ?_ HST1.out))
                      all_goals (intro x hx; first | (have := HM2.out.str.cmp.far x hx; simp; omega) | (have := HM1.out.str.cmp.far x hx; simp; omega) | (have := H.out.cmp.far x hx; simp; omega))
                  exact AllReadyH.nil
                exact AllReadyH.nil
              exact AllReadyH.nil
            exact AllReadyH.nil
          exact AllReadyH.nil
        refine AllReadyH.cons rfl (fun K hK => ?_) ?_
        · go_simp
          refine hK.out _ _ ?_ (fun hHeld => ?_)
          · try dsimp only
            refine blk_cell (StrAt.sbox (Mid.str (?_ : Mid w mb p cbx sbx F n ca cb ada adb la lb sg so _ F g))) 0
            (repeat (first | with_reducible exact HM2.out | with_reducible exact HM1.out | with_reducible exact HM0.out | with_reducible apply Mid.alloc | with_reducible apply Mid.drew | with_reducible refine Mid.row H.out (by omega) M8.out.out ?_ | with_reducible refine Mid.row H.out (by omega) M9.out.out ?_))
          clear hK K
          try simp only [Act.put, List.setIfInBounds_toArray, List.set_cons_zero, List.set_cons_succ]
          refine wpAnyH_ready (rs := [3, 9]) (by kernel_rfl) (by simp) ?_
          refine AllReadyH.cons rfl (fun K hK => ?_) ?_
          · go_simp
            go_at_call 119
            refine Calls.mono (C1.out F _ (Mid.str (?_ : Mid w mb p cbx sbx F n ca cb ada adb la lb sg so _ F g))) ?_
            · (repeat (first | with_reducible exact HM2.out | with_reducible exact HM1.out | with_reducible exact HM0.out | with_reducible apply Mid.alloc | with_reducible apply Mid.drew | with_reducible refine Mid.row H.out (by omega) M8.out.out ?_ | with_reducible refine Mid.row H.out (by omega) M9.out.out ?_))
            rintro e w1 ⟨F1, rfl, h1, hst1⟩
            have HM1 : Hid (Mid w mb p cbx sbx F n ca cb ada adb la lb sg so w1 F1 lo.1) := by
              refine Lib.hid (Mid.call (g2 := g) ?_ hst1 h1)
              (repeat (first | with_reducible exact HM2.out | with_reducible exact HM1.out | with_reducible exact HM0.out | with_reducible apply Mid.alloc | with_reducible apply Mid.drew | with_reducible refine Mid.row H.out (by omega) M8.out.out ?_ | with_reducible refine Mid.row H.out (by omega) M9.out.out ?_))
            have HST1 := Lib.hid hst1
            have z1 := hst1.kept.size
            (try simp at z1)
            clear hst1 h1
            try dsimp only
            refine hK.out _ _ ?_ (fun hHeld => ?_)
            · try dsimp only
              refine blk_cell (StrAt.sbox (Mid.str (?_ : Mid w mb p cbx sbx F n ca cb ada adb la lb sg so _ F1 lo.1))) 0
              (repeat (first | with_reducible exact HM2.out | with_reducible exact HM1.out | with_reducible exact HM0.out | with_reducible apply Mid.alloc | with_reducible apply Mid.drew | with_reducible refine Mid.row H.out (by omega) M8.out.out ?_ | with_reducible refine Mid.row H.out (by omega) M9.out.out ?_))
            clear hK K
            try simp only [Act.put, List.setIfInBounds_toArray, List.set_cons_zero, List.set_cons_succ]
            refine wpAnyH_ready (rs := [7, 9]) (by kernel_rfl) (by simp) ?_
            refine AllReadyH.cons rfl (fun K hK => ?_) ?_
            · go_simp
              go_at_call 119
              refine Calls.mono (C2.out F1 _ (Mid.str (?_ : Mid w mb p cbx sbx F n ca cb ada adb la lb sg so _ F1 lo.1))) ?_
              · (repeat (first | with_reducible exact HM2.out | with_reducible exact HM1.out | with_reducible exact HM0.out | with_reducible apply Mid.alloc | with_reducible apply Mid.drew | with_reducible refine Mid.row H.out (by omega) M8.out.out ?_ | with_reducible refine Mid.row H.out (by omega) M9.out.out ?_))
              rintro e w2 ⟨F2, rfl, h2, hst2⟩
              have HM2 : Hid (Mid w mb p cbx sbx F n ca cb ada adb la lb sg so w2 F2 hh.1) := by
                refine Lib.hid (Mid.call (g2 := lo.1) ?_ hst2 h2)
                (repeat (first | with_reducible exact HM2.out | with_reducible exact HM1.out | with_reducible exact HM0.out | with_reducible apply Mid.alloc | with_reducible apply Mid.drew | with_reducible refine Mid.row H.out (by omega) M8.out.out ?_ | with_reducible refine Mid.row H.out (by omega) M9.out.out ?_))
              have HST2 := Lib.hid hst2
              have z2 := hst2.kept.size
              (try simp at z2)
              clear hst2 h2
              try dsimp only
              refine hK.out _ _ ?_ (fun hHeld => ?_)
              · try dsimp only
                refine blk_cell (StrAt.sbox (Mid.str (?_ : Mid w mb p cbx sbx F n ca cb ada adb la lb sg so _ F2 hh.1))) 0
                (repeat (first | with_reducible exact HM2.out | with_reducible exact HM1.out | with_reducible exact HM0.out | with_reducible apply Mid.alloc | with_reducible apply Mid.drew | with_reducible refine Mid.row H.out (by omega) M8.out.out ?_ | with_reducible refine Mid.row H.out (by omega) M9.out.out ?_))
              clear hK K
              try simp only [Act.put, List.setIfInBounds_toArray, List.set_cons_zero, List.set_cons_succ]
              refine wpAnyH_ready (rs := [9]) (by kernel_rfl) (by simp) ?_
              refine AllReadyH.cons rfl (fun K hK => ?_) ?_
              · go_simp
                refine hK.out _ _ ?_ (fun hHeld => ?_)
                · try dsimp only
                  refine blk_cell (StrAt.sbox (Mid.str (?_ : Mid w mb p cbx sbx F n ca cb ada adb la lb sg so _ F2 hh.1))) 0
                  (repeat (first | with_reducible exact HM2.out | with_reducible exact HM1.out | with_reducible exact HM0.out | with_reducible apply Mid.alloc | with_reducible apply Mid.drew | with_reducible refine Mid.row H.out (by omega) M8.out.out ?_ | with_reducible refine Mid.row H.out (by omega) M9.out.out ?_))
                clear hK K
                try simp only [Act.put, List.setIfInBounds_toArray, List.set_cons_zero, List.set_cons_succ]
                refine wpAnyH_ready (rs := [10]) (by kernel_rfl) (by simp) ?_
                refine AllReadyH.cons rfl (fun K hK => ?_) ?_
                · have M8 : Hid (Mine (w2.alloc (.cells #[.int .u32 0, .int .u32 0] 122)) (mb :: F2) (w.heap.size + 1) (.cells #[.int .u32 0, .int .u32 0] 122 (0, 0))) := by
                    refine Lib.hid ?_
                    (repeat (first | (with_reducible refine Mine.new ?_ ?_; focus (simp; done)) | with_reducible apply Mine.alloc | with_reducible apply Mine.drew | with_reducible refine Mine.step ?_ HST2.out | with_reducible refine Mine.step ?_ HST1.out))
                    all_goals (intro x hx; first | (have := HM2.out.str.cmp.far x hx; simp; omega) | (have := HM1.out.str.cmp.far x hx; simp; omega) | (have := H.out.cmp.far x hx; simp; omega))
                  have M9 : Hid (Mine (w2.alloc (.cells #[.int .u32 0, .int .u32 0] 122)) (mb :: F2) (w2.heap.size) (.cells #[.int .u32 0, .int .u32 0] 122 (0, 0))) := by
                    refine Lib.hid ?_
                    (repeat (first | (with_reducible refine Mine.new ?_ ?_; focus (simp; done)) | with_reducible apply Mine.alloc | with_reducible apply Mine.drew | with_reducible refine Mine.step ?_ HST2.out | with_reducible refine Mine.step ?_ HST1.out))
                    all_goals (intro x hx; first | (have := HM2.out.str.cmp.far x hx; simp; omega) | (have := HM1.out.str.cmp.far x hx; simp; omega) | (have := H.out.cmp.far x hx; simp; omega))
                  refine step_row (e := 122) (t := 122) (old := #[.int .u32 0, .int .u32 0]) (cells := #[.int .u32 (lo.2.1 : Nat), .int .u32 (lo.2.2 : Nat)]) rfl rfl rfl rfl (by kernel_rfl) rfl (by simp [Value.oneCell']) M8.out.heap ?_
                  refine hK.out _ _ ?_ (fun hHeld => ?_)
                  · try dsimp only
                    refine blk_cell (StrAt.sbox (Mid.str (?_ : Mid w mb p cbx sbx F n ca cb ada adb la lb sg so _ F2 hh.1))) 0
                    (repeat (first | with_reducible exact HM2.out | with_reducible exact HM1.out | with_reducible exact HM0.out | with_reducible apply Mid.alloc | with_reducible apply Mid.drew | with_reducible refine Mid.row H.out (by omega) M8.out.out ?_ | with_reducible refine Mid.row H.out (by omega) M9.out.out ?_))
                  clear hK K
                  try simp only [Act.put, List.setIfInBounds_toArray, List.set_cons_zero, List.set_cons_succ]
                  refine wpAnyH_ready (rs := [11]) (by kernel_rfl) (by simp) ?_
                  refine AllReadyH.cons rfl (fun K hK => ?_) ?_
                  · refine step_row (e := 122) (t := 122) (old := #[.int .u32 0, .int .u32 0]) (cells := #[.int .u32 (hh.2.1 : Nat), .int .u32 (hh.2.2 : Nat)]) rfl rfl rfl rfl (by kernel_rfl) rfl (by simp [Value.oneCell']) (Mine.rowOther M9.out (by omega)).heap ?_
                    refine hK.out _ _ ?_ (fun hHeld => ?_)
                    · try dsimp only
                      refine blk_cell (StrAt.sbox (Mid.str (?_ : Mid w mb p cbx sbx F n ca cb ada adb la lb sg so _ F2 hh.1))) 0
                      (repeat (first | with_reducible exact HM2.out | with_reducible exact HM1.out | with_reducible exact HM0.out | with_reducible apply Mid.alloc | with_reducible apply Mid.drew | with_reducible refine Mid.row H.out (by omega) M8.out.out ?_ | with_reducible refine Mid.row H.out (by omega) M9.out.out ?_))
                    clear hK K
                    try simp only [Act.put, List.setIfInBounds_toArray, List.set_cons_zero, List.set_cons_succ]
                    refine wpAnyH_done (by kernel_rfl) ?_ _
                    go_wp2_with fail
                    go_meet
                    refine ⟨_, _, F2, rfl, rfl, ?_, Mine.rowOther (Mine.row M8.out) (by omega), Mine.row (Mine.rowOther M9.out (by omega)), ?_, by omega, by omega, by omega⟩
                    · (repeat (first | with_reducible exact HM2.out | with_reducible exact HM1.out | with_reducible exact HM0.out | with_reducible apply Mid.alloc | with_reducible apply Mid.drew | with_reducible refine Mid.row H.out (by omega) M8.out.out ?_ | with_reducible refine Mid.row H.out (by omega) M9.out.out ?_))
                    · refine Mine.rowOther (Mine.rowOther ?_ (by omega)) (by omega)
                      (repeat (first | (with_reducible refine Mine.new ?_ ?_; focus (simp; done)) | with_reducible apply Mine.alloc | with_reducible apply Mine.drew | with_reducible refine Mine.step ?_ HST2.out | with_reducible refine Mine.step ?_ HST1.out))
                      all_goals (intro x hx; first | (have := HM2.out.str.cmp.far x hx; simp; omega) | (have := HM1.out.str.cmp.far x hx; simp; omega) | (have := H.out.cmp.far x hx; simp; omega))
                  exact AllReadyH.nil
                exact AllReadyH.nil
              exact AllReadyH.nil
            refine AllReadyH.cons rfl (fun K hK => ?_) ?_
            · go_simp
              refine hK.out _ _ ?_ (fun hHeld => ?_)
              · try dsimp only
                refine blk_cell (StrAt.sbox (Mid.str (?_ : Mid w mb p cbx sbx F n ca cb ada adb la lb sg so _ F1 lo.1))) 0
                (repeat (first | with_reducible exact HM2.out | with_reducible exact HM1.out | with_reducible exact HM0.out | with_reducible apply Mid.alloc | with_reducible apply Mid.drew | with_reducible refine Mid.row H.out (by omega) M8.out.out ?_ | with_reducible refine Mid.row H.out (by omega) M9.out.out ?_))
              clear hK K
              try simp only [Act.put, List.setIfInBounds_toArray, List.set_cons_zero, List.set_cons_succ]
              refine wpAnyH_ready (rs := [7]) (by kernel_rfl) (by simp) ?_
              refine AllReadyH.cons rfl (fun K hK => ?_) ?_
              · go_simp
                go_at_call 119
                refine Calls.mono (C2.out F1 _ (Mid.str (?_ : Mid w mb p cbx sbx F n ca cb ada adb la lb sg so _ F1 lo.1))) ?_
                · (repeat (first | with_reducible exact HM2.out | with_reducible exact HM1.out | with_reducible exact HM0.out | with_reducible apply Mid.alloc | with_reducible apply Mid.drew | with_reducible refine Mid.row H.out (by omega) M8.out.out ?_ | with_reducible refine Mid.row H.out (by omega) M9.out.out ?_))
                rintro e w2 ⟨F2, rfl, h2, hst2⟩
                have HM2 : Hid (Mid w mb p cbx sbx F n ca cb ada adb la lb sg so w2 F2 hh.1) := by
                  refine Lib.hid (Mid.call (g2 := lo.1) ?_ hst2 h2)
                  (repeat (first | with_reducible exact HM2.out | with_reducible exact HM1.out | with_reducible exact HM0.out | with_reducible apply Mid.alloc | with_reducible apply Mid.drew | with_reducible refine Mid.row H.out (by omega) M8.out.out ?_ | with_reducible refine Mid.row H.out (by omega) M9.out.out ?_))
                have HST2 := Lib.hid hst2
                have z2 := hst2.kept.size
                (try simp at z2)
                clear hst2 h2
                try dsimp only
                refine hK.out _ _ ?_ (fun hHeld => ?_)
                · try dsimp only
                  refine blk_cell (StrAt.sbox (Mid.str (?_ : Mid w mb p cbx sbx F n ca cb ada adb la lb sg so _ F2 hh.1))) 0
                  (repeat (first | with_reducible exact HM2.out | with_reducible exact HM1.out | with_reducible exact HM0.out | with_reducible apply Mid.alloc | with_reducible apply Mid.drew | with_reducible refine Mid.row H.out (by omega) M8.out.out ?_ | with_reducible refine Mid.row H.out (by omega) M9.out.out ?_))
                clear hK K
                try simp only [Act.put, List.setIfInBounds_toArray, List.set_cons_zero, List.set_cons_succ]
                refine wpAnyH_ready (rs := [10]) (by kernel_rfl) (by simp) ?_
                refine AllReadyH.cons rfl (fun K hK => ?_) ?_
                · have M8 : Hid (Mine w2 (mb :: F2) (w.heap.size + 1) (.cells #[.int .u32 0, .int .u32 0] 122 (0, 0))) := by
                    refine Lib.hid ?_
                    (repeat (first | (with_reducible refine Mine.new ?_ ?_; focus (simp; done)) | with_reducible apply Mine.alloc | with_reducible apply Mine.drew | with_reducible refine Mine.step ?_ HST2.out | with_reducible refine Mine.step ?_ HST1.out))
                    all_goals (intro x hx; first | (have := HM2.out.str.cmp.far x hx; simp; omega) | (have := HM1.out.str.cmp.far x hx; simp; omega) | (have := H.out.cmp.far x hx; simp; omega))
                  have M9 : Hid (Mine w2 (mb :: F2) (w1.heap.size) (.cells #[.int .u32 0, .int .u32 0] 122 (0, 0))) := by
                    refine Lib.hid ?_
                    (repeat (first | (with_reducible refine Mine.new ?_ ?_; focus (simp; done)) | with_reducible apply Mine.alloc | with_reducible apply Mine.drew | with_reducible refine Mine.step ?_ HST2.out | with_reducible refine Mine.step ?_ HST1.out))
                    all_goals (intro x hx; first | (have := HM2.out.str.cmp.far x hx; simp; omega) | (have := HM1.out.str.cmp.far x hx; simp; omega) | (have := H.out.cmp.far x hx; simp; omega))
                  refine step_row (e := 122) (t := 122) (old := #[.int .u32 0, .int .u32 0]) (cells := #[.int .u32 (lo.2.1 : Nat), .int .u32 (lo.2.2 : Nat)]) rfl rfl rfl rfl (by kernel_rfl) rfl (by simp [Value.oneCell']) M8.out.heap ?_
                  refine hK.out _ _ ?_ (fun hHeld => ?_)
                  · try dsimp only
                    refine blk_cell (StrAt.sbox (Mid.str (?_ : Mid w mb p cbx sbx F n ca cb ada adb la lb sg so _ F2 hh.1))) 0
                    (repeat (first | with_reducible exact HM2.out | with_reducible exact HM1.out | with_reducible exact HM0.out | with_reducible apply Mid.alloc | with_reducible apply Mid.drew | with_reducible refine Mid.row H.out (by omega) M8.out.out ?_ | with_reducible refine Mid.row H.out (by omega) M9.out.out ?_))
                  clear hK K
                  try simp only [Act.put, List.setIfInBounds_toArray, List.set_cons_zero, List.set_cons_succ]
                  refine wpAnyH_ready (rs := [11]) (by kernel_rfl) (by simp) ?_
                  refine AllReadyH.cons rfl (fun K hK => ?_) ?_
                  · refine step_row (e := 122) (t := 122) (old := #[.int .u32 0, .int .u32 0]) (cells := #[.int .u32 (hh.2.1 : Nat), .int .u32 (hh.2.2 : Nat)]) rfl rfl rfl rfl (by kernel_rfl) rfl (by simp [Value.oneCell']) (Mine.rowOther M9.out (by omega)).heap ?_
                    refine hK.out _ _ ?_ (fun hHeld => ?_)
                    · try dsimp only
                      refine blk_cell (StrAt.sbox (Mid.str (?_ : Mid w mb p cbx sbx F n ca cb ada adb la lb sg so _ F2 hh.1))) 0
                      (repeat (first | with_reducible exact HM2.out | with_reducible exact HM1.out | with_reducible exact HM0.out | with_reducible apply Mid.alloc | with_reducible apply Mid.drew | with_reducible refine Mid.row H.out (by omega) M8.out.out ?_ | with_reducible refine Mid.row H.out (by omega) M9.out.out ?_))
                    clear hK K
                    try simp only [Act.put, List.setIfInBounds_toArray, List.set_cons_zero, List.set_cons_succ]
                    refine wpAnyH_done (by kernel_rfl) ?_ _
                    go_wp2_with fail
                    go_meet
                    refine ⟨_, _, F2, rfl, rfl, ?_, Mine.rowOther (Mine.row M8.out) (by omega), Mine.row (Mine.rowOther M9.out (by omega)), ?_, by omega, by omega, by omega⟩
                    · (repeat (first | with_reducible exact HM2.out | with_reducible exact HM1.out | with_reducible exact HM0.out | with_reducible apply Mid.alloc | with_reducible apply Mid.drew | with_reducible refine Mid.row H.out (by omega) M8.out.out ?_ | with_reducible refine Mid.row H.out (by omega) M9.out.out ?_))
                    · refine Mine.rowOther (Mine.rowOther ?_ (by omega)) (by omega)
                      (repeat (first | (with_reducible refine Mine.new ?_ ?_; focus (simp; done)) | with_reducible apply Mine.alloc | with_reducible apply Mine.drew | with_reducible refine Mine.step ?_ HST2.out | with_reducible refine Mine.step ?_ HST1.out))
                      all_goals (intro x hx; first | (have := HM2.out.str.cmp.far x hx; simp; omega) | (have := HM1.out.str.cmp.far x hx; simp; omega) | (have := H.out.cmp.far x hx; simp; omega))
                  exact AllReadyH.nil
                exact AllReadyH.nil
              exact AllReadyH.nil
            exact AllReadyH.nil
          refine AllReadyH.cons rfl (fun K hK => ?_) ?_
          · go_simp
            refine hK.out _ _ ?_ (fun hHeld => ?_)
            · try dsimp only
              refine blk_cell (StrAt.sbox (Mid.str (?_ : Mid w mb p cbx sbx F n ca cb ada adb la lb sg so _ F g))) 0
              (repeat (first | with_reducible exact HM2.out | with_reducible exact HM1.out | with_reducible exact HM0.out | with_reducible apply Mid.alloc | with_reducible apply Mid.drew | with_reducible refine Mid.row H.out (by omega) M8.out.out ?_ | with_reducible refine Mid.row H.out (by omega) M9.out.out ?_))
            clear hK K
            try simp only [Act.put, List.setIfInBounds_toArray, List.set_cons_zero, List.set_cons_succ]
            refine wpAnyH_ready (rs := [3]) (by kernel_rfl) (by simp) ?_
            refine AllReadyH.cons rfl (fun K hK => ?_) ?_
            · go_simp
              go_at_call 119
              refine Calls.mono (C1.out F _ (Mid.str (?_ : Mid w mb p cbx sbx F n ca cb ada adb la lb sg so _ F g))) ?_
              · (repeat (first | with_reducible exact HM2.out | with_reducible exact HM1.out | with_reducible exact HM0.out | with_reducible apply Mid.alloc | with_reducible apply Mid.drew | with_reducible refine Mid.row H.out (by omega) M8.out.out ?_ | with_reducible refine Mid.row H.out (by omega) M9.out.out ?_))
              rintro e w1 ⟨F1, rfl, h1, hst1⟩
              have HM1 : Hid (Mid w mb p cbx sbx F n ca cb ada adb la lb sg so w1 F1 lo.1) := by
                refine Lib.hid (Mid.call (g2 := g) ?_ hst1 h1)
                (repeat (first | with_reducible exact HM2.out | with_reducible exact HM1.out | with_reducible exact HM0.out | with_reducible apply Mid.alloc | with_reducible apply Mid.drew | with_reducible refine Mid.row H.out (by omega) M8.out.out ?_ | with_reducible refine Mid.row H.out (by omega) M9.out.out ?_))
              have HST1 := Lib.hid hst1
              have z1 := hst1.kept.size
              (try simp at z1)
              clear hst1 h1
              try dsimp only
              refine hK.out _ _ ?_ (fun hHeld => ?_)
              · try dsimp only
                refine blk_cell (StrAt.sbox (Mid.str (?_ : Mid w mb p cbx sbx F n ca cb ada adb la lb sg so _ F1 lo.1))) 0
                (repeat (first | with_reducible exact HM2.out | with_reducible exact HM1.out | with_reducible exact HM0.out | with_reducible apply Mid.alloc | with_reducible apply Mid.drew | with_reducible refine Mid.row H.out (by omega) M8.out.out ?_ | with_reducible refine Mid.row H.out (by omega) M9.out.out ?_))
              clear hK K
              try simp only [Act.put, List.setIfInBounds_toArray, List.set_cons_zero, List.set_cons_succ]
              refine wpAnyH_ready (rs := [7]) (by kernel_rfl) (by simp) ?_
              refine AllReadyH.cons rfl (fun K hK => ?_) ?_
              · go_simp
                go_at_call 119
                refine Calls.mono (C2.out F1 _ (Mid.str (?_ : Mid w mb p cbx sbx F n ca cb ada adb la lb sg so _ F1 lo.1))) ?_
                · (repeat (first | with_reducible exact HM2.out | with_reducible exact HM1.out | with_reducible exact HM0.out | with_reducible apply Mid.alloc | with_reducible apply Mid.drew | with_reducible refine Mid.row H.out (by omega) M8.out.out ?_ | with_reducible refine Mid.row H.out (by omega) M9.out.out ?_))
                rintro e w2 ⟨F2, rfl, h2, hst2⟩
                have HM2 : Hid (Mid w mb p cbx sbx F n ca cb ada adb la lb sg so w2 F2 hh.1) := by
                  refine Lib.hid (Mid.call (g2 := lo.1) ?_ hst2 h2)
                  (repeat (first | with_reducible exact HM2.out | with_reducible exact HM1.out | with_reducible exact HM0.out | with_reducible apply Mid.alloc | with_reducible apply Mid.drew | with_reducible refine Mid.row H.out (by omega) M8.out.out ?_ | with_reducible refine Mid.row H.out (by omega) M9.out.out ?_))
                have HST2 := Lib.hid hst2
                have z2 := hst2.kept.size
                (try simp at z2)
                clear hst2 h2
                try dsimp only
                refine hK.out _ _ ?_ (fun hHeld => ?_)
                · try dsimp only
                  refine blk_cell (StrAt.sbox (Mid.str (?_ : Mid w mb p cbx sbx F n ca cb ada adb la lb sg so _ F2 hh.1))) 0
                  (repeat (first | with_reducible exact HM2.out | with_reducible exact HM1.out | with_reducible exact HM0.out | with_reducible apply Mid.alloc | with_reducible apply Mid.drew | with_reducible refine Mid.row H.out (by omega) M8.out.out ?_ | with_reducible refine Mid.row H.out (by omega) M9.out.out ?_))
                clear hK K
                try simp only [Act.put, List.setIfInBounds_toArray, List.set_cons_zero, List.set_cons_succ]
                refine wpAnyH_ready (rs := [10]) (by kernel_rfl) (by simp) ?_
                refine AllReadyH.cons rfl (fun K hK => ?_) ?_
                · have M8 : Hid (Mine w2 (mb :: F2) (w.heap.size + 1) (.cells #[.int .u32 0, .int .u32 0] 122 (0, 0))) := by
                    refine Lib.hid ?_
                    (repeat (first | (with_reducible refine Mine.new ?_ ?_; focus (simp; done)) | with_reducible apply Mine.alloc | with_reducible apply Mine.drew | with_reducible refine Mine.step ?_ HST2.out | with_reducible refine Mine.step ?_ HST1.out))
                    all_goals (intro x hx; first | (have := HM2.out.str.cmp.far x hx; simp; omega) | (have := HM1.out.str.cmp.far x hx; simp; omega) | (have := H.out.cmp.far x hx; simp; omega))
                  have M9 : Hid (Mine w2 (mb :: F2) (w.heap.size + 1 + 1) (.cells #[.int .u32 0, .int .u32 0] 122 (0, 0))) := by
                    refine Lib.hid ?_
                    (repeat (first | (with_reducible refine Mine.new ?_ ?_; focus (simp; done)) | with_reducible apply Mine.alloc | with_reducible apply Mine.drew | with_reducible refine Mine.step ?_ HST2.out | with_reducible refine Mine.step ?_ HST1.out))
                    all_goals (intro x hx; first | (have := HM2.out.str.cmp.far x hx; simp; omega) | (have := HM1.out.str.cmp.far x hx; simp; omega) | (have := H.out.cmp.far x hx; simp; omega))
                  refine step_row (e := 122) (t := 122) (old := #[.int .u32 0, .int .u32 0]) (cells := #[.int .u32 (lo.2.1 : Nat), .int .u32 (lo.2.2 : Nat)]) rfl rfl rfl rfl (by kernel_rfl) rfl (by simp [Value.oneCell']) M8.out.heap ?_
                  refine hK.out _ _ ?_ (fun hHeld => ?_)
                  · try dsimp only
                    refine blk_cell (StrAt.sbox (Mid.str (?_ : Mid w mb p cbx sbx F n ca cb ada adb la lb sg so _ F2 hh.1))) 0
                    (repeat (first | with_reducible exact HM2.out | with_reducible exact HM1.out | with_reducible exact HM0.out | with_reducible apply Mid.alloc | with_reducible apply Mid.drew | with_reducible refine Mid.row H.out (by omega) M8.out.out ?_ | with_reducible refine Mid.row H.out (by omega) M9.out.out ?_))
                  clear hK K
                  try simp only [Act.put, List.setIfInBounds_toArray, List.set_cons_zero, List.set_cons_succ]
                  refine wpAnyH_ready (rs := [11]) (by kernel_rfl) (by simp) ?_
                  refine AllReadyH.cons rfl (fun K hK => ?_) ?_
                  · refine step_row (e := 122) (t := 122) (old := #[.int .u32 0, .int .u32 0]) (cells := #[.int .u32 (hh.2.1 : Nat), .int .u32 (hh.2.2 : Nat)]) rfl rfl rfl rfl (by kernel_rfl) rfl (by simp [Value.oneCell']) (Mine.rowOther M9.out (by omega)).heap ?_
                    refine hK.out _ _ ?_ (fun hHeld => ?_)
                    · try dsimp only
                      refine blk_cell (StrAt.sbox (Mid.str (?_ : Mid w mb p cbx sbx F n ca cb ada adb la lb sg so _ F2 hh.1))) 0
                      (repeat (first | with_reducible exact HM2.out | with_reducible exact HM1.out | with_reducible exact HM0.out | with_reducible apply Mid.alloc | with_reducible apply Mid.drew | with_reducible refine Mid.row H.out (by omega) M8.out.out ?_ | with_reducible refine Mid.row H.out (by omega) M9.out.out ?_))
                    clear hK K
                    try simp only [Act.put, List.setIfInBounds_toArray, List.set_cons_zero, List.set_cons_succ]
                    refine wpAnyH_done (by kernel_rfl) ?_ _
                    go_wp2_with fail
                    go_meet
                    refine ⟨_, _, F2, rfl, rfl, ?_, Mine.rowOther (Mine.row M8.out) (by omega), Mine.row (Mine.rowOther M9.out (by omega)), ?_, by omega, by omega, by omega⟩
                    · (repeat (first | with_reducible exact HM2.out | with_reducible exact HM1.out | with_reducible exact HM0.out | with_reducible apply Mid.alloc | with_reducible apply Mid.drew | with_reducible refine Mid.row H.out (by omega) M8.out.out ?_ | with_reducible refine Mid.row H.out (by omega) M9.out.out ?_))
                    · refine Mine.rowOther (Mine.rowOther ?_ (by omega)) (by omega)
                      (repeat (first | (with_reducible refine Mine.new ?_ ?_; focus (simp; done)) | with_reducible apply Mine.alloc | with_reducible apply Mine.drew | with_reducible refine Mine.step ?_ HST2.out | with_reducible refine Mine.step ?_ HST1.out))
                      all_goals (intro x hx; first | (have := HM2.out.str.cmp.far x hx; simp; omega) | (have := HM1.out.str.cmp.far x hx; simp; omega) | (have := H.out.cmp.far x hx; simp; omega))
                  exact AllReadyH.nil
                exact AllReadyH.nil
              exact AllReadyH.nil
            exact AllReadyH.nil
          exact AllReadyH.nil
        refine AllReadyH.cons rfl (fun K hK => ?_) ?_
        · go_simp
          refine hK.out _ _ ?_ (fun hHeld => ?_)
          · try dsimp only
            refine blk_cell (StrAt.sbox (Mid.str (?_ : Mid w mb p cbx sbx F n ca cb ada adb la lb sg so _ F g))) 0
            (repeat (first | with_reducible exact HM2.out | with_reducible exact HM1.out | with_reducible exact HM0.out | with_reducible apply Mid.alloc | with_reducible apply Mid.drew | with_reducible refine Mid.row H.out (by omega) M8.out.out ?_ | with_reducible refine Mid.row H.out (by omega) M9.out.out ?_))
          clear hK K
          try simp only [Act.put, List.setIfInBounds_toArray, List.set_cons_zero, List.set_cons_succ]
          refine wpAnyH_ready (rs := [3, 8]) (by kernel_rfl) (by simp) ?_
          refine AllReadyH.cons rfl (fun K hK => ?_) ?_
          · go_simp
            go_at_call 119
            refine Calls.mono (C1.out F _ (Mid.str (?_ : Mid w mb p cbx sbx F n ca cb ada adb la lb sg so _ F g))) ?_
            · (repeat (first | with_reducible exact HM2.out | with_reducible exact HM1.out | with_reducible exact HM0.out | with_reducible apply Mid.alloc | with_reducible apply Mid.drew | with_reducible refine Mid.row H.out (by omega) M8.out.out ?_ | with_reducible refine Mid.row H.out (by omega) M9.out.out ?_))
            rintro e w1 ⟨F1, rfl, h1, hst1⟩
            have HM1 : Hid (Mid w mb p cbx sbx F n ca cb ada adb la lb sg so w1 F1 lo.1) := by
              refine Lib.hid (Mid.call (g2 := g) ?_ hst1 h1)
              (repeat (first | with_reducible exact HM2.out | with_reducible exact HM1.out | with_reducible exact HM0.out | with_reducible apply Mid.alloc | with_reducible apply Mid.drew | with_reducible refine Mid.row H.out (by omega) M8.out.out ?_ | with_reducible refine Mid.row H.out (by omega) M9.out.out ?_))
            have HST1 := Lib.hid hst1
            have z1 := hst1.kept.size
            (try simp at z1)
            clear hst1 h1
            try dsimp only
            refine hK.out _ _ ?_ (fun hHeld => ?_)
            · try dsimp only
              refine blk_cell (StrAt.sbox (Mid.str (?_ : Mid w mb p cbx sbx F n ca cb ada adb la lb sg so _ F1 lo.1))) 0
              (repeat (first | with_reducible exact HM2.out | with_reducible exact HM1.out | with_reducible exact HM0.out | with_reducible apply Mid.alloc | with_reducible apply Mid.drew | with_reducible refine Mid.row H.out (by omega) M8.out.out ?_ | with_reducible refine Mid.row H.out (by omega) M9.out.out ?_))
            clear hK K
            try simp only [Act.put, List.setIfInBounds_toArray, List.set_cons_zero, List.set_cons_succ]
            refine wpAnyH_ready (rs := [7, 8]) (by kernel_rfl) (by simp) ?_
            refine AllReadyH.cons rfl (fun K hK => ?_) ?_
            · go_simp
              go_at_call 119
              refine Calls.mono (C2.out F1 _ (Mid.str (?_ : Mid w mb p cbx sbx F n ca cb ada adb la lb sg so _ F1 lo.1))) ?_
              · (repeat (first | with_reducible exact HM2.out | with_reducible exact HM1.out | with_reducible exact HM0.out | with_reducible apply Mid.alloc | with_reducible apply Mid.drew | with_reducible refine Mid.row H.out (by omega) M8.out.out ?_ | with_reducible refine Mid.row H.out (by omega) M9.out.out ?_))
              rintro e w2 ⟨F2, rfl, h2, hst2⟩
              have HM2 : Hid (Mid w mb p cbx sbx F n ca cb ada adb la lb sg so w2 F2 hh.1) := by
                refine Lib.hid (Mid.call (g2 := lo.1) ?_ hst2 h2)
                (repeat (first | with_reducible exact HM2.out | with_reducible exact HM1.out | with_reducible exact HM0.out | with_reducible apply Mid.alloc | with_reducible apply Mid.drew | with_reducible refine Mid.row H.out (by omega) M8.out.out ?_ | with_reducible refine Mid.row H.out (by omega) M9.out.out ?_))
              have HST2 := Lib.hid hst2
              have z2 := hst2.kept.size
              (try simp at z2)
              clear hst2 h2
              try dsimp only
              refine hK.out _ _ ?_ (fun hHeld => ?_)
              · try dsimp only
                refine blk_cell (StrAt.sbox (Mid.str (?_ : Mid w mb p cbx sbx F n ca cb ada adb la lb sg so _ F2 hh.1))) 0
                (repeat (first | with_reducible exact HM2.out | with_reducible exact HM1.out | with_reducible exact HM0.out | with_reducible apply Mid.alloc | with_reducible apply Mid.drew | with_reducible refine Mid.row H.out (by omega) M8.out.out ?_ | with_reducible refine Mid.row H.out (by omega) M9.out.out ?_))
              clear hK K
              try simp only [Act.put, List.setIfInBounds_toArray, List.set_cons_zero, List.set_cons_succ]
              refine wpAnyH_ready (rs := [8]) (by kernel_rfl) (by simp) ?_
              refine AllReadyH.cons rfl (fun K hK => ?_) ?_
              · go_simp
                refine hK.out _ _ ?_ (fun hHeld => ?_)
                · try dsimp only
                  refine blk_cell (StrAt.sbox (Mid.str (?_ : Mid w mb p cbx sbx F n ca cb ada adb la lb sg so _ F2 hh.1))) 0
                  (repeat (first | with_reducible exact HM2.out | with_reducible exact HM1.out | with_reducible exact HM0.out | with_reducible apply Mid.alloc | with_reducible apply Mid.drew | with_reducible refine Mid.row H.out (by omega) M8.out.out ?_ | with_reducible refine Mid.row H.out (by omega) M9.out.out ?_))
                clear hK K
                try simp only [Act.put, List.setIfInBounds_toArray, List.set_cons_zero, List.set_cons_succ]
                refine wpAnyH_ready (rs := [10]) (by kernel_rfl) (by simp) ?_
                refine AllReadyH.cons rfl (fun K hK => ?_) ?_
                · have M8 : Hid (Mine (w2.alloc (.cells #[.int .u32 0, .int .u32 0] 122)) (mb :: F2) (w2.heap.size) (.cells #[.int .u32 0, .int .u32 0] 122 (0, 0))) := by
                    refine Lib.hid ?_
                    (repeat (first | (with_reducible refine Mine.new ?_ ?_; focus (simp; done)) | with_reducible apply Mine.alloc | with_reducible apply Mine.drew | with_reducible refine Mine.step ?_ HST2.out | with_reducible refine Mine.step ?_ HST1.out))
                    all_goals (intro x hx; first | (have := HM2.out.str.cmp.far x hx; simp; omega) | (have := HM1.out.str.cmp.far x hx; simp; omega) | (have := H.out.cmp.far x hx; simp; omega))
                  have M9 : Hid (Mine (w2.alloc (.cells #[.int .u32 0, .int .u32 0] 122)) (mb :: F2) (w.heap.size + 1) (.cells #[.int .u32 0, .int .u32 0] 122 (0, 0))) := by
                    refine Lib.hid ?_
                    (repeat (first | (with_reducible refine Mine.new ?_ ?_; focus (simp; done)) | with_reducible apply Mine.alloc | with_reducible apply Mine.drew | with_reducible refine Mine.step ?_ HST2.out | with_reducible refine Mine.step ?_ HST1.out))
                    all_goals (intro x hx; first | (have := HM2.out.str.cmp.far x hx; simp; omega) | (have := HM1.out.str.cmp.far x hx; simp; omega) | (have := H.out.cmp.far x hx; simp; omega))
                  refine step_row (e := 122) (t := 122) (old := #[.int .u32 0, .int .u32 0]) (cells := #[.int .u32 (lo.2.1 : Nat), .int .u32 (lo.2.2 : Nat)]) rfl rfl rfl rfl (by kernel_rfl) rfl (by simp [Value.oneCell']) M8.out.heap ?_
                  refine hK.out _ _ ?_ (fun hHeld => ?_)
                  · try dsimp only
                    refine blk_cell (StrAt.sbox (Mid.str (?_ : Mid w mb p cbx sbx F n ca cb ada adb la lb sg so _ F2 hh.1))) 0
                    (repeat (first | with_reducible exact HM2.out | with_reducible exact HM1.out | with_reducible exact HM0.out | with_reducible apply Mid.alloc | with_reducible apply Mid.drew | with_reducible refine Mid.row H.out (by omega) M8.out.out ?_ | with_reducible refine Mid.row H.out (by omega) M9.out.out ?_))
                  clear hK K
                  try simp only [Act.put, List.setIfInBounds_toArray, List.set_cons_zero, List.set_cons_succ]
                  refine wpAnyH_ready (rs := [11]) (by kernel_rfl) (by simp) ?_
                  refine AllReadyH.cons rfl (fun K hK => ?_) ?_
                  · refine step_row (e := 122) (t := 122) (old := #[.int .u32 0, .int .u32 0]) (cells := #[.int .u32 (hh.2.1 : Nat), .int .u32 (hh.2.2 : Nat)]) rfl rfl rfl rfl (by kernel_rfl) rfl (by simp [Value.oneCell']) (Mine.rowOther M9.out (by omega)).heap ?_
                    refine hK.out _ _ ?_ (fun hHeld => ?_)
                    · try dsimp only
                      refine blk_cell (StrAt.sbox (Mid.str (?_ : Mid w mb p cbx sbx F n ca cb ada adb la lb sg so _ F2 hh.1))) 0
                      (repeat (first | with_reducible exact HM2.out | with_reducible exact HM1.out | with_reducible exact HM0.out | with_reducible apply Mid.alloc | with_reducible apply Mid.drew | with_reducible refine Mid.row H.out (by omega) M8.out.out ?_ | with_reducible refine Mid.row H.out (by omega) M9.out.out ?_))
                    clear hK K
                    try simp only [Act.put, List.setIfInBounds_toArray, List.set_cons_zero, List.set_cons_succ]
                    refine wpAnyH_done (by kernel_rfl) ?_ _
                    go_wp2_with fail
                    go_meet
                    refine ⟨_, _, F2, rfl, rfl, ?_, Mine.rowOther (Mine.row M8.out) (by omega), Mine.row (Mine.rowOther M9.out (by omega)), ?_, by omega, by omega, by omega⟩
                    · (repeat (first | with_reducible exact HM2.out | with_reducible exact HM1.out | with_reducible exact HM0.out | with_reducible apply Mid.alloc | with_reducible apply Mid.drew | with_reducible refine Mid.row H.out (by omega) M8.out.out ?_ | with_reducible refine Mid.row H.out (by omega) M9.out.out ?_))
                    · refine Mine.rowOther (Mine.rowOther ?_ (by omega)) (by omega)
                      (repeat (first | (with_reducible refine Mine.new ?_ ?_; focus (simp; done)) | with_reducible apply Mine.alloc | with_reducible apply Mine.drew | with_reducible refine Mine.step ?_ HST2.out | with_reducible refine Mine.step ?_ HST1.out))
                      all_goals (intro x hx; first | (have := HM2.out.str.cmp.far x hx; simp; omega) | (have := HM1.out.str.cmp.far x hx; simp; omega) | (have := H.out.cmp.far x hx; simp; omega))
                  exact AllReadyH.nil
                exact AllReadyH.nil
              exact AllReadyH.nil
            refine AllReadyH.cons rfl (fun K hK => ?_) ?_
            · go_simp
              refine hK.out _ _ ?_ (fun hHeld => ?_)
              · try dsimp only
                refine blk_cell (StrAt.sbox (Mid.str (?_ : Mid w mb p cbx sbx F n ca cb ada adb la lb sg so _ F1 lo.1))) 0
                (repeat (first | with_reducible exact HM2.out | with_reducible exact HM1.out | with_reducible exact HM0.out | with_reducible apply Mid.alloc | with_reducible apply Mid.drew | with_reducible refine Mid.row H.out (by omega) M8.out.out ?_ | with_reducible refine Mid.row H.out (by omega) M9.out.out ?_))
              clear hK K
              try simp only [Act.put, List.setIfInBounds_toArray, List.set_cons_zero, List.set_cons_succ]
              refine wpAnyH_ready (rs := [7]) (by kernel_rfl) (by simp) ?_
              refine AllReadyH.cons rfl (fun K hK => ?_) ?_
              · go_simp
                go_at_call 119
                refine Calls.mono (C2.out F1 _ (Mid.str (?_ : Mid w mb p cbx sbx F n ca cb ada adb la lb sg so _ F1 lo.1))) ?_
                · (repeat (first | with_reducible exact HM2.out | with_reducible exact HM1.out | with_reducible exact HM0.out | with_reducible apply Mid.alloc | with_reducible apply Mid.drew | with_reducible refine Mid.row H.out (by omega) M8.out.out ?_ | with_reducible refine Mid.row H.out (by omega) M9.out.out ?_))
                rintro e w2 ⟨F2, rfl, h2, hst2⟩
                have HM2 : Hid (Mid w mb p cbx sbx F n ca cb ada adb la lb sg so w2 F2 hh.1) := by
                  refine Lib.hid (Mid.call (g2 := lo.1) ?_ hst2 h2)
                  (repeat (first | with_reducible exact HM2.out | with_reducible exact HM1.out | with_reducible exact HM0.out | with_reducible apply Mid.alloc | with_reducible apply Mid.drew | with_reducible refine Mid.row H.out (by omega) M8.out.out ?_ | with_reducible refine Mid.row H.out (by omega) M9.out.out ?_))
                have HST2 := Lib.hid hst2
                have z2 := hst2.kept.size
                (try simp at z2)
                clear hst2 h2
                try dsimp only
                refine hK.out _ _ ?_ (fun hHeld => ?_)
                · try dsimp only
                  refine blk_cell (StrAt.sbox (Mid.str (?_ : Mid w mb p cbx sbx F n ca cb ada adb la lb sg so _ F2 hh.1))) 0
                  (repeat (first | with_reducible exact HM2.out | with_reducible exact HM1.out | with_reducible exact HM0.out | with_reducible apply Mid.alloc | with_reducible apply Mid.drew | with_reducible refine Mid.row H.out (by omega) M8.out.out ?_ | with_reducible refine Mid.row H.out (by omega) M9.out.out ?_))
                clear hK K
                try simp only [Act.put, List.setIfInBounds_toArray, List.set_cons_zero, List.set_cons_succ]
                refine wpAnyH_ready (rs := [10]) (by kernel_rfl) (by simp) ?_
                refine AllReadyH.cons rfl (fun K hK => ?_) ?_
                · have M8 : Hid (Mine w2 (mb :: F2) (w1.heap.size) (.cells #[.int .u32 0, .int .u32 0] 122 (0, 0))) := by
                    refine Lib.hid ?_
                    (repeat (first | (with_reducible refine Mine.new ?_ ?_; focus (simp; done)) | with_reducible apply Mine.alloc | with_reducible apply Mine.drew | with_reducible refine Mine.step ?_ HST2.out | with_reducible refine Mine.step ?_ HST1.out))
                    all_goals (intro x hx; first | (have := HM2.out.str.cmp.far x hx; simp; omega) | (have := HM1.out.str.cmp.far x hx; simp; omega) | (have := H.out.cmp.far x hx; simp; omega))
                  have M9 : Hid (Mine w2 (mb :: F2) (w.heap.size + 1) (.cells #[.int .u32 0, .int .u32 0] 122 (0, 0))) := by
                    refine Lib.hid ?_
                    (repeat (first | (with_reducible refine Mine.new ?_ ?_; focus (simp; done)) | with_reducible apply Mine.alloc | with_reducible apply Mine.drew | with_reducible refine Mine.step ?_ HST2.out | with_reducible refine Mine.step ?_ HST1.out))
                    all_goals (intro x hx; first | (have := HM2.out.str.cmp.far x hx; simp; omega) | (have := HM1.out.str.cmp.far x hx; simp; omega) | (have := H.out.cmp.far x hx; simp; omega))
                  refine step_row (e := 122) (t := 122) (old := #[.int .u32 0, .int .u32 0]) (cells := #[.int .u32 (lo.2.1 : Nat), .int .u32 (lo.2.2 : Nat)]) rfl rfl rfl rfl (by kernel_rfl) rfl (by simp [Value.oneCell']) M8.out.heap ?_
                  refine hK.out _ _ ?_ (fun hHeld => ?_)
                  · try dsimp only
                    refine blk_cell (StrAt.sbox (Mid.str (?_ : Mid w mb p cbx sbx F n ca cb ada adb la lb sg so _ F2 hh.1))) 0
                    (repeat (first | with_reducible exact HM2.out | with_reducible exact HM1.out | with_reducible exact HM0.out | with_reducible apply Mid.alloc | with_reducible apply Mid.drew | with_reducible refine Mid.row H.out (by omega) M8.out.out ?_ | with_reducible refine Mid.row H.out (by omega) M9.out.out ?_))
                  clear hK K
                  try simp only [Act.put, List.setIfInBounds_toArray, List.set_cons_zero, List.set_cons_succ]
                  refine wpAnyH_ready (rs := [11]) (by kernel_rfl) (by simp) ?_
                  refine AllReadyH.cons rfl (fun K hK => ?_) ?_
                  · refine step_row (e := 122) (t := 122) (old := #[.int .u32 0, .int .u32 0]) (cells := #[.int .u32 (hh.2.1 : Nat), .int .u32 (hh.2.2 : Nat)]) rfl rfl rfl rfl (by kernel_rfl) rfl (by simp [Value.oneCell']) (Mine.rowOther M9.out (by omega)).heap ?_
                    refine hK.out _ _ ?_ (fun hHeld => ?_)
                    · try dsimp only
                      refine blk_cell (StrAt.sbox (Mid.str (?_ : Mid w mb p cbx sbx F n ca cb ada adb la lb sg so _ F2 hh.1))) 0
                      (repeat (first | with_reducible exact HM2.out | with_reducible exact HM1.out | with_reducible exact HM0.out | with_reducible apply Mid.alloc | with_reducible apply Mid.drew | with_reducible refine Mid.row H.out (by omega) M8.out.out ?_ | with_reducible refine Mid.row H.out (by omega) M9.out.out ?_))
                    clear hK K
                    try simp only [Act.put, List.setIfInBounds_toArray, List.set_cons_zero, List.set_cons_succ]
                    refine wpAnyH_done (by kernel_rfl) ?_ _
                    go_wp2_with fail
                    go_meet
                    refine ⟨_, _, F2, rfl, rfl, ?_, Mine.rowOther (Mine.row M8.out) (by omega), Mine.row (Mine.rowOther M9.out (by omega)), ?_, by omega, by omega, by omega⟩
                    · (repeat (first | with_reducible exact HM2.out | with_reducible exact HM1.out | with_reducible exact HM0.out | with_reducible apply Mid.alloc | with_reducible apply Mid.drew | with_reducible refine Mid.row H.out (by omega) M8.out.out ?_ | with_reducible refine Mid.row H.out (by omega) M9.out.out ?_))
                    · refine Mine.rowOther (Mine.rowOther ?_ (by omega)) (by omega)
                      (repeat (first | (with_reducible refine Mine.new ?_ ?_; focus (simp; done)) | with_reducible apply Mine.alloc | with_reducible apply Mine.drew | with_reducible refine Mine.step ?_ HST2.out | with_reducible refine Mine.step ?_ HST1.out))
                      all_goals (intro x hx; first | (have := HM2.out.str.cmp.far x hx; simp; omega) | (have := HM1.out.str.cmp.far x hx; simp; omega) | (have := H.out.cmp.far x hx; simp; omega))
                  exact AllReadyH.nil
                exact AllReadyH.nil
              exact AllReadyH.nil
            exact AllReadyH.nil
          refine AllReadyH.cons rfl (fun K hK => ?_) ?_
          · go_simp
            refine hK.out _ _ ?_ (fun hHeld => ?_)
            · try dsimp only
              refine blk_cell (StrAt.sbox (Mid.str (?_ : Mid w mb p cbx sbx F n ca cb ada adb la lb sg so _ F g))) 0
              (repeat (first | with_reducible exact HM2.out | with_reducible exact HM1.out | with_reducible exact HM0.out | with_reducible apply Mid.alloc | with_reducible apply Mid.drew | with_reducible refine Mid.row H.out (by omega) M8.out.out ?_ | with_reducible refine Mid.row H.out (by omega) M9.out.out ?_))
            clear hK K
            try simp only [Act.put, List.setIfInBounds_toArray, List.set_cons_zero, List.set_cons_succ]
            refine wpAnyH_ready (rs := [3]) (by kernel_rfl) (by simp) ?_
            refine AllReadyH.cons rfl (fun K hK => ?_) ?_
            · go_simp
              go_at_call 119
              refine Calls.mono (C1.out F _ (Mid.str (?_ : Mid w mb p cbx sbx F n ca cb ada adb la lb sg so _ F g))) ?_
              · (repeat (first | with_reducible exact HM2.out | with_reducible exact HM1.out | with_reducible exact HM0.out | with_reducible apply Mid.alloc | with_reducible apply Mid.drew | with_reducible refine Mid.row H.out (by omega) M8.out.out ?_ | with_reducible refine Mid.row H.out (by omega) M9.out.out ?_))
              rintro e w1 ⟨F1, rfl, h1, hst1⟩
              have HM1 : Hid (Mid w mb p cbx sbx F n ca cb ada adb la lb sg so w1 F1 lo.1) := by
                refine Lib.hid (Mid.call (g2 := g) ?_ hst1 h1)
                (repeat (first | with_reducible exact HM2.out | with_reducible exact HM1.out | with_reducible exact HM0.out | with_reducible apply Mid.alloc | with_reducible apply Mid.drew | with_reducible refine Mid.row H.out (by omega) M8.out.out ?_ | with_reducible refine Mid.row H.out (by omega) M9.out.out ?_))
              have HST1 := Lib.hid hst1
              have z1 := hst1.kept.size
              (try simp at z1)
              clear hst1 h1
              try dsimp only
              refine hK.out _ _ ?_ (fun hHeld => ?_)
              · try dsimp only
                refine blk_cell (StrAt.sbox (Mid.str (?_ : Mid w mb p cbx sbx F n ca cb ada adb la lb sg so _ F1 lo.1))) 0
                (repeat (first | with_reducible exact HM2.out | with_reducible exact HM1.out | with_reducible exact HM0.out | with_reducible apply Mid.alloc | with_reducible apply Mid.drew | with_reducible refine Mid.row H.out (by omega) M8.out.out ?_ | with_reducible refine Mid.row H.out (by omega) M9.out.out ?_))
              clear hK K
              try simp only [Act.put, List.setIfInBounds_toArray, List.set_cons_zero, List.set_cons_succ]
              refine wpAnyH_ready (rs := [7]) (by kernel_rfl) (by simp) ?_
              refine AllReadyH.cons rfl (fun K hK => ?_) ?_
              · go_simp
                go_at_call 119
                refine Calls.mono (C2.out F1 _ (Mid.str (?_ : Mid w mb p cbx sbx F n ca cb ada adb la lb sg so _ F1 lo.1))) ?_
                · (repeat (first | with_reducible exact HM2.out | with_reducible exact HM1.out | with_reducible exact HM0.out | with_reducible apply Mid.alloc | with_reducible apply Mid.drew | with_reducible refine Mid.row H.out (by omega) M8.out.out ?_ | with_reducible refine Mid.row H.out (by omega) M9.out.out ?_))
                rintro e w2 ⟨F2, rfl, h2, hst2⟩
                have HM2 : Hid (Mid w mb p cbx sbx F n ca cb ada adb la lb sg so w2 F2 hh.1) := by
                  refine Lib.hid (Mid.call (g2 := lo.1) ?_ hst2 h2)
                  (repeat (first | with_reducible exact HM2.out | with_reducible exact HM1.out | with_reducible exact HM0.out | with_reducible apply Mid.alloc | with_reducible apply Mid.drew | with_reducible refine Mid.row H.out (by omega) M8.out.out ?_ | with_reducible refine Mid.row H.out (by omega) M9.out.out ?_))
                have HST2 := Lib.hid hst2
                have z2 := hst2.kept.size
                (try simp at z2)
                clear hst2 h2
                try dsimp only
                refine hK.out _ _ ?_ (fun hHeld => ?_)
                · try dsimp only
                  refine blk_cell (StrAt.sbox (Mid.str (?_ : Mid w mb p cbx sbx F n ca cb ada adb la lb sg so _ F2 hh.1))) 0
                  (repeat (first | with_reducible exact HM2.out | with_reducible exact HM1.out | with_reducible exact HM0.out | with_reducible apply Mid.alloc | with_reducible apply Mid.drew | with_reducible refine Mid.row H.out (by omega) M8.out.out ?_ | with_reducible refine Mid.row H.out (by omega) M9.out.out ?_))
                clear hK K
                try simp only [Act.put, List.setIfInBounds_toArray, List.set_cons_zero, List.set_cons_succ]
                refine wpAnyH_ready (rs := [10]) (by kernel_rfl) (by simp) ?_
                refine AllReadyH.cons rfl (fun K hK => ?_) ?_
                · have M8 : Hid (Mine w2 (mb :: F2) (w.heap.size + 1 + 1) (.cells #[.int .u32 0, .int .u32 0] 122 (0, 0))) := by
                    refine Lib.hid ?_
                    (repeat (first | (with_reducible refine Mine.new ?_ ?_; focus (simp; done)) | with_reducible apply Mine.alloc | with_reducible apply Mine.drew | with_reducible refine Mine.step ?_ HST2.out | with_reducible refine Mine.step ?_ HST1.out))
                    all_goals (intro x hx; first | (have := HM2.out.str.cmp.far x hx; simp; omega) | (have := HM1.out.str.cmp.far x hx; simp; omega) | (have := H.out.cmp.far x hx; simp; omega))
                  have M9 : Hid (Mine w2 (mb :: F2) (w.heap.size + 1) (.cells #[.int .u32 0, .int .u32 0] 122 (0, 0))) := by
                    refine Lib.hid ?_
                    (repeat (first | (with_reducible refine Mine.new ?_ ?_; focus (simp; done)) | with_reducible apply Mine.alloc | with_reducible apply Mine.drew | with_reducible refine Mine.step ?_ HST2.out | with_reducible refine Mine.step ?_ HST1.out))
                    all_goals (intro x hx; first | (have := HM2.out.str.cmp.far x hx; simp; omega) | (have := HM1.out.str.cmp.far x hx; simp; omega) | (have := H.out.cmp.far x hx; simp; omega))
                  refine step_row (e := 122) (t := 122) (old := #[.int .u32 0, .int .u32 0]) (cells := #[.int .u32 (lo.2.1 : Nat), .int .u32 (lo.2.2 : Nat)]) rfl rfl rfl rfl (by kernel_rfl) rfl (by simp [Value.oneCell']) M8.out.heap ?_
                  refine hK.out _ _ ?_ (fun hHeld => ?_)
                  · try dsimp only
                    refine blk_cell (StrAt.sbox (Mid.str (?_ : Mid w mb p cbx sbx F n ca cb ada adb la lb sg so _ F2 hh.1))) 0
                    (repeat (first | with_reducible exact HM2.out | with_reducible exact HM1.out | with_reducible exact HM0.out | with_reducible apply Mid.alloc | with_reducible apply Mid.drew | with_reducible refine Mid.row H.out (by omega) M8.out.out ?_ | with_reducible refine Mid.row H.out (by omega) M9.out.out ?_))
                  clear hK K
                  try simp only [Act.put, List.setIfInBounds_toArray, List.set_cons_zero, List.set_cons_succ]
                  refine wpAnyH_ready (rs := [11]) (by kernel_rfl) (by simp) ?_
                  refine AllReadyH.cons rfl (fun K hK => ?_) ?_
                  · refine step_row (e := 122) (t := 122) (old := #[.int .u32 0, .int .u32 0]) (cells := #[.int .u32 (hh.2.1 : Nat), .int .u32 (hh.2.2 : Nat)]) rfl rfl rfl rfl (by kernel_rfl) rfl (by simp [Value.oneCell']) (Mine.rowOther M9.out (by omega)).heap ?_
                    refine hK.out _ _ ?_ (fun hHeld => ?_)
                    · try dsimp only
                      refine blk_cell (StrAt.sbox (Mid.str (?_ : Mid w mb p cbx sbx F n ca cb ada adb la lb sg so _ F2 hh.1))) 0
                      (repeat (first | with_reducible exact HM2.out | with_reducible exact HM1.out | with_reducible exact HM0.out | with_reducible apply Mid.alloc | with_reducible apply Mid.drew | with_reducible refine Mid.row H.out (by omega) M8.out.out ?_ | with_reducible refine Mid.row H.out (by omega) M9.out.out ?_))
                    clear hK K
                    try simp only [Act.put, List.setIfInBounds_toArray, List.set_cons_zero, List.set_cons_succ]
                    refine wpAnyH_done (by kernel_rfl) ?_ _
                    go_wp2_with fail
                    go_meet
                    refine ⟨_, _, F2, rfl, rfl, ?_, Mine.rowOther (Mine.row M8.out) (by omega), Mine.row (Mine.rowOther M9.out (by omega)), ?_, by omega, by omega, by omega⟩
                    · (repeat (first | with_reducible exact HM2.out | with_reducible exact HM1.out | with_reducible exact HM0.out | with_reducible apply Mid.alloc | with_reducible apply Mid.drew | with_reducible refine Mid.row H.out (by omega) M8.out.out ?_ | with_reducible refine Mid.row H.out (by omega) M9.out.out ?_))
                    · refine Mine.rowOther (Mine.rowOther ?_ (by omega)) (by omega)
                      (repeat (first | (with_reducible refine Mine.new ?_ ?_; focus (simp; done)) | with_reducible apply Mine.alloc | with_reducible apply Mine.drew | with_reducible refine Mine.step ?_ HST2.out | with_reducible refine Mine.step ?_ HST1.out))
                      all_goals (intro x hx; first | (have := HM2.out.str.cmp.far x hx; simp; omega) | (have := HM1.out.str.cmp.far x hx; simp; omega) | (have := H.out.cmp.far x hx; simp; omega))
                  exact AllReadyH.nil
                exact AllReadyH.nil
              exact AllReadyH.nil
            exact AllReadyH.nil
          exact AllReadyH.nil
        exact AllReadyH.nil
      case rest =>
        obtain ⟨b8, b9, F2, rfl, rfl, hM, m8, m9, m6, o8, o9, o89⟩ := hcut
        have HM := Lib.hid hM
        have M6 := Lib.hid m6
        have M8 := Lib.hid m8
        have M9 := Lib.hid m9
        obtain ⟨⟨e80, e81, _⟩, _⟩ := two_facts m8.heap
        obtain ⟨⟨e90, e91, _⟩, _⟩ := two_facts m9.heap
        have f0 : wc.cell? ⟨cbx, 0, none⟩ = some (.pointer (some ⟨mb, 0, none⟩)) := blk_cell hM.str.cbox 0
        have f1 : wc.cell? ⟨mb, 0, none⟩ = some (.pointer (some ⟨p, 0, none⟩)) := blk_cell hM.str.cmp.blk 0
        have zc := hM.st.kept.size
        have l8 := m8.lt
        have l9 := m9.lt
        obtain ⟨r, hr⟩ : ∃ r, r = andG hh.1 hh.2.1 lo.2.1 := ⟨_, rfl⟩
        have HR := Lib.hid hr
        have s1 := andG_spec hM.str.cmp.graph.wf HG2.out.2.2.1 (HG2.out.2.1.ok HG1.out.2.2.1)
        rw [← hr] at s1
        have hl3 := s1.2.1.le
        have OK := Lib.hid (show hh.1.ok hh.2.1 ∧ hh.1.ok lo.2.1 ∧ hh.1.ok hh.2.2 ∧ hh.1.ok lo.2.2 from ⟨HG2.out.2.2.1, HG2.out.2.1.ok HG1.out.2.2.1, HG2.out.2.2.2, HG2.out.2.1.ok HG1.out.2.2.2⟩)
        have OKR := Lib.hid s1
        clear hM m6 m8 m9 hr s1
        go_upto_region 5 with (fail)
        go_cut [10] (fun s10 wx => ∃ b10 F3, s10 = .pointer (some ⟨b10, 0, none⟩) ∧ Mid w mb p cbx sbx F n ca cb ada adb la lb sg so wx F3 r.1 ∧ Mine wx (mb :: F3) b10 (.cells #[.int .u32 (r.2 : Nat), .int .u32 0] 122 (0, 0)) ∧ Mine wx (mb :: F3) b8 (.cells #[.int .u32 (lo.2.1 : Nat), .int .u32 (lo.2.2 : Nat)] 122 (0, 0)) ∧ Mine wx (mb :: F3) b9 (.cells #[.int .u32 (hh.2.1 : Nat), .int .u32 (hh.2.2 : Nat)] 122 (0, 0)) ∧ Mine wx (mb :: F3) w.heap.size (.cells #[.int .u32 0, .int .u32 0] 122 (0, 0)) ∧ w.heap.size < b10 ∧ b8 ≠ b10 ∧ b9 ≠ b10)
        case first =>
          refine wp_region_held_drew (S := fun w' => w'.cell? ⟨cbx, 0, none⟩ = some (.pointer (some ⟨mb, 0, none⟩)) ∧ w'.cell? ⟨mb, 0, none⟩ = some (.pointer (some ⟨p, 0, none⟩)) ∧ (w'.cell? ⟨b8, 0, none⟩ = some (.int .u32 (lo.2.1 : Nat)) ∧ w'.cell? ⟨b8, 1, none⟩ = some (.int .u32 (lo.2.2 : Nat))) ∧ (w'.cell? ⟨b9, 0, none⟩ = some (.int .u32 (hh.2.1 : Nat)) ∧ w'.cell? ⟨b9, 1, none⟩ = some (.int .u32 (hh.2.2 : Nat)))) (by kernel_rfl) ?_ (fun hHeld => ?_)
          · try dsimp only
            exact s5_of (lo := lo.2) (hi := hh.2) HM.out.drew M8.out.drew M9.out.drew
          refine wpAnyH_take (i := 0) (v := ?_) rfl (by kernel_rfl) (by kernel_rfl) (by kernel_rfl) (fun _ _ _ h => h) (Or.inl ⟨by rfl, ?_⟩) (by assumption) ?_
          rotate_left
          · intro w hSw; (try dsimp only at hSw); go_simp
            all_goals with_reducible rfl
          try simp only [Act.put, List.setIfInBounds_toArray, List.set_cons_zero, List.set_cons_succ]
          refine wpAnyH_take (i := 1) (v := ?_) rfl (by kernel_rfl) (by kernel_rfl) (by kernel_rfl) (fun _ _ _ h => h) (Or.inl ⟨by rfl, ?_⟩) (by assumption) ?_
          rotate_left
          · intro w hSw; (try dsimp only at hSw); go_simp
            all_goals with_reducible rfl
          try simp only [Act.put, List.setIfInBounds_toArray, List.set_cons_zero, List.set_cons_succ]
          refine wpAnyH_take (i := 2) (v := ?_) rfl (by kernel_rfl) (by kernel_rfl) (by kernel_rfl) (fun _ _ _ h => h) (Or.inl ⟨by rfl, ?_⟩) (by assumption) ?_
          rotate_left
          · intro w hSw; (try dsimp only at hSw); go_simp
            all_goals with_reducible rfl
          try simp only [Act.put, List.setIfInBounds_toArray, List.set_cons_zero, List.set_cons_succ]
          refine wpAnyH_take (i := 3) (v := ?_) rfl (by kernel_rfl) (by kernel_rfl) (by kernel_rfl) (fun _ _ _ h => h) (Or.inl ⟨by rfl, ?_⟩) (by assumption) ?_
          rotate_left
          · intro w hSw; (try dsimp only at hSw); go_simp
            all_goals with_reducible rfl
          try simp only [Act.put, List.setIfInBounds_toArray, List.set_cons_zero, List.set_cons_succ]
          refine wpAnyH_take (i := 4) (v := ?_) rfl (by kernel_rfl) (by kernel_rfl) (by kernel_rfl) (fun _ _ _ h => h) (Or.inl ⟨by rfl, ?_⟩) (by assumption) ?_
          rotate_left
          · intro w hSw; (try dsimp only at hSw); go_simp
            all_goals with_reducible rfl
          try simp only [Act.put, List.setIfInBounds_toArray, List.set_cons_zero, List.set_cons_succ]
          refine wpAnyH_take (i := 5) (v := ?_) rfl (by kernel_rfl) (by kernel_rfl) (by kernel_rfl) (fun _ _ _ h => h) (Or.inl ⟨by rfl, ?_⟩) (by assumption) ?_
          rotate_left
          · intro w hSw; (try dsimp only at hSw); go_simp
            all_goals with_reducible rfl
          try simp only [Act.put, List.setIfInBounds_toArray, List.set_cons_zero, List.set_cons_succ]
          refine wpAnyH_take (i := 6) (v := ?_) rfl (by kernel_rfl) (by kernel_rfl) (by kernel_rfl) (fun _ _ _ h => h) (Or.inl ⟨by rfl, ?_⟩) (by assumption) ?_
          rotate_left
          · intro w hSw; (try dsimp only at hSw); go_simp
            all_goals with_reducible rfl
          try simp only [Act.put, List.setIfInBounds_toArray, List.set_cons_zero, List.set_cons_succ]
          refine wpAnyH_take (i := 7) (v := ?_) rfl (by kernel_rfl) (by kernel_rfl) (by kernel_rfl) (fun _ _ _ h => h) (Or.inl ⟨by rfl, ?_⟩) (by assumption) ?_
          rotate_left
          · intro w hSw; (try dsimp only at hSw); go_simp
            all_goals with_reducible rfl
          try simp only [Act.put, List.setIfInBounds_toArray, List.set_cons_zero, List.set_cons_succ]
          refine wpAnyH_take (i := 8) (v := ?_) rfl (by kernel_rfl) (by kernel_rfl) (by kernel_rfl) (fun _ _ _ h => h) (Or.inl ⟨by rfl, ?_⟩) (by assumption) ?_
          rotate_left
          · intro w hSw; (try dsimp only at hSw); go_simp
            all_goals with_reducible rfl
          try simp only [Act.put, List.setIfInBounds_toArray, List.set_cons_zero, List.set_cons_succ]
          refine wpAnyH_take (i := 9) (v := ?_) rfl (by kernel_rfl) (by kernel_rfl) (by kernel_rfl) (fun _ _ _ h => h) (Or.inl ⟨by rfl, ?_⟩) (by assumption) ?_
          rotate_left
          · intro w hSw; (try dsimp only at hSw); go_simp
            all_goals with_reducible rfl
          try simp only [Act.put, List.setIfInBounds_toArray, List.set_cons_zero, List.set_cons_succ]
          refine wpAnyH_ready (rs := [10, 13]) (by kernel_rfl) (by simp) ?_
          refine AllReadyH.cons rfl (fun K hK => ?_) ?_
          · go_simp
            refine hK.out _ _ ?_ (fun hHeld => ?_)
            · try dsimp only
              refine s5_of (?_ : Mid w mb p cbx sbx F n ca cb ada adb la lb sg so _ F2 hh.1) (b8 := b8) (b9 := b9) (lo := lo.2) (hi := hh.2) ?_ ?_
              · (repeat (first | with_reducible exact HM3.out | with_reducible exact HM.out | with_reducible apply Mid.alloc | with_reducible apply Mid.drew | with_reducible refine Mid.row H.out (by omega) M10.out.out ?_))
              · (repeat (first | with_reducible exact M8.out | (with_reducible refine Mine.new ?_ ?_; focus (simp; done)) | with_reducible apply Mine.alloc | with_reducible apply Mine.drew | with_reducible refine Mine.step ?_ HST3.out | with_reducible refine Mine.rowOther ?_ (by omega)))
              · (repeat (first | with_reducible exact M9.out | (with_reducible refine Mine.new ?_ ?_; focus (simp; done)) | with_reducible apply Mine.alloc | with_reducible apply Mine.drew | with_reducible refine Mine.step ?_ HST3.out | with_reducible refine Mine.rowOther ?_ (by omega)))
            clear hK K
            try simp only [Act.put, List.setIfInBounds_toArray, List.set_cons_zero, List.set_cons_succ]
            refine wpAnyH_ready (rs := [11, 13]) (by kernel_rfl) (by simp) ?_
            refine AllReadyH.cons rfl (fun K hK => ?_) ?_
            · go_simp
              go_at_call 121
              refine Calls.mono (cm_and (x := hh.2.1) (y := lo.2.1) (t := 24) (StrAt.cmp (Mid.str (?_ : Mid w mb p cbx sbx F n ca cb ada adb la lb sg so _ F2 hh.1))) ?_ (by omega) OK.out.1 OK.out.2.1) ?_
              · (repeat (first | with_reducible exact HM3.out | with_reducible exact HM.out | with_reducible apply Mid.alloc | with_reducible apply Mid.drew))
              · (repeat (first | with_reducible exact M8.out | (with_reducible refine Mine.new ?_ ?_; focus (simp; done)) | with_reducible apply Mine.alloc | with_reducible apply Mine.drew | with_reducible refine Mine.step ?_ HST3.out))
                all_goals (intro x hx; first | (have := HM3.out.str.cmp.far x hx; simp; omega) | (have := HM.out.str.cmp.far x hx; simp; omega))
              rw [← HR.out]
              rintro e w3 ⟨F3, rfl, h3, hst3⟩
              have HM3 : Hid (Mid w mb p cbx sbx F n ca cb ada adb la lb sg so w3 F3 r.1) := by
                refine Lib.hid (Mid.call (g2 := hh.1) ?_ hst3 h3)
                (repeat (first | with_reducible exact HM3.out | with_reducible exact HM.out | with_reducible apply Mid.alloc | with_reducible apply Mid.drew))
              have HST3 := Lib.hid hst3
              have z3 := hst3.kept.size
              (try simp at z3)
              clear hst3 h3
              try dsimp only
              refine hK.out _ _ ?_ (fun hHeld => ?_)
              · try dsimp only
                refine s5_of (?_ : Mid w mb p cbx sbx F n ca cb ada adb la lb sg so _ F3 r.1) (b8 := b8) (b9 := b9) (lo := lo.2) (hi := hh.2) ?_ ?_
                · (repeat (first | with_reducible exact HM3.out | with_reducible exact HM.out | with_reducible apply Mid.alloc | with_reducible apply Mid.drew | with_reducible refine Mid.row H.out (by omega) M10.out.out ?_))
                · (repeat (first | with_reducible exact M8.out | (with_reducible refine Mine.new ?_ ?_; focus (simp; done)) | with_reducible apply Mine.alloc | with_reducible apply Mine.drew | with_reducible refine Mine.step ?_ HST3.out | with_reducible refine Mine.rowOther ?_ (by omega)))
                · (repeat (first | with_reducible exact M9.out | (with_reducible refine Mine.new ?_ ?_; focus (simp; done)) | with_reducible apply Mine.alloc | with_reducible apply Mine.drew | with_reducible refine Mine.step ?_ HST3.out | with_reducible refine Mine.rowOther ?_ (by omega)))
              clear hK K
              try simp only [Act.put, List.setIfInBounds_toArray, List.set_cons_zero, List.set_cons_succ]
              refine wpAnyH_ready (rs := [12, 13]) (by kernel_rfl) (by simp) ?_
              refine AllReadyH.cons rfl (fun K hK => ?_) ?_
              · go_simp
                refine hK.out _ _ ?_ (fun hHeld => ?_)
                · try dsimp only
                  refine s5_of (?_ : Mid w mb p cbx sbx F n ca cb ada adb la lb sg so _ F3 r.1) (b8 := b8) (b9 := b9) (lo := lo.2) (hi := hh.2) ?_ ?_
                  · (repeat (first | with_reducible exact HM3.out | with_reducible exact HM.out | with_reducible apply Mid.alloc | with_reducible apply Mid.drew | with_reducible refine Mid.row H.out (by omega) M10.out.out ?_))
                  · (repeat (first | with_reducible exact M8.out | (with_reducible refine Mine.new ?_ ?_; focus (simp; done)) | with_reducible apply Mine.alloc | with_reducible apply Mine.drew | with_reducible refine Mine.step ?_ HST3.out | with_reducible refine Mine.rowOther ?_ (by omega)))
                  · (repeat (first | with_reducible exact M9.out | (with_reducible refine Mine.new ?_ ?_; focus (simp; done)) | with_reducible apply Mine.alloc | with_reducible apply Mine.drew | with_reducible refine Mine.step ?_ HST3.out | with_reducible refine Mine.rowOther ?_ (by omega)))
                clear hK K
                try simp only [Act.put, List.setIfInBounds_toArray, List.set_cons_zero, List.set_cons_succ]
                refine wpAnyH_ready (rs := [13]) (by kernel_rfl) (by simp) ?_
                refine AllReadyH.cons rfl (fun K hK => ?_) ?_
                · go_simp
                  refine hK.out _ _ ?_ (fun hHeld => ?_)
                  · try dsimp only
                    refine s5_of (?_ : Mid w mb p cbx sbx F n ca cb ada adb la lb sg so _ F3 r.1) (b8 := b8) (b9 := b9) (lo := lo.2) (hi := hh.2) ?_ ?_
                    · (repeat (first | with_reducible exact HM3.out | with_reducible exact HM.out | with_reducible apply Mid.alloc | with_reducible apply Mid.drew | with_reducible refine Mid.row H.out (by omega) M10.out.out ?_))
                    · (repeat (first | with_reducible exact M8.out | (with_reducible refine Mine.new ?_ ?_; focus (simp; done)) | with_reducible apply Mine.alloc | with_reducible apply Mine.drew | with_reducible refine Mine.step ?_ HST3.out | with_reducible refine Mine.rowOther ?_ (by omega)))
                    · (repeat (first | with_reducible exact M9.out | (with_reducible refine Mine.new ?_ ?_; focus (simp; done)) | with_reducible apply Mine.alloc | with_reducible apply Mine.drew | with_reducible refine Mine.step ?_ HST3.out | with_reducible refine Mine.rowOther ?_ (by omega)))
                  clear hK K
                  try simp only [Act.put, List.setIfInBounds_toArray, List.set_cons_zero, List.set_cons_succ]
                  refine wpAnyH_ready (rs := [14]) (by kernel_rfl) (by simp) ?_
                  refine AllReadyH.cons rfl (fun K hK => ?_) ?_
                  · have M10 : Hid (Mine (w3.alloc (.cells #[.int .u32 0, .int .u32 0] 122)) (mb :: F3) (w3.heap.size) (.cells #[.int .u32 0, .int .u32 0] 122 (0, 0))) := by
                      refine Lib.hid ?_
                      (repeat (first | with_reducible exact M8.out | (with_reducible refine Mine.new ?_ ?_; focus (simp; done)) | with_reducible apply Mine.alloc | with_reducible apply Mine.drew | with_reducible refine Mine.step ?_ HST3.out))
                      all_goals (intro x hx; first | (have := HM3.out.str.cmp.far x hx; simp; omega) | (have := HM.out.str.cmp.far x hx; simp; omega))
                    refine step_row (e := 122) (t := 122) (old := #[.int .u32 0, .int .u32 0]) (cells := #[.int .u32 (r.2 : Nat), .int .u32 0]) rfl rfl rfl rfl (by kernel_rfl) rfl (by simp [Value.oneCell']) M10.out.heap ?_
                    refine hK.out _ _ ?_ (fun hHeld => ?_)
                    · try dsimp only
                      refine s5_of (?_ : Mid w mb p cbx sbx F n ca cb ada adb la lb sg so _ F3 r.1) (b8 := b8) (b9 := b9) (lo := lo.2) (hi := hh.2) ?_ ?_
                      · (repeat (first | with_reducible exact HM3.out | with_reducible exact HM.out | with_reducible apply Mid.alloc | with_reducible apply Mid.drew | with_reducible refine Mid.row H.out (by omega) M10.out.out ?_))
                      · (repeat (first | with_reducible exact M8.out | (with_reducible refine Mine.new ?_ ?_; focus (simp; done)) | with_reducible apply Mine.alloc | with_reducible apply Mine.drew | with_reducible refine Mine.step ?_ HST3.out | with_reducible refine Mine.rowOther ?_ (by omega)))
                      · (repeat (first | with_reducible exact M9.out | (with_reducible refine Mine.new ?_ ?_; focus (simp; done)) | with_reducible apply Mine.alloc | with_reducible apply Mine.drew | with_reducible refine Mine.step ?_ HST3.out | with_reducible refine Mine.rowOther ?_ (by omega)))
                    clear hK K
                    try simp only [Act.put, List.setIfInBounds_toArray, List.set_cons_zero, List.set_cons_succ]
                    refine wpAnyH_done (by kernel_rfl) ?_ _
                    go_wp2_with fail
                    go_meet
                    refine ⟨_, F3, rfl, ?_, Mine.row M10.out, ?_, ?_, ?_, by omega, by omega, by omega⟩
                    · (repeat (first | with_reducible exact HM3.out | with_reducible exact HM.out | with_reducible apply Mid.alloc | with_reducible apply Mid.drew | with_reducible refine Mid.row H.out (by omega) M10.out.out ?_))
                    · (repeat (first | with_reducible exact M8.out | (with_reducible refine Mine.new ?_ ?_; focus (simp; done)) | with_reducible apply Mine.alloc | with_reducible apply Mine.drew | with_reducible refine Mine.step ?_ HST3.out | with_reducible refine Mine.rowOther ?_ (by omega)))
                    · (repeat (first | with_reducible exact M9.out | (with_reducible refine Mine.new ?_ ?_; focus (simp; done)) | with_reducible apply Mine.alloc | with_reducible apply Mine.drew | with_reducible refine Mine.step ?_ HST3.out | with_reducible refine Mine.rowOther ?_ (by omega)))
                    · (repeat (first | with_reducible exact M6.out | (with_reducible refine Mine.new ?_ ?_; focus (simp; done)) | with_reducible apply Mine.alloc | with_reducible apply Mine.drew | with_reducible refine Mine.step ?_ HST3.out | with_reducible refine Mine.rowOther ?_ (by omega)))
                  exact AllReadyH.nil
                exact AllReadyH.nil
              refine AllReadyH.cons rfl (fun K hK => ?_) ?_
              · go_simp
                refine hK.out _ _ ?_ (fun hHeld => ?_)
                · try dsimp only
                  refine s5_of (?_ : Mid w mb p cbx sbx F n ca cb ada adb la lb sg so _ F3 r.1) (b8 := b8) (b9 := b9) (lo := lo.2) (hi := hh.2) ?_ ?_
                  · (repeat (first | with_reducible exact HM3.out | with_reducible exact HM.out | with_reducible apply Mid.alloc | with_reducible apply Mid.drew | with_reducible refine Mid.row H.out (by omega) M10.out.out ?_))
                  · (repeat (first | with_reducible exact M8.out | (with_reducible refine Mine.new ?_ ?_; focus (simp; done)) | with_reducible apply Mine.alloc | with_reducible apply Mine.drew | with_reducible refine Mine.step ?_ HST3.out | with_reducible refine Mine.rowOther ?_ (by omega)))
                  · (repeat (first | with_reducible exact M9.out | (with_reducible refine Mine.new ?_ ?_; focus (simp; done)) | with_reducible apply Mine.alloc | with_reducible apply Mine.drew | with_reducible refine Mine.step ?_ HST3.out | with_reducible refine Mine.rowOther ?_ (by omega)))
                clear hK K
                try simp only [Act.put, List.setIfInBounds_toArray, List.set_cons_zero, List.set_cons_succ]
                refine wpAnyH_ready (rs := [12]) (by kernel_rfl) (by simp) ?_
                refine AllReadyH.cons rfl (fun K hK => ?_) ?_
                · go_simp
                  refine hK.out _ _ ?_ (fun hHeld => ?_)
                  · try dsimp only
                    refine s5_of (?_ : Mid w mb p cbx sbx F n ca cb ada adb la lb sg so _ F3 r.1) (b8 := b8) (b9 := b9) (lo := lo.2) (hi := hh.2) ?_ ?_
                    · (repeat (first | with_reducible exact HM3.out | with_reducible exact HM.out | with_reducible apply Mid.alloc | with_reducible apply Mid.drew | with_reducible refine Mid.row H.out (by omega) M10.out.out ?_))
                    · (repeat (first | with_reducible exact M8.out | (with_reducible refine Mine.new ?_ ?_; focus (simp; done)) | with_reducible apply Mine.alloc | with_reducible apply Mine.drew | with_reducible refine Mine.step ?_ HST3.out | with_reducible refine Mine.rowOther ?_ (by omega)))
                    · (repeat (first | with_reducible exact M9.out | (with_reducible refine Mine.new ?_ ?_; focus (simp; done)) | with_reducible apply Mine.alloc | with_reducible apply Mine.drew | with_reducible refine Mine.step ?_ HST3.out | with_reducible refine Mine.rowOther ?_ (by omega)))
                  clear hK K
                  try simp only [Act.put, List.setIfInBounds_toArray, List.set_cons_zero, List.set_cons_succ]
                  refine wpAnyH_ready (rs := [14]) (by kernel_rfl) (by simp) ?_
                  refine AllReadyH.cons rfl (fun K hK => ?_) ?_
                  · have M10 : Hid (Mine (w3.alloc (.cells #[.int .u32 0, .int .u32 0] 122)) (mb :: F3) (w3.heap.size) (.cells #[.int .u32 0, .int .u32 0] 122 (0, 0))) := by
                      refine Lib.hid ?_
                      (repeat (first | with_reducible exact M8.out | (with_reducible refine Mine.new ?_ ?_; focus (simp; done)) | with_reducible apply Mine.alloc | with_reducible apply Mine.drew | with_reducible refine Mine.step ?_ HST3.out))
                      all_goals (intro x hx; first | (have := HM3.out.str.cmp.far x hx; simp; omega) | (have := HM.out.str.cmp.far x hx; simp; omega))
                    refine step_row (e := 122) (t := 122) (old := #[.int .u32 0, .int .u32 0]) (cells := #[.int .u32 (r.2 : Nat), .int .u32 0]) rfl rfl rfl rfl (by kernel_rfl) rfl (by simp [Value.oneCell']) M10.out.heap ?_
                    refine hK.out _ _ ?_ (fun hHeld => ?_)
                    · try dsimp only
                      refine s5_of (?_ : Mid w mb p cbx sbx F n ca cb ada adb la lb sg so _ F3 r.1) (b8 := b8) (b9 := b9) (lo := lo.2) (hi := hh.2) ?_ ?_
                      · (repeat (first | with_reducible exact HM3.out | with_reducible exact HM.out | with_reducible apply Mid.alloc | with_reducible apply Mid.drew | with_reducible refine Mid.row H.out (by omega) M10.out.out ?_))
                      · (repeat (first | with_reducible exact M8.out | (with_reducible refine Mine.new ?_ ?_; focus (simp; done)) | with_reducible apply Mine.alloc | with_reducible apply Mine.drew | with_reducible refine Mine.step ?_ HST3.out | with_reducible refine Mine.rowOther ?_ (by omega)))
                      · (repeat (first | with_reducible exact M9.out | (with_reducible refine Mine.new ?_ ?_; focus (simp; done)) | with_reducible apply Mine.alloc | with_reducible apply Mine.drew | with_reducible refine Mine.step ?_ HST3.out | with_reducible refine Mine.rowOther ?_ (by omega)))
                    clear hK K
                    try simp only [Act.put, List.setIfInBounds_toArray, List.set_cons_zero, List.set_cons_succ]
                    refine wpAnyH_done (by kernel_rfl) ?_ _
                    go_wp2_with fail
                    go_meet
                    refine ⟨_, F3, rfl, ?_, Mine.row M10.out, ?_, ?_, ?_, by omega, by omega, by omega⟩
                    · (repeat (first | with_reducible exact HM3.out | with_reducible exact HM.out | with_reducible apply Mid.alloc | with_reducible apply Mid.drew | with_reducible refine Mid.row H.out (by omega) M10.out.out ?_))
                    · (repeat (first | with_reducible exact M8.out | (with_reducible refine Mine.new ?_ ?_; focus (simp; done)) | with_reducible apply Mine.alloc | with_reducible apply Mine.drew | with_reducible refine Mine.step ?_ HST3.out | with_reducible refine Mine.rowOther ?_ (by omega)))
                    · (repeat (first | with_reducible exact M9.out | (with_reducible refine Mine.new ?_ ?_; focus (simp; done)) | with_reducible apply Mine.alloc | with_reducible apply Mine.drew | with_reducible refine Mine.step ?_ HST3.out | with_reducible refine Mine.rowOther ?_ (by omega)))
                    · (repeat (first | with_reducible exact M6.out | (with_reducible refine Mine.new ?_ ?_; focus (simp; done)) | with_reducible apply Mine.alloc | with_reducible apply Mine.drew | with_reducible refine Mine.step ?_ HST3.out | with_reducible refine Mine.rowOther ?_ (by omega)))
                  exact AllReadyH.nil
                exact AllReadyH.nil
              exact AllReadyH.nil
            refine AllReadyH.cons rfl (fun K hK => ?_) ?_
            · go_simp
              refine hK.out _ _ ?_ (fun hHeld => ?_)
              · try dsimp only
                refine s5_of (?_ : Mid w mb p cbx sbx F n ca cb ada adb la lb sg so _ F2 hh.1) (b8 := b8) (b9 := b9) (lo := lo.2) (hi := hh.2) ?_ ?_
                · (repeat (first | with_reducible exact HM3.out | with_reducible exact HM.out | with_reducible apply Mid.alloc | with_reducible apply Mid.drew | with_reducible refine Mid.row H.out (by omega) M10.out.out ?_))
                · (repeat (first | with_reducible exact M8.out | (with_reducible refine Mine.new ?_ ?_; focus (simp; done)) | with_reducible apply Mine.alloc | with_reducible apply Mine.drew | with_reducible refine Mine.step ?_ HST3.out | with_reducible refine Mine.rowOther ?_ (by omega)))
                · (repeat (first | with_reducible exact M9.out | (with_reducible refine Mine.new ?_ ?_; focus (simp; done)) | with_reducible apply Mine.alloc | with_reducible apply Mine.drew | with_reducible refine Mine.step ?_ HST3.out | with_reducible refine Mine.rowOther ?_ (by omega)))
              clear hK K
              try simp only [Act.put, List.setIfInBounds_toArray, List.set_cons_zero, List.set_cons_succ]
              refine wpAnyH_ready (rs := [11]) (by kernel_rfl) (by simp) ?_
              refine AllReadyH.cons rfl (fun K hK => ?_) ?_
              · go_simp
                go_at_call 121
                refine Calls.mono (cm_and (x := hh.2.1) (y := lo.2.1) (t := 24) (StrAt.cmp (Mid.str (?_ : Mid w mb p cbx sbx F n ca cb ada adb la lb sg so _ F2 hh.1))) ?_ (by omega) OK.out.1 OK.out.2.1) ?_
                · (repeat (first | with_reducible exact HM3.out | with_reducible exact HM.out | with_reducible apply Mid.alloc | with_reducible apply Mid.drew))
                · (repeat (first | with_reducible exact M8.out | (with_reducible refine Mine.new ?_ ?_; focus (simp; done)) | with_reducible apply Mine.alloc | with_reducible apply Mine.drew | with_reducible refine Mine.step ?_ HST3.out))
                  all_goals (intro x hx; first | (have := HM3.out.str.cmp.far x hx; simp; omega) | (have := HM.out.str.cmp.far x hx; simp; omega))
                rw [← HR.out]
                rintro e w3 ⟨F3, rfl, h3, hst3⟩
                have HM3 : Hid (Mid w mb p cbx sbx F n ca cb ada adb la lb sg so w3 F3 r.1) := by
                  refine Lib.hid (Mid.call (g2 := hh.1) ?_ hst3 h3)
                  (repeat (first | with_reducible exact HM3.out | with_reducible exact HM.out | with_reducible apply Mid.alloc | with_reducible apply Mid.drew))
                have HST3 := Lib.hid hst3
                have z3 := hst3.kept.size
                (try simp at z3)
                clear hst3 h3
                try dsimp only
                refine hK.out _ _ ?_ (fun hHeld => ?_)
                · try dsimp only
                  refine s5_of (?_ : Mid w mb p cbx sbx F n ca cb ada adb la lb sg so _ F3 r.1) (b8 := b8) (b9 := b9) (lo := lo.2) (hi := hh.2) ?_ ?_
                  · (repeat (first | with_reducible exact HM3.out | with_reducible exact HM.out | with_reducible apply Mid.alloc | with_reducible apply Mid.drew | with_reducible refine Mid.row H.out (by omega) M10.out.out ?_))
                  · (repeat (first | with_reducible exact M8.out | (with_reducible refine Mine.new ?_ ?_; focus (simp; done)) | with_reducible apply Mine.alloc | with_reducible apply Mine.drew | with_reducible refine Mine.step ?_ HST3.out | with_reducible refine Mine.rowOther ?_ (by omega)))
                  · (repeat (first | with_reducible exact M9.out | (with_reducible refine Mine.new ?_ ?_; focus (simp; done)) | with_reducible apply Mine.alloc | with_reducible apply Mine.drew | with_reducible refine Mine.step ?_ HST3.out | with_reducible refine Mine.rowOther ?_ (by omega)))
                clear hK K
                try simp only [Act.put, List.setIfInBounds_toArray, List.set_cons_zero, List.set_cons_succ]
                refine wpAnyH_ready (rs := [12]) (by kernel_rfl) (by simp) ?_
                refine AllReadyH.cons rfl (fun K hK => ?_) ?_
                · go_simp
                  refine hK.out _ _ ?_ (fun hHeld => ?_)
                  · try dsimp only
                    refine s5_of (?_ : Mid w mb p cbx sbx F n ca cb ada adb la lb sg so _ F3 r.1) (b8 := b8) (b9 := b9) (lo := lo.2) (hi := hh.2) ?_ ?_
                    · (repeat (first | with_reducible exact HM3.out | with_reducible exact HM.out | with_reducible apply Mid.alloc | with_reducible apply Mid.drew | with_reducible refine Mid.row H.out (by omega) M10.out.out ?_))
                    · (repeat (first | with_reducible exact M8.out | (with_reducible refine Mine.new ?_ ?_; focus (simp; done)) | with_reducible apply Mine.alloc | with_reducible apply Mine.drew | with_reducible refine Mine.step ?_ HST3.out | with_reducible refine Mine.rowOther ?_ (by omega)))
                    · (repeat (first | with_reducible exact M9.out | (with_reducible refine Mine.new ?_ ?_; focus (simp; done)) | with_reducible apply Mine.alloc | with_reducible apply Mine.drew | with_reducible refine Mine.step ?_ HST3.out | with_reducible refine Mine.rowOther ?_ (by omega)))
                  clear hK K
                  try simp only [Act.put, List.setIfInBounds_toArray, List.set_cons_zero, List.set_cons_succ]
                  refine wpAnyH_ready (rs := [14]) (by kernel_rfl) (by simp) ?_
                  refine AllReadyH.cons rfl (fun K hK => ?_) ?_
                  · have M10 : Hid (Mine w3 (mb :: F3) (wc.heap.size + 1) (.cells #[.int .u32 0, .int .u32 0] 122 (0, 0))) := by
                      refine Lib.hid ?_
                      (repeat (first | with_reducible exact M8.out | (with_reducible refine Mine.new ?_ ?_; focus (simp; done)) | with_reducible apply Mine.alloc | with_reducible apply Mine.drew | with_reducible refine Mine.step ?_ HST3.out))
                      all_goals (intro x hx; first | (have := HM3.out.str.cmp.far x hx; simp; omega) | (have := HM.out.str.cmp.far x hx; simp; omega))
                    refine step_row (e := 122) (t := 122) (old := #[.int .u32 0, .int .u32 0]) (cells := #[.int .u32 (r.2 : Nat), .int .u32 0]) rfl rfl rfl rfl (by kernel_rfl) rfl (by simp [Value.oneCell']) M10.out.heap ?_
                    refine hK.out _ _ ?_ (fun hHeld => ?_)
                    · try dsimp only
                      refine s5_of (?_ : Mid w mb p cbx sbx F n ca cb ada adb la lb sg so _ F3 r.1) (b8 := b8) (b9 := b9) (lo := lo.2) (hi := hh.2) ?_ ?_
                      · (repeat (first | with_reducible exact HM3.out | with_reducible exact HM.out | with_reducible apply Mid.alloc | with_reducible apply Mid.drew | with_reducible refine Mid.row H.out (by omega) M10.out.out ?_))
                      · (repeat (first | with_reducible exact M8.out | (with_reducible refine Mine.new ?_ ?_; focus (simp; done)) | with_reducible apply Mine.alloc | with_reducible apply Mine.drew | with_reducible refine Mine.step ?_ HST3.out | with_reducible refine Mine.rowOther ?_ (by omega)))
                      · (repeat (first | with_reducible exact M9.out | (with_reducible refine Mine.new ?_ ?_; focus (simp; done)) | with_reducible apply Mine.alloc | with_reducible apply Mine.drew | with_reducible refine Mine.step ?_ HST3.out | with_reducible refine Mine.rowOther ?_ (by omega)))
                    clear hK K
                    try simp only [Act.put, List.setIfInBounds_toArray, List.set_cons_zero, List.set_cons_succ]
                    refine wpAnyH_done (by kernel_rfl) ?_ _
                    go_wp2_with fail
                    go_meet
                    refine ⟨_, F3, rfl, ?_, Mine.row M10.out, ?_, ?_, ?_, by omega, by omega, by omega⟩
                    · (repeat (first | with_reducible exact HM3.out | with_reducible exact HM.out | with_reducible apply Mid.alloc | with_reducible apply Mid.drew | with_reducible refine Mid.row H.out (by omega) M10.out.out ?_))
                    · (repeat (first | with_reducible exact M8.out | (with_reducible refine Mine.new ?_ ?_; focus (simp; done)) | with_reducible apply Mine.alloc | with_reducible apply Mine.drew | with_reducible refine Mine.step ?_ HST3.out | with_reducible refine Mine.rowOther ?_ (by omega)))
                    · (repeat (first | with_reducible exact M9.out | (with_reducible refine Mine.new ?_ ?_; focus (simp; done)) | with_reducible apply Mine.alloc | with_reducible apply Mine.drew | with_reducible refine Mine.step ?_ HST3.out | with_reducible refine Mine.rowOther ?_ (by omega)))
                    · (repeat (first | with_reducible exact M6.out | (with_reducible refine Mine.new ?_ ?_; focus (simp; done)) | with_reducible apply Mine.alloc | with_reducible apply Mine.drew | with_reducible refine Mine.step ?_ HST3.out | with_reducible refine Mine.rowOther ?_ (by omega)))
                  exact AllReadyH.nil
                exact AllReadyH.nil
              exact AllReadyH.nil
            exact AllReadyH.nil
          refine AllReadyH.cons rfl (fun K hK => ?_) ?_
          · go_simp
            refine hK.out _ _ ?_ (fun hHeld => ?_)
            · try dsimp only
              refine s5_of (?_ : Mid w mb p cbx sbx F n ca cb ada adb la lb sg so _ F2 hh.1) (b8 := b8) (b9 := b9) (lo := lo.2) (hi := hh.2) ?_ ?_
              · (repeat (first | with_reducible exact HM3.out | with_reducible exact HM.out | with_reducible apply Mid.alloc | with_reducible apply Mid.drew | with_reducible refine Mid.row H.out (by omega) M10.out.out ?_))
              · (repeat (first | with_reducible exact M8.out | (with_reducible refine Mine.new ?_ ?_; focus (simp; done)) | with_reducible apply Mine.alloc | with_reducible apply Mine.drew | with_reducible refine Mine.step ?_ HST3.out | with_reducible refine Mine.rowOther ?_ (by omega)))
              · (repeat (first | with_reducible exact M9.out | (with_reducible refine Mine.new ?_ ?_; focus (simp; done)) | with_reducible apply Mine.alloc | with_reducible apply Mine.drew | with_reducible refine Mine.step ?_ HST3.out | with_reducible refine Mine.rowOther ?_ (by omega)))
            clear hK K
            try simp only [Act.put, List.setIfInBounds_toArray, List.set_cons_zero, List.set_cons_succ]
            refine wpAnyH_ready (rs := [10]) (by kernel_rfl) (by simp) ?_
            refine AllReadyH.cons rfl (fun K hK => ?_) ?_
            · go_simp
              refine hK.out _ _ ?_ (fun hHeld => ?_)
              · try dsimp only
                refine s5_of (?_ : Mid w mb p cbx sbx F n ca cb ada adb la lb sg so _ F2 hh.1) (b8 := b8) (b9 := b9) (lo := lo.2) (hi := hh.2) ?_ ?_
                · (repeat (first | with_reducible exact HM3.out | with_reducible exact HM.out | with_reducible apply Mid.alloc | with_reducible apply Mid.drew | with_reducible refine Mid.row H.out (by omega) M10.out.out ?_))
                · (repeat (first | with_reducible exact M8.out | (with_reducible refine Mine.new ?_ ?_; focus (simp; done)) | with_reducible apply Mine.alloc | with_reducible apply Mine.drew | with_reducible refine Mine.step ?_ HST3.out | with_reducible refine Mine.rowOther ?_ (by omega)))
                · (repeat (first | with_reducible exact M9.out | (with_reducible refine Mine.new ?_ ?_; focus (simp; done)) | with_reducible apply Mine.alloc | with_reducible apply Mine.drew | with_reducible refine Mine.step ?_ HST3.out | with_reducible refine Mine.rowOther ?_ (by omega)))
              clear hK K
              try simp only [Act.put, List.setIfInBounds_toArray, List.set_cons_zero, List.set_cons_succ]
              refine wpAnyH_ready (rs := [11]) (by kernel_rfl) (by simp) ?_
              refine AllReadyH.cons rfl (fun K hK => ?_) ?_
              · go_simp
                go_at_call 121
                refine Calls.mono (cm_and (x := hh.2.1) (y := lo.2.1) (t := 24) (StrAt.cmp (Mid.str (?_ : Mid w mb p cbx sbx F n ca cb ada adb la lb sg so _ F2 hh.1))) ?_ (by omega) OK.out.1 OK.out.2.1) ?_
                · (repeat (first | with_reducible exact HM3.out | with_reducible exact HM.out | with_reducible apply Mid.alloc | with_reducible apply Mid.drew))
                · (repeat (first | with_reducible exact M8.out | (with_reducible refine Mine.new ?_ ?_; focus (simp; done)) | with_reducible apply Mine.alloc | with_reducible apply Mine.drew | with_reducible refine Mine.step ?_ HST3.out))
                  all_goals (intro x hx; first | (have := HM3.out.str.cmp.far x hx; simp; omega) | (have := HM.out.str.cmp.far x hx; simp; omega))
                rw [← HR.out]
                rintro e w3 ⟨F3, rfl, h3, hst3⟩
                have HM3 : Hid (Mid w mb p cbx sbx F n ca cb ada adb la lb sg so w3 F3 r.1) := by
                  refine Lib.hid (Mid.call (g2 := hh.1) ?_ hst3 h3)
                  (repeat (first | with_reducible exact HM3.out | with_reducible exact HM.out | with_reducible apply Mid.alloc | with_reducible apply Mid.drew))
                have HST3 := Lib.hid hst3
                have z3 := hst3.kept.size
                (try simp at z3)
                clear hst3 h3
                try dsimp only
                refine hK.out _ _ ?_ (fun hHeld => ?_)
                · try dsimp only
                  refine s5_of (?_ : Mid w mb p cbx sbx F n ca cb ada adb la lb sg so _ F3 r.1) (b8 := b8) (b9 := b9) (lo := lo.2) (hi := hh.2) ?_ ?_
                  · (repeat (first | with_reducible exact HM3.out | with_reducible exact HM.out | with_reducible apply Mid.alloc | with_reducible apply Mid.drew | with_reducible refine Mid.row H.out (by omega) M10.out.out ?_))
                  · (repeat (first | with_reducible exact M8.out | (with_reducible refine Mine.new ?_ ?_; focus (simp; done)) | with_reducible apply Mine.alloc | with_reducible apply Mine.drew | with_reducible refine Mine.step ?_ HST3.out | with_reducible refine Mine.rowOther ?_ (by omega)))
                  · (repeat (first | with_reducible exact M9.out | (with_reducible refine Mine.new ?_ ?_; focus (simp; done)) | with_reducible apply Mine.alloc | with_reducible apply Mine.drew | with_reducible refine Mine.step ?_ HST3.out | with_reducible refine Mine.rowOther ?_ (by omega)))
                clear hK K
                try simp only [Act.put, List.setIfInBounds_toArray, List.set_cons_zero, List.set_cons_succ]
                refine wpAnyH_ready (rs := [12]) (by kernel_rfl) (by simp) ?_
                refine AllReadyH.cons rfl (fun K hK => ?_) ?_
                · go_simp
                  refine hK.out _ _ ?_ (fun hHeld => ?_)
                  · try dsimp only
                    refine s5_of (?_ : Mid w mb p cbx sbx F n ca cb ada adb la lb sg so _ F3 r.1) (b8 := b8) (b9 := b9) (lo := lo.2) (hi := hh.2) ?_ ?_
                    · (repeat (first | with_reducible exact HM3.out | with_reducible exact HM.out | with_reducible apply Mid.alloc | with_reducible apply Mid.drew | with_reducible refine Mid.row H.out (by omega) M10.out.out ?_))
                    · (repeat (first | with_reducible exact M8.out | (with_reducible refine Mine.new ?_ ?_; focus (simp; done)) | with_reducible apply Mine.alloc | with_reducible apply Mine.drew | with_reducible refine Mine.step ?_ HST3.out | with_reducible refine Mine.rowOther ?_ (by omega)))
                    · (repeat (first | with_reducible exact M9.out | (with_reducible refine Mine.new ?_ ?_; focus (simp; done)) | with_reducible apply Mine.alloc | with_reducible apply Mine.drew | with_reducible refine Mine.step ?_ HST3.out | with_reducible refine Mine.rowOther ?_ (by omega)))
                  clear hK K
                  try simp only [Act.put, List.setIfInBounds_toArray, List.set_cons_zero, List.set_cons_succ]
                  refine wpAnyH_ready (rs := [14]) (by kernel_rfl) (by simp) ?_
                  refine AllReadyH.cons rfl (fun K hK => ?_) ?_
                  · have M10 : Hid (Mine w3 (mb :: F3) (wc.heap.size) (.cells #[.int .u32 0, .int .u32 0] 122 (0, 0))) := by
                      refine Lib.hid ?_
                      (repeat (first | with_reducible exact M8.out | (with_reducible refine Mine.new ?_ ?_; focus (simp; done)) | with_reducible apply Mine.alloc | with_reducible apply Mine.drew | with_reducible refine Mine.step ?_ HST3.out))
                      all_goals (intro x hx; first | (have := HM3.out.str.cmp.far x hx; simp; omega) | (have := HM.out.str.cmp.far x hx; simp; omega))
                    refine step_row (e := 122) (t := 122) (old := #[.int .u32 0, .int .u32 0]) (cells := #[.int .u32 (r.2 : Nat), .int .u32 0]) rfl rfl rfl rfl (by kernel_rfl) rfl (by simp [Value.oneCell']) M10.out.heap ?_
                    refine hK.out _ _ ?_ (fun hHeld => ?_)
                    · try dsimp only
                      refine s5_of (?_ : Mid w mb p cbx sbx F n ca cb ada adb la lb sg so _ F3 r.1) (b8 := b8) (b9 := b9) (lo := lo.2) (hi := hh.2) ?_ ?_
                      · (repeat (first | with_reducible exact HM3.out | with_reducible exact HM.out | with_reducible apply Mid.alloc | with_reducible apply Mid.drew | with_reducible refine Mid.row H.out (by omega) M10.out.out ?_))
                      · (repeat (first | with_reducible exact M8.out | (with_reducible refine Mine.new ?_ ?_; focus (simp; done)) | with_reducible apply Mine.alloc | with_reducible apply Mine.drew | with_reducible refine Mine.step ?_ HST3.out | with_reducible refine Mine.rowOther ?_ (by omega)))
                      · (repeat (first | with_reducible exact M9.out | (with_reducible refine Mine.new ?_ ?_; focus (simp; done)) | with_reducible apply Mine.alloc | with_reducible apply Mine.drew | with_reducible refine Mine.step ?_ HST3.out | with_reducible refine Mine.rowOther ?_ (by omega)))
                    clear hK K
                    try simp only [Act.put, List.setIfInBounds_toArray, List.set_cons_zero, List.set_cons_succ]
                    refine wpAnyH_done (by kernel_rfl) ?_ _
                    go_wp2_with fail
                    go_meet
                    refine ⟨_, F3, rfl, ?_, Mine.row M10.out, ?_, ?_, ?_, by omega, by omega, by omega⟩
                    · (repeat (first | with_reducible exact HM3.out | with_reducible exact HM.out | with_reducible apply Mid.alloc | with_reducible apply Mid.drew | with_reducible refine Mid.row H.out (by omega) M10.out.out ?_))
                    · (repeat (first | with_reducible exact M8.out | (with_reducible refine Mine.new ?_ ?_; focus (simp; done)) | with_reducible apply Mine.alloc | with_reducible apply Mine.drew | with_reducible refine Mine.step ?_ HST3.out | with_reducible refine Mine.rowOther ?_ (by omega)))
                    · (repeat (first | with_reducible exact M9.out | (with_reducible refine Mine.new ?_ ?_; focus (simp; done)) | with_reducible apply Mine.alloc | with_reducible apply Mine.drew | with_reducible refine Mine.step ?_ HST3.out | with_reducible refine Mine.rowOther ?_ (by omega)))
                    · (repeat (first | with_reducible exact M6.out | (with_reducible refine Mine.new ?_ ?_; focus (simp; done)) | with_reducible apply Mine.alloc | with_reducible apply Mine.drew | with_reducible refine Mine.step ?_ HST3.out | with_reducible refine Mine.rowOther ?_ (by omega)))
                  exact AllReadyH.nil
                exact AllReadyH.nil
              exact AllReadyH.nil
            exact AllReadyH.nil
          exact AllReadyH.nil
        case rest =>
          obtain ⟨b10, F3, rfl, hM4, n10, n8, n9, n6, o10, o810, o910⟩ := hcut
          have f4 : wc.cell? ⟨mb, 4, none⟩ = some (.bool so) := blk_cell hM4.str.cmp.blk 4
          have f0 : wc.cell? ⟨cbx, 0, none⟩ = some (.pointer (some ⟨mb, 0, none⟩)) := blk_cell hM4.str.cbox 0
          have HM4 := Lib.hid hM4
          have N8 := Lib.hid n8
          have N9 := Lib.hid n9
          have N10 := Lib.hid n10
          have N6 := Lib.hid n6
          have zl8 := n8.lt
          have zl9 := n9.lt
          have zl10 := n10.lt
          have zc4 := hM4.st.kept.size
          clear hM4 n8 n9 n10 n6 f1 e80 e81 e90 e91
          cases so with
          | true =>
            have HEE := Lib.hid (show joinG true hh.1 lo.2 hh.2 = (r.1, r.2, 0) from by unfold joinG; rw [← HR.out]; rfl)
            have n10 := N10.out.heap
            have n6 := N6.out.heap
            have HMF := HM4
            have R6F := Lib.hid N6.out.out
            obtain ⟨x1, x2, _⟩ := (two_facts n10).1
            obtain ⟨⟨y1, y2, y3⟩, y4, y5, y6, y7, y8⟩ := two_facts n6
            (try simp only [Array.setIfInBounds] at x1 x2)
            clear n10 n6
            go_wp2_with fail
            refine bodyPost_ret (v := .agg #[.int .u32 (r.2 : Nat), .int .u32 0]) (by simp [results, Try.results119, go_sem, y6, y7]) rfl ?_
            rw [HE.out, HEE.out]
            refine ⟨F3, rfl, HMF.out.str.cmp.keptF (G := [w.heap.size]) (((Kept.refl [w.heap.size] _).setCell (.inl (by simp)) _).setCell (.inl (by simp)) _) (by simpa using R6F.out), ?_⟩
            exact (HMF.out.st.setNew (p := ⟨w.heap.size, 0, none⟩) (Nat.le_refl _) _).setNew (p := ⟨w.heap.size, 1, none⟩) (Nat.le_refl _) _
          | false =>
            obtain ⟨q, hq⟩ : ∃ q, q = andG r.1 hh.2.1 lo.2.2 := ⟨_, rfl⟩
            have HQ := Lib.hid hq
            have s2 := andG_spec OKR.out.1 (OKR.out.2.1.ok OK.out.1) (OKR.out.2.1.ok OK.out.2.2.2)
            rw [← hq] at s2
            have hl5 := s2.2.1.le
            have OKQ := Lib.hid (show r.1.ok hh.2.1 ∧ r.1.ok lo.2.2 from ⟨OKR.out.2.1.ok OK.out.1, OKR.out.2.1.ok OK.out.2.2.2⟩)
            obtain ⟨tt, ht⟩ : ∃ tt, tt = orG q.1 hh.2.2 q.2 := ⟨_, rfl⟩
            have HT := Lib.hid ht
            have OKT := Lib.hid (show q.1.ok hh.2.2 ∧ q.1.ok q.2 from ⟨s2.2.1.ok (OKR.out.2.1.ok OK.out.2.2.1), s2.2.2⟩)
            have HEE := Lib.hid (show joinG false hh.1 lo.2 hh.2 = (tt.1, r.2, tt.2) from by unfold joinG; rw [ht, hq, HR.out]; rfl)
            clear hq s2 ht
            go_wp2_with fail
            refine wp_region_held_drew (S := fun w' => w'.cell? ⟨cbx, 0, none⟩ = some (.pointer (some ⟨mb, 0, none⟩)) ∧ w'.cell? ⟨mb, 0, none⟩ = some (.pointer (some ⟨p, 0, none⟩)) ∧ (w'.cell? ⟨b8, 0, none⟩ = some (.int .u32 (lo.2.1 : Nat)) ∧ w'.cell? ⟨b8, 1, none⟩ = some (.int .u32 (lo.2.2 : Nat))) ∧ (w'.cell? ⟨b9, 0, none⟩ = some (.int .u32 (hh.2.1 : Nat)) ∧ w'.cell? ⟨b9, 1, none⟩ = some (.int .u32 (hh.2.2 : Nat)))) (by kernel_rfl) ?_ (fun hHeld => ?_)
            · try dsimp only
              exact s5_of (lo := lo.2) (hi := hh.2) HM4.out.drew N8.out.drew N9.out.drew
            refine wpAnyH_take (i := 0) (v := ?_) rfl (by kernel_rfl) (by kernel_rfl) (by kernel_rfl) (fun _ _ _ h => h) (Or.inl ⟨by rfl, ?_⟩) (by assumption) ?_
            rotate_left
            · intro w hSw; (try dsimp only at hSw); go_simp
              all_goals with_reducible rfl
            try simp only [Act.put, List.setIfInBounds_toArray, List.set_cons_zero, List.set_cons_succ]
            refine wpAnyH_take (i := 1) (v := ?_) rfl (by kernel_rfl) (by kernel_rfl) (by kernel_rfl) (fun _ _ _ h => h) (Or.inl ⟨by rfl, ?_⟩) (by assumption) ?_
            rotate_left
            · intro w hSw; (try dsimp only at hSw); go_simp
              all_goals with_reducible rfl
            try simp only [Act.put, List.setIfInBounds_toArray, List.set_cons_zero, List.set_cons_succ]
            refine wpAnyH_take (i := 2) (v := ?_) rfl (by kernel_rfl) (by kernel_rfl) (by kernel_rfl) (fun _ _ _ h => h) (Or.inl ⟨by rfl, ?_⟩) (by assumption) ?_
            rotate_left
            · intro w hSw; (try dsimp only at hSw); go_simp
              all_goals with_reducible rfl
            try simp only [Act.put, List.setIfInBounds_toArray, List.set_cons_zero, List.set_cons_succ]
            refine wpAnyH_take (i := 3) (v := ?_) rfl (by kernel_rfl) (by kernel_rfl) (by kernel_rfl) (fun _ _ _ h => h) (Or.inl ⟨by rfl, ?_⟩) (by assumption) ?_
            rotate_left
            · intro w hSw; (try dsimp only at hSw); go_simp
              all_goals with_reducible rfl
            try simp only [Act.put, List.setIfInBounds_toArray, List.set_cons_zero, List.set_cons_succ]
            refine wpAnyH_take (i := 4) (v := ?_) rfl (by kernel_rfl) (by kernel_rfl) (by kernel_rfl) (fun _ _ _ h => h) (Or.inl ⟨by rfl, ?_⟩) (by assumption) ?_
            rotate_left
            · intro w hSw; (try dsimp only at hSw); go_simp
              all_goals with_reducible rfl
            try simp only [Act.put, List.setIfInBounds_toArray, List.set_cons_zero, List.set_cons_succ]
            refine wpAnyH_take (i := 5) (v := ?_) rfl (by kernel_rfl) (by kernel_rfl) (by kernel_rfl) (fun _ _ _ h => h) (Or.inl ⟨by rfl, ?_⟩) (by assumption) ?_
            rotate_left
            · intro w hSw; (try dsimp only at hSw); go_simp
              all_goals with_reducible rfl
            try simp only [Act.put, List.setIfInBounds_toArray, List.set_cons_zero, List.set_cons_succ]
            refine wpAnyH_take (i := 6) (v := ?_) rfl (by kernel_rfl) (by kernel_rfl) (by kernel_rfl) (fun _ _ _ h => h) (Or.inl ⟨by rfl, ?_⟩) (by assumption) ?_
            rotate_left
            · intro w hSw; (try dsimp only at hSw); go_simp
              all_goals with_reducible rfl
            try simp only [Act.put, List.setIfInBounds_toArray, List.set_cons_zero, List.set_cons_succ]
            refine wpAnyH_take (i := 7) (v := ?_) rfl (by kernel_rfl) (by kernel_rfl) (by kernel_rfl) (fun _ _ _ h => h) (Or.inl ⟨by rfl, ?_⟩) (by assumption) ?_
            rotate_left
            · intro w hSw; (try dsimp only at hSw); go_simp
              all_goals with_reducible rfl
            try simp only [Act.put, List.setIfInBounds_toArray, List.set_cons_zero, List.set_cons_succ]
            refine wpAnyH_take (i := 8) (v := ?_) rfl (by kernel_rfl) (by kernel_rfl) (by kernel_rfl) (fun _ _ _ h => h) (Or.inl ⟨by rfl, ?_⟩) (by assumption) ?_
            rotate_left
            · intro w hSw; (try dsimp only at hSw); go_simp
              all_goals with_reducible rfl
            try simp only [Act.put, List.setIfInBounds_toArray, List.set_cons_zero, List.set_cons_succ]
            refine wpAnyH_take (i := 9) (v := ?_) rfl (by kernel_rfl) (by kernel_rfl) (by kernel_rfl) (fun _ _ _ h => h) (Or.inl ⟨by rfl, ?_⟩) (by assumption) ?_
            rotate_left
            · intro w hSw; (try dsimp only at hSw); go_simp
              all_goals with_reducible rfl
            try simp only [Act.put, List.setIfInBounds_toArray, List.set_cons_zero, List.set_cons_succ]
            refine wpAnyH_ready (rs := [10]) (by kernel_rfl) (by simp) ?_
            refine AllReadyH.cons rfl (fun K hK => ?_) ?_
            · go_simp
              refine hK.out _ _ ?_ (fun hHeld => ?_)
              · try dsimp only
                refine s5_of (?_ : Mid w mb p cbx sbx F n ca cb ada adb la lb sg false _ F3 r.1) (b8 := b8) (b9 := b9) (lo := lo.2) (hi := hh.2) ?_ ?_
                · (repeat (first | with_reducible exact HM5.out | with_reducible exact HM4.out | with_reducible apply Mid.alloc | with_reducible apply Mid.drew))
                · (repeat (first | with_reducible exact N8.out | (with_reducible refine Mine.new ?_ ?_; focus (simp; done)) | with_reducible apply Mine.alloc | with_reducible apply Mine.drew | with_reducible refine Mine.step ?_ HST5.out | with_reducible refine Mine.rowOther ?_ (by omega)))
                · (repeat (first | with_reducible exact N9.out | (with_reducible refine Mine.new ?_ ?_; focus (simp; done)) | with_reducible apply Mine.alloc | with_reducible apply Mine.drew | with_reducible refine Mine.step ?_ HST5.out | with_reducible refine Mine.rowOther ?_ (by omega)))
              clear hK K
              try simp only [Act.put, List.setIfInBounds_toArray, List.set_cons_zero, List.set_cons_succ]
              refine wpAnyH_ready (rs := [11]) (by kernel_rfl) (by simp) ?_
              refine AllReadyH.cons rfl (fun K hK => ?_) ?_
              · go_simp
                go_at_call 121
                refine Calls.mono (cm_and (x := hh.2.1) (y := lo.2.2) (t := 24) (StrAt.cmp (Mid.str (?_ : Mid w mb p cbx sbx F n ca cb ada adb la lb sg false _ F3 r.1))) ?_ (by omega) OKQ.out.1 OKQ.out.2) ?_
                · (repeat (first | with_reducible exact HM5.out | with_reducible exact HM4.out | with_reducible apply Mid.alloc | with_reducible apply Mid.drew))
                · (repeat (first | with_reducible exact N8.out | (with_reducible refine Mine.new ?_ ?_; focus (simp; done)) | with_reducible apply Mine.alloc | with_reducible apply Mine.drew | with_reducible refine Mine.step ?_ HST5.out))
                  all_goals (intro x hx; first | (have := HM5.out.str.cmp.far x hx; simp; omega) | (have := HM4.out.str.cmp.far x hx; simp; omega))
                rw [← HQ.out]
                rintro e w5 ⟨F5, rfl, h5, hst5⟩
                have HM5 : Hid (Mid w mb p cbx sbx F n ca cb ada adb la lb sg false w5 F5 q.1) := by
                  refine Lib.hid (Mid.call (g2 := r.1) ?_ hst5 h5)
                  (repeat (first | with_reducible exact HM5.out | with_reducible exact HM4.out | with_reducible apply Mid.alloc | with_reducible apply Mid.drew))
                have HST5 := Lib.hid hst5
                have z5 := hst5.kept.size
                (try simp at z5)
                clear hst5 h5
                try dsimp only
                refine hK.out _ _ ?_ (fun hHeld => ?_)
                · try dsimp only
                  refine s5_of (?_ : Mid w mb p cbx sbx F n ca cb ada adb la lb sg false _ F5 q.1) (b8 := b8) (b9 := b9) (lo := lo.2) (hi := hh.2) ?_ ?_
                  · (repeat (first | with_reducible exact HM5.out | with_reducible exact HM4.out | with_reducible apply Mid.alloc | with_reducible apply Mid.drew))
                  · (repeat (first | with_reducible exact N8.out | (with_reducible refine Mine.new ?_ ?_; focus (simp; done)) | with_reducible apply Mine.alloc | with_reducible apply Mine.drew | with_reducible refine Mine.step ?_ HST5.out | with_reducible refine Mine.rowOther ?_ (by omega)))
                  · (repeat (first | with_reducible exact N9.out | (with_reducible refine Mine.new ?_ ?_; focus (simp; done)) | with_reducible apply Mine.alloc | with_reducible apply Mine.drew | with_reducible refine Mine.step ?_ HST5.out | with_reducible refine Mine.rowOther ?_ (by omega)))
                clear hK K
                try simp only [Act.put, List.setIfInBounds_toArray, List.set_cons_zero, List.set_cons_succ]
                refine wpAnyH_ready (rs := [12]) (by kernel_rfl) (by simp) ?_
                refine AllReadyH.cons rfl (fun K hK => ?_) ?_
                · go_simp
                  refine hK.out _ _ ?_ (fun hHeld => ?_)
                  · try dsimp only
                    refine s5_of (?_ : Mid w mb p cbx sbx F n ca cb ada adb la lb sg false _ F5 q.1) (b8 := b8) (b9 := b9) (lo := lo.2) (hi := hh.2) ?_ ?_
                    · (repeat (first | with_reducible exact HM5.out | with_reducible exact HM4.out | with_reducible apply Mid.alloc | with_reducible apply Mid.drew))
                    · (repeat (first | with_reducible exact N8.out | (with_reducible refine Mine.new ?_ ?_; focus (simp; done)) | with_reducible apply Mine.alloc | with_reducible apply Mine.drew | with_reducible refine Mine.step ?_ HST5.out | with_reducible refine Mine.rowOther ?_ (by omega)))
                    · (repeat (first | with_reducible exact N9.out | (with_reducible refine Mine.new ?_ ?_; focus (simp; done)) | with_reducible apply Mine.alloc | with_reducible apply Mine.drew | with_reducible refine Mine.step ?_ HST5.out | with_reducible refine Mine.rowOther ?_ (by omega)))
                  clear hK K
                  try simp only [Act.put, List.setIfInBounds_toArray, List.set_cons_zero, List.set_cons_succ]
                  refine wpAnyH_done (by kernel_rfl) ?_ _
                  have HM6 := HM5
                  have P8 : Hid (Mine w5 (mb :: F5) (b8) (.cells #[.int .u32 (lo.2.1 : Nat), .int .u32 (lo.2.2 : Nat)] 122 (0, 0))) := by
                    refine Lib.hid ?_
                    (repeat (first | with_reducible exact N8.out | (with_reducible refine Mine.new ?_ ?_; focus (simp; done)) | with_reducible apply Mine.alloc | with_reducible apply Mine.drew | with_reducible refine Mine.step ?_ HST5.out))
                  have P9 : Hid (Mine w5 (mb :: F5) (b9) (.cells #[.int .u32 (hh.2.1 : Nat), .int .u32 (hh.2.2 : Nat)] 122 (0, 0))) := by
                    refine Lib.hid ?_
                    (repeat (first | with_reducible exact N9.out | (with_reducible refine Mine.new ?_ ?_; focus (simp; done)) | with_reducible apply Mine.alloc | with_reducible apply Mine.drew | with_reducible refine Mine.step ?_ HST5.out))
                  have P10 : Hid (Mine w5 (mb :: F5) (b10) (.cells #[.int .u32 (r.2 : Nat), .int .u32 0] 122 (0, 0))) := by
                    refine Lib.hid ?_
                    (repeat (first | with_reducible exact N10.out | (with_reducible refine Mine.new ?_ ?_; focus (simp; done)) | with_reducible apply Mine.alloc | with_reducible apply Mine.drew | with_reducible refine Mine.step ?_ HST5.out))
                  have P6 : Hid (Mine w5 (mb :: F5) (w.heap.size) (.cells #[.int .u32 0, .int .u32 0] 122 (0, 0))) := by
                    refine Lib.hid ?_
                    (repeat (first | with_reducible exact N6.out | (with_reducible refine Mine.new ?_ ?_; focus (simp; done)) | with_reducible apply Mine.alloc | with_reducible apply Mine.drew | with_reducible refine Mine.step ?_ HST5.out))
                  have zl8 := P8.out.lt
                  have zl9 := P9.out.lt
                  go_wp2_with fail
                  refine wp_region_held_drew (S := fun w' => w'.cell? ⟨cbx, 0, none⟩ = some (.pointer (some ⟨mb, 0, none⟩)) ∧ w'.cell? ⟨mb, 0, none⟩ = some (.pointer (some ⟨p, 0, none⟩)) ∧ (w'.cell? ⟨b8, 0, none⟩ = some (.int .u32 (lo.2.1 : Nat)) ∧ w'.cell? ⟨b8, 1, none⟩ = some (.int .u32 (lo.2.2 : Nat))) ∧ (w'.cell? ⟨b9, 0, none⟩ = some (.int .u32 (hh.2.1 : Nat)) ∧ w'.cell? ⟨b9, 1, none⟩ = some (.int .u32 (hh.2.2 : Nat)))) (by kernel_rfl) ?_ (fun hHeld => ?_)
                  · try dsimp only
                    exact s5_of (lo := lo.2) (hi := hh.2) HM6.out.drew P8.out.drew P9.out.drew
                  refine wpAnyH_take (i := 0) (v := ?_) rfl (by kernel_rfl) (by kernel_rfl) (by kernel_rfl) (fun _ _ _ h => h) (Or.inl ⟨by rfl, ?_⟩) (by assumption) ?_
                  rotate_left
                  · intro w hSw; (try dsimp only at hSw); go_simp
                    all_goals with_reducible rfl
                  try simp only [Act.put, List.setIfInBounds_toArray, List.set_cons_zero, List.set_cons_succ]
                  refine wpAnyH_take (i := 1) (v := ?_) rfl (by kernel_rfl) (by kernel_rfl) (by kernel_rfl) (fun _ _ _ h => h) (Or.inl ⟨by rfl, ?_⟩) (by assumption) ?_
                  rotate_left
                  · intro w hSw; (try dsimp only at hSw); go_simp
                    all_goals with_reducible rfl
                  try simp only [Act.put, List.setIfInBounds_toArray, List.set_cons_zero, List.set_cons_succ]
                  refine wpAnyH_take (i := 2) (v := ?_) rfl (by kernel_rfl) (by kernel_rfl) (by kernel_rfl) (fun _ _ _ h => h) (Or.inl ⟨by rfl, ?_⟩) (by assumption) ?_
                  rotate_left
                  · intro w hSw; (try dsimp only at hSw); go_simp
                    all_goals with_reducible rfl
                  try simp only [Act.put, List.setIfInBounds_toArray, List.set_cons_zero, List.set_cons_succ]
                  refine wpAnyH_take (i := 3) (v := ?_) rfl (by kernel_rfl) (by kernel_rfl) (by kernel_rfl) (fun _ _ _ h => h) (Or.inl ⟨by rfl, ?_⟩) (by assumption) ?_
                  rotate_left
                  · intro w hSw; (try dsimp only at hSw); go_simp
                    all_goals with_reducible rfl
                  try simp only [Act.put, List.setIfInBounds_toArray, List.set_cons_zero, List.set_cons_succ]
                  refine wpAnyH_take (i := 4) (v := ?_) rfl (by kernel_rfl) (by kernel_rfl) (by kernel_rfl) (fun _ _ _ h => h) (Or.inl ⟨by rfl, ?_⟩) (by assumption) ?_
                  rotate_left
                  · intro w hSw; (try dsimp only at hSw); go_simp
                    all_goals with_reducible rfl
                  try simp only [Act.put, List.setIfInBounds_toArray, List.set_cons_zero, List.set_cons_succ]
                  refine wpAnyH_take (i := 5) (v := ?_) rfl (by kernel_rfl) (by kernel_rfl) (by kernel_rfl) (fun _ _ _ h => h) (Or.inl ⟨by rfl, ?_⟩) (by assumption) ?_
                  rotate_left
                  · intro w hSw; (try dsimp only at hSw); go_simp
                    all_goals with_reducible rfl
                  try simp only [Act.put, List.setIfInBounds_toArray, List.set_cons_zero, List.set_cons_succ]
                  refine wpAnyH_take (i := 6) (v := ?_) rfl (by kernel_rfl) (by kernel_rfl) (by kernel_rfl) (fun _ _ _ h => h) (Or.inl ⟨by rfl, ?_⟩) (by assumption) ?_
                  rotate_left
                  · intro w hSw; (try dsimp only at hSw); go_simp
                    all_goals with_reducible rfl
                  try simp only [Act.put, List.setIfInBounds_toArray, List.set_cons_zero, List.set_cons_succ]
                  refine wpAnyH_take (i := 7) (v := ?_) rfl (by kernel_rfl) (by kernel_rfl) (by kernel_rfl) (fun _ _ _ h => h) (Or.inl ⟨by rfl, ?_⟩) (by assumption) ?_
                  rotate_left
                  · intro w hSw; (try dsimp only at hSw); go_simp
                    all_goals with_reducible rfl
                  try simp only [Act.put, List.setIfInBounds_toArray, List.set_cons_zero, List.set_cons_succ]
                  refine wpAnyH_take (i := 8) (v := ?_) rfl (by kernel_rfl) (by kernel_rfl) (by kernel_rfl) (fun _ _ _ h => h) (Or.inl ⟨by rfl, ?_⟩) (by assumption) ?_
                  rotate_left
                  · intro w hSw; (try dsimp only at hSw); go_simp
                    all_goals with_reducible rfl
                  try simp only [Act.put, List.setIfInBounds_toArray, List.set_cons_zero, List.set_cons_succ]
                  refine wpAnyH_ready (rs := [9]) (by kernel_rfl) (by simp) ?_
                  refine AllReadyH.cons rfl (fun K hK => ?_) ?_
                  · go_simp
                    refine hK.out _ _ ?_ (fun hHeld => ?_)
                    · try dsimp only
                      refine s5_of (?_ : Mid w mb p cbx sbx F n ca cb ada adb la lb sg false _ F5 q.1) (b8 := b8) (b9 := b9) (lo := lo.2) (hi := hh.2) ?_ ?_
                      · (repeat (first | with_reducible exact HM7.out | with_reducible exact HM6.out | with_reducible apply Mid.alloc | with_reducible apply Mid.drew))
                      · (repeat (first | with_reducible exact P8.out | (with_reducible refine Mine.new ?_ ?_; focus (simp; done)) | with_reducible apply Mine.alloc | with_reducible apply Mine.drew | with_reducible refine Mine.step ?_ HST7.out | with_reducible refine Mine.rowOther ?_ (by omega)))
                      · (repeat (first | with_reducible exact P9.out | (with_reducible refine Mine.new ?_ ?_; focus (simp; done)) | with_reducible apply Mine.alloc | with_reducible apply Mine.drew | with_reducible refine Mine.step ?_ HST7.out | with_reducible refine Mine.rowOther ?_ (by omega)))
                    clear hK K
                    try simp only [Act.put, List.setIfInBounds_toArray, List.set_cons_zero, List.set_cons_succ]
                    refine wpAnyH_ready (rs := [10]) (by kernel_rfl) (by simp) ?_
                    refine AllReadyH.cons rfl (fun K hK => ?_) ?_
                    · go_simp
                      go_at_call 121
                      refine Calls.mono (cm_or (x := hh.2.2) (y := q.2) (t := 24) (StrAt.cmp (Mid.str (?_ : Mid w mb p cbx sbx F n ca cb ada adb la lb sg false _ F5 q.1))) ?_ (by omega) OKT.out.1 OKT.out.2) ?_
                      · (repeat (first | with_reducible exact HM7.out | with_reducible exact HM6.out | with_reducible apply Mid.alloc | with_reducible apply Mid.drew))
                      · (repeat (first | with_reducible exact P8.out | (with_reducible refine Mine.new ?_ ?_; focus (simp; done)) | with_reducible apply Mine.alloc | with_reducible apply Mine.drew | with_reducible refine Mine.step ?_ HST7.out))
                        all_goals (intro x hx; first | (have := HM7.out.str.cmp.far x hx; simp; omega) | (have := HM6.out.str.cmp.far x hx; simp; omega))
                      rw [← HT.out]
                      rintro e w7 ⟨F7, rfl, h7, hst7⟩
                      have HM7 : Hid (Mid w mb p cbx sbx F n ca cb ada adb la lb sg false w7 F7 tt.1) := by
                        refine Lib.hid (Mid.call (g2 := q.1) ?_ hst7 h7)
                        (repeat (first | with_reducible exact HM7.out | with_reducible exact HM6.out | with_reducible apply Mid.alloc | with_reducible apply Mid.drew))
                      have HST7 := Lib.hid hst7
                      have z7 := hst7.kept.size
                      (try simp at z7)
                      clear hst7 h7
                      try dsimp only
                      refine hK.out _ _ ?_ (fun hHeld => ?_)
                      · try dsimp only
                        refine s5_of (?_ : Mid w mb p cbx sbx F n ca cb ada adb la lb sg false _ F7 tt.1) (b8 := b8) (b9 := b9) (lo := lo.2) (hi := hh.2) ?_ ?_
                        · (repeat (first | with_reducible exact HM7.out | with_reducible exact HM6.out | with_reducible apply Mid.alloc | with_reducible apply Mid.drew))
                        · (repeat (first | with_reducible exact P8.out | (with_reducible refine Mine.new ?_ ?_; focus (simp; done)) | with_reducible apply Mine.alloc | with_reducible apply Mine.drew | with_reducible refine Mine.step ?_ HST7.out | with_reducible refine Mine.rowOther ?_ (by omega)))
                        · (repeat (first | with_reducible exact P9.out | (with_reducible refine Mine.new ?_ ?_; focus (simp; done)) | with_reducible apply Mine.alloc | with_reducible apply Mine.drew | with_reducible refine Mine.step ?_ HST7.out | with_reducible refine Mine.rowOther ?_ (by omega)))
                      clear hK K
                      try simp only [Act.put, List.setIfInBounds_toArray, List.set_cons_zero, List.set_cons_succ]
                      refine wpAnyH_ready (rs := [11]) (by kernel_rfl) (by simp) ?_
                      refine AllReadyH.cons rfl (fun K hK => ?_) ?_
                      · go_simp
                        refine hK.out _ _ ?_ (fun hHeld => ?_)
                        · try dsimp only
                          refine s5_of (?_ : Mid w mb p cbx sbx F n ca cb ada adb la lb sg false _ F7 tt.1) (b8 := b8) (b9 := b9) (lo := lo.2) (hi := hh.2) ?_ ?_
                          · (repeat (first | with_reducible exact HM7.out | with_reducible exact HM6.out | with_reducible apply Mid.alloc | with_reducible apply Mid.drew))
                          · (repeat (first | with_reducible exact P8.out | (with_reducible refine Mine.new ?_ ?_; focus (simp; done)) | with_reducible apply Mine.alloc | with_reducible apply Mine.drew | with_reducible refine Mine.step ?_ HST7.out | with_reducible refine Mine.rowOther ?_ (by omega)))
                          · (repeat (first | with_reducible exact P9.out | (with_reducible refine Mine.new ?_ ?_; focus (simp; done)) | with_reducible apply Mine.alloc | with_reducible apply Mine.drew | with_reducible refine Mine.step ?_ HST7.out | with_reducible refine Mine.rowOther ?_ (by omega)))
                        clear hK K
                        try simp only [Act.put, List.setIfInBounds_toArray, List.set_cons_zero, List.set_cons_succ]
                        refine wpAnyH_ready (rs := [12]) (by kernel_rfl) (by simp) ?_
                        refine AllReadyH.cons rfl (fun K hK => ?_) ?_
                        · have S10 : Hid (Mine w7 (mb :: F7) b10 (.cells #[.int .u32 (r.2 : Nat), .int .u32 0] 122 (0, 0))) := by
                            refine Lib.hid ?_
                            (repeat (first | with_reducible exact P10.out | (with_reducible refine Mine.new ?_ ?_; focus (simp; done)) | with_reducible apply Mine.alloc | with_reducible apply Mine.drew | with_reducible refine Mine.step ?_ HST7.out))
                          have q1 := blk_cell S10.out.heap 1
                          have q2 := blk_free S10.out.heap 1
                          go_simp
                          clear q1 q2
                          refine hK.out _ _ ?_ (fun hHeld => ?_)
                          · try dsimp only
                            refine s5_of (Mid.cell H.out (by omega) S10.out.out HM7.out) (b8 := b8) (b9 := b9) (lo := lo.2) (hi := hh.2) (Mine.other ?_ (by simpa using Ne.symm o810) _) (Mine.other ?_ (by simpa using Ne.symm o910) _)
                            · (repeat (first | with_reducible exact P8.out | (with_reducible refine Mine.new ?_ ?_; focus (simp; done)) | with_reducible apply Mine.alloc | with_reducible apply Mine.drew | with_reducible refine Mine.step ?_ HST7.out | with_reducible refine Mine.rowOther ?_ (by omega)))
                            · (repeat (first | with_reducible exact P9.out | (with_reducible refine Mine.new ?_ ?_; focus (simp; done)) | with_reducible apply Mine.alloc | with_reducible apply Mine.drew | with_reducible refine Mine.step ?_ HST7.out | with_reducible refine Mine.rowOther ?_ (by omega)))
                          clear hK K
                          try simp only [Act.put, List.setIfInBounds_toArray, List.set_cons_zero, List.set_cons_succ]
                          refine wpAnyH_done (by kernel_rfl) ?_ _
                          have n10 := blk_set S10.out.heap 1 (.int .u32 (tt.2 : Nat))
                          have R6 : Hid (Mine w7 (mb :: F7) w.heap.size (.cells #[.int .u32 0, .int .u32 0] 122 (0, 0))) := by
                            refine Lib.hid ?_
                            (repeat (first | with_reducible exact P6.out | (with_reducible refine Mine.new ?_ ?_; focus (simp; done)) | with_reducible apply Mine.alloc | with_reducible apply Mine.drew | with_reducible refine Mine.step ?_ HST7.out))
                          have n6 := (Mine.other (p := ⟨b10, 1, none⟩) R6.out (by simp; omega) (.int .u32 (tt.2 : Nat))).heap
                          have HMF := Lib.hid (Mid.cell (b := b10) (i := 1) (v := .int .u32 (tt.2 : Nat)) H.out (by omega) S10.out.out HM7.out)
                          have R6F := Lib.hid R6.out.out
                          generalize w7.setCell ⟨b10, 1, none⟩ (.int .u32 (tt.2 : Nat)) = wf at *
                          obtain ⟨x1, x2, _⟩ := (two_facts n10).1
                          obtain ⟨⟨y1, y2, y3⟩, y4, y5, y6, y7, y8⟩ := two_facts n6
                          (try simp only [Array.setIfInBounds] at x1 x2)
                          clear n10 n6
                          go_wp2_with fail
                          refine bodyPost_ret (v := .agg #[.int .u32 (r.2 : Nat), .int .u32 (tt.2 : Nat)]) (by simp [results, Try.results119, go_sem, y6, y7]) rfl ?_
                          rw [HE.out, HEE.out]
                          refine ⟨F7, rfl, HMF.out.str.cmp.keptF (G := [w.heap.size]) (((Kept.refl [w.heap.size] _).setCell (.inl (by simp)) _).setCell (.inl (by simp)) _) (by simpa using R6F.out), ?_⟩
                          exact (HMF.out.st.setNew (p := ⟨w.heap.size, 0, none⟩) (Nat.le_refl _) _).setNew (p := ⟨w.heap.size, 1, none⟩) (Nat.le_refl _) _
                        exact AllReadyH.nil
                      exact AllReadyH.nil
                    exact AllReadyH.nil
                  exact AllReadyH.nil
                exact AllReadyH.nil
              exact AllReadyH.nil
            exact AllReadyH.nil
end Go.Proofs.Ytfngfoabknbgdaa
