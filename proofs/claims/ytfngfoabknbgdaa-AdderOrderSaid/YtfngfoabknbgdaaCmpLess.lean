/-
  Package compare: all, Equal, Less, Zero.
-/
import Derived.Test.YtfngfoabknbgdaaCmpAll
import Derived.Laws.EntriesVeiled
namespace Go.Proofs.Ytfngfoabknbgdaa
open Go.ChangeShapes Go.WideShapes Go.ChangeAt Go.RowKit
open Go.Maps (Keyed)
open Go.WideMaps
set_option linter.unusedVariables false
set_option linter.unusedSimpArgs false

variable {w w' w1 : World} {p mb : Nat} {F F1 S : List Nat} {g : Gr} {sa sb : Value} {sg so : Bool} {n ca cb : Nat} {ada adb : Addr} {la lb : List Nat}

set_option maxHeartbeats 1600000 in
set_option maxRecDepth 100000 in
theorem all_c (h : CmpAt w mb p F g (.slice (some ada) n ca) (.slice (some adb) n cb) sg so) (h1 : 1 ≤ n) (hn : n ≤ 64) (hla : la.length = n) (hlb : lb.length = n) (hm : g.nodes.length ≤ 179000)
    (hsa : SlN w .u32 (some ada) la) (hsb : SlN w .u32 (some adb) lb) (hda : ∀ x ∈ ft (some ada), x ∉ mb :: F) (hdb : ∀ x ∈ ft (some adb), x ∉ mb :: F) (hoa : ∀ x ∈ la, g.ok x) (hob : ∀ x ∈ lb, g.ok x) :
    Calls Try.prog 65 #[.pointer (some ⟨mb, 0, none⟩)] w (PairPost (allTo so sg n la lb n g 0 n) (.slice (some ada) n ca) (.slice (some adb) n cb) sg so w mb p F) := by
  obtain ⟨W3, hW3⟩ : ∃ W3, W3 = ((w.alloc (.cells #[.pointer (some ⟨mb, 0, none⟩)] 118)).alloc (.cells #[.int .u32 0, .int .u32 0] 122)).alloc (.cells #[.func (.func 119) #[] #[.pointer (some ⟨w.heap.size, 0, none⟩), .pointer (some ⟨w.heap.size + 1 + 1, 0, none⟩)]] 178) := ⟨_, rfl⟩
  have hk3 : Kept [] w W3 := by rw [hW3]; exact (((Kept.refl [] w).alloc _).alloc _).alloc _
  have hcb : W3.heap[w.heap.size]? = some (.cells #[.pointer (some ⟨mb, 0, none⟩)] 118 (0, 0)) := by
    rw [hW3]; exact (((Mine.new (F := []) rfl (by simp)).alloc _).alloc _).heap
  have hm2 : Mine W3 (mb :: F) (w.heap.size + 1) (.cells #[.int .u32 0, .int .u32 0] 122 (0, 0)) := by
    rw [hW3]; refine (Mine.new (by simp) ?_).alloc _
    intro x hx; have := h.far x hx; simp; omega
  have hsb3 : W3.heap[w.heap.size + 1 + 1]? = some (.cells #[.func (.func 119) #[] #[.pointer (some ⟨w.heap.size, 0, none⟩), .pointer (some ⟨w.heap.size + 1 + 1, 0, none⟩)]] 178 (0, 0)) := by
    rw [hW3]; exact (Mine.new (F := []) (by simp) (by simp)).heap
  have hS : StrAt W3 mb p w.heap.size (w.heap.size + 1 + 1) F g n ca cb ada adb la lb sg so := ⟨h.kept0 hk3, hcb, hsb3, hsa.kept0 hk3, hsb.kept0 hk3, hda, hdb, ⟨by omega, by omega⟩⟩
  have HC := Lib.hid (all1_c (sg := sg) (so := so) hn hla hlb n g F W3.drew 0 n 0 (n : Int) rfl (by simp) h1 (Nat.le_refl _) (by omega) (by omega) (hS.kept0 (Kept.refl [] W3).drew) hoa hob)
  have HM2 := Lib.hid hm2
  have HST := Lib.hid (show Stepped w W3.drew (mb :: F) (mb :: F) from ⟨(hk3.more (by simp)).drew, fun _ h => .inl h⟩)
  have k0 : W3.cell? ⟨w.heap.size + 1 + 1, 0, none⟩ = some (.func (.func 119) #[] #[.pointer (some ⟨w.heap.size, 0, none⟩), .pointer (some ⟨w.heap.size + 1 + 1, 0, none⟩)]) := blk_cell hsb3 0
  have k1 : W3.cell? ⟨w.heap.size, 0, none⟩ = some (.pointer (some ⟨mb, 0, none⟩)) := blk_cell hcb 0
  have k2 : W3.cell? ⟨mb, 1, none⟩ = some (.slice (some ada) n ca) := blk_cell hS.cmp.blk 1
  have HS := Lib.hid hS
  have hlt := blk_lt h.blk
  have hne : w.heap.size + 1 ≠ mb := by omega
  have HW3 := Lib.hid hW3
  clear h hla hlb hsa hsb hda hdb hoa hob hk3 hcb hm2 hsb3 hS hW3
  go_enter Try.func65, Try.ntmps65
  go_wp2_with fail
  rw [← HW3.out]
  clear HW3
  go_region_held3 (fun w' => w'.cell? ⟨w.heap.size + 1 + 1, 0, none⟩ = some (.func (.func 119) #[] #[.pointer (some ⟨w.heap.size, 0, none⟩), .pointer (some ⟨w.heap.size + 1 + 1, 0, none⟩)]) ∧ w'.cell? ⟨w.heap.size, 0, none⟩ = some (.pointer (some ⟨mb, 0, none⟩)) ∧ w'.cell? ⟨mb, 1, none⟩ = some (.slice (some ada) n ca))
    (first | exact ⟨t0, t1, t2⟩ | go_keep)
    (first | (go_at_call 119; refine HC.out.mono ?_; generalize allTo so sg n la lb n g 0 n = r at *; rintro e w1 ⟨F1, rfl, h1, hst1⟩; have hS1 := (HS.out.kept0 (Kept.refl [] W3).drew).step hst1 h1; have t0 := blk_cell hS1.sbox 0; have t1 := blk_cell hS1.cbox 0; have t2 := blk_cell hS1.cmp.blk 1; have M2 := Lib.hid (HM2.out.drew.step hst1); obtain ⟨⟨y1, y2, y3⟩, y4, y5, y6, y7, y8⟩ := two_facts M2.out.heap; have H1 := Lib.hid h1; have HST1 := Lib.hid (HST.out.trans hst1); clear hS1 h1 hst1))
  go_wp2_with fail
  refine bodyPost_ret (v := .agg #[.int .u32 (r.2.1 : Nat), .int .u32 (r.2.2 : Nat)]) (by simp [results, Try.results65, go_sem, y6, y7]) rfl ?_
  refine ⟨F1, rfl, H1.out.keptF (G := [w.heap.size + 1]) (((Kept.refl [w.heap.size + 1] _).setCell (.inl (by simp)) _).setCell (.inl (by simp)) _) (by simpa using M2.out.out), ?_⟩
  exact (HST1.out.setNew (p := ⟨w.heap.size + 1, 0, none⟩) (by simp) _).setNew (p := ⟨w.heap.size + 1, 1, none⟩) (by simp) _

theorem Stepped.forget {W : World} (h : Stepped W w1 (mb :: F) (mb :: F1)) (hk : Kept [] w W) (hb : w.heap.size ≤ mb) : Stepped w w1 F F1 :=
  ⟨⟨h.kept.os.trans hk.os, h.kept.tape.trans hk.tape, h.kept.output.trans hk.output, Nat.le_trans hk.size h.kept.size, fun k hlt hn => (h.kept.block k (Nat.lt_of_lt_of_le hlt hk.size) (by simp only [List.mem_cons, not_or]; exact ⟨by omega, hn⟩)).trans (hk.block k hlt (by simp))⟩,
   fun b hbm => by
    rcases h.fresh b (List.mem_cons_of_mem _ hbm) with h1 | h1
    · rcases List.mem_cons.1 h1 with h2 | h2
      · exact .inr (by omega)
      · exact .inl h2
    · exact .inr (Nat.le_trans hk.size h1)⟩
theorem CmpAt.start {W : World} (hg : GraphAt W p F g) {sa sb : Value} {sg so : Bool} : CmpAt (W.alloc (.cells #[.pointer (some ⟨p, 0, none⟩), sa, sb, .bool sg, .bool so, .int .i64 0] 120)) W.heap.size p F g sa sb sg so :=
  ⟨hg.kept0 ((Kept.refl [] W).alloc _), (Mine.new (F := []) rfl (by simp)).heap⟩
def eqG (g : Gr) (la lb : List Nat) : Gr × Nat := ((allTo true false la.length la lb la.length g 0 la.length).1, (allTo true false la.length la lb la.length g 0 la.length).2.1)
def lessG (sg : Bool) (g : Gr) (la lb : List Nat) : Gr × Nat := ((allTo false sg la.length la lb la.length g 0 la.length).1, (allTo false sg la.length la lb la.length g 0 la.length).2.2)
set_option maxHeartbeats 1600000 in
set_option maxRecDepth 100000 in
theorem less_c (hg : GraphAt w p F g) (a b : Option Addr) (h1 : 1 ≤ n) (hn : n ≤ 64) (hla : la.length = n) (hlb : lb.length = n) (hm : g.nodes.length ≤ 179000)
    (hsa : SlN w .u32 a la) (hsb : SlN w .u32 b lb) (hda : ∀ x ∈ ft a, x ∉ F) (hdb : ∀ x ∈ ft b, x ∉ F) (hoa : ∀ x ∈ la, g.ok x) (hob : ∀ x ∈ lb, g.ok x) :
    Calls Try.prog 15 #[.pointer (some ⟨p, 0, none⟩), .bool sg, .slice a n ca, .slice b n cb] w (Twos (lessG sg g la lb) w p F) := by
  obtain ⟨ada, rfl, ha0⟩ := hsa 0 (by omega)
  obtain ⟨adb, rfl, hb0⟩ := hsb 0 (by omega)
  have l1 := World.block_lt_of_cell? w _ ha0
  have l2 := World.block_lt_of_cell? w _ hb0
  rw [block_add] at l1 l2
  have HA := Lib.hid (compare_asks_ok hg (by omega) (some ada) (some adb) ca cb n la lb h1 hn hla hlb hsa hsb hoa hob)
  have HC := Lib.hid (fun (W : World) (hk : Kept [] w W) => all_c (w := W.alloc (.cells #[.pointer (some ⟨p, 0, none⟩), .slice (some ada) n ca, .slice (some adb) n cb, .bool sg, .bool false, .int .i64 0] 120)) (mb := W.heap.size) (sg := sg) (so := false)
    (CmpAt.start (hg.kept0 hk)) h1 hn hla hlb hm (hsa.kept0 (hk.alloc _)) (hsb.kept0 (hk.alloc _)) (by intro x hx hmm; rw [mem_ft] at hx; subst hx; rcases List.mem_cons.1 hmm with h | h; (have := hk.size; omega); exact hda _ (mem_ft.2 rfl) h) (by intro x hx hmm; rw [mem_ft] at hx; subst hx; rcases List.mem_cons.1 hmm with h | h; (have := hk.size; omega); exact hdb _ (mem_ft.2 rfl) h) hoa hob)
  have HE := Lib.hid (show lessG sg g la lb = ((allTo false sg n la lb n g 0 n).1, (allTo false sg n la lb n g 0 n).2.2) from by unfold lessG; rw [hla])
  clear hg hsa hsb hda hdb hoa hob hla hlb ha0 hb0
  go_enter Try.func15, Try.ntmps15
  go_wp2_with fail
  refine HA.out.mono ?_
  rintro e w1 ⟨rfl, hk1⟩
  have HK1 := Lib.hid hk1
  have hsz1 := hk1.size
  clear hk1
  go_wp2_with fail
  refine (HC.out w1 HK1.out).mono ?_
  generalize allTo false sg n la lb n g 0 n = r at *
  rintro e w2 ⟨F2, rfl, h2, hst2⟩
  have H2 := Lib.hid h2
  have HST2 := Lib.hid hst2
  have e5 : ∀ o, (w2.alloc o).cell? ⟨w1.heap.size, 5, none⟩ = some (.int .i64 0) := fun o => ((Kept.refl [] w2).alloc o).cell (blk_cell h2.blk 5) (by simp)
  clear h2 hst2
  go_wp2_with fail
  go_ret2
  refine ⟨F2, by rw [HE.out]; rfl, by rw [HE.out]; exact H2.out.graph.kept0 ((Kept.refl [] _).alloc _), (HST2.out.forget (HK1.out.alloc _) hsz1).alloc _⟩
set_option maxHeartbeats 1600000 in
set_option maxRecDepth 100000 in
theorem equal_c (hg : GraphAt w p F g) (a b : Option Addr) (h1 : 1 ≤ n) (hn : n ≤ 64) (hla : la.length = n) (hlb : lb.length = n) (hm : g.nodes.length ≤ 179000)
    (hsa : SlN w .u32 a la) (hsb : SlN w .u32 b lb) (hda : ∀ x ∈ ft a, x ∉ F) (hdb : ∀ x ∈ ft b, x ∉ F) (hoa : ∀ x ∈ la, g.ok x) (hob : ∀ x ∈ lb, g.ok x) :
    Calls Try.prog 14 #[.pointer (some ⟨p, 0, none⟩), .slice a n ca, .slice b n cb] w (Twos (eqG g la lb) w p F) := by
  obtain ⟨ada, rfl, ha0⟩ := hsa 0 (by omega)
  obtain ⟨adb, rfl, hb0⟩ := hsb 0 (by omega)
  have l1 := World.block_lt_of_cell? w _ ha0
  have l2 := World.block_lt_of_cell? w _ hb0
  rw [block_add] at l1 l2
  have HA := Lib.hid (compare_asks_ok hg (by omega) (some ada) (some adb) ca cb n la lb h1 hn hla hlb hsa hsb hoa hob)
  have HC := Lib.hid (fun (W : World) (hk : Kept [] w W) => all_c (w := W.alloc (.cells #[.pointer (some ⟨p, 0, none⟩), .slice (some ada) n ca, .slice (some adb) n cb, .bool false, .bool true, .int .i64 0] 120)) (mb := W.heap.size) (sg := false) (so := true)
    (CmpAt.start (hg.kept0 hk)) h1 hn hla hlb hm (hsa.kept0 (hk.alloc _)) (hsb.kept0 (hk.alloc _)) (by intro x hx hmm; rw [mem_ft] at hx; subst hx; rcases List.mem_cons.1 hmm with h | h; (have := hk.size; omega); exact hda _ (mem_ft.2 rfl) h) (by intro x hx hmm; rw [mem_ft] at hx; subst hx; rcases List.mem_cons.1 hmm with h | h; (have := hk.size; omega); exact hdb _ (mem_ft.2 rfl) h) hoa hob)
  have HE := Lib.hid (show eqG g la lb = ((allTo true false n la lb n g 0 n).1, (allTo true false n la lb n g 0 n).2.1) from by unfold eqG; rw [hla])
  clear hg hsa hsb hda hdb hoa hob hla hlb ha0 hb0
  go_enter Try.func14, Try.ntmps14
  go_wp2_with fail
  refine HA.out.mono ?_
  rintro e w1 ⟨rfl, hk1⟩
  have HK1 := Lib.hid hk1
  have hsz1 := hk1.size
  clear hk1
  go_wp2_with fail
  refine (HC.out w1 HK1.out).mono ?_
  generalize allTo true false n la lb n g 0 n = r at *
  rintro e w2 ⟨F2, rfl, h2, hst2⟩
  have H2 := Lib.hid h2
  have HST2 := Lib.hid hst2
  have e5 : ∀ o, (w2.alloc o).cell? ⟨w1.heap.size, 5, none⟩ = some (.int .i64 0) := fun o => ((Kept.refl [] w2).alloc o).cell (blk_cell h2.blk 5) (by simp)
  clear h2 hst2
  go_wp2_with fail
  go_ret2
  refine ⟨F2, by rw [HE.out]; rfl, by rw [HE.out]; exact H2.out.graph.kept0 ((Kept.refl [] _).alloc _), (HST2.out.forget (HK1.out.alloc _) hsz1).alloc _⟩
set_option maxHeartbeats 800000 in
set_option maxRecDepth 100000 in
theorem zero_c (hg : GraphAt w p F g) (a : Option Addr) (h1 : 1 ≤ n) (hn : n ≤ 64) (hla : la.length = n) (hm : g.nodes.length ≤ 179000)
    (hsa : SlN w .u32 a la) (hda : ∀ x ∈ ft a, x ∉ F) (hoa : ∀ x ∈ la, g.ok x) :
    Calls Try.prog 16 #[.pointer (some ⟨p, 0, none⟩), .slice a n ca] w (Twos (eqG g la (List.replicate n 0)) w p F) := by
  have HC := Lib.hid (fun (W : World) (c : Nat) (hk : Kept [] w W) (ho : Own W 24 (some ⟨w.heap.size, 0, none⟩) n c (nats .u32 (List.replicate n 0))) => equal_c (w := W) (lb := List.replicate n 0) (ca := ca) (cb := c) (hg.kept0 hk) a (some ⟨w.heap.size, 0, none⟩) h1 hn hla (by simp) hm (hsa.kept0 hk) ho.sln hda
    (by intro x hx hmm; rw [mem_ft] at hx; subst hx; exact absurd (hg.lt _ hmm) (Nat.lt_irrefl _)) hoa (by intro x hx; rw [List.mem_replicate] at hx; rw [hx.2]; exact ok_zero hg.wf))
  clear hg hsa hda hoa hla
  go_enter Try.func16, Try.ntmps16
  go_wp2_with (at_make; refine wpList_mk rfl rfl Try.underlying34 lit_info rfl rfl rfl (by omega) (by unfold maxLen; omega) ?_; intro w2 hown2 hst2; rw [nats_replicate] at hown2)
  refine (HC.out _ _ hst2.kept hown2).mono ?_
  rintro e w3 ⟨F3, rfl, hg3, hst3⟩
  go_wp2_with fail
  go_ret2
  exact ⟨F3, rfl, hg3, ⟨⟨hst3.kept.os.trans hst2.kept.os, hst3.kept.tape.trans hst2.kept.tape, hst3.kept.output.trans hst2.kept.output, Nat.le_trans hst2.kept.size hst3.kept.size, fun k hk hn => (hst3.kept.block k (Nat.lt_of_lt_of_le hk hst2.kept.size) hn).trans (hst2.kept.block k hk (by simp))⟩, fun b hb => (hst3.fresh b hb).imp id fun h => Nat.le_trans hst2.kept.size h⟩⟩
end Go.Proofs.Ytfngfoabknbgdaa
