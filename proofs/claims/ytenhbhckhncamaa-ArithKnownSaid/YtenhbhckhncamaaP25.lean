/-
  Package adder: Add, from its arguments to its three results.
-/
import Derived.Test.YtenhbhckhncamaaP23
import Derived.Test.YtenhbhckhncamaaP18
import Derived.Test.YtenhbhckhncamaaP24
namespace Go.Proofs.Ytenhbhckhncamaa
open Go.ChangeShapes Go.WideShapes Go.ChangeAt Go.RowKit
open Go.Maps (Keyed)
open Go.WideMaps
set_option linter.unusedVariables false

variable {w w' : World} {p mb : Nat} {F S : List Nat} {g : Gr}
theorem add_asks1 (x q : Nat) (hg : GraphAt w p F g) (hm : g.nodes.length ≤ 1000000) (hx : x < 4294967296) (hq : w.cell? ⟨q, 0, none⟩ = some (.pointer (some ⟨p, 0, none⟩))) :
    Calls Try.prog 62 #[.int .u32 x, .pointer (some ⟨q, 0, none⟩)] w fun e w' => e = .returned (.bool (decide (g.nodes.length ≤ x / 2))) ∧ ∃ k, w' = w.drewN k := by
  have HF := Lib.hid (show decide ((g.nodes.length : Int) ≤ (x : Int) / 2) = decide (g.nodes.length ≤ x / 2) by rw [Bool.eq_iff_iff]; simp; omega)
  have HG := Lib.hid (fun n => aig_nodes (hg.kept0 ((Kept.refl [] w).drewN n)) hm)
  clear hg
  go_enter Try.func62, Try.ntmps62
  go_wp2_with fail
  go_quiet (first
    | (go_at_call 41; exact q_same (lit_node _ _ hx))
    | (go_at_call 36; exact q_same (HG.out _)))
  go_wp2
  go_ret
  exact ⟨by rw [← HF.out]; rfl, _, rfl⟩

def AddPost (r : Gr × List Nat × Nat) (n : Nat) (w : World) (p : Nat) (F : List Nat) (e : Ending) (w' : World) : Prop :=
  ∃ F' a c, e = .returned (.tuple #[.slice a n c, .int .u32 (r.2.2 : Nat), .int .i64 0]) ∧ GraphAt w' p F' r.1 ∧ Own w' 34 a n c (nats .u32 r.2.1) ∧ Stepped w w' F (F' ++ ft a)

theorem MakAt.start {W : World} (hg : GraphAt W p F g) : MakAt (W.alloc (.cells #[.pointer (some ⟨p, 0, none⟩), .int .i64 0] 101)) W.heap.size p F g :=
  ⟨hg.kept0 ((Kept.refl [] W).alloc _), (Mine.new (F := []) rfl (by simp)).heap⟩

set_option maxHeartbeats 3200000 in
set_option maxRecDepth 100000 in
theorem add_c {how c n : Nat} {la lb : List Nat} {a b : Option Addr} {ca cb : Nat} (hh : how = 1 ∨ how = 2) (hg : GraphAt w p F g) (hm : g.nodes.length ≤ 169000) (h1 : 1 ≤ n) (hn : n ≤ 64) (hla : la.length = n) (hlb : lb.length = n)
    (hsa : SlN w .u32 a la) (hsb : SlN w .u32 b lb) (hoa : ∀ x ∈ la, g.ok x) (hob : ∀ x ∈ lb, g.ok x) (hc : g.ok c) (hda : ∀ x ∈ ft a, x ∉ F) (hdb : ∀ x ∈ ft b, x ∉ F) :
    Calls Try.prog 48 #[.pointer (some ⟨p, 0, none⟩), .int .i64 how, .slice a n ca, .slice b n cb, .int .u32 c] w (AddPost (if how = 1 then ripTo g la lb c n else aheadG g la lb c n) n w p F) := by
  obtain ⟨ada, rfl, ha0⟩ := hsa 0 (by omega)
  obtain ⟨adb, rfl, hb0⟩ := hsb 0 (by omega)
  have l1 := World.block_lt_of_cell? w _ ha0
  have l2 := World.block_lt_of_cell? w _ hb0
  rw [block_add] at l1 l2
  have hp := hg.wf.pos
  have hne : ((g.nodes.length : Int) == 0) = false := by simp only [beq_eq_false_iff_ne, ne_eq]; omega
  have HG := Lib.hid (fun o => hg.kept0 ((Kept.refl [] w).alloc o))
  have HBC : Hid (decide (g.nodes.length ≤ c / 2) = false) := Lib.hid (decide_eq_false (by have h := hc; unfold Gr.ok at h; omega))
  have HBA := Lib.hid (show (la.any fun x => decide (g.nodes.length ≤ x / 2)) = false from bad_ok hoa)
  have HBB := Lib.hid (show (lb.any fun x => decide (g.nodes.length ≤ x / 2)) = false from bad_ok hob)
  have HC1 := Lib.hid (add_asks1 (w := w.alloc (.cells #[.pointer (some ⟨p, 0, none⟩)] 40)) c w.heap.size (HG.out _) (by omega) (Gr.ok_lt hc (by omega)) (by simp [World.cell?_alloc_new]))
  have HCA := Lib.hid (fun m => contains_any 62 Try.call62 (.pointer (some ⟨w.heap.size, 0, none⟩)) (fun x => decide (g.nodes.length ≤ x / 2)) (some ada) ca n la ((w.alloc (.cells #[.pointer (some ⟨p, 0, none⟩)] 40)).drewN m) hla (by omega) ((hsa.kept0 ((Kept.refl [] w).alloc _)).drewN m) (fun x hx k =>
    add_asks1 x w.heap.size (((HG.out _).kept0 ((Kept.refl [] _).drewN m)).kept0 ((Kept.refl [] _).drewN k)) (by omega) (Gr.ok_lt (hoa x hx) (by omega)) (by simp [World.cell?_alloc_new])))
  have HCB := Lib.hid (fun m => contains_any 62 Try.call62 (.pointer (some ⟨w.heap.size, 0, none⟩)) (fun x => decide (g.nodes.length ≤ x / 2)) (some adb) cb n lb ((w.alloc (.cells #[.pointer (some ⟨p, 0, none⟩)] 40)).drewN m) hlb (by omega) ((hsb.kept0 ((Kept.refl [] w).alloc _)).drewN m) (fun x hx k =>
    add_asks1 x w.heap.size (((HG.out _).kept0 ((Kept.refl [] _).drewN m)).kept0 ((Kept.refl [] _).drewN k)) (by omega) (Gr.ok_lt (hob x hx) (by omega)) (by simp [World.cell?_alloc_new])))
  have HRP := Lib.hid (fun (W : World) (hk : Kept [] w W) => ripple_c (w := W.alloc (.cells #[.pointer (some ⟨p, 0, none⟩), .int .i64 0] 101)) (mb := W.heap.size) (ca := ca) (cb := cb) (MakAt.start (hg.kept0 hk)) (by omega) hn hla hlb (hsa.kept0 (hk.alloc _)) (hsb.kept0 (hk.alloc _)) hoa hob hc (by intro x hx hmm; rw [mem_ft] at hx; subst hx; rcases List.mem_cons.1 hmm with h | h; (have := hk.size; omega); exact hda _ (mem_ft.2 rfl) h) (by intro x hx hmm; rw [mem_ft] at hx; subst hx; rcases List.mem_cons.1 hmm with h | h; (have := hk.size; omega); exact hdb _ (mem_ft.2 rfl) h))
  have HAH := Lib.hid (fun (W : World) (hk : Kept [] w W) => ahead_c (w := W.alloc (.cells #[.pointer (some ⟨p, 0, none⟩), .int .i64 0] 101)) (mb := W.heap.size) (ca := ca) (cb := cb) (MakAt.start (hg.kept0 hk)) (by omega) h1 hn hla hlb (hsa.kept0 (hk.alloc _)) (hsb.kept0 (hk.alloc _)) hoa hob hc (by intro x hx hmm; rw [mem_ft] at hx; subst hx; rcases List.mem_cons.1 hmm with h | h; (have := hk.size; omega); exact hda _ (mem_ft.2 rfl) h) (by intro x hx hmm; rw [mem_ft] at hx; subst hx; rcases List.mem_cons.1 hmm with h | h; (have := hk.size; omega); exact hdb _ (mem_ft.2 rfl) h))
  clear hg hsa hsb hoa hob hc hda hdb hla hlb ha0 hb0
  go_enter Try.func48, Try.ntmps48
  rcases hh with rfl | rfl
  · go_wp2_with fail
    refine (aig_nodes (HG.out _) (by omega)).mono ?_
    rintro e w' ⟨rfl, rfl⟩
    go_wp2_with fail
    refine HC1.out.mono ?_
    rw [HBC.out]
    rintro e w' ⟨rfl, k0, rfl⟩
    go_wp2_with fail
    refine (HCA.out _).mono ?_
    rw [HBA.out]
    rintro e w' ⟨rfl, k1, rfl⟩
    go_wp2_with fail
    refine (HCB.out _).mono ?_
    rw [HBB.out]
    rintro e w' ⟨rfl, k2, rfl⟩
    go_wp2_with fail
    obtain ⟨W, hW⟩ : ∃ W, W = (w.alloc (.cells #[.pointer (some ⟨p, 0, none⟩)] 40)).drewN (k0 + k1 + k2) := ⟨_, rfl⟩
    have hs : w.heap.size + 1 = W.heap.size := by rw [hW]; simp [World.drewN]
    have hk : Kept [] w W := by rw [hW]; exact ((Kept.refl [] w).alloc _).drewN _
    rw [← hW, hs]
    have HC := HRP.out W hk
    refine HC.mono ?_
    generalize ripTo g la lb c n = r at *
    rintro e w2 ⟨F2, a2, c2, rfl, h2, hown2, hst2⟩
    have e5 : w2.cell? ⟨W.heap.size, 1, none⟩ = some (.int .i64 0) := blk_cell h2.blk 1
    have H2 := Lib.hid h2
    have HO := Lib.hid hown2
    have HST2 := Lib.hid (Stepped.forget (F := F) (F1 := F2 ++ ft a2) hst2 (hk.alloc _) hk.size)
    clear h2 hown2 hst2 HC hW hs
    go_wp2_with fail
    refine bodyPost_ret (v := .tuple #[.slice a2 n c2, .int .u32 (r.2.2 : Nat), .int .i64 0]) (by simp [results, Try.results48, go_sem]) rfl ?_
    exact ⟨F2, a2, c2, rfl, H2.out.graph, HO.out, HST2.out⟩
  · go_wp2_with fail
    refine (aig_nodes (HG.out _) (by omega)).mono ?_
    rintro e w' ⟨rfl, rfl⟩
    go_wp2_with fail
    refine HC1.out.mono ?_
    rw [HBC.out]
    rintro e w' ⟨rfl, k0, rfl⟩
    go_wp2_with fail
    refine (HCA.out _).mono ?_
    rw [HBA.out]
    rintro e w' ⟨rfl, k1, rfl⟩
    go_wp2_with fail
    refine (HCB.out _).mono ?_
    rw [HBB.out]
    rintro e w' ⟨rfl, k2, rfl⟩
    go_wp2_with fail
    obtain ⟨W, hW⟩ : ∃ W, W = (w.alloc (.cells #[.pointer (some ⟨p, 0, none⟩)] 40)).drewN (k0 + k1 + k2) := ⟨_, rfl⟩
    have hs : w.heap.size + 1 = W.heap.size := by rw [hW]; simp [World.drewN]
    have hk : Kept [] w W := by rw [hW]; exact ((Kept.refl [] w).alloc _).drewN _
    rw [← hW, hs]
    have HC := HAH.out W hk
    refine HC.mono ?_
    generalize aheadG g la lb c n = r at *
    rintro e w2 ⟨F2, a2, c2, rfl, h2, hown2, hst2⟩
    have e5 : w2.cell? ⟨W.heap.size, 1, none⟩ = some (.int .i64 0) := blk_cell h2.blk 1
    have H2 := Lib.hid h2
    have HO := Lib.hid hown2
    have HST2 := Lib.hid (Stepped.forget (F := F) (F1 := F2 ++ ft a2) hst2 (hk.alloc _) hk.size)
    clear h2 hown2 hst2 HC hW hs
    go_wp2_with fail
    refine bodyPost_ret (v := .tuple #[.slice a2 n c2, .int .u32 (r.2.2 : Nat), .int .i64 0]) (by simp [results, Try.results48, go_sem]) rfl ?_
    exact ⟨F2, a2, c2, rfl, H2.out.graph, HO.out, HST2.out⟩
end Go.Proofs.Ytenhbhckhncamaa
