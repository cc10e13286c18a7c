/-
  Package compare: what is asked, the comparer's calls, one bit.
-/
import Derived.Test.YtfngfoabknbgdaaMaker
namespace Go.Proofs.Ytfngfoabknbgdaa
open Go.ChangeShapes Go.WideShapes Go.ChangeAt Go.RowKit
open Go.Maps (Keyed)
open Go.WideMaps
set_option linter.unusedVariables false

variable {w w' : World} {p mb : Nat} {F S : List Nat} {g : Gr} {sa sb : Value} {sg so : Bool}

theorem compare_asks1 (x q : Nat) (hg : GraphAt w p F g) (hm : g.nodes.length ≤ 1000000) (hx : x < 4294967296) (hq : w.cell? ⟨q, 0, none⟩ = some (.pointer (some ⟨p, 0, none⟩))) :
    Calls Try.prog 118 #[.int .u32 x, .pointer (some ⟨q, 0, none⟩)] w fun e w' => e = .returned (.bool (decide (g.nodes.length ≤ x / 2))) ∧ ∃ k, w' = w.drewN k := by
  have HF := Lib.hid (show decide ((g.nodes.length : Int) ≤ (x : Int) / 2) = decide (g.nodes.length ≤ x / 2) by rw [Bool.eq_iff_iff]; simp; omega)
  have HG := Lib.hid (fun n => aig_nodes (hg.kept0 ((Kept.refl [] w).drewN n)) hm)
  clear hg
  go_enter Try.func118, Try.ntmps118
  go_wp2_with fail
  go_quiet (first
    | (go_at_call 41; exact q_same (lit_node _ _ hx))
    | (go_at_call 39; exact q_same (HG.out _)))
  go_wp2
  go_ret
  exact ⟨by rw [← HF.out]; rfl, _, rfl⟩
theorem compare_asks_ok (hg : GraphAt w p F g) (hm : g.nodes.length ≤ 200000) (a b : Option Addr) (ca cb n : Nat) (la lb : List Nat) (h1 : 1 ≤ n) (h64 : n ≤ 64) (hla : la.length = n) (hlb : lb.length = n) (hsa : SlN w .u32 a la) (hsb : SlN w .u32 b lb) (hoa : ∀ x ∈ la, g.ok x) (hob : ∀ x ∈ lb, g.ok x) :
    Calls Try.prog 64 #[.pointer (some ⟨p, 0, none⟩), .slice a n ca, .slice b n cb] w fun e w' => e = .returned (.int .i64 0) ∧ Kept [] w w' := by
  have hp := hg.wf.pos
  have hne : ((g.nodes.length : Int) == 0) = false := by simp only [beq_eq_false_iff_ne, ne_eq]; omega
  have HG := Lib.hid (fun o => hg.kept0 ((Kept.refl [] w).alloc o))
  have HBA := Lib.hid (show (la.any fun x => decide (g.nodes.length ≤ x / 2)) = false from bad_ok hoa)
  have HBB := Lib.hid (show (lb.any fun x => decide (g.nodes.length ≤ x / 2)) = false from bad_ok hob)
  have HCA := Lib.hid (contains_any 118 Try.call118 (.pointer (some ⟨w.heap.size, 0, none⟩)) (fun x => decide (g.nodes.length ≤ x / 2)) a ca n la (w.alloc (.cells #[.pointer (some ⟨p, 0, none⟩)] 22)) hla (by omega) (hsa.kept0 ((Kept.refl [] w).alloc _)) (fun x hx k =>
    compare_asks1 x w.heap.size ((HG.out _).kept0 ((Kept.refl [] _).drewN k)) (by omega) (Gr.ok_lt (hoa x hx) hm) (by simp [World.cell?_alloc_new])))
  have HCB := Lib.hid (fun m => contains_any 118 Try.call118 (.pointer (some ⟨w.heap.size, 0, none⟩)) (fun x => decide (g.nodes.length ≤ x / 2)) b cb n lb ((w.alloc (.cells #[.pointer (some ⟨p, 0, none⟩)] 22)).drewN m) hlb (by omega) ((hsb.kept0 ((Kept.refl [] w).alloc _)).drewN m) (fun x hx k =>
    compare_asks1 x w.heap.size (((HG.out _).kept0 ((Kept.refl [] _).drewN m)).kept0 ((Kept.refl [] _).drewN k)) (by omega) (Gr.ok_lt (hob x hx) hm) (by simp [World.cell?_alloc_new])))
  clear hg hla hlb hsa hsb hoa hob
  go_enter Try.func64, Try.ntmps64
  go_wp2_with fail
  refine (aig_nodes (HG.out _) (by omega)).mono ?_
  rintro e w' ⟨rfl, rfl⟩
  go_wp2_with fail
  refine HCA.out.mono ?_
  rw [HBA.out]
  rintro e w' ⟨rfl, k, rfl⟩
  go_wp2_with fail
  refine (HCB.out k).mono ?_
  rw [HBB.out]
  rintro e w' ⟨rfl, k2, rfl⟩
  go_wp2_with fail
  go_ret
  exact ⟨rfl, by repeat (first | with_reducible exact Kept.refl _ _ | with_reducible apply Kept.drew | with_reducible apply Kept.drewN | with_reducible apply Kept.alloc)⟩

structure CmpAt (w : World) (mb p : Nat) (F : List Nat) (g : Gr) (sa sb : Value) (sg so : Bool) : Prop where
  graph : GraphAt w p F g
  blk : w.heap[mb]? = some (.cells #[.pointer (some ⟨p, 0, none⟩), sa, sb, .bool sg, .bool so, .int .i64 0] 120 (0, 0))
theorem CmpAt.notF (h : CmpAt w mb p F g sa sb sg so) : mb ∉ F := h.graph.notin h.blk (by decide) (by decide) (by decide)
theorem CmpAt.kept0 (h : CmpAt w mb p F g sa sb sg so) (hk : Kept [] w w') : CmpAt w' mb p F g sa sb sg so := ⟨h.graph.kept0 hk, hk.heap h.blk (by simp)⟩
/-- what is of an element type that neither has lies elsewhere -/
theorem CmpAt.apart (h : CmpAt w mb p F g sa sb sg so) {e : TypeId} {size n cap : Nat} {a : Option Addr} {xs : List Value} (ho : w.ownsRow 0 e size (.slice a n cap) n xs) (h1 : e ≠ 114) (h2 : e ≠ 125) (h3 : e ≠ 3) (h4 : e ≠ 120) : ∀ b ∈ ft a, b ∉ mb :: F := fun b hb hm => by
  rcases List.mem_cons.1 hm with h5 | h5
  · exact blk_apart h.blk ho h4 (h5 ▸ hb)
  · exact h.graph.apart ho h1 h2 h3 b hb h5

def CmpPost (r : Gr × Nat) (sa sb : Value) (sg so : Bool) (w : World) (mb p : Nat) (F : List Nat) (e : Ending) (w' : World) : Prop :=
  ∃ F', e = .returned (.int .u32 (r.2 : Nat)) ∧ CmpAt w' mb p F' r.1 sa sb sg so ∧ Stepped w w' (mb :: F) (mb :: F')
set_option maxHeartbeats 800000 in
set_option maxRecDepth 100000 in
theorem cmp_of (fid : FuncId) (hF : ∀ xs w, (callFunc fid xs).run Try.prog w = .ok (Next.enter fid xs) w) {r : Gr × Nat} (h : CmpAt w mb p F g sa sb sg so) (a : Option Addr) (n c : Nat) (HC : Calls Try.prog fid #[.pointer (some ⟨p, 0, none⟩), .slice a n c] w (Twos r w p F)) :
    Calls Try.prog 121 #[.pointer (some ⟨mb, 0, none⟩), .func (.func fid) #[.pointer (some ⟨p, 0, none⟩)] #[], .slice a n c] w (CmpPost r sa sb sg so w mb p F) := by
  have c1 : w.cell? ⟨mb, 5, none⟩ = some (.int .i64 0) := blk_cell h.blk 5
  have hlt := blk_lt h.blk
  have H := Lib.hid h; clear h
  have HX := Lib.hid HC; clear HC
  go_enter Try.func121, Try.ntmps121
  go_wp2_with fail
  refine HX.out.mono ?_
  rintro e w1 ⟨F1, rfl, hg1, hst1⟩
  have hb1 := hst1.kept.heap H.out.blk H.out.notF
  have d1 : w1.cell? ⟨mb, 5, none⟩ = some (.int .i64 0) := blk_cell hb1 5
  have f1 : w1.frozen? ⟨mb, 5, none⟩ = false := blk_free hb1 5
  have hb2 : (w1.setCell ⟨mb, 5, none⟩ (.int .i64 0)).heap[mb]? = some (.cells #[.pointer (some ⟨p, 0, none⟩), sa, sb, .bool sg, .bool so, .int .i64 0] 120 (0, 0)) := blk_set hb1 5 _
  have hkk : Kept [mb] w1 (w1.setCell ⟨mb, 5, none⟩ (.int .i64 0)) := (Kept.refl [mb] w1).setCell (p := ⟨mb, 5, none⟩) (.inl (by simp)) _
  have hnF : mb ∉ F1 := hg1.notin hb1 (by decide) (by decide) (by decide)
  have HG2 := Lib.hid (hg1.kept hkk (fun b hb hm => hnF (by simp at hm; exact hm ▸ hb)))
  have HB2 := Lib.hid hb2; clear hb2
  have HS := Lib.hid ((hst1.behind [mb]).setCell (p := ⟨mb, 5, none⟩) (by simp) (.int .i64 0))
  clear hg1 hst1 hb1 hkk
  go_wp2_with fail
  go_ret
  exact ⟨F1, rfl, ⟨HG2.out, HB2.out⟩, HS.out⟩

theorem CmpPost.back {r : Gr × Nat} {o : Obj} {e : Ending} (h : CmpPost r sa sb sg so (w.alloc o) mb p F e w') : CmpPost r sa sb sg so w mb p F e w' := by
  obtain ⟨F', h1, h2, h3⟩ := h
  exact ⟨F', h1, h2, ((Stepped.refl w (mb :: F)).alloc o).trans h3⟩
section
variable {x y : Nat}
theorem ck_and (h : CmpAt w mb p F g sa sb sg so) (hm : g.nodes.length ≤ 190000) (hx : g.ok x) (hy : g.ok y) :
    Calls Try.prog 121 #[.pointer (some ⟨mb, 0, none⟩), .func (.func 84) #[.pointer (some ⟨p, 0, none⟩)] #[], .slice (some ⟨w.heap.size, 0, none⟩) 2 2] (w.alloc (.cells #[.int .u32 x, .int .u32 y] 24)) (CmpPost (andG g x y) sa sb sg so w mb p F) :=
  (cmp_of 84 Try.call84 (h.kept0 ((Kept.refl [] w).alloc _)) _ 2 2 (aig_And_ (h.graph.kept0 ((Kept.refl [] w).alloc _)) _ 2 2 [x, y] rfl (by omega) (sln_two w x y) (by simp [hx, hy]) (two_far h.graph))).mono fun _ _ hp => hp.back
theorem ck_or (h : CmpAt w mb p F g sa sb sg so) (hm : g.nodes.length ≤ 190000) (hx : g.ok x) (hy : g.ok y) :
    Calls Try.prog 121 #[.pointer (some ⟨mb, 0, none⟩), .func (.func 109) #[.pointer (some ⟨p, 0, none⟩)] #[], .slice (some ⟨w.heap.size, 0, none⟩) 2 2] (w.alloc (.cells #[.int .u32 x, .int .u32 y] 24)) (CmpPost (orG g x y) sa sb sg so w mb p F) :=
  (cmp_of 109 Try.call109 (h.kept0 ((Kept.refl [] w).alloc _)) _ 2 2 (aig_Or_ (h.graph.kept0 ((Kept.refl [] w).alloc _)) _ 2 2 [x, y] rfl (by omega) (sln_two w x y) (by simp [hx, hy]) (two_far h.graph))).mono fun _ _ hp => hp.back
theorem ck_xor (h : CmpAt w mb p F g sa sb sg so) (hm : g.nodes.length ≤ 190000) (hx : g.ok x) (hy : g.ok y) :
    Calls Try.prog 121 #[.pointer (some ⟨mb, 0, none⟩), .func (.func 85) #[.pointer (some ⟨p, 0, none⟩)] #[], .slice (some ⟨w.heap.size, 0, none⟩) 2 2] (w.alloc (.cells #[.int .u32 x, .int .u32 y] 24)) (CmpPost (xorG g x y) sa sb sg so w mb p F) :=
  (cmp_of 85 Try.call85 (h.kept0 ((Kept.refl [] w).alloc _)) _ 2 2 (aig_Xor_ (h.graph.kept0 ((Kept.refl [] w).alloc _)) _ 2 2 [x, y] rfl (by omega) (sln_two w x y) (by simp [hx, hy]) (two_far h.graph))).mono fun _ _ hp => hp.back
end

end Go.Proofs.Ytfngfoabknbgdaa
