/-
  Package adder: the maker's calls, carries, bit by bit.
-/
import Derived.Test.YtenhbhckhncamaaP15
namespace Go.Proofs.Ytenhbhckhncamaa
open Go.ChangeShapes Go.WideShapes Go.ChangeAt Go.RowKit
open Go.Maps (Keyed)
open Go.WideMaps
set_option linter.unusedVariables false

variable {w w' : World} {p mb : Nat} {F S : List Nat} {g : Gr}

/-- A block of another element type is no part of a graph. -/
theorem GraphAt.notin (h : GraphAt w p F g) {b : Nat} {cs : Array Value} {t : TypeId} {fr : Nat × Nat} (hb : w.heap[b]? = some (.cells cs t fr)) (h1 : t ≠ 48) (h2 : t ≠ 97) (h3 : t ≠ 3) : b ∉ F := by
  obtain ⟨an, cn, ai, ci, m, f, rfl, hc⟩ := h
  intro hf
  simp only [gFoot, List.mem_cons, List.mem_append] at hf
  rcases hf with rfl | rfl | hf | hf
  · have := hc.blk
    rw [hb] at this
    injection this with this
    injection this with _ ht _
    exact h1 ht
  · exact hc.made.nocell hb rfl
  · rcases hc.nodes.2 with ⟨hv, _⟩ | ⟨gg, c, cur, hv, _, hg, _⟩
    · injection hv with hv; subst hv; simp [ft] at hf
    · injection hv with hv; subst hv; rw [mem_ft] at hf; subst hf
      rw [hb] at hg
      injection hg with hg
      injection hg with _ ht _
      exact h2 ht
  · obtain ⟨cur, hg⟩ := hc.inputs.apart hf
    rw [hb] at hg
    injection hg with hg
    injection hg with _ ht _
    exact h3 ht

structure MakAt (w : World) (mb p : Nat) (F : List Nat) (g : Gr) : Prop where
  graph : GraphAt w p F g
  blk : w.heap[mb]? = some (.cells #[.pointer (some ⟨p, 0, none⟩), .int .i64 0] 101 (0, 0))
theorem MakAt.notF (h : MakAt w mb p F g) : mb ∉ F := h.graph.notin h.blk (by decide) (by decide) (by decide)
theorem MakAt.kept0 (h : MakAt w mb p F g) (hk : Kept [] w w') : MakAt w' mb p F g := ⟨h.graph.kept0 hk, hk.heap h.blk (by simp)⟩
/-- what is of an element type that neither has lies elsewhere -/
theorem MakAt.apart (h : MakAt w mb p F g) {e : TypeId} {size n cap : Nat} {a : Option Addr} {xs : List Value} (ho : w.ownsRow 0 e size (.slice a n cap) n xs) (h1 : e ≠ 48) (h2 : e ≠ 97) (h3 : e ≠ 3) (h4 : e ≠ 101) : ∀ b ∈ ft a, b ∉ mb :: F := fun b hb hm => by
  rcases List.mem_cons.1 hm with h5 | h5
  · exact blk_apart h.blk ho h4 (h5 ▸ hb)
  · exact h.graph.apart ho h1 h2 h3 b hb h5

def MakPost (r : Gr × Nat) (w : World) (mb p : Nat) (F : List Nat) (e : Ending) (w' : World) : Prop :=
  ∃ F', e = .returned (.int .u32 (r.2 : Nat)) ∧ MakAt w' mb p F' r.1 ∧ Stepped w w' (mb :: F) (mb :: F')
set_option maxHeartbeats 800000 in
set_option maxRecDepth 100000 in
theorem maker_of (fid : FuncId) (hF : ∀ xs w, (callFunc fid xs).run Try.prog w = .ok (Next.enter fid xs) w) {r : Gr × Nat} (h : MakAt w mb p F g) (a : Option Addr) (n c : Nat) (HC : Calls Try.prog fid #[.pointer (some ⟨p, 0, none⟩), .slice a n c] w (Twos r w p F)) :
    Calls Try.prog 71 #[.pointer (some ⟨mb, 0, none⟩), .func (.func fid) #[.pointer (some ⟨p, 0, none⟩)] #[], .slice a n c] w (MakPost r w mb p F) := by
  have c1 : w.cell? ⟨mb, 1, none⟩ = some (.int .i64 0) := blk_cell h.blk 1
  have hlt := blk_lt h.blk
  have H := Lib.hid h; clear h
  have HX := Lib.hid HC; clear HC
  go_enter Try.func71, Try.ntmps71
  go_wp2_with fail
  refine HX.out.mono ?_
  rintro e w1 ⟨F1, rfl, hg1, hst1⟩
  have hb1 := hst1.kept.heap H.out.blk H.out.notF
  have d1 : w1.cell? ⟨mb, 1, none⟩ = some (.int .i64 0) := blk_cell hb1 1
  have f1 : w1.frozen? ⟨mb, 1, none⟩ = false := blk_free hb1 1
  have hb2 : (w1.setCell ⟨mb, 1, none⟩ (.int .i64 0)).heap[mb]? = some (.cells #[.pointer (some ⟨p, 0, none⟩), .int .i64 0] 101 (0, 0)) := blk_set hb1 1 _
  have hkk : Kept [mb] w1 (w1.setCell ⟨mb, 1, none⟩ (.int .i64 0)) := (Kept.refl [mb] w1).setCell (p := ⟨mb, 1, none⟩) (.inl (by simp)) _
  have hnF : mb ∉ F1 := hg1.notin hb1 (by decide) (by decide) (by decide)
  have HG2 := Lib.hid (hg1.kept hkk (fun b hb hm => hnF (by simp at hm; exact hm ▸ hb)))
  have HB2 := Lib.hid hb2; clear hb2
  have HS := Lib.hid ((hst1.behind [mb]).setCell (p := ⟨mb, 1, none⟩) (by simp) (.int .i64 0))
  clear hg1 hst1 hb1 hkk
  go_wp2_with fail
  go_ret
  exact ⟨F1, rfl, ⟨HG2.out, HB2.out⟩, HS.out⟩

theorem sln_two (w : World) (x y : Nat) : SlN (w.alloc (.cells #[.int .u32 (x : Int), .int .u32 (y : Int)] 34)) .u32 (some ⟨w.heap.size, 0, none⟩) [x, y] := by have := sln_new w .u32 [x, y] 34; exact this
theorem two_far (hg : GraphAt w p F g) : ∀ b ∈ ft (some (⟨w.heap.size, 0, none⟩ : Addr)), b ∉ F := by intro b hb hF; simp [ft] at hb; subst hb; exact absurd (hg.lt _ hF) (Nat.lt_irrefl _)
theorem MakPost.back {r : Gr × Nat} {o : Obj} {e : Ending} (h : MakPost r (w.alloc o) mb p F e w') : MakPost r w mb p F e w' := by
  obtain ⟨F', h1, h2, h3⟩ := h
  exact ⟨F', h1, h2, ((Stepped.refl w (mb :: F)).alloc o).trans h3⟩
section
variable {x y : Nat}
theorem mk_and (h : MakAt w mb p F g) (hm : g.nodes.length ≤ 190000) (hx : g.ok x) (hy : g.ok y) :
    Calls Try.prog 71 #[.pointer (some ⟨mb, 0, none⟩), .func (.func 24) #[.pointer (some ⟨p, 0, none⟩)] #[], .slice (some ⟨w.heap.size, 0, none⟩) 2 2] (w.alloc (.cells #[.int .u32 x, .int .u32 y] 34)) (MakPost (andG g x y) w mb p F) :=
  (maker_of 24 Try.call24 (h.kept0 ((Kept.refl [] w).alloc _)) _ 2 2 (aig_And_ (h.graph.kept0 ((Kept.refl [] w).alloc _)) _ 2 2 [x, y] rfl (by omega) (sln_two w x y) (by simp [hx, hy]) (two_far h.graph))).mono fun _ _ hp => hp.back
theorem mk_or (h : MakAt w mb p F g) (hm : g.nodes.length ≤ 190000) (hx : g.ok x) (hy : g.ok y) :
    Calls Try.prog 71 #[.pointer (some ⟨mb, 0, none⟩), .func (.func 25) #[.pointer (some ⟨p, 0, none⟩)] #[], .slice (some ⟨w.heap.size, 0, none⟩) 2 2] (w.alloc (.cells #[.int .u32 x, .int .u32 y] 34)) (MakPost (orG g x y) w mb p F) :=
  (maker_of 25 Try.call25 (h.kept0 ((Kept.refl [] w).alloc _)) _ 2 2 (aig_Or_ (h.graph.kept0 ((Kept.refl [] w).alloc _)) _ 2 2 [x, y] rfl (by omega) (sln_two w x y) (by simp [hx, hy]) (two_far h.graph))).mono fun _ _ hp => hp.back
theorem mk_xor (h : MakAt w mb p F g) (hm : g.nodes.length ≤ 190000) (hx : g.ok x) (hy : g.ok y) :
    Calls Try.prog 71 #[.pointer (some ⟨mb, 0, none⟩), .func (.func 26) #[.pointer (some ⟨p, 0, none⟩)] #[], .slice (some ⟨w.heap.size, 0, none⟩) 2 2] (w.alloc (.cells #[.int .u32 x, .int .u32 y] 34)) (MakPost (xorG g x y) w mb p F) :=
  (maker_of 26 Try.call26 (h.kept0 ((Kept.refl [] w).alloc _)) _ 2 2 (aig_Xor_ (h.graph.kept0 ((Kept.refl [] w).alloc _)) _ 2 2 [x, y] rfl (by omega) (sln_two w x y) (by simp [hx, hy]) (two_far h.graph))).mono fun _ _ hp => hp.back
end

/-- Or(x, And(y, z)) -/
def carryG (g : Gr) (x y z : Nat) : Gr × Nat := orG (andG g y z).1 x (andG g y z).2
theorem carryG_spec {x y z : Nat} (hw : WF g.nodes) (hx : g.ok x) (hy : g.ok y) (hz : g.ok z) : WF (carryG g x y z).1.nodes ∧ Ext 2 g (carryG g x y z).1 ∧ (carryG g x y z).1.ok (carryG g x y z).2 := by
  obtain ⟨h1, h2, h3⟩ := andG_spec hw hy hz
  obtain ⟨h4, h5, h6⟩ := orG_spec h1 (h2.ok hx) h3
  exact ⟨h4, h2.trans h5, h6⟩
set_option maxHeartbeats 800000 in
set_option maxRecDepth 100000 in
theorem maker_carry {x y z : Nat} (h : MakAt w mb p F g) (hm : g.nodes.length ≤ 180000) (hx : g.ok x) (hy : g.ok y) (hz : g.ok z) :
    Calls Try.prog 72 #[.pointer (some ⟨mb, 0, none⟩), .int .u32 x, .int .u32 y, .int .u32 z] w (MakPost (carryG g x y z) w mb p F) := by
  have c0 : w.cell? ⟨mb, 0, none⟩ = some (.pointer (some ⟨p, 0, none⟩)) := blk_cell h.blk 0
  have HS := Lib.hid (andG_spec h.graph.wf hy hz)
  have HE := Lib.hid (show carryG g x y z = orG (andG g y z).1 x (andG g y z).2 from rfl)
  have HA := Lib.hid (mk_and h (by omega) hy hz)
  obtain ⟨⟨g1, v1⟩, E1⟩ : ∃ r, andG g y z = r := ⟨_, rfl⟩
  rw [E1] at HS HE HA
  simp only at HS HE
  have hle := HS.out.2.1.le
  have HX := Lib.hid (HS.out.2.1.ok hx)
  clear h hx hy hz E1
  go_enter Try.func72, Try.ntmps72
  go_wp2_with fail
  refine HA.out.mono ?_
  rintro e w1 ⟨F1, rfl, h1, hst1⟩
  have h1 : MakAt w1 mb p F1 g1 := h1
  have c1 : w1.cell? ⟨mb, 0, none⟩ = some (.pointer (some ⟨p, 0, none⟩)) := blk_cell h1.blk 0
  have HB := Lib.hid (mk_or h1 (by omega) HX.out HS.out.2.2)
  clear h1
  go_wp2_with fail
  refine HB.out.mono ?_
  rintro e w2 ⟨F2, rfl, h2, hst2⟩
  go_wp2_with fail
  go_ret
  exact ⟨F2, by rw [HE.out]; rfl, by rw [HE.out]; exact h2, hst1.trans hst2⟩
end Go.Proofs.Ytenhbhckhncamaa
