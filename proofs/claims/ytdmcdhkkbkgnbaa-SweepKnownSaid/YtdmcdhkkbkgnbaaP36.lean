/-
  Package sweep: a sweeper in memory.
-/
import Derived.Test.YtdmcdhkkbkgnbaaP29
import Derived.Test.YtdmcdhkkbkgnbaaP35
namespace Go.Proofs.Ytdmcdhkkbkgnbaa
open Go.ChangeShapes Go.WideShapes Go.ChangeAt Go.RowKit
open Go.Maps (Keyed)
open Go.WideMaps
set_option linter.unusedVariables false
set_option linter.unusedSimpArgs false

variable {w w' W w0 : World} {p n n' k m s mp gd fb : Nat} {fcs : Array Value} {F R S F' R' F'' R'' : List Nat} {g : Gr} {N M M' : Nt} {φ ψ : Nat → Option Nat} {wl : List Nat}
/-- a map from nodes to literals -/
def sdF (φ : Nat → Option Nat) : Value → Option Value
  | .int .i64 z => if 0 ≤ z then (φ z.toNat).map (fun x => Value.int .u32 (x : Nat)) else none
  | _ => none
theorem sdF_get (φ : Nat → Option Nat) (x : Nat) : sdF φ (.int .i64 (x : Int)) = (φ x).map (fun y => Value.int .u32 (y : Nat)) := by simp [sdF]
theorem sdF_none : (fun _ => none : Value → Option Value) = sdF (fun _ => none) := by
  funext v
  unfold sdF
  split
  · split <;> rfl
  · rfl
theorem sdF_upd (φ : Nat → Option Nat) (x z : Nat) : upd (sdF φ) (.int .i64 (x : Int)) (.int .u32 (z : Nat)) = sdF (fun y => if y = x then some z else φ y) := by
  funext v
  unfold upd
  by_cases h : v = .int .i64 (x : Int)
  · subst h
    rw [if_pos rfl, sdF_get]
    simp
  · rw [if_neg h]
    unfold sdF
    split
    · rename_i y
      split
      · rename_i hy
        show _ = Option.map _ (if y.toNat = x then some z else φ y.toNat)
        rw [if_neg]
        intro e
        apply h
        congr 1
        omega
      · rfl
    · rfl
theorem lit_zero' (w : World) : (zeroValue 41).run Try.prog w = .ok (.int .u32 0) w := by kernel_rfl
def SdMap (w : World) (m : Nat) (φ : Nat → Option Nat) : Prop := MapV w Try.prog 3 m (sdF φ)
theorem SdMap.look (h : SdMap w m φ) (x : Nat) (hx : x < 4294967296) : (Instr.lookup 60 (.map (some m)) (.int .i64 (x : Int)) false).run Try.prog w = .ok (.int .u32 ((φ x).getD 0 : Nat)) w := by
  obtain ⟨kl, hkl⟩ := i64_key x hx
  have h2 := MapV.look h false i64_law Try.underlying60 (lit_zero' _) hkl
  rw [sdF_get] at h2
  cases hφ : φ x <;> rw [hφ] at h2 <;> simpa using h2
theorem SdMap.put (h : SdMap w m φ) (x z : Nat) (hx : x < 4294967296) : ∃ w', (Instr.mapUpdate 60 (.map (some m)) (.int .i64 (x : Int)) (.int .u32 (z : Int))).run Try.prog w = .ok () w' ∧ SdMap w' m (fun y => if y = x then some z else φ y) ∧ Kept [m] w w' := by
  obtain ⟨kl, hkl⟩ := i64_key x hx
  obtain ⟨w', h1, h2, h3⟩ := MapV.update h i64_law Try.underlying60 (val := .int .u32 (z : Int)) hkl
  refine ⟨w', h1, ?_, h3⟩
  have e := sdF_upd φ x z
  unfold SdMap
  rw [← e]
  exact h2
def goesL (N : Nt) : List Bool := (List.range N.regs.length).map (goesB N)
theorem goesL_length (N : Nt) : (goesL N).length = N.regs.length := by simp [goesL]
theorem goesL_get (N : Nt) {j : Nat} (h : j < N.regs.length) : (goesL N)[j]? = some (goesB N j) := by simp [goesL, h]
/-- a block of other things is none of what a netlist writes -/
theorem net_blk {w : World} {n : Nat} {F R : List Nat} {N : Nt} (h : NetAt w n F R N) {b : Nat} {cs : Array Value} {t : TypeId} (hb : w.heap[b]? = some (.cells cs t (0, 0))) (h1 : t ≠ 36) (h2 : t ≠ 83) (h3 : t ≠ 105) (h4 : t ≠ 3) (h5 : t ≠ 50) (h6 : t ≠ 55) : b ∉ F := by
  obtain ⟨p, G, ia, ic, ra, rc, oa, oc, ri, ro, rfl, rfl, hc⟩ := h
  intro hx
  simp only [List.mem_cons, List.mem_append] at hx
  rcases hx with rfl | hx | hx | hx | hx
  · rw [hc.blk] at hb; injection hb with hb; injection hb with _ ht; exact h1 ht.symm
  · exact hc.gr.apart_blk hb h2 h3 h4 hx
  · exact blk_apart hb hc.ib.own h5.symm hx
  · exact blk_apart hb hc.rb h6.symm hx
  · exact blk_apart hb hc.ob.own h5.symm hx
structure SwpAt (w0 w : World) (s n n' mp gd fb : Nat) (fcs : Array Value) (F' R' : List Nat) (N M : Nt) (φ : Nat → Option Nat) (wl : List Nat) : Prop where
  cs : ∃ a c, w.heap[s]? = some (.cells #[.pointer (some ⟨n, 0, none⟩), .pointer (some ⟨n', 0, none⟩), .slice (some ⟨gd, 0, none⟩) N.regs.length N.regs.length, .map (some mp), .slice a wl.length c] 62 (0, 0)) ∧ Own w 41 a wl.length c (nats .u32 wl) ∧ ∀ b ∈ ft a, w0.heap.size ≤ b ∧ b ∉ F' ∧ b ∉ R'
  net : NetAt w n' F' R' M
  pm : SdMap w mp φ
  own : Own w 4 (some ⟨gd, 0, none⟩) N.regs.length N.regs.length (bls (goesL N))
  kept : Kept [] w0 w
  newF : ∀ b ∈ F' ++ R', w0.heap.size ≤ b
  new : ∀ b ∈ [s, mp, gd], w0.heap.size ≤ b ∧ b ∉ F' ∧ b ∉ R'
  fnb : w.heap[fb]? = some (.cells fcs 63 (0, 0))
theorem SwpAt.kept0 (h : SwpAt w0 w s n n' mp gd fb fcs F' R' N M φ wl) (hk : Kept [] w w') : SwpAt w0 w' s n n' mp gd fb fcs F' R' N M φ wl := by
  obtain ⟨a, c, h1, h2, h3⟩ := h.cs
  exact ⟨⟨a, c, hk.heap h1 (by simp), h2.kept0 hk, h3⟩, h.net.kept0 hk, MapV.kept h.pm hk (by simp), h.own.kept0 hk, h.kept.trans hk, h.newF, h.new, hk.heap h.fnb (by simp)⟩
theorem SwpAt.gdb (h : SwpAt w0 w s n n' mp gd fb fcs F' R' N M φ wl) : ∃ cs, w.heap[gd]? = some (.cells cs 4 (0, 0)) := by
  obtain ⟨cur, hc⟩ := h.own.apart (b := gd) (by simp [ft])
  exact ⟨cur, hc⟩
/-- the new netlist, a step further -/
theorem SwpAt.step (h : SwpAt w0 w s n n' mp gd fb fcs F' R' N M φ wl) (hn : NetAt w' n' F'' R'' M') (hs : NStep w w' F' R' F'' R'') : SwpAt w0 w' s n n' mp gd fb fcs F'' R'' N M' φ wl := by
  obtain ⟨a, c, h1, h2, h3⟩ := h.cs
  obtain ⟨cg, hg⟩ := h.gdb
  have hk := hs.st.kept
  have nw := h.new
  have fs := nw s (by simp)
  have fm := nw mp (by simp)
  have fg := nw gd (by simp)
  have lt1 := blk_lt h1
  have lt2 := h.pm.lt
  have lt3 := blk_lt hg
  have ap : ∀ b, b < w.heap.size → b ∉ F' → b ∉ R' → b ∉ F'' ∧ b ∉ R'' := fun b hb hf hr => ⟨fun hx => (hs.st.fresh b hx).elim hf (fun h2 => by omega), fun hx => (hs.rows b hx).elim hr (fun h2 => by omega)⟩
  refine ⟨⟨a, c, hk.heap h1 fs.2.1, h2.kept hk (fun b hb => (h3 b hb).2.1), fun b hb => ⟨(h3 b hb).1, ap b (h2.lt b hb) (h3 b hb).2.1 (h3 b hb).2.2⟩⟩, hn, MapV.kept h.pm hk fm.2.1, h.own.kept hk (fun b hb => by simp [ft] at hb; subst hb; exact fg.2.1), kept_up h.kept hk (fun b hb => h.newF b (List.mem_append_left _ hb)), fun b hb => ?_, fun b hb => ?_, hk.heap h.fnb (net_blk h.net h.fnb (by decide) (by decide) (by decide) (by decide) (by decide) (by decide))⟩
  · rcases List.mem_append.1 hb with hb | hb
    · exact (hs.st.fresh b hb).elim (fun h2 => h.newF b (List.mem_append_left _ h2)) (fun h2 => Nat.le_trans h.kept.size h2)
    · exact (hs.rows b hb).elim (fun h2 => h.newF b (List.mem_append_right _ h2)) (fun h2 => Nat.le_trans h.kept.size h2)
  · have hb0 := nw b hb
    simp only [List.mem_cons, List.not_mem_nil, or_false] at hb
    refine ⟨hb0.1, ap b ?_ hb0.2.1 hb0.2.2⟩
    rcases hb with rfl | rfl | rfl
    · exact lt1
    · exact lt2
    · exact lt3
/-- the map, another -/
theorem SwpAt.setMap (h : SwpAt w0 w s n n' mp gd fb fcs F' R' N M φ wl) (hk : Kept [mp] w w') (hm : SdMap w' mp ψ) : SwpAt w0 w' s n n' mp gd fb fcs F' R' N M ψ wl := by
  obtain ⟨a, c, h1, h2, h3⟩ := h.cs
  obtain ⟨cg, hg⟩ := h.gdb
  have nw := h.new
  have fm := nw mp (by simp)
  refine ⟨⟨a, c, hk.heap h1 (by simpa using h.pm.nocell h1), h2.kept hk (fun b hb hx => ?_), h3⟩, h.net.kept hk (fun b hb hx => ?_) (fun b hb hx => ?_), hm, h.own.kept hk (fun b hb hx => ?_), kept_up h.kept hk (fun b hb => by simp at hb; subst hb; exact fm.1), h.newF, h.new, hk.heap h.fnb (by simpa using h.pm.nocell h.fnb)⟩
  · simp at hx
    subst hx
    obtain ⟨cur, hc⟩ := h2.apart hb
    exact h.pm.nocell hc rfl
  · simp at hx; subst hx; exact fm.2.1 hb
  · simp at hx; subst hx; exact fm.2.2 hb
  · simp at hx
    subst hx
    simp [ft] at hb
    exact h.pm.nocell hg hb.symm
/-- what is wanted, another -/
theorem SwpAt.setWant (h : SwpAt w0 w s n n' mp gd fb fcs F' R' N M φ wl) {a : Option Addr} {c : Nat} {l : List Nat} (ho : Own w 41 a l.length c (nats .u32 l)) (hf : ∀ b ∈ ft a, w0.heap.size ≤ b ∧ b ∉ F' ∧ b ∉ R') :
    SwpAt w0 (w.setCell ⟨s, 4, none⟩ (.slice a l.length c)) s n n' mp gd fb fcs F' R' N M φ l ∧ Kept [s] w (w.setCell ⟨s, 4, none⟩ (.slice a l.length c)) := by
  obtain ⟨a0, c0, h1, h2, h3⟩ := h.cs
  obtain ⟨cg, hg⟩ := h.gdb
  have hk : Kept [s] w (w.setCell ⟨s, 4, none⟩ (.slice a l.length c)) := (Kept.refl [s] w).setCell (p := ⟨s, 4, none⟩) (.inl (by simp)) _
  have nw := h.new
  have fs := nw s (by simp)
  refine ⟨⟨⟨a, c, ?_, ho.kept hk (fun b hb hx => ?_), hf⟩, h.net.kept hk (fun b hb hx => ?_) (fun b hb hx => ?_), MapV.kept h.pm hk ?_, h.own.kept hk (fun b hb hx => ?_), kept_up h.kept hk (fun b hb => by simp at hb; subst hb; exact fs.1), h.newF, h.new, hk.heap h.fnb (by simpa using blk_ne h.fnb h1 (by decide))⟩, hk⟩
  · rw [blk_set h1 4]
    rfl
  · simp at hx
    subst hx
    exact blk_apart h1 ho (by decide) hb
  · simp at hx; subst hx; exact fs.2.1 hb
  · simp at hx; subst hx; exact fs.2.2 hb
  · have := h.pm.nocell h1
    simpa using this.symm
  · simp at hx
    subst hx
    simp [ft] at hb
    subst hb
    exact blk_ne hg h1 (by decide) rfl
/-- what is wanted, gone on with -/
theorem SwpAt.push (h : SwpAt w0 w s n n' mp gd fb fcs F' R' N M φ wl) {a a' : Option Addr} {c c' : Nat} {l : List Nat} (ho : Own w 41 a wl.length c (nats .u32 wl)) (hf : ∀ b ∈ ft a, w0.heap.size ≤ b ∧ b ∉ F' ∧ b ∉ R')
    (hs : Stepped w w' (ft a) (ft a')) (ho' : Own w' 41 a' l.length c' (nats .u32 l)) :
    SwpAt w0 (w'.setCell ⟨s, 4, none⟩ (.slice a' l.length c')) s n n' mp gd fb fcs F' R' N M φ l ∧ Kept (s :: ft a) w (w'.setCell ⟨s, 4, none⟩ (.slice a' l.length c')) := by
  obtain ⟨a0, c0, h1, h2, h3⟩ := h.cs
  obtain ⟨cg, hg⟩ := h.gdb
  have hk1 := hs.kept
  have nw := h.new
  have fs := nw s (by simp)
  have a1 := blk_apart h1 ho (by decide)
  have a4 := blk_apart hg ho (by decide)
  have a5 : mp ∉ ft a := fun hx => by
    obtain ⟨cur, hc⟩ := ho.apart hx
    exact h.pm.nocell hc rfl
  have lt := h.net.lt
  have fr : ∀ b ∈ ft a', w0.heap.size ≤ b ∧ b ∉ F' ∧ b ∉ R' := fun b hb => (hs.fresh b hb).elim (hf b) (fun x => ⟨Nat.le_trans h.kept.size x, fun hx => by have := lt.1 b hx; omega, fun hx => by have := lt.2 b hx; omega⟩)
  have h1' := hk1.heap h1 a1
  have hg' := hk1.heap hg a4
  have pm' : SdMap w' mp φ := MapV.kept h.pm hk1 a5
  have own' := h.own.kept hk1 (fun b hb hx => by simp [ft] at hb; subst hb; exact a4 hx)
  have net' := h.net.kept hk1 (fun b hb hx => (hf b hx).2.1 hb) (fun b hb hx => (hf b hx).2.2 hb)
  have kept' := kept_up h.kept hk1 (fun b hb => (hf b hb).1)
  have hk : Kept [s] w' (w'.setCell ⟨s, 4, none⟩ (.slice a' l.length c')) := (Kept.refl [s] w').setCell (p := ⟨s, 4, none⟩) (.inl (by simp)) _
  refine ⟨⟨⟨a', c', ?_, ho'.kept hk (fun b hb hx => ?_), fr⟩, net'.kept hk (fun b hb hx => ?_) (fun b hb hx => ?_), MapV.kept pm' hk ?_, own'.kept hk (fun b hb hx => ?_), kept_up kept' hk (fun b hb => by simp at hb; subst hb; exact fs.1), h.newF, h.new, hk.heap (hk1.heap h.fnb (blk_apart h.fnb ho (by decide))) (by simpa using blk_ne h.fnb h1 (by decide))⟩, (hk1.more (by simp; exact fun b hb => .inr hb)).trans (hk.more (by simp))⟩
  · rw [blk_set h1' 4]
    rfl
  · simp at hx
    subst hx
    exact blk_apart h1' ho' (by decide) hb
  · simp at hx; subst hx; exact fs.2.1 hb
  · simp at hx; subst hx; exact fs.2.2 hb
  · have := pm'.nocell h1'
    simpa using this.symm
  · simp at hx
    subst hx
    simp [ft] at hb
    subst hb
    exact blk_ne hg' h1' (by decide) rfl
end Go.Proofs.Ytdmcdhkkbkgnbaa
