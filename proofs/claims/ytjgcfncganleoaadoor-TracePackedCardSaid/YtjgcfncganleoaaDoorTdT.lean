/-
  Law 09: tables of the call's own in variables; one number of a table is another one.
-/
import Derived.Test.YtjgcfncganleoaaDoorTrcCard
import Derived.Test.YtjgcfncganleoaaDoorTdM
namespace Go.Proofs.YtjgcfncganleoaaDoor
open Go.ChangeShapes Go.WideShapes Go.ChangeAt Go.RowKit
set_option linter.unusedVariables false
set_option linter.unusedSimpArgs false

variable {w w' w1 W : World}
/-- two tables of the call's own, each in a variable; n: blocks below are old -/
structure TwoAt (w0 w : World) (p7 p8 : Nat) (t1 t2 : Tb) (x1 : Option Addr) (e1 : Nat) (r1 : Option Addr) (q1 : Nat) (l1 : List WR) (x2 : Option Addr) (e2 : Nat) (r2 : Option Addr) (q2 : Nat) (l2 : List WR) : Prop where
  h7 : w.heap[p7]? = some (.cells #[.slice x1 t1.bs.length e1, .slice r1 t1.rs.length q1] 25 (0, 0))
  h8 : w.heap[p8]? = some (.cells #[.slice x2 t2.bs.length e2, .slice r2 t2.rs.length q2] 25 (0, 0))
  t1 : TabN w x1 t1.bs.length e1 r1 t1.rs.length q1 t1 l1
  t2 : TabN w x2 t2.bs.length e2 r2 t2.rs.length q2 t2 l2
  dis : ∀ b ∈ ft x1 ++ (ft r1 ++ wrBlocks l1), b ∉ ft x2 ++ (ft r2 ++ wrBlocks l2)
  kept : Kept [] w0 w
  p78 : p7 ≠ p8
  b7 : w0.heap.size ≤ p7
  b8 : w0.heap.size ≤ p8
  n1 : ∀ b ∈ ft x1 ++ (ft r1 ++ wrBlocks l1), w0.heap.size ≤ b
  n2 : ∀ b ∈ ft x2 ++ (ft r2 ++ wrBlocks l2), w0.heap.size ≤ b
theorem TabN.lt {ba ra : Option Addr} {bn bc rn rc : Nat} {t : Tb} {wl : List WR} (h : TabN w ba bn bc ra rn rc t wl) : ∀ b ∈ ft ba ++ (ft ra ++ wrBlocks wl), b < w.heap.size := fun b hb => by
  simp only [List.mem_append] at hb
  rcases hb with hb | hb | hb
  · exact owns_lt h.bus b hb
  · exact h.rows.own.lt b hb
  · obtain ⟨x, hx, hbx⟩ := mem_wrBlocks.1 hb
    exact (h.own x hx).lt b hbx
theorem TabN.dis {ba ra ba' ra' : Option Addr} {bn bc rn rc : Nat} {t : Tb} {wl wl' : List WR} (h : TabN w ba bn bc ra rn rc t wl) (hn : ∀ b ∈ ft ba' ++ (ft ra' ++ wrBlocks wl'), w.heap.size ≤ b) : ∀ b ∈ ft ba ++ (ft ra ++ wrBlocks wl), b ∉ ft ba' ++ (ft ra' ++ wrBlocks wl') := fun b hb hx => by
  have := h.lt b hb
  have := hn b hx
  omega
/-- a variable's block is none of a table's -/
theorem TabN.apart {ba ra : Option Addr} {bn bc rn rc p : Nat} {t : Tb} {wl : List WR} {cs : Array Value} (h : TabN w ba bn bc ra rn rc t wl) (hp : w.heap[p]? = some (.cells cs 25 (0, 0))) : ∀ b ∈ ft ba ++ (ft ra ++ wrBlocks wl), b ≠ p := fun b hb hx => by
  subst hx
  simp only [List.mem_append] at hb
  rcases hb with hb | hb | hb
  · exact blk_apart hp h.bus (by decide) hb
  · exact blk_apart hp h.rows.own (by decide) hb
  · obtain ⟨x, hx, hbx⟩ := mem_wrBlocks.1 hb
    exact blk_apart hp (h.own x hx) (by decide) hbx
theorem two_at {w0 wy : World} {p7 p8 : Nat} {t1 t2 : Tb} {x1 r1 x2 r2 : Option Addr} {e1 q1 e2 q2 : Nat} {l1 l2 : List WR} {y1 y2 y3 y4 : Value} (h7 : wy.heap[p7]? = some (.cells #[y1, y2] 25 (0, 0))) (h8 : wy.heap[p8]? = some (.cells #[y3, y4] 25 (0, 0)))
    (ht1 : TabN wy x1 t1.bs.length e1 r1 t1.rs.length q1 t1 l1) (ht2 : TabN wy x2 t2.bs.length e2 r2 t2.rs.length q2 t2 l2) (dis : ∀ b ∈ ft x1 ++ (ft r1 ++ wrBlocks l1), b ∉ ft x2 ++ (ft r2 ++ wrBlocks l2)) (kv : Kept [] w0 wy) (h78 : p7 ≠ p8) (b7 : w0.heap.size ≤ p7) (b8 : w0.heap.size ≤ p8) (n1 : ∀ b ∈ ft x1 ++ (ft r1 ++ wrBlocks l1), w0.heap.size ≤ b) (n2 : ∀ b ∈ ft x2 ++ (ft r2 ++ wrBlocks l2), w0.heap.size ≤ b) :
    TwoAt w0 ((((wy.setCell ⟨p7, 0, none⟩ (.slice x1 t1.bs.length e1)).setCell ⟨p7, 1, none⟩ (.slice r1 t1.rs.length q1)).setCell ⟨p8, 0, none⟩ (.slice x2 t2.bs.length e2)).setCell ⟨p8, 1, none⟩ (.slice r2 t2.rs.length q2)) p7 p8 t1 t2 x1 e1 r1 q1 l1 x2 e2 r2 q2 l2 := by
  have a1 := blk_set h7 0 (.slice x1 t1.bs.length e1)
  have a2 := blk_set (by simpa using a1) 1 (.slice r1 t1.rs.length q1)
  have a3 : ((wy.setCell ⟨p7, 0, none⟩ (.slice x1 t1.bs.length e1)).setCell ⟨p7, 1, none⟩ (.slice r1 t1.rs.length q1)).heap[p7]? = some (.cells #[.slice x1 t1.bs.length e1, .slice r1 t1.rs.length q1] 25 (0, 0)) := by simpa using a2
  have k1 : Kept [p7] wy ((wy.setCell ⟨p7, 0, none⟩ (.slice x1 t1.bs.length e1)).setCell ⟨p7, 1, none⟩ (.slice r1 t1.rs.length q1)) := ((Kept.refl [p7] _).setCell (p := ⟨p7, 0, none⟩) (.inl (by simp)) _).setCell (p := ⟨p7, 1, none⟩) (.inl (by simp)) _
  have c0 := k1.heap h8 (by simpa using Ne.symm h78)
  have c1 := blk_set c0 0 (.slice x2 t2.bs.length e2)
  have c2 := blk_set (by simpa using c1) 1 (.slice r2 t2.rs.length q2)
  have k2 : Kept [p8] ((wy.setCell ⟨p7, 0, none⟩ (.slice x1 t1.bs.length e1)).setCell ⟨p7, 1, none⟩ (.slice r1 t1.rs.length q1)) ((((wy.setCell ⟨p7, 0, none⟩ (.slice x1 t1.bs.length e1)).setCell ⟨p7, 1, none⟩ (.slice r1 t1.rs.length q1)).setCell ⟨p8, 0, none⟩ (.slice x2 t2.bs.length e2)).setCell ⟨p8, 1, none⟩ (.slice r2 t2.rs.length q2)) := ((Kept.refl [p8] _).setCell (p := ⟨p8, 0, none⟩) (.inl (by simp)) _).setCell (p := ⟨p8, 1, none⟩) (.inl (by simp)) _
  have k3 := (k1.more (F' := [p7, p8]) (by simp)).trans (k2.more (by simp))
  have m1 := ht1.apart h7
  have m2 := ht1.apart h8
  have m3 := ht2.apart h7
  have m4 := ht2.apart h8
  exact ⟨k2.heap a3 (by simpa using h78), by simpa using c2, ht1.kept k3 (fun b hb => by simp [m1 b hb, m2 b hb]), ht2.kept k3 (fun b hb => by simp [m3 b hb, m4 b hb]), dis, kept_mix kv k3 (by simpa using ⟨b7, b8⟩), h78, b7, b8, n1, n2⟩
def TwoPost (w0 : World) (t1 t2 : Tb) (s7 s8 : Value) (wx : World) : Prop := ∃ p7 p8 x1 e1 r1 q1 l1 x2 e2 r2 q2 l2, s7 = .pointer (some ⟨p7, 0, none⟩) ∧ s8 = .pointer (some ⟨p8, 0, none⟩) ∧ TwoAt w0 wx p7 p8 t1 t2 x1 e1 r1 q1 l1 x2 e2 r2 q2 l2
theorem nats_set' (l : List Nat) (j n : Nat) : (nats .u64 l).set j (.int .u64 (n : Int)) = nats .u64 (l.set j n) := nats_set .u64 l j n
/-- one number of a table of the call's own is another one -/
theorem TabN.set {ba ra : Option Addr} {bn bc rn rc gr k v : Nat} {F : Tb} {wl : List WR} (h : TabN w ba bn bc ra rn rc F wl) (i : Nat) (hi : i < wl.length) (ha : wl[i].a = some ⟨gr, 0, none⟩) (hk : k < wl[i].l.length) (hv : v < 18446744073709551616) :
    TabN (w.setCell ⟨gr, k, none⟩ (.int .u64 (v : Int))) ba bn bc ra rn rc (setT F i k v) (wl.set i ⟨wl[i].l.set k v, wl[i].a, wl[i].c⟩) ∧ Kept [gr] w (w.setCell ⟨gr, k, none⟩ (.int .u64 (v : Int))) ∧ wrBlocks (wl.set i ⟨wl[i].l.set k v, wl[i].a, wl[i].c⟩) = wrBlocks wl ∧ gr ∈ wrBlocks wl := by
  have hmem := List.getElem_mem hi
  have ho := h.own _ hmem
  have hk1 : Kept [gr] w (w.setCell ⟨gr, k, none⟩ (.int .u64 (v : Int))) := (Kept.refl [gr] w).setCell (p := ⟨gr, k, none⟩) (.inl (by simp)) _
  have hgr : gr ∈ ft wl[i].a := by rw [ha]; simp [ft]
  have hin : gr ∈ wrBlocks wl := mem_wrBlocks.2 ⟨_, hmem, hgr⟩
  have hnb : ∀ b ∈ ft ba, b ∉ [gr] := fun b hb hx => by
    rw [List.mem_singleton] at hx; subst hx
    exact owns_apart ho h.bus (by decide) b hgr hb
  have hnr : ∀ b ∈ ft ra, b ∉ [gr] := fun b hb hx => by
    rw [List.mem_singleton] at hx; subst hx
    exact owns_apart ho h.rows.own (by decide) b hgr hb
  have hcells : wrCells (wl.set i ⟨wl[i].l.set k v, wl[i].a, wl[i].c⟩) = wrCells wl := by
    unfold wrCells
    rw [List.map_set]
    simp only [List.length_set]
    rw [show (Value.slice wl[i].a wl[i].l.length wl[i].c) = (wl.map fun r : WR => Value.slice r.a r.l.length r.c)[i]'(by simpa using hi) from by simp]
    exact List.set_getElem_self _
  have hbl : wrBlocks (wl.set i ⟨wl[i].l.set k v, wl[i].a, wl[i].c⟩) = wrBlocks wl := by
    unfold wrBlocks
    rw [List.flatMap_def, List.flatMap_def, List.map_set]
    simp only
    rw [show ft wl[i].a = (wl.map fun r : WR => ft r.a)[i]'(by simpa using hi) from by simp, List.set_getElem_self]
  have hoth : ∀ j (hj : j < wl.length), j ≠ i → ∀ b ∈ ft wl[j].a, b ∉ [gr] := fun j hj hne b hb hx => by
    rw [List.mem_singleton] at hx; subst hx
    have hp := List.pairwise_iff_getElem.1 h.pw
    rcases Nat.lt_or_gt_of_ne hne with h1 | h1
    · exact hp j i hj hi h1 b hb hgr
    · exact hp i j hi hj h1 b hgr hb
  have hnew : Own (w.setCell ⟨gr, k, none⟩ (.int .u64 (v : Int))) 27 wl[i].a wl[i].l.length wl[i].c (nats .u64 (wl[i].l.set k v)) := by
    rw [← nats_set']
    have h0 := ho
    rw [ha] at h0 ⊢
    exact (h0.store hk).2.2 (.int .u64 (v : Int))
  have hall : ∀ r ∈ wl.set i ⟨wl[i].l.set k v, wl[i].a, wl[i].c⟩, Own (w.setCell ⟨gr, k, none⟩ (.int .u64 (v : Int))) 27 r.a r.l.length r.c (nats .u64 r.l) := fun r hr => by
    obtain ⟨j, hj, rfl⟩ := List.getElem_of_mem hr
    rw [List.length_set] at hj
    by_cases hji : j = i
    · subst hji
      rw [List.getElem_set_self]
      simpa using hnew
    · rw [List.getElem_set_ne (Ne.symm hji)]
      exact (h.own _ (List.getElem_mem hj)).kept hk1 (hoth j hj hji)
  refine ⟨⟨h.bl, h.bus.kept hk1 hnb, ⟨?_, fun r hr => ⟨(hall r hr).sln, (hall r hr).lt⟩⟩, hall, ?_, ?_⟩, hk1, hbl, hin⟩
  · rw [hcells]; exact h.rows.own.kept hk1 hnr
  · rw [List.map_set]
    have hrm := h.rm
    unfold setT
    have hgi : F.rs.getD i [] = wl[i].l := by rw [← hrm, List.getD_eq_getElem?_getD, List.getElem?_map, List.getElem?_eq_getElem hi]; rfl
    rw [hgi, ← hrm]
  · have : ∀ (l : List WR), (l.Pairwise fun x y => ∀ b ∈ ft x.a, b ∉ ft y.a) ↔ ((l.map fun r : WR => ft r.a).Pairwise fun x y => ∀ b ∈ x, b ∉ y) := fun l => by rw [List.pairwise_map]
    rw [this] at *
    have hp := (this wl).1 h.pw
    rw [List.map_set]
    simp only
    rw [show ft wl[i].a = (wl.map fun r : WR => ft r.a)[i]'(by simpa using hi) from by simp, List.set_getElem_self]
    exact hp
theorem few_ok {t : Tb} (h : t.ok) : (fewT t).ok := by
  have hl := fewT_lens t
  refine ⟨by have := hl.1; omega, by have := hl.2.1; omega, fun b hb => ⟨by have := hl.2.2.2 b hb; omega, ?_⟩, fun r hr => ⟨?_, by have := hl.2.2.1 r hr; omega⟩⟩
  · simp only [fewT] at hb
    obtain ⟨x, hx, rfl⟩ := List.mem_map.1 hb
    exact (h.bn x (List.mem_of_mem_take hx)).2
  · simp only [fewT] at hr
    obtain ⟨x, hx, rfl⟩ := List.mem_map.1 hr
    exact fun n hn => (h.rw x (List.mem_of_mem_take hx)).1 n (List.mem_of_mem_take hn)
theorem set_ok {F : Tb} {i k v : Nat} (h : F.ok) (hv : v < 18446744073709551616) : (setT F i k v).ok := by
  refine ⟨h.bl, by rw [setT_len]; exact h.rl, h.bn, fun r hr => ?_⟩
  rcases List.mem_or_eq_of_mem_set hr with hr | rfl
  · exact h.rw r hr
  · have key : Words (F.rs.getD i []) ∧ (F.rs.getD i []).length ≤ 140737488351232 := by
      rw [List.getD_eq_getElem?_getD]
      cases hx : F.rs[i]? with
      | none => exact ⟨fun n hn => absurd hn (by simp), by simp⟩
      | some r => exact h.rw r (List.mem_of_getElem? hx)
    refine ⟨fun n hn => ?_, by rw [List.length_set]; exact key.2⟩
    rcases List.mem_or_eq_of_mem_set hn with hn | rfl
    · exact key.1 n hn
    · exact hv
theorem TabV.less {ba ra : Option Addr} {bn bc rn rc m : Nat} {F : Tb} {wl : List WR} (h : TabV w ba bn bc ra rn rc F wl) (hm : m ≤ rn) : TabV w ba bn bc ra m rc ⟨F.bs, F.rs.take m⟩ (wl.take m) :=
  ⟨h.bl, by rw [List.length_take, h.rl]; omega, by rw [List.map_take, h.rm], h.bs, fun k hk => by
    rw [List.length_take] at hk
    have := h.rs k (by omega)
    rw [List.getElem_take]
    exact this, h.bk, by have := h.rk; omega, fun r hr => h.wk r (List.mem_of_mem_take hr)⟩
theorem less_ok {F : Tb} {m : Nat} (h : F.ok) : (⟨F.bs, F.rs.take m⟩ : Tb).ok := ⟨h.bl, by have := h.rl; simp; omega, h.bn, fun r hr => h.rw r (List.mem_of_mem_take hr)⟩
end Go.Proofs.YtjgcfncganleoaaDoor
