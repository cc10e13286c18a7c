/-
  Package net: AddReg, SetReg, AddOut.
  Package net: AddIn where it goes well; AddReg.
  Package net: New, AddIn, AddReg.
-/
import Derived.Test.YtdmcdhkkbkgnbaaGreatP10
import Derived.IntWalk
namespace Go.Proofs.YtdmcdhkkbkgnbaaGreat
open Go.ChangeShapes Go.WideShapes Go.ChangeAt Go.RowKit
open Go.Maps (Keyed)
open Go.WideMaps
set_option linter.unusedVariables false
set_option linter.unusedSimpArgs false

variable {w w' : World} {p n : Nat} {F R S : List Nat} {g : Gr} {N : Nt}
theorem Stepped.aside {a b c : World} {F F' S : List Nat} (h : Stepped a b F F') (hk : Kept S b c) (hs : ∀ x ∈ S, a.heap.size ≤ x) : Stepped a c F F' :=
  ⟨⟨hk.os.trans h.kept.os, hk.tape.trans h.kept.tape, hk.output.trans h.kept.output, Nat.le_trans h.kept.size hk.size, fun k hk1 hn =>
    (hk.block k (Nat.lt_of_lt_of_le hk1 h.kept.size) (fun hm => by have := hs k hm; omega)).trans (h.kept.block k hk1 hn)⟩, h.fresh⟩
theorem bus_info : (Tryz.prog.info? 60).map (fun i => (i.zero, i.size, i.bytes)) = some (some (.agg #[.string ByteArray.empty, .slice none 0 0]), 2, 40) := by kernel_rfl
theorem reg_info : (Tryz.prog.info? 63).map (fun i => (i.zero, i.size, i.bytes)) = some (some (.agg #[.int .u32 0, .int .u32 0, .int .u32 0, .bool false]), 4, 16) := by kernel_rfl
def NewPost (N : Nt) (w : World) (e : Ending) (w' : World) : Prop := ∃ n F, e = .returned (.tuple #[.pointer (some ⟨n, 0, none⟩), .int .i64 0]) ∧ NetAt w' n F [] N ∧ Kept [] w w' ∧ ∀ b ∈ F, w.heap.size ≤ b
set_option maxHeartbeats 800000 in
theorem new_net (s : ByteArray) (o1 o2 : Bool) (w : World) (hs : s.size ≤ 140737488351232) (hm : mayB s = true) : Calls Tryz.prog 32 #[.string s, .agg #[.bool o1, .bool o2]] w (NewPost (newN s o1 o2) w) := by
  have H := Lib.hid (fun (W : World) => mayname_c s W hs)
  rw [hm] at H
  clear hm
  go_enter Tryz.func32, Tryz.ntmps32
  go_wp2_with fail
  refine (H.out _).mono ?_
  rintro e w1 ⟨rfl, hk1⟩
  have K1 := Lib.hid (((Kept.refl [] w).alloc (.cells #[.bool o1, .bool o2] 23)).trans hk1)
  have hq0 : w1.cell? ⟨w.heap.size, 0, none⟩ = some (.bool o1) := hk1.cell (blk_cell (heap_alloc_new w _) 0) (by simp)
  have hq1 : w1.cell? ⟨w.heap.size, 1, none⟩ = some (.bool o2) := hk1.cell (blk_cell (heap_alloc_new w _) 1) (by simp)
  clear hk1
  go_wp2_with fail
  refine (aig_new o1 o2 _).mono ?_
  rintro e w2 ⟨p, G, rfl, hg, hst⟩
  have GG := Lib.hid hg
  have K2 := Lib.hid (K1.out.trans hst.kept)
  have FR := Lib.hid (show ∀ b ∈ G, w.heap.size ≤ b from fun b hb => by
    rcases hst.fresh b hb with h | h
    · simp at h
    · exact Nat.le_trans K1.out.size h)
  clear hg hst
  go_wp2_with fail
  refine bodyPost_ret (v := .tuple #[.pointer (some ⟨w2.heap.size, 0, none⟩), .int .i64 0]) (by simp [results, Tryz.results32, go_sem]) rfl ⟨w2.heap.size, _, rfl, ⟨p, G, none, 0, none, 0, none, 0, [], [], rfl, by simp [rowsOf], ?_⟩, K2.out.alloc _, ?_⟩
  · have hk3 : Kept [] w2 (w2.alloc (.cells (nCells p (newN s o1 o2) none 0 none 0 none 0) 57)) := (Kept.refl [] w2).alloc _
    exact ⟨heap_alloc_new w2 _, GG.out.kept0 hk3, ⟨World.ownsRow_nil _ _ _ _, rfl, by simp⟩, World.ownsRow_nil _ _ _ _, ⟨World.ownsRow_nil _ _ _ _, rfl, by simp⟩, by simp [ft], by simp [rowsOf]⟩
  · intro b hb
    simp only [ft, List.mem_cons, List.mem_append, Option.map_none, Option.toList_none, List.not_mem_nil, or_false] at hb
    rcases hb with rfl | hb
    · exact K2.out.size
    · exact FR.out b hb
section
variable {G : List Nat} {ia ra oa : Option Addr} {ic rc oc : Nat} {ri ro : List BR}
/-- a bus more that comes in -/
theorem NetC.addIn {w1 : World} {ia' a : Option Addr} {ic' c : Nat} {s : ByteArray} {l : List Nat} (h : NetC w n N p G ia ic ra rc oa oc ri ro)
    (hown : w1.ownsRow 0 60 2 (.slice ia' (N.inb.length + 1) ic') (N.inb.length + 1) (brCells ri ++ [.string s, .slice a l.length c])) (hst : Stepped w w1 (ft ia) (ft ia')) (hrow : SlN w .u32 a l) (ha : ∀ b ∈ ft a, b < w.heap.size ∧ b ∉ n :: (G ++ (ft ia ++ (ft ra ++ ft oa)))) :
    NetC (w1.setCell ⟨n, 2, none⟩ (.slice ia' (N.inb.length + 1) ic')) n { N with inb := N.inb ++ [⟨s, l⟩] } p G ia' ic' ra rc oa oc (ri ++ [⟨⟨s, l⟩, a, c⟩]) ro ∧
    Stepped w (w1.setCell ⟨n, 2, none⟩ (.slice ia' (N.inb.length + 1) ic')) (n :: (G ++ (ft ia ++ (ft ra ++ ft oa)))) (n :: (G ++ (ft ia' ++ (ft ra ++ ft oa)))) := by
  obtain ⟨a1, a2, a3, a4, a5, a6, a7, a8, a9⟩ := h.apart
  have lt := h.lt
  have fr := h.fr
  simp only [List.mem_cons, List.mem_append, not_or] at fr ha
  have hnew : ∀ b ∈ ft ia', b ∈ ft ia ∨ w.heap.size ≤ b := hst.fresh
  have hkn : w1.heap[n]? = some (.cells (nCells p N ia ic ra rc oa oc) 57 (0, 0)) := hst.kept.heap h.blk a2
  have hn' : n ∉ ft ia' := blk_apart hkn hown (by decide)
  have hks : Kept [n] w1 (w1.setCell ⟨n, 2, none⟩ (.slice ia' (N.inb.length + 1) ic')) := (Kept.refl [n] w1).setCell (p := ⟨n, 2, none⟩) (.inl (by simp)) _
  have gk := (h.gr.kept hst.kept (fun b hb hx => a5 b hx hb)).kept hks (fun b hb hx => by simp at hx; exact a1 (hx ▸ hb))
  have rk := own_kept (own_kept h.rb hst.kept a8) hks (fun b hb hx => by simp at hx; exact a3 (hx ▸ hb))
  have ok := (h.ob.kept hst.kept (fun b hb hx => h.io b hx hb) (fun b hb => (fr b (.inr hb)).2.2.1)).kept hks (fun b hb hx => by simp at hx; exact a4 (hx ▸ hb)) (fun b hb hx => by simp at hx; exact (fr b (.inr hb)).1 hx)
  have hkk : Kept (n :: ft ia) w (w1.setCell ⟨n, 2, none⟩ (.slice ia' (N.inb.length + 1) ic')) := (hst.kept.more (fun b hb => List.mem_cons_of_mem _ hb)).trans (hks.more (fun b hb => by simp at hb; simp [hb]))
  have rows' : ∀ b ∈ rowsOf (ri ++ [⟨⟨s, l⟩, a, c⟩]) ++ rowsOf ro, b < w.heap.size ∧ b ≠ n ∧ b ∉ G ∧ b ∉ ft ia ∧ b ∉ ft ra ∧ b ∉ ft oa := by
    intro b hb
    rcases List.mem_append.1 hb with hb | hb
    · obtain ⟨r, hr, hb⟩ := mem_rowsOf.1 hb
      rcases List.mem_append.1 hr with hr | hr
      · have hm := mem_rowsOf.2 ⟨r, hr, hb⟩
        exact ⟨lt.2 b (by simp [hm]), (fr b (.inl hm)).1, (fr b (.inl hm)).2⟩
      · rw [List.mem_singleton] at hr
        subst hr
        exact ⟨(ha b hb).1, (ha b hb).2.1, (ha b hb).2.2⟩
    · exact ⟨lt.2 b (by simp [hb]), (fr b (.inr hb)).1, (fr b (.inr hb)).2⟩
  refine ⟨⟨?_, gk, ⟨?_, ?_, ?_⟩, rk, ok, ?_, ?_⟩, ⟨hkk.more ?_, ?_⟩⟩
  · rw [blk_set hkn]
    simp [nCells]
  · have := own_kept hown hks (fun b hb hx => by simp at hx; exact hn' (hx ▸ hb))
    rw [brCells_snoc ri ⟨⟨s, l⟩, a, c⟩] at this
    simpa using this
  · simp [h.ib.is]
  · intro r hr
    rcases List.mem_append.1 hr with hr | hr
    · have hm : ∀ b ∈ ft r.a, b ∈ rowsOf ri := fun b hb => mem_rowsOf.2 ⟨r, hr, hb⟩
      exact ⟨(h.ib.rows r hr).1.kept hkk (fun b hb hx => by rcases List.mem_cons.1 hx with hx | hx; exact (fr b (.inl (hm b hb))).1 hx; exact (fr b (.inl (hm b hb))).2.2.1 hx), fun b hb => Nat.lt_of_lt_of_le ((h.ib.rows r hr).2 b hb) hkk.size⟩
    · rw [List.mem_singleton] at hr
      subst hr
      exact ⟨hrow.kept hkk (fun b hb hx => by rcases List.mem_cons.1 hx with hx | hx; exact (ha b hb).2.1 hx; exact (ha b hb).2.2.2.1 hx), fun b hb => Nat.lt_of_lt_of_le (ha b hb).1 hkk.size⟩
  · intro b hb
    rcases hnew b hb with hx | hx
    · exact h.io b hx
    · exact fun ho => by have := lt.1 b (by simp [ho]); omega
  · intro b hb
    obtain ⟨h1, h2, h3, h4, h5, h6⟩ := rows' b hb
    simp only [List.mem_cons, List.mem_append, not_or]
    exact ⟨h2, h3, fun hx => by rcases hnew b hx with hx | hx; exact h4 hx; omega, h5, h6⟩
  · intro b hb
    simp only [List.mem_cons, List.mem_append] at hb ⊢
    rcases hb with hb | hb
    · exact .inl hb
    · exact .inr (.inr (.inl hb))
  · intro b hb
    simp only [List.mem_cons, List.mem_append] at hb ⊢
    rcases hb with hb | hb | hb | hb | hb
    · exact .inl (.inl hb)
    · exact .inl (.inr (.inl hb))
    · rcases hnew b hb with hx | hx
      · exact .inl (.inr (.inr (.inl hx)))
      · exact .inr hx
    · exact .inl (.inr (.inr (.inr (.inl hb))))
    · exact .inl (.inr (.inr (.inr (.inr hb))))
theorem rows_in {r : BR} : ∀ b ∈ rowsOf (ri ++ [r]) ++ rowsOf ro, b ∈ rowsOf ri ++ rowsOf ro ∨ b ∈ ft r.a := by
  intro b hb
  rcases List.mem_append.1 hb with hb | hb
  · obtain ⟨r', hr, hb'⟩ := mem_rowsOf.1 hb
    rcases List.mem_append.1 hr with hr | hr
    · exact .inl (List.mem_append_left _ (mem_rowsOf.2 ⟨r', hr, hb'⟩))
    · rw [List.mem_singleton] at hr
      subst hr
      exact .inr hb'
  · exact .inl (List.mem_append_right _ hb)
theorem rows_out {r : BR} : ∀ b ∈ rowsOf ri ++ rowsOf (ro ++ [r]), b ∈ rowsOf ri ++ rowsOf ro ∨ b ∈ ft r.a := by
  intro b hb
  rcases List.mem_append.1 hb with hb | hb
  · exact .inl (List.mem_append_left _ hb)
  · obtain ⟨r', hr, hb'⟩ := mem_rowsOf.1 hb
    rcases List.mem_append.1 hr with hr | hr
    · exact .inl (List.mem_append_right _ (mem_rowsOf.2 ⟨r', hr, hb'⟩))
    · rw [List.mem_singleton] at hr
      subst hr
      exact .inr hb'
end
def AddInPost (r : Nt × List Nat × Nat) (w : World) (n : Nat) (F R : List Nat) (e : Ending) (w' : World) : Prop :=
  ∃ F' R' a c k, e = .returned (.tuple #[.slice a k c, .int .i64 (r.2.2 : Nat)]) ∧ NetAt w' n F' R' r.1 ∧ NStep w w' F R F' R' ∧ Own w' 61 a k c (nats .u32 r.2.1) ∧ ∀ b ∈ ft a, w.heap.size ≤ b ∧ b ∉ F' ∧ b ∉ R'
theorem AddInPost.no {k : Nat} {W : World} (h : NetAt w n F R N) (hk : Kept [] w W) : AddInPost (N, [], k) w n F R (.returned (.tuple #[.slice none 0 0, .int .i64 (k : Nat)])) W :=
  ⟨F, R, none, 0, 0, rfl, h.kept0 hk, (NStep.refl w F R).keep hk, Own.nil _ _, by simp [ft]⟩
set_option maxHeartbeats 3200000 in
set_option maxRecDepth 100000 in
theorem addin_bad (h : NetAt w n F R N) (hok : N.g.nodes.length ≤ 100000 ∧ N.inb.length ≤ 100000) (s : ByteArray) (hs : s.size ≤ 140737488351232) (wd : Int) (hw1 : -9223372036854775808 ≤ wd) (hw2 : wd ≤ 9223372036854775807)
    (hbad : ((!mayB s) || decide (wd < 1) || decide (64 < wd)) = true) :
    Calls Tryz.prog 91 #[.pointer (some ⟨n, 0, none⟩), .string s, .int .i64 wd] w (AddInPost (N, [], 1) w n F R) := by
  have HNO := Lib.hid (net_none h (show N.g.nodes.length ≤ 1000000 by omega))
  have HM := Lib.hid (fun (W : World) => mayname_c s W hs)
  have HPO := Lib.hid (fun (W : World) (hk : Kept [] w W) => AddInPost.no (k := 1) h hk)
  have hc : mayB s = false ∨ (mayB s = true ∧ wd < 1) ∨ (mayB s = true ∧ ¬ wd < 1 ∧ 64 < wd) := by
    cases hm : mayB s
    · exact .inl rfl
    · rw [hm] at hbad
      simp at hbad
      by_cases h1 : wd < 1
      · exact .inr (.inl ⟨rfl, h1⟩)
      · exact .inr (.inr ⟨rfl, h1, by omega⟩)
  generalize ((N, [], 1) : Nt × List Nat × Nat) = res at *
  clear h hbad
  rcases hc with hm | ⟨hm, h1⟩ | ⟨hm, h1, h2⟩
  all_goals
    rw [hm] at HM
    clear hm
    go_enter Tryz.func91, Tryz.ntmps91; (try simp only [List.append])
    go_wp2_with fail
    refine HNO.out.mono ?_
    rintro e w' ⟨rfl, rfl⟩
    go_wp2_with fail
    refine (HM.out _).mono ?_
    rintro e w1 ⟨rfl, hk1⟩
    have K1 := Lib.hid hk1
    clear hk1
    go_wp2_with fail
    go_ret2
    exact HPO.out _ K1.out
set_option maxHeartbeats 3200000 in
set_option maxRecDepth 100000 in
theorem addin_there (h : NetAt w n F R N) (hok : N.g.nodes.length ≤ 100000 ∧ N.inb.length ≤ 100000) (s : ByteArray) (hs : s.size ≤ 140737488351232) (wd : Int) (h1 : 1 ≤ wd) (h2 : wd ≤ 64) (hm : mayB s = true) (k : Nat) (hf : findB N.inb s = some k) :
    Calls Tryz.prog 91 #[.pointer (some ⟨n, 0, none⟩), .string s, .int .i64 wd] w (AddInPost (N, [], 9) w n F R) := by
  have HNO := Lib.hid (net_none h (show N.g.nodes.length ≤ 1000000 by omega))
  have HM := Lib.hid (fun (W : World) => mayname_c s W hs)
  have HPO := Lib.hid (fun (W : World) (hk : Kept [] w W) => AddInPost.no (k := 9) h hk)
  rw [hm] at HM
  generalize ((N, [], 9) : Nt × List Nat × Nat) = res at *
  obtain ⟨p, G, ia, ic, ra, rc, oa, oc, ri, ro, rfl, rfl, hc⟩ := h
  have c2 := hc.c2
  have HF := Lib.hid (fun (W : World) (hk : Kept [] w W) => find_c s ia ic N.inb.length ri (w := W) (by rw [← hc.ib.is]; simp) (by omega) (hc.ib.slb.kept0 hk))
  rw [findP_eq, hc.ib.is, hf] at HF
  have C2 := Lib.hid (fun (W : World) (hk : Kept [] w W) => hk.cell c2 (by simp))
  clear hc hm hf c2
  go_enter Tryz.func91, Tryz.ntmps91; (try simp only [List.append])
  go_wp2_with fail
  refine HNO.out.mono ?_
  rintro e w' ⟨rfl, rfl⟩
  go_wp2_with fail
  refine (HM.out _).mono ?_
  rintro e w1 ⟨rfl, hk1⟩
  have K1 := Lib.hid hk1
  have c2 := C2.out _ hk1
  clear hk1
  go_wp2_with fail
  refine (HF.out _ K1.out).mono ?_
  rintro e w2 ⟨rfl, hk2⟩
  have K2 := Lib.hid (K1.out.trans hk2)
  clear hk2 c2
  go_wp2_with fail
  go_ret2
  exact HPO.out _ K2.out
end Go.Proofs.YtdmcdhkkbkgnbaaGreat

namespace Go.Proofs.YtdmcdhkkbkgnbaaGreat
open Go.ChangeShapes Go.WideShapes Go.ChangeAt Go.RowKit
open Go.Maps (Keyed)
open Go.WideMaps
set_option linter.unusedVariables false
set_option linter.unusedSimpArgs false

variable {w w' : World} {p n : Nat} {F R S : List Nat} {g : Gr} {N : Nt}
set_option maxHeartbeats 3200000 in
set_option maxRecDepth 100000 in
theorem addin_good (h : NetAt w n F R N) (hok : N.g.nodes.length ≤ 100000 ∧ N.inb.length ≤ 100000) (s : ByteArray) (hs : s.size ≤ 140737488351232) (m : Nat) (h1 : 1 ≤ m) (h2 : m ≤ 64) (hm : mayB s = true) (hf : findB N.inb s = none) :
    Calls Tryz.prog 91 #[.pointer (some ⟨n, 0, none⟩), .string s, .int .i64 (m : Int)] w (AddInPost ({ N with g := inputsG N.g m, inb := N.inb ++ [⟨s, rowFrom N.g.nodes.length m⟩] }, rowFrom N.g.nodes.length m, 0) w n F R) := by
  have HNO := Lib.hid (net_none h (show N.g.nodes.length ≤ 1000000 by omega))
  have HM := Lib.hid (fun (W : World) => mayname_c s W hs)
  rw [hm] at HM
  have lenN := hok.1
  have lenI := hok.2
  obtain ⟨p, G, ia, ic, ra, rc, oa, oc, ri, ro, rfl, rfl, hc⟩ := h
  have HF := Lib.hid (fun (W : World) (hk : Kept [] w W) => find_c s ia ic N.inb.length ri (w := W) (by rw [← hc.ib.is]; simp) (by omega) (hc.ib.slb.kept0 hk))
  rw [findP_eq, hc.ib.is, hf] at HF
  have HC := Lib.hid (fun (W : World) (hk : Kept [] w W) => hc.kept hk (by simp) (by simp))
  have HWF := Lib.hid hc.gr.wf
  clear hc hm hf hok
  obtain ⟨n0, hn0⟩ : ∃ k, k = N.g.nodes.length := ⟨_, rfl⟩
  have HN0 := Lib.hid hn0
  obtain ⟨nI, hnI⟩ : ∃ k, k = N.inb.length := ⟨_, rfl⟩
  have HNI := Lib.hid hnI
  rw [← hn0] at lenN ⊢
  rw [← hnI] at lenI HF
  clear hn0 hnI
  go_enter Tryz.func91, Tryz.ntmps91; (try simp only [List.append])
  go_wp2_with fail
  refine HNO.out.mono ?_
  rintro e w' ⟨rfl, rfl⟩
  go_wp2_with fail
  refine (HM.out _).mono ?_
  rintro e w1 ⟨rfl, hk1⟩
  have K1 := Lib.hid hk1
  have c2 := (HC.out _ hk1).c2
  rw [← HNI.out] at c2
  clear hk1
  go_wp2_with fail
  refine (HF.out _ K1.out).mono ?_
  rintro e w2 ⟨rfl, hk2⟩
  have K2 := Lib.hid (K1.out.trans hk2)
  clear hk2 c2
  have HC2 := Lib.hid (HC.out _ K2.out)
  clear HC HF HM HNO K1
  have c0 := HC2.out.c0
  have hNod := Lib.hid (aig_nodes HC2.out.gr (by have := HN0.out; omega))
  rw [← HN0.out] at hNod
  go_wp2_with fail
  refine hNod.out.mono ?_
  rintro e w' ⟨rfl, rfl⟩
  clear hNod
  go_wp2_with fail
  have AP := Lib.hid HC2.out.apart
  have LT := Lib.hid HC2.out.lt
  go_loopw [8, 45] (fun v i wr => ∃ (k : Nat) (a' : Option Addr) (c' : Nat) (G' : List Nat), k ≤ m ∧ i = .int .i64 k ∧ v = .slice a' k c' ∧ GraphAt wr p G' (inputsG N.g k) ∧ Own wr 61 a' k c' (nats .u32 (rowFrom n0 k)) ∧ Stepped w2 wr G G' ∧ ∀ b ∈ ft a', w2.heap.size ≤ b) (fun _ i _ => m - (intOf i).toNat)
  case atStart => exact ⟨0, none, 0, G, Nat.zero_le _, rfl, rfl, HC2.out.gr, Own.nil _ _, .refl _ _, by simp [ft]⟩
  case round =>
    obtain ⟨k, a', c', G', hk, rfl, rfl, hg, hown, hst, hfr⟩ := hrel
    have GR := Lib.hid hg
    have OW := Lib.hid hown
    have ST := Lib.hid hst
    have FR := Lib.hid hfr
    have c0r := hst.kept.cell c0 AP.out.1
    clear hg hown hst hfr
    by_cases hlt : k < m
    · have HI := Lib.hid (aig_input GR.out (by rw [inputsG_length, ← HN0.out]; omega))
      have HV := Lib.hid (show (inputG (inputsG N.g k)).2 = 2 * (n0 + k) from by show 2 * (inputsG N.g k).nodes.length = _; rw [inputsG_length, ← HN0.out])
      have HG := Lib.hid (show (inputG (inputsG N.g k)).1 = inputsG N.g (k + 1) from rfl)
      generalize inputG (inputsG N.g k) = ig at *
      obtain ⟨ig1, y⟩ := ig
      simp only at HV HG
      have HR := Lib.hid (show rowFrom n0 (k + 1) = rowFrom n0 k ++ [y] from by rw [rowFrom_succ, HV.out])
      clear c0
      go_wp2_with fail
      refine HI.out.mono ?_
      rintro e w3 ⟨G3, rfl, hg3, hst3⟩
      have GR3 := Lib.hid hg3
      have ST3 := Lib.hid hst3
      have hown3 := OW.out.kept hst3.kept (fun b hb hx => GR.out.apart OW.out (by decide) (by decide) (by decide) b hb hx)
      clear hg3 hst3
      go_wp2_with (at_builtin; refine wpList_push rfl rfl Tryz.underlying58 lit_info' rfl rfl rfl hown3 rfl (by unfold maxLen; omega) (by omega) ?_; intro a4 c4 w4 hown4 hst4)
      go_roundw
      case rel =>
        refine ⟨k + 1, a4, c4, G3, by omega, by go_num, rfl, ?_, by rw [HR.out, ← nats_append]; exact hown4, (ST.out.trans ST3.out).aside hst4.kept FR.out, fun b hb => ?_⟩
        · rw [← HG.out]
          exact GR3.out.kept hst4.kept (fun b hb hx => GR3.out.apart hown3 (by decide) (by decide) (by decide) b hx hb)
        · rcases hst4.fresh b hb with h | h
          · exact FR.out b h
          · exact Nat.le_trans (Nat.le_trans ST.out.kept.size ST3.out.kept.size) h
      case measure => simp [intOf]; omega
    · obtain rfl : k = m := by omega
      obtain ⟨w3, rfl⟩ : ∃ v : World, v = wr := ⟨_, rfl⟩
      have HC3 := Lib.hid (HC2.out.graph GR.out ST.out)
      have c2r : w3.cell? ⟨n, 2, none⟩ = some (.slice ia nI ic) := by rw [HNI.out]; exact HC3.out.c2
      have f2r : w3.frozen? ⟨n, 2, none⟩ = false := blk_free HC3.out.blk 2
      have hib := HC3.out.ib.own
      have hnia := HC3.out.apart.2.1
      have hnlt := blk_lt HC3.out.blk
      rw [show (({ N with g := inputsG N.g k } : Nt).inb.length) = nI from HNI.out.symm] at hib
      obtain ⟨ga, hga⟩ := OW.out.form (by omega)
      subst hga
      clear c0
      go_wp2_with (at_builtin; refine wpList_push2 (news := [.string s, .slice (some ⟨ga, 0, none⟩) k c']) rfl rfl Tryz.underlying54 bus_info rfl (by omega) rfl rfl rfl hib rfl (by simp [Value.oneCell']) (by unfold maxLen; omega) (by omega) rfl ?_; intro a5 c5 w5 hown5 hst5; have cw2 : w5.cell? ⟨n, 2, none⟩ = some (.slice ia nI ic) := hst5.kept.cell c2r hnia; have fw2 : w5.frozen? ⟨n, 2, none⟩ = false := (hst5.kept.frozen hnlt hnia).trans f2r)
      have HBI := Lib.hid (show NetC (w5.setCell ⟨n, 2, none⟩ (.slice a5 (nI + 1) c5)) n { N with g := inputsG N.g k, inb := N.inb ++ [⟨s, rowFrom n0 k⟩] } p G' a5 c5 ra rc oa oc (ri ++ [⟨⟨s, rowFrom n0 k⟩, some ⟨ga, 0, none⟩, c'⟩]) ro ∧
          Stepped w3 (w5.setCell ⟨n, 2, none⟩ (.slice a5 (nI + 1) c5)) (n :: (G' ++ (ft ia ++ (ft ra ++ ft oa)))) (n :: (G' ++ (ft a5 ++ (ft ra ++ ft oa)))) from by
        rw [HNI.out] at hown5 ⊢
        exact NetC.addIn (N := { N with g := inputsG N.g k }) HC3.out (by rw [rowFrom_length]; exact hown5) hst5 OW.out.sln (fun b hb => by
          have f := FR.out b hb
          have l := OW.out.lt b hb
          have lt := LT.out.1
          refine ⟨l, fun hx => ?_⟩
          simp only [List.mem_cons, List.mem_append] at hx lt
          rcases hx with hx | hx | hx
          · have := lt b (.inl hx); omega
          · exact GR.out.apart OW.out (by decide) (by decide) (by decide) b hb hx
          · have := lt b (.inr (.inr hx)); omega))
      have SL := Lib.hid ((HBI.out.1.ib.rows ⟨⟨s, rowFrom n0 k⟩, some ⟨ga, 0, none⟩, c'⟩ (by simp)).1)
      have NS := Lib.hid (show NStep w (w5.setCell ⟨n, 2, none⟩ (.slice a5 (nI + 1) c5)) (n :: (G ++ (ft ia ++ (ft ra ++ ft oa)))) (rowsOf ri ++ rowsOf ro) (n :: (G' ++ (ft a5 ++ (ft ra ++ ft oa)))) (rowsOf (ri ++ [⟨⟨s, rowFrom n0 k⟩, some ⟨ga, 0, none⟩, c'⟩]) ++ rowsOf ro) from by
        have s1 := (((NStep.refl w (n :: (G ++ (ft ia ++ (ft ra ++ ft oa)))) (rowsOf ri ++ rowsOf ro)).keep K2.out).trans (NetC.graph_step ST.out)).st.trans HBI.out.2
        refine ⟨s1, fun b hb => ?_⟩
        rcases rows_in b hb with h | h
        · exact .inl h
        · exact .inr (Nat.le_trans K2.out.size (FR.out b h)))
      clear hown5 hst5 hib hnia c2r f2r cw2 fw2 c0r
      refine (clone_lits (some ⟨ga, 0, none⟩) c' k (rowFrom n0 k) _ (rowFrom_length _ _) SL.out (by omega) (by simp)).mono ?_
      rintro e w7 ⟨a7, c7, rfl, ho7, hst7⟩
      have O7 := Lib.hid ho7
      have K7 := Lib.hid hst7.kept
      have F7 := Lib.hid (show ∀ b ∈ ft a7, (w5.setCell ⟨n, 2, none⟩ (.slice a5 (nI + 1) c5)).heap.size ≤ b from fun b hb => by
        rcases hst7.fresh b hb with h | h
        · simp at h
        · exact h)
      clear ho7 hst7
      go_wp2_with fail
      go_ret2
      have hlt := HBI.out.1.lt
      exact ⟨_, _, a7, c7, k, rfl, ⟨p, G', a5, c5, ra, rc, oa, oc, _, ro, rfl, rfl, HBI.out.1.kept K7.out (by simp) (by simp)⟩, NS.out.keep K7.out, O7.out, fun b hb => ⟨Nat.le_trans NS.out.st.kept.size (F7.out b hb), fun hx => by have := hlt.1 b hx; have := F7.out b hb; omega, fun hx => by have := hlt.2 b hx; have := F7.out b hb; omega⟩⟩
end Go.Proofs.YtdmcdhkkbkgnbaaGreat

namespace Go.Proofs.YtdmcdhkkbkgnbaaGreat
open Go.ChangeShapes Go.WideShapes Go.ChangeAt Go.RowKit
open Go.Maps (Keyed)
open Go.WideMaps
set_option linter.unusedVariables false
set_option linter.unusedSimpArgs false

variable {w w' : World} {p n : Nat} {F R S : List Nat} {g : Gr} {N : Nt}
theorem addin_c (h : NetAt w n F R N) (hok : N.g.nodes.length ≤ 100000 ∧ N.inb.length ≤ 100000) (s : ByteArray) (hs : s.size ≤ 140737488351232) (wd : Int) (hw1 : -9223372036854775808 ≤ wd) (hw2 : wd ≤ 9223372036854775807) :
    Calls Tryz.prog 91 #[.pointer (some ⟨n, 0, none⟩), .string s, .int .i64 wd] w (AddInPost (addIn N s wd) w n F R) := by
  unfold addIn
  by_cases hbad : ((!mayB s) || decide (wd < 1) || decide (64 < wd)) = true
  · rw [if_pos hbad]
    exact addin_bad h hok s hs wd hw1 hw2 hbad
  · rw [if_neg hbad]
    simp only [Bool.or_eq_true, decide_eq_true_eq, not_or, Bool.not_eq_true', Bool.not_eq_false] at hbad
    cases hf : findB N.inb s with
    | some k =>
      simp only [Option.isSome_some, if_true]
      exact addin_there h hok s hs wd (by omega) (by omega) hbad.1.1 k hf
    | none =>
      simp only [Option.isSome_none, Bool.false_eq_true, if_false]
      obtain ⟨m, rfl⟩ : ∃ m : Nat, wd = (m : Int) := ⟨wd.toNat, by omega⟩
      rw [Int.toNat_natCast]
      exact addin_good h hok s hs m (by omega) (by omega) hbad.1.1 hf
section
variable {G : List Nat} {ia ra oa : Option Addr} {ic rc oc : Nat} {ri ro : List BR}
/-- a register more -/
theorem NetC.addReg {w1 : World} {ra' : Option Addr} {rc' : Nat} {r : Rg} (h : NetC w n N p G ia ic ra rc oa oc ri ro)
    (hown : w1.ownsRow 0 63 4 (.slice ra' (N.regs.length + 1) rc') (N.regs.length + 1) (rgCells N.regs ++ [.int .u32 (r.q : Int), .int .u32 (r.d : Int), .int .u32 (r.en : Int), .bool r.init])) (hst : Stepped w w1 (ft ra) (ft ra')) :
    NetC (w1.setCell ⟨n, 3, none⟩ (.slice ra' (N.regs.length + 1) rc')) n { N with regs := N.regs ++ [r] } p G ia ic ra' rc' oa oc ri ro ∧
    Stepped w (w1.setCell ⟨n, 3, none⟩ (.slice ra' (N.regs.length + 1) rc')) (n :: (G ++ (ft ia ++ (ft ra ++ ft oa)))) (n :: (G ++ (ft ia ++ (ft ra' ++ ft oa)))) := by
  obtain ⟨a1, a2, a3, a4, a5, a6, a7, a8, a9⟩ := h.apart
  have lt := h.lt
  have fr := h.fr
  simp only [List.mem_cons, List.mem_append, not_or] at fr
  have hnew : ∀ b ∈ ft ra', b ∈ ft ra ∨ w.heap.size ≤ b := hst.fresh
  have hkn : w1.heap[n]? = some (.cells (nCells p N ia ic ra rc oa oc) 57 (0, 0)) := hst.kept.heap h.blk a3
  have hn' : n ∉ ft ra' := blk_apart hkn hown (by decide)
  have hks : Kept [n] w1 (w1.setCell ⟨n, 3, none⟩ (.slice ra' (N.regs.length + 1) rc')) := (Kept.refl [n] w1).setCell (p := ⟨n, 3, none⟩) (.inl (by simp)) _
  have gk := (h.gr.kept hst.kept (fun b hb hx => a6 b hx hb)).kept hks (fun b hb hx => by simp at hx; exact a1 (hx ▸ hb))
  have ik := (h.ib.kept hst.kept (fun b hb hx => a8 b hx hb) (fun b hb => (fr b (.inl hb)).2.2.2.1)).kept hks (fun b hb hx => by simp at hx; exact a2 (hx ▸ hb)) (fun b hb hx => by simp at hx; exact (fr b (.inl hb)).1 hx)
  have ok := (h.ob.kept hst.kept (fun b hb hx => a9 b hx hb) (fun b hb => (fr b (.inr hb)).2.2.2.1)).kept hks (fun b hb hx => by simp at hx; exact a4 (hx ▸ hb)) (fun b hb hx => by simp at hx; exact (fr b (.inr hb)).1 hx)
  have hkk : Kept (n :: ft ra) w (w1.setCell ⟨n, 3, none⟩ (.slice ra' (N.regs.length + 1) rc')) := (hst.kept.more (fun b hb => List.mem_cons_of_mem _ hb)).trans (hks.more (fun b hb => by simp at hb; simp [hb]))
  refine ⟨⟨?_, gk, ik, ?_, ok, h.io, ?_⟩, ⟨hkk.more ?_, ?_⟩⟩
  · rw [blk_set hkn]
    simp [nCells]
  · have := own_kept hown hks (fun b hb hx => by simp at hx; exact hn' (hx ▸ hb))
    rw [rgCells_snoc N.regs r] at this
    simpa using this
  · intro b hb
    have f := fr b (List.mem_append.1 hb)
    have l := lt.2 b hb
    simp only [List.mem_cons, List.mem_append, not_or]
    exact ⟨f.1, f.2.1, f.2.2.1, fun hx => by rcases hnew b hx with hx | hx; exact f.2.2.2.1 hx; omega, f.2.2.2.2⟩
  · intro b hb
    simp only [List.mem_cons, List.mem_append] at hb ⊢
    rcases hb with hb | hb
    · exact .inl hb
    · exact .inr (.inr (.inr (.inl hb)))
  · intro b hb
    simp only [List.mem_cons, List.mem_append] at hb ⊢
    rcases hb with hb | hb | hb | hb | hb
    · exact .inl (.inl hb)
    · exact .inl (.inr (.inl hb))
    · exact .inl (.inr (.inr (.inl hb)))
    · rcases hnew b hb with hx | hx
      · exact .inl (.inr (.inr (.inr (.inl hx))))
      · exact .inr hx
    · exact .inl (.inr (.inr (.inr (.inr hb))))
/-- a bus more that goes out -/
theorem NetC.addOut {w1 : World} {oa' a : Option Addr} {oc' c : Nat} {s : ByteArray} {l : List Nat} (h : NetC w n N p G ia ic ra rc oa oc ri ro)
    (hown : w1.ownsRow 0 60 2 (.slice oa' (N.outb.length + 1) oc') (N.outb.length + 1) (brCells ro ++ [.string s, .slice a l.length c])) (hst : Stepped w w1 (ft oa) (ft oa')) (hrow : SlN w .u32 a l) (ha : ∀ b ∈ ft a, b < w.heap.size ∧ b ∉ n :: (G ++ (ft ia ++ (ft ra ++ ft oa)))) :
    NetC (w1.setCell ⟨n, 4, none⟩ (.slice oa' (N.outb.length + 1) oc')) n { N with outb := N.outb ++ [⟨s, l⟩] } p G ia ic ra rc oa' oc' ri (ro ++ [⟨⟨s, l⟩, a, c⟩]) ∧
    Stepped w (w1.setCell ⟨n, 4, none⟩ (.slice oa' (N.outb.length + 1) oc')) (n :: (G ++ (ft ia ++ (ft ra ++ ft oa)))) (n :: (G ++ (ft ia ++ (ft ra ++ ft oa')))) := by
  obtain ⟨a1, a2, a3, a4, a5, a6, a7, a8, a9⟩ := h.apart
  have lt := h.lt
  have fr := h.fr
  simp only [List.mem_cons, List.mem_append, not_or] at fr ha
  have hnew : ∀ b ∈ ft oa', b ∈ ft oa ∨ w.heap.size ≤ b := hst.fresh
  have hkn : w1.heap[n]? = some (.cells (nCells p N ia ic ra rc oa oc) 57 (0, 0)) := hst.kept.heap h.blk a4
  have hn' : n ∉ ft oa' := blk_apart hkn hown (by decide)
  have hks : Kept [n] w1 (w1.setCell ⟨n, 4, none⟩ (.slice oa' (N.outb.length + 1) oc')) := (Kept.refl [n] w1).setCell (p := ⟨n, 4, none⟩) (.inl (by simp)) _
  have gk := (h.gr.kept hst.kept (fun b hb hx => a7 b hx hb)).kept hks (fun b hb hx => by simp at hx; exact a1 (hx ▸ hb))
  have rk := own_kept (own_kept h.rb hst.kept a9) hks (fun b hb hx => by simp at hx; exact a3 (hx ▸ hb))
  have ik := (h.ib.kept hst.kept h.io (fun b hb => (fr b (.inl hb)).2.2.2.2)).kept hks (fun b hb hx => by simp at hx; exact a2 (hx ▸ hb)) (fun b hb hx => by simp at hx; exact (fr b (.inl hb)).1 hx)
  have hkk : Kept (n :: ft oa) w (w1.setCell ⟨n, 4, none⟩ (.slice oa' (N.outb.length + 1) oc')) := (hst.kept.more (fun b hb => List.mem_cons_of_mem _ hb)).trans (hks.more (fun b hb => by simp at hb; simp [hb]))
  have rows' : ∀ b ∈ rowsOf ri ++ rowsOf (ro ++ [⟨⟨s, l⟩, a, c⟩]), b < w.heap.size ∧ b ≠ n ∧ b ∉ G ∧ b ∉ ft ia ∧ b ∉ ft ra ∧ b ∉ ft oa := by
    intro b hb
    rcases rows_out b hb with hb | hb
    · exact ⟨lt.2 b hb, (fr b (List.mem_append.1 hb)).1, (fr b (List.mem_append.1 hb)).2⟩
    · exact ⟨(ha b hb).1, (ha b hb).2.1, (ha b hb).2.2⟩
  refine ⟨⟨?_, gk, ik, rk, ⟨?_, ?_, ?_⟩, ?_, ?_⟩, ⟨hkk.more ?_, ?_⟩⟩
  · rw [blk_set hkn]
    simp [nCells]
  · have := own_kept hown hks (fun b hb hx => by simp at hx; exact hn' (hx ▸ hb))
    rw [brCells_snoc ro ⟨⟨s, l⟩, a, c⟩] at this
    simpa using this
  · simp [h.ob.is]
  · intro r hr
    rcases List.mem_append.1 hr with hr | hr
    · have hm : ∀ b ∈ ft r.a, b ∈ rowsOf ro := fun b hb => mem_rowsOf.2 ⟨r, hr, hb⟩
      exact ⟨(h.ob.rows r hr).1.kept hkk (fun b hb hx => by rcases List.mem_cons.1 hx with hx | hx; exact (fr b (.inr (hm b hb))).1 hx; exact (fr b (.inr (hm b hb))).2.2.2.2 hx), fun b hb => Nat.lt_of_lt_of_le ((h.ob.rows r hr).2 b hb) hkk.size⟩
    · rw [List.mem_singleton] at hr
      subst hr
      exact ⟨hrow.kept hkk (fun b hb hx => by rcases List.mem_cons.1 hx with hx | hx; exact (ha b hb).2.1 hx; exact (ha b hb).2.2.2.2.2 hx), fun b hb => Nat.lt_of_lt_of_le (ha b hb).1 hkk.size⟩
  · intro b hb hx
    rcases hnew b hx with hx | hx
    · exact h.io b hb hx
    · have := lt.1 b (by simp [hb]); omega
  · intro b hb
    obtain ⟨h1, h2, h3, h4, h5, h6⟩ := rows' b hb
    simp only [List.mem_cons, List.mem_append, not_or]
    exact ⟨h2, h3, h4, h5, fun hx => by rcases hnew b hx with hx | hx; exact h6 hx; omega⟩
  · intro b hb
    simp only [List.mem_cons, List.mem_append] at hb ⊢
    rcases hb with hb | hb
    · exact .inl hb
    · exact .inr (.inr (.inr (.inr hb)))
  · intro b hb
    simp only [List.mem_cons, List.mem_append] at hb ⊢
    rcases hb with hb | hb | hb | hb | hb
    · exact .inl (.inl hb)
    · exact .inl (.inr (.inl hb))
    · exact .inl (.inr (.inr (.inl hb)))
    · exact .inl (.inr (.inr (.inr (.inl hb))))
    · rcases hnew b hb with hx | hx
      · exact .inl (.inr (.inr (.inr (.inr hx))))
      · exact .inr hx
end
def AddRegPost (r : Nt × Nat) (w : World) (n : Nat) (F R : List Nat) (e : Ending) (w' : World) : Prop :=
  ∃ F', e = .returned (.tuple #[.int .u32 (r.2 : Nat), .int .i64 0]) ∧ NetAt w' n F' R r.1 ∧ NStep w w' F R F' R
set_option maxHeartbeats 3200000 in
set_option maxRecDepth 100000 in
theorem addreg_c (h : NetAt w n F R N) (hok : N.g.nodes.length ≤ 100000 ∧ N.regs.length ≤ 10000) (b : Bool) :
    Calls Tryz.prog 92 #[.pointer (some ⟨n, 0, none⟩), .bool b] w (AddRegPost (addReg N b) w n F R) := by
  have HNO := Lib.hid (net_none h (show N.g.nodes.length ≤ 1000000 by omega))
  obtain ⟨p, G, ia, ic, ra, rc, oa, oc, ri, ro, rfl, rfl, hc⟩ := h
  have HC := Lib.hid hc
  have HI := Lib.hid (aig_input hc.gr (show N.g.nodes.length ≤ 199000 by omega))
  have lenR := hok.2
  obtain ⟨nR, hnR⟩ : ∃ k, k = N.regs.length := ⟨_, rfl⟩
  have HNR := Lib.hid hnR
  have c0 := hc.c0
  have c3 := hc.c3
  rw [← hnR] at lenR c3
  clear hc hok hnR
  have HV := Lib.hid (show inputG N.g = ((inputG N.g).1, 2 * N.g.nodes.length) from rfl)
  have HAR := Lib.hid (show addReg N b = ({ N with g := (inputG N.g).1, regs := N.regs ++ [⟨2 * N.g.nodes.length, 0, 0, b⟩] }, 2 * N.g.nodes.length) from rfl)
  rw [HV.out] at HI
  rw [HAR.out]
  obtain ⟨y, hy⟩ : ∃ y, y = 2 * N.g.nodes.length := ⟨_, rfl⟩
  rw [← hy] at HI ⊢
  clear hy HV HAR
  go_enter Tryz.func92, Tryz.ntmps92; (try simp only [List.append])
  go_wp2_with fail
  refine HNO.out.mono ?_
  rintro e w' ⟨rfl, rfl⟩
  go_wp2_with fail
  refine HI.out.mono ?_
  rintro e w3 ⟨G3, rfl, hg3, hst3⟩
  have HC3 := Lib.hid (HC.out.graph hg3 hst3)
  have S3 := Lib.hid (NetC.graph_step (n := n) (ia := ia) (ra := ra) (oa := oa) (ri := ri) (ro := ro) hst3)
  clear hg3 hst3 c0 c3
  have c3r : w3.cell? ⟨n, 3, none⟩ = some (.slice ra nR rc) := by rw [HNR.out]; exact HC3.out.c3
  have f3r : w3.frozen? ⟨n, 3, none⟩ = false := blk_free HC3.out.blk 3
  have hrb := HC3.out.rb
  have hnra := HC3.out.apart.2.2.1
  have hnlt := blk_lt HC3.out.blk
  rw [show (({ N with g := (inputG N.g).1 } : Nt).regs.length) = nR from HNR.out.symm] at hrb
  go_wp2_with (at_builtin; refine wpList_push2 (news := [.int .u32 (y : Int), .int .u32 0, .int .u32 0, .bool b]) rfl rfl Tryz.underlying55 reg_info rfl (by omega) rfl rfl rfl hrb rfl (by simp [Value.oneCell']) (by unfold maxLen; omega) (by omega) rfl ?_; intro a5 c5 w5 hown5 hst5; have cw3 : w5.cell? ⟨n, 3, none⟩ = some (.slice ra nR rc) := hst5.kept.cell c3r hnra; have fw3 : w5.frozen? ⟨n, 3, none⟩ = false := (hst5.kept.frozen hnlt hnra).trans f3r)
  have HBI := Lib.hid (show NetC (w5.setCell ⟨n, 3, none⟩ (.slice a5 (nR + 1) c5)) n { N with g := (inputG N.g).1, regs := N.regs ++ [⟨y, 0, 0, b⟩] } p G3 ia ic a5 c5 oa oc ri ro ∧
      Stepped w3 (w5.setCell ⟨n, 3, none⟩ (.slice a5 (nR + 1) c5)) (n :: (G3 ++ (ft ia ++ (ft ra ++ ft oa)))) (n :: (G3 ++ (ft ia ++ (ft a5 ++ ft oa)))) from by
    rw [HNR.out] at hown5 ⊢
    exact NetC.addReg (N := { N with g := (inputG N.g).1 }) (r := ⟨y, 0, 0, b⟩) HC3.out hown5 hst5)
  clear hown5 hst5 hrb hnra c3r f3r cw3 fw3
  go_ret2
  exact ⟨_, rfl, ⟨p, G3, ia, ic, a5, c5, oa, oc, ri, ro, rfl, rfl, HBI.out.1⟩, ⟨S3.out.st.trans HBI.out.2, fun b hb => .inl hb⟩⟩
end Go.Proofs.YtdmcdhkkbkgnbaaGreat
