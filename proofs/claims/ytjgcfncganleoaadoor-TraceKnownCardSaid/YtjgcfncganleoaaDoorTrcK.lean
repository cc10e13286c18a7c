/-
  Package trace: Put's closure that writes a bus: its name, a colon and its width.
-/
import Derived.Test.YtjgcfncganleoaaDoorTrcJ
namespace Go.Proofs.YtjgcfncganleoaaDoor
open Go.ChangeShapes Go.WideShapes Go.ChangeAt Go.RowKit
set_option linter.unusedVariables false
set_option linter.unusedSimpArgs false

variable {w w' w1 W : World} {B pb n : Nat} {L L' : List UInt8} {v : Value}
/-- in the middle of an item: the row as it stands, in no variable yet -/
structure MidAt (B : Nat) (w W : World) (v : Value) (n : Nat) (L : List UInt8) : Prop where
  row : W.ownsRow B 5 1 v n (Lib.byteCells L)
  below : Below B w W
  others : Lib.OthersKept 5 none w W
  len : n = L.length
  low : B ≤ W.heap.size
theorem MidAt.start (h : B ≤ w.heap.size) (hr : w.ownsRow B 5 1 v n (Lib.byteCells L)) (hn : n = L.length) : MidAt B w w v n L := ⟨hr, Below.refl _ _, Lib.OthersKept.refl _ _ _, hn, h⟩
theorem MidAt.kept {W' : World} (h : MidAt B w W v n L) (k : Kept [] W W') : MidAt B w W' v n L :=
  ⟨own_keptB h.row k (by simp), h.below.trans ⟨k.os, k.tape, k.output, k.size, fun i hi => k.block i (Nat.lt_of_lt_of_le hi h.low) (by simp)⟩, h.others.trans (others_of_kept k), h.len, Nat.le_trans h.low k.size⟩
theorem MidAt.grow {w9 : World} {v' : Value} {m : Nat} {new : List UInt8} (h : MidAt B w W v n L) (hg : W.grownBy w9 v.ownBlock) (hown9 : w9.ownsRow B 5 1 v' (n + m) (Lib.byteCells L ++ Lib.byteCells new)) (hl : new.length = m) : MidAt B w w9 v' (n + m) (L ++ new) :=
  ⟨by simpa [Lib.byteCells] using hown9, h.below.grown hg h.low (fun k hk => (h.row.lt k hk).1), h.others.grown hg (Lib.ownsRow_kind h.row), by rw [List.length_append, hl, h.len], Nat.le_trans h.low hg.size⟩
theorem step_mid_str {ops : Array Oper} {o : Oper} {act : Act} {K : Act → World → Prop} {Q : Exit → Act → World → Prop} {E : Prop} {s x : Operand} {str : ByteArray}
    (hgd : o.guard = none) (ho : o.op = .call { callee := .builtin .append, args := #[s, x], argTypes := #[44, 9] }) (hs : act.eval s = v) (hx : act.eval x = .string str) (hm : MidAt B w W v n L) (hlim : n + str.size ≤ 140737488351232)
    (h : ∀ v' w', MidAt B w w' v' (n + str.size) (L ++ str.data.toList) → W.grownBy w' v.ownBlock → K (act.put o.dst v') w') :
    if Region.wanted o (yielded ops act.tmps) = true then Oper.wp Tryd.prog o act W K Q else E := by
  rw [if_pos (by simp [Region.wanted, hgd])]
  obtain ⟨i0, hi, hz0, hz1, hz2⟩ := u8_info
  obtain ⟨v', w', hr, h2, h3, h4⟩ := Lib.run_append_own_string (P := Tryd.prog) W B 44 9 o.type 5 i0 Tryd.underlying44 Tryd.underlying9 hi hz0 hz1 hz2 v n _ hm.row str (by unfold maxLen; omega) (by omega) hm.low
  unfold Oper.wp execOp
  simp only [ho, resolve, invoke, builtin, Sem.run_bind, Sem.run_pure, Result.andThen_ok, List.map_toArray, List.map_cons, List.map_nil, hs, hx, hr]
  exact h _ _ (hm.grow (new := str.data.toList) h3 h2 (by rw [Array.length_toList]; rfl)) h3
theorem step_mid_one {ops : Array Oper} {o : Oper} {act : Act} {K : Act → World → Prop} {Q : Exit → Act → World → Prop} {E : Prop} {s x : Operand} {b : UInt8} {g : Nat}
    (hgd : o.guard = none) (ho : o.op = .call { callee := .builtin .append, args := #[s, x], argTypes := #[44, 44] }) (hs : act.eval s = v) (hx : act.eval x = .slice (some ⟨g, 0, none⟩) 1 1) (hm : MidAt B w W v n L) (hlim : n + 1 ≤ 140737488351232)
    (hc : W.heap[g]? = some (.cells #[.int .u8 (b.toNat : Int)] 5 (0, 0)))
    (h : ∀ v' w', MidAt B w w' v' (n + 1) (L ++ [b]) → W.grownBy w' v.ownBlock → K (act.put o.dst v') w') :
    if Region.wanted o (yielded ops act.tmps) = true then Oper.wp Tryd.prog o act W K Q else E := by
  rw [if_pos (by simp [Region.wanted, hgd])]
  obtain ⟨i0, hi, hz0, hz1, hz2⟩ := u8_info
  obtain ⟨v', w', hr, h2, h3, h4⟩ := run_append_own (P := Tryd.prog) W B 44 o.type 5 i0 (.int .u8 0) 1 1 Tryd.underlying44 hi hz0 hz1 hz2 rfl (by omega) v n _ hm.row ⟨g, 0, none⟩ 1 1 [.int .u8 (b.toNat : Int)] rfl (fun j u hj => by
    match j, hj with
    | 0, hj =>
      simp at hj
      rw [add_at, blk_cell hc, ← hj]
      rfl) (fun u hu => by rw [List.mem_singleton.1 hu]; rfl) (by unfold maxLen; omega) (by omega) hm.low
  unfold Oper.wp execOp
  simp only [ho, resolve, invoke, builtin, Sem.run_bind, Sem.run_pure, Result.andThen_ok, List.map_toArray, List.map_cons, List.map_nil, hs, hx, hr]
  exact h _ _ (hm.grow (new := [b]) h3 h2 rfl) h3
/-- the store of the row into its variable -/
theorem BufAt.mid {v0 v' : Value} {w9 : World} {m : Nat} {new : List UInt8} (h : BufAt B w pb L) (hb : w.heap[pb]? = some (.cells #[v0] 44 (0, 0))) (hm : MidAt B w w9 v' m (L ++ new)) (h0 : 0 < m) :
    ∃ g9 cap9, v' = .slice (some ⟨g9, 0, none⟩) m cap9 ∧ (BufAt B (w9.setCell ⟨pb, 0, none⟩ v') pb (L ++ new) ∧ BufK B pb w (w9.setCell ⟨pb, 0, none⟩ v')) ∧ w9.cell? ⟨pb, 0, none⟩ = some v0 ∧ w9.frozen? ⟨pb, 0, none⟩ = false := by
  have b9 := hm.others pb _ hb (by simp) (fun c fz e => by injection e with _ e2; exact absurd e2 (by decide))
  obtain ⟨g9, cap9, he, _, _⟩ := hm.row.form h0
  refine ⟨g9, cap9, he, h.stored hm.below hm.others hm.row hm.len, ?_, blk_free b9 0⟩
  rw [blk_cell b9 0]
  rfl
theorem dec_pos (x : Nat) : 0 < (Lib.decDigits x).length := by
  rw [Lib.decDigits_length]
  by_cases h10 : x < 10
  · rw [Lib.nDigits_small h10]; omega
  · rw [Lib.nDigits_big h10]; omega
theorem grown_at {g : Nat} (hg : W.grownBy w' v.ownBlock) (hV : ∀ q, v.ownBlock = some q → q < g) : ∀ o, W.heap[g]? = some o → w'.heap[g]? = some o := fun o ho => by
  rw [hg.block g (blk_lt ho) (fun e => Nat.lt_irrefl _ (hV g e.symm))]
  exact ho
set_option maxHeartbeats 6400000 in
set_option maxRecDepth 100000 in
theorem bus_c (tb gb go_ k len c x : Nat) (nm : ByteArray) (w : World) (hbuf : BufAt B w pb L) (hL : L.length ≤ 2000000000000) (hr : w.cell? ⟨tb, 0, none⟩ = some (.slice (some ⟨gb, go_, none⟩) len c)) (hk : k < len) (hlen : len ≤ 70368744175616) (hx0 : w.cell? ⟨gb, go_ + k * 2, none⟩ = some (.string nm)) (hx1 : w.cell? ⟨gb, go_ + k * 2 + 1, none⟩ = some (.int .i64 (x : Int))) (hnm : nm.size ≤ 1000000000000) (hx : x < 100)
    (hk2 : ∀ W, BufK B pb w W → W.cell? ⟨tb, 0, none⟩ = some (.slice (some ⟨gb, go_, none⟩) len c) ∧ W.cell? ⟨gb, go_ + k * 2 + 1, none⟩ = some (.int .i64 (x : Int))) :
    Calls Tryd.prog 41 #[.int .i64 (k : Int), .pointer (some ⟨pb, 0, none⟩), .pointer (some ⟨tb, 0, none⟩)] w (LinePost B pb (L ++ (nm.data.toList ++ [58] ++ Lib.decDigits x)) w) := by
  have HBU := Lib.hid hbuf
  have HK2 := Lib.hid hk2
  obtain ⟨hBp, v, b1, b2⟩ := hbuf
  obtain ⟨n, hn⟩ : ∃ n, n = L.length := ⟨_, rfl⟩
  have c1 : w.cell? ⟨pb, 0, none⟩ = some v := by rw [blk_cell b1 0]; rfl
  have HB1 := Lib.hid b1
  have HM := Lib.hid (MidAt.start HBU.out.low b2 rfl)
  rw [← hn] at HM hL
  have HN := Lib.hid hn
  have HV := Lib.hid (fun g (h : v.ownBlock = some g) => (b2.lt g h).2)
  clear b1 b2 hBp hn hk2
  have a0 := cell_alloc hx0 (.cells #[.int .u8 58] 5)
  have a1 := cell_alloc c1 (.cells #[.int .u8 58] 5)
  have a2 := cell_alloc hr (.cells #[.int .u8 58] 5)
  go_enter Tryd.func41, Tryd.ntmps41
  go_upto_region 0 with fail
  go_cut [13] (fun u wx => BufAt B wx pb (L ++ (nm.data.toList ++ [58])) ∧ BufK B pb w wx)
  · go_region_law (first
      | (refine step_mid_str (by rfl) (by rfl) (by rfl) (by rfl) (HM.out.kept (by (repeat (first | with_reducible exact Kept.refl _ _ | with_reducible apply Kept.drew | with_reducible apply Kept.drewN | with_reducible apply Kept.alloc)))) (by omega) ?_; intro v1 w1 m1 g1; have e1 := grown_at g1 HV.out; clear g1)
      | (refine step_mid_one (b := 58) (by rfl) (by rfl) (by rfl) (by rfl) (m1.kept (by (repeat (first | with_reducible exact Kept.refl _ _ | with_reducible apply Kept.drew | with_reducible apply Kept.drewN | with_reducible apply Kept.alloc)))) (by omega) (by first | exact heap_alloc_new _ _ | exact e1 _ (heap_alloc_new _ _)) ?_; intro v2 w2 m2 _; obtain ⟨g9, cap9, rfl, hst, c9, f9⟩ := HBU.out.mid (new := nm.data.toList ++ [58]) HB1.out (by rw [← List.append_assoc]; exact m2) (by omega); have HST := Lib.hid hst; clear hst m1 m2 e1))
    all_goals
      go_wp2_with fail
      go_meet
      exact ⟨HST.out.1, HST.out.2⟩
  · obtain ⟨hb1, hk1⟩ := hcut
    obtain ⟨y0, y1⟩ := HK2.out _ hk1
    have HBV := Lib.hid hb1
    have HKV := Lib.hid hk1
    obtain ⟨L2, hL2⟩ : ∃ l, l = L ++ (nm.data.toList ++ [58]) := ⟨_, rfl⟩
    rw [← hL2] at HBV hb1
    have hlen2 : L2.length ≤ 4000000000000 := by
      have h1 := HN.out
      have h2 : nm.data.toList.length = nm.size := by rw [Array.length_toList]; rfl
      rw [hL2, List.length_append, List.length_append, h2, ← h1]
      simp
      omega
    have HL2 := Lib.hid (And.intro hL2 hlen2)
    obtain ⟨hBp, v5, b1, b2⟩ := hb1
    have c5 : wc.cell? ⟨pb, 0, none⟩ = some v5 := by rw [blk_cell b1 0]; rfl
    have HB5 := Lib.hid b1
    have HCL := Lib.hid (fun (W : World) (hW : Kept [] wc W) => app_int10 B L2.length x hx v5 (Lib.byteCells L2) W (own_keptB b2 hW (by simp)) (Nat.le_trans HBV.out.low hW.size) (by omega))
    clear b1 b2 hBp hk1 hL2 hlen2
    go_wp2_with fail
    go_region_law (first
      | (go_simp; refine (HCL.out _ ((Kept.refl [] wc).drew)).mono ?_; rintro e w9 ⟨v', rfl, hown9, hb9, ho9⟩; obtain ⟨g9, cap9, rfl, hst, c9, f9⟩ := HBV.out.called HB5.out ((show Below B wc wc.drew from ⟨rfl, rfl, rfl, Nat.le_refl _, fun _ _ => rfl⟩).trans hb9) ((others_of_kept ((Kept.refl [] wc).drew)).trans ho9) hown9 rfl (dec_pos x); have HST := Lib.hid hst; clear hst hown9 hb9 ho9))
    all_goals
      (try simp only [Exit.inBlock, Exit.then])
      refine bodyPost_ret (results_none rfl _ _ _) rfl ?_
      refine ⟨rfl, ?_, HKV.out.trans HST.out.2⟩
      have h := HST.out.1
      rw [show L2 ++ Lib.decDigits x = L ++ (nm.data.toList ++ [58] ++ Lib.decDigits x) from by rw [HL2.out.1, List.append_assoc]] at h
      exact h
end Go.Proofs.YtjgcfncganleoaaDoor
