/-
  Package adder: looking ahead.
-/
import Derived.Test.YtenhbhckhncamaaP21
import Derived.Test.YtenhbhckhncamaaP22
import Derived.Deep.DeepCutAuto
import Derived.Deep.RegionHeld3
namespace Go.Proofs.Ytenhbhckhncamaa
open Go.ChangeShapes Go.WideShapes Go.ChangeAt Go.RowKit
open Go.Maps (Keyed)
open Go.WideMaps
set_option linter.unusedVariables false
set_option linter.unusedSimpArgs false

variable {w w' : World} {p mb : Nat} {F S : List Nat} {g : Gr}

/-- a row of 64 literals of one's own -/
def Arr (w : World) (F : List Nat) (b : Nat) (M : List Nat) : Prop := Mine w F b (.cells (nats .u32 M).toArray 112 (0, 0)) ∧ M.length = 64
variable {b : Nat} {M : List Nat} {F' : List Nat}
theorem Arr.cell (h : Arr w F b M) (i : Nat) (hi : i < 64) : w.cell? ⟨b, i, none⟩ = some (.int .u32 (M.getD i 0 : Nat)) := by
  rw [blk_cell h.1.heap i]
  have hl : i < M.length := by rw [h.2]; exact hi
  simp [nats, List.getD_eq_getElem?_getD, List.getElem?_eq_getElem hl]
theorem Arr.free (h : Arr w F b M) (i : Nat) : w.frozen? ⟨b, i, none⟩ = false := blk_free h.1.heap i
theorem Arr.set (h : Arr w F b M) (i v : Nat) : Arr (w.setCell ⟨b, i, none⟩ (.int .u32 (v : Nat))) F b (M.set i v) := by
  refine ⟨⟨?_, h.1.out⟩, by rw [List.length_set]; exact h.2⟩
  have := blk_set h.1.heap i (.int .u32 (v : Nat))
  rw [this]
  simp only [List.setIfInBounds_toArray, nats_set]
theorem Arr.other (h : Arr w F b M) {q : Addr} (hq : q.block ≠ b) (v : Value) : Arr (w.setCell q v) F b M := ⟨h.1.other hq v, h.2⟩
theorem Arr.step (h : Arr w F b M) (hst : Stepped w w' F F') : Arr w' F' b M := ⟨h.1.step hst, h.2⟩
theorem Arr.drew (h : Arr w F b M) : Arr w.drew F b M := ⟨h.1.drew, h.2⟩
theorem Arr.alloc (h : Arr w F b M) (o : Obj) : Arr (w.alloc o) F b M := ⟨h.1.alloc o, h.2⟩
theorem Arr.lt (h : Arr w F b M) : b < w.heap.size := h.1.lt
theorem cell_far {q q' : Addr} {v u : Value} (h : w.cell? q = some v) (hne : q.block ≠ q'.block) : (w.setCell q' u).cell? q = some v := (World.cell?_setCell_far w q' q u (fun e => hne e.symm)).trans h
theorem zeros64 : (Obj.cells #[.int .u32 0, .int .u32 0, .int .u32 0, .int .u32 0, .int .u32 0, .int .u32 0, .int .u32 0, .int .u32 0, .int .u32 0, .int .u32 0, .int .u32 0, .int .u32 0, .int .u32 0, .int .u32 0, .int .u32 0, .int .u32 0, .int .u32 0, .int .u32 0, .int .u32 0, .int .u32 0, .int .u32 0, .int .u32 0, .int .u32 0, .int .u32 0, .int .u32 0, .int .u32 0, .int .u32 0, .int .u32 0, .int .u32 0, .int .u32 0, .int .u32 0, .int .u32 0, .int .u32 0, .int .u32 0, .int .u32 0, .int .u32 0, .int .u32 0, .int .u32 0, .int .u32 0, .int .u32 0, .int .u32 0, .int .u32 0, .int .u32 0, .int .u32 0, .int .u32 0, .int .u32 0, .int .u32 0, .int .u32 0, .int .u32 0, .int .u32 0, .int .u32 0, .int .u32 0, .int .u32 0, .int .u32 0, .int .u32 0, .int .u32 0, .int .u32 0, .int .u32 0, .int .u32 0, .int .u32 0, .int .u32 0, .int .u32 0, .int .u32 0, .int .u32 0] 112) = Obj.cells (nats .u32 (List.replicate 64 0)).toArray 112 := by kernel_rfl
theorem MakAt.far (h : MakAt w mb p F g) : ∀ x ∈ mb :: F, x < w.heap.size := fun x hx => by
  rcases List.mem_cons.1 hx with h1 | h1
  · rw [h1]; exact blk_lt h.blk
  · exact h.graph.lt _ h1
theorem MakAt.set (h : MakAt w mb p F g) {q : Addr} (hq : q.block ∉ mb :: F) (v : Value) : MakAt (w.setCell q v) mb p F g :=
  h.keptF (G := [q.block]) ((Kept.refl [q.block] w).setCell (.inl (by simp)) v) (by simpa using hq)

theorem row_size {M : List Nat} (h : M.length = 64) : (Try.prog.info? 112).map (·.size) = some (nats .u32 M).toArray.size := by
  have h2 : (nats .u32 M).toArray.size = 64 := by simp [nats, h]
  rw [h2]
  have h3 : (Try.prog.info? 112).map (·.size) = some 64 := by kernel_rfl
  exact h3
theorem row_one {M : List Nat} : (nats .u32 M).toArray.all (·.oneCell') = true := by
  simp [nats, Value.oneCell']
theorem row_same {M M' : List Nat} (h : M.length = 64) (h' : M'.length = 64) : (nats .u32 M).toArray.size = (nats .u32 M').toArray.size := by simp [nats, h, h']
theorem Arr.row (h : Arr w F b M) {M' : List Nat} (h' : M'.length = 64) : Arr (w.setRow b (nats .u32 M').toArray) F b M' := ⟨h.1.row, h'⟩
theorem Arr.rowOther (h : Arr w F b M) {q : Nat} (hq : b ≠ q) (cs : Array Value) : Arr (w.setRow q cs) F b M := ⟨h.1.rowOther hq, h.2⟩
theorem MakAt.setRow (h : MakAt w mb p F g) {q : Nat} (hq : q ∉ mb :: F) (cs : Array Value) : MakAt (w.setRow q cs) mb p F g :=
  h.keptF (G := [q]) ((Kept.refl [q] w).setRow (.inl (by simp)) cs) (by simpa using hq)

theorem ex_load_row {P : Program} {o : Oper} {act : Act} {w : World} (ty : TypeId) (x : Operand) (ho : o.op = .load ty x) (g : Nat) (hx : act.eval x = .pointer (some ⟨g, 0, none⟩)) (t : TypeId) (cs : Array Value) (fr : Nat × Nat) (d : TypeDesc) (hg : w.heap[g]? = some (.cells cs t fr))
    (hu : P.underlying ty = some d) (hd : (match d with | .struct _ | .array _ _ => true | _ => false) = true) (hi : (P.info? ty).map (·.size) = some cs.size) : (execOp act.eval o).run P w = .ok (.value (.agg cs)) w := by
  unfold execOp
  simp only [ho, hx, Instr.loadAt, Instr.sureAddr, Sem.run_bind, Sem.run_pure, Result.andThen_ok, run_loadVar_row w g t ty cs fr d hg hu hd hi]

set_option maxHeartbeats 6400000 in
set_option maxRecDepth 100000 in
theorem ahead_c {c n : Nat} {la lb : List Nat} {a b : Option Addr} {ca cb : Nat} (h : MakAt w mb p F g) (hm : g.nodes.length ≤ 170000) (h1 : 1 ≤ n) (hn : n ≤ 64) (hla : la.length = n) (hlb : lb.length = n)
    (hsa : SlN w .u32 a la) (hsb : SlN w .u32 b lb) (hoa : ∀ x ∈ la, g.ok x) (hob : ∀ x ∈ lb, g.ok x) (hc : g.ok c) (hda : ∀ x ∈ ft a, x ∉ mb :: F) (hdb : ∀ x ∈ ft b, x ∉ mb :: F) :
    Calls Try.prog 64 #[.pointer (some ⟨mb, 0, none⟩), .slice a n ca, .slice b n cb, .int .u32 c] w (RipPost (aheadG g la lb c n) n w mb p F) := by
  have HP := Lib.hid (fun (k : Nat) => preTo_ok (la := la) (lb := lb) h.graph.wf hoa hob k)
  have HOA := Lib.hid hoa
  have HOB := Lib.hid hob
  have HOC := Lib.hid hc
  have HLA := Lib.hid hla
  have HLB := Lib.hid hlb
  have HSA := Lib.hid hsa
  have HSB := Lib.hid hsb
  obtain ⟨W, hW⟩ : ∃ W, W = ((w.alloc (.cells (nats .u32 (List.replicate 64 0)).toArray 112)).alloc (.cells (nats .u32 (List.replicate 64 0)).toArray 112)).alloc (.cells (nats .u32 (List.replicate 64 0)).toArray 112) := ⟨_, rfl⟩
  obtain ⟨bm, hbm⟩ : ∃ bm, bm = w.heap.size := ⟨_, rfl⟩
  obtain ⟨bg, hbg⟩ : ∃ bg, bg = w.heap.size + 1 := ⟨_, rfl⟩
  obtain ⟨bb, hbb⟩ : ∃ bb, bb = w.heap.size + 1 + 1 := ⟨_, rfl⟩
  have l0 : (List.replicate 64 0).length = 64 := by simp
  have A1 := Lib.hid (show Arr W (mb :: F) bm (List.replicate 64 0) from ⟨by rw [hW]; exact ((Mine.new hbm h.far).alloc _).alloc _, l0⟩)
  have A2 := Lib.hid (show Arr W (mb :: F) bg (List.replicate 64 0) from ⟨by rw [hW]; exact (Mine.new (by rw [hbg, size_new]) (fun x hx => by have := h.far x hx; rw [size_new]; omega)).alloc _, l0⟩)
  have A3 := Lib.hid (show Arr W (mb :: F) bb (List.replicate 64 0) from ⟨by rw [hW]; exact Mine.new (by rw [hbb, size_new, size_new]) (fun x hx => by have := h.far x hx; rw [size_new, size_new]; omega), l0⟩)
  have HM0 := Lib.hid (show MakAt W mb p F g from h.kept0 (by rw [hW]; exact (((Kept.refl [] w).alloc _).alloc _).alloc _))
  have HST0 := Lib.hid (show Stepped w W (mb :: F) (mb :: F) from by rw [hW]; exact (((Stepped.refl w (mb :: F)).alloc _).alloc _).alloc _)
  have HW := Lib.hid hW
  have HBM := Lib.hid hbm
  have HBG := Lib.hid hbg
  have HBB := Lib.hid hbb
  have n1 : bm ≠ bg := by omega
  have n2 : bm ≠ bb := by omega
  have n3 : bg ≠ bb := by omega
  have z1 : w.heap.size ≤ bm := by omega
  have z2 : w.heap.size ≤ bg := by omega
  have z3 : w.heap.size ≤ bb := by omega
  have hmlt := blk_lt h.blk
  have m1 : bm ≠ mb := by omega
  have m2 : bg ≠ mb := by omega
  have m3 : bb ≠ mb := by omega
  clear h hoa hob hc hla hlb hsa hsb hW l0 hbm hbg hbb
  go_enter Try.func64, Try.ntmps64
  go_wp2_with fail
  rw [zeros64, ← HW.out, ← HBB.out, ← HBG.out, ← HBM.out]
  clear HW
  go_loopw [23] (fun i wr => ∃ (k : Nat) (F1 : List Nat), k ≤ n ∧ i = .int .i64 k ∧ MakAt wr mb p F1 (preTo g la lb k).1 ∧ Arr wr (mb :: F1) bm (preTo g la lb k).2.1 ∧ Arr wr (mb :: F1) bg (List.replicate 64 0) ∧ Arr wr (mb :: F1) bb (preTo g la lb k).2.2 ∧ Stepped w wr (mb :: F) (mb :: F1)) (fun i _ => n - (intOf i).toNat)
  case atStart => exact ⟨0, F, Nat.zero_le _, rfl, HM0.out, A1.out, A2.out, A3.out, HST0.out⟩
  case round =>
    clear A1 A2 A3 HM0 HST0
    obtain ⟨k, F1, hk, rfl, hmk, hA1, hA2, hA3, hst⟩ := hrel
    by_cases hlt : k < n
    · obtain ⟨ada, rfl, hca⟩ := HSA.out.getD (k := k) (by rw [HLA.out]; exact hlt)
      obtain ⟨adb, rfl, hcb⟩ := HSB.out.getD (k := k) (by rw [HLB.out]; exact hlt)
      have la0 := World.block_lt_of_cell? w _ hca
      have lb0 := World.block_lt_of_cell? w _ hcb
      have HC := Lib.hid (fun (w' : World) (F' : List Nat) (h : Stepped w w' (mb :: F) F') => And.intro (step_cell h hca (ft_block hda)) (step_cell h hcb (ft_block hdb)))
      clear hca hcb
      have hp := HP.out k
      have hsz := hp.ext.le
      have ox := hp.ext.ok (HOA.out _ (getD_in (i := k) (d := 0) (by rw [HLA.out]; exact hlt)))
      have oy := hp.ext.ok (HOB.out _ (getD_in (i := k) (d := 0) (by rw [HLB.out]; exact hlt)))
      have HE := Lib.hid (show preTo g la lb (k + 1) = ((xorG (andG (preTo g la lb k).1 (la.getD k 0) (lb.getD k 0)).1 (la.getD k 0) (lb.getD k 0)).1, (preTo g la lb k).2.1.set k (andG (preTo g la lb k).1 (la.getD k 0) (lb.getD k 0)).2, (preTo g la lb k).2.2.set k (xorG (andG (preTo g la lb k).1 (la.getD k 0) (lb.getD k 0)).1 (la.getD k 0) (lb.getD k 0)).2) from rfl)
      have s1 := andG_spec hp.wf ox oy
      generalize preTo g la lb k = s at *
      obtain ⟨gk, Mk, Bk⟩ := s
      simp only at *
      generalize la.getD k 0 = x at *
      generalize lb.getD k 0 = y at *
      have HB1 := Lib.hid (mk_and (hmk.kept0 (Kept.refl [] wr).drew) (by omega) ox oy)
      generalize andG gk x y = r1 at *
      obtain ⟨g1, v1⟩ := r1
      have hle1 := s1.2.1.le
      simp only at *
      have OX := Lib.hid (s1.2.1.ok ox)
      have OY := Lib.hid (s1.2.1.ok oy)
      have c0 : wr.cell? ⟨mb, 0, none⟩ = some (.pointer (some ⟨p, 0, none⟩)) := blk_cell hmk.blk 0
      have hca := (HC.out _ _ hst).1.1
      have hcb := (HC.out _ _ hst).2.1
      have k64 : (k : Int) < 64 := by omega
      have HA1 := Lib.hid hA1
      have HA2 := Lib.hid hA2
      have HA3 := Lib.hid hA3
      have HST := Lib.hid hst
      have ea : (ada.add k).block ≠ bm := by omega
      have eb : (adb.add k).block ≠ bm := by omega
      have ea3 : (ada.add k).block ≠ bb := by omega
      have eb3 : (adb.add k).block ≠ bb := by omega
      clear hmk hA1 hA2 hA3 hst s1 ox oy
      go_wp2_with fail
      go_region_held3 (fun w' => w'.cell? ⟨mb, 0, none⟩ = some (.pointer (some ⟨p, 0, none⟩)) ∧ w'.cell? (ada.add k) = some (.int .u32 (x : Nat)) ∧ w'.cell? (adb.add k) = some (.int .u32 (y : Nat)))
        (first | exact ⟨t0, t1, t2⟩ | exact ⟨cell_far t0 (Ne.symm m1), cell_far t1 ea, cell_far t2 eb⟩ | go_keep)
        (first | (go_at_call 71; refine HB1.out.mono ?_; rintro e w1 ⟨F2, rfl, hm1, hst1⟩; have t0 : w1.cell? ⟨mb, 0, none⟩ = some (.pointer (some ⟨p, 0, none⟩)) := blk_cell hm1.blk 0; have t1 := (HC.out _ _ (HST.out.drew.trans hst1)).1.1; have t2 := (HC.out _ _ (HST.out.drew.trans hst1)).2.1; have B1 := Lib.hid (HA1.out.drew.step hst1); have r1 := B1.out.cell k (by omega); have r2 := B1.out.free k; have HM1 := Lib.hid hm1; have HS1 := Lib.hid (HST.out.drew.trans hst1); have HD1 := Lib.hid hst1; clear hm1 hst1))
      all_goals
        obtain ⟨w2, hw2⟩ : ∃ w2, w2 = w1.setCell ⟨bm, k, none⟩ (.int .u32 (v1 : Nat)) := ⟨_, rfl⟩
        have HA1 := Lib.hid (show Arr w2 (mb :: F2) bm (Mk.set k v1) from by rw [hw2]; exact B1.out.set k v1)
        have HA2 := Lib.hid (show Arr w2 (mb :: F2) bg (List.replicate 64 0) from by rw [hw2]; exact (HA2.out.drew.step HD1.out).other n1 _)
        have HA3 := Lib.hid (show Arr w2 (mb :: F2) bb Bk from by rw [hw2]; exact (HA3.out.drew.step HD1.out).other n2 _)
        have hm2 : MakAt w2 mb p F2 g1 := by rw [hw2]; exact HM1.out.set (q := ⟨bm, k, none⟩) B1.out.1.out _
        have HST := Lib.hid (show Stepped w w2 (mb :: F) (mb :: F2) from by rw [hw2]; exact HS1.out.setNew (p := ⟨bm, k, none⟩) z1 _)
        rw [← hw2]
        clear HM1 HS1 HD1 t0 t1 t2 r1 r2 c0 hca hcb HB1 hw2 B1
        have c0 : w2.cell? ⟨mb, 0, none⟩ = some (.pointer (some ⟨p, 0, none⟩)) := blk_cell hm2.blk 0
        have hca := (HC.out _ _ HST.out).1.1
        have hcb := (HC.out _ _ HST.out).2.1
        have HB1 := Lib.hid (mk_xor (hm2.kept0 (Kept.refl [] w2).drew) (by omega) OX.out OY.out)
        generalize xorG g1 x y = r2 at *
        obtain ⟨g2, v2⟩ := r2
        simp only at *
        clear hm2
        go_wp2_with fail
        go_region_held3 (fun w' => w'.cell? ⟨mb, 0, none⟩ = some (.pointer (some ⟨p, 0, none⟩)) ∧ w'.cell? (ada.add k) = some (.int .u32 (x : Nat)) ∧ w'.cell? (adb.add k) = some (.int .u32 (y : Nat)))
          (first | exact ⟨t0, t1, t2⟩ | exact ⟨cell_far t0 (Ne.symm m3), cell_far t1 ea3, cell_far t2 eb3⟩ | go_keep)
          (first | (go_at_call 71; refine HB1.out.mono ?_; rintro e w3 ⟨F3, rfl, hm1, hst1⟩; have t0 : w3.cell? ⟨mb, 0, none⟩ = some (.pointer (some ⟨p, 0, none⟩)) := blk_cell hm1.blk 0; have t1 := (HC.out _ _ (HST.out.drew.trans hst1)).1.1; have t2 := (HC.out _ _ (HST.out.drew.trans hst1)).2.1; have B1 := Lib.hid (HA3.out.drew.step hst1); have r1 := B1.out.cell k (by omega); have r2 := B1.out.free k; have HM1 := Lib.hid hm1; have HS1 := Lib.hid (HST.out.drew.trans hst1); have HD1 := Lib.hid hst1; clear hm1 hst1))
        all_goals
          go_wp2_with fail
          go_roundw
          case rel =>
            refine ⟨k + 1, F3, by omega, by go_num, ?_, ?_, ?_, ?_, ?_⟩
            · rw [HE.out]; exact HM1.out.set (q := ⟨bb, k, none⟩) B1.out.1.out _
            · rw [HE.out]; exact (HA1.out.drew.step HD1.out).other n2.symm _
            · exact (HA2.out.drew.step HD1.out).other n3.symm _
            · rw [HE.out]; exact B1.out.set k v2
            · exact HS1.out.setNew (p := ⟨bb, k, none⟩) z3 _
          case measure => simp [intOf]; omega
    · have hkn : k = n := by omega
      subst hkn
      have HS0 := Lib.hid (show aheadG g la lb c k = sumTo (spanTo k (preTo g la lb k) (rnds k)) (preTo g la lb k).2.2 c k from rfl)
      have HP0 := HP.out k
      generalize preTo g la lb k = s0 at *
      have HP0 := Lib.hid HP0
      have HA1 := Lib.hid hA1
      have HA2 := Lib.hid hA2
      have HA3 := Lib.hid hA3
      have HM := Lib.hid hmk
      have HST := Lib.hid hst
      clear hA1 hA2 hA3 hmk hst HP
      go_wp2_with (first | (refine wpList_load_row rfl 112 _ rfl bb rfl _ _ (0, 0) _ HA3.out.1.heap Try.underlying112 rfl (row_size HA3.out.2) ?_) | (refine wpList_store_row rfl 112 _ _ rfl bg _ rfl rfl _ _ HA2.out.1.heap (row_size HA3.out.2) (row_same HA2.out.2 HA3.out.2) row_one ?_))
      obtain ⟨W1, hW1⟩ : ∃ W1, W1 = wr.setRow bg (nats .u32 s0.2.2).toArray := ⟨_, rfl⟩
      have HB1 := Lib.hid (show Arr W1 (mb :: F1) bm s0.2.1 from by rw [hW1]; exact HA1.out.rowOther n1 _)
      have HB2 := Lib.hid (show Arr W1 (mb :: F1) bg s0.2.2 from by rw [hW1]; exact HA2.out.row HA3.out.2)
      have HB3 := Lib.hid (show Arr W1 (mb :: F1) bb s0.2.2 from by rw [hW1]; exact HA3.out.rowOther n3.symm _)
      have HM1 := Lib.hid (show MakAt W1 mb p F1 s0.1 from by rw [hW1]; exact HM.out.setRow HA2.out.1.out _)
      have HST1 := Lib.hid (show Stepped w W1 (mb :: F) (mb :: F1) from by rw [hW1]; exact HST.out.rowNew z2 _)
      rw [← hW1]
      clear HA1 HA2 HA3 HM HST hW1
      have R1 := (rnds_spec k hn).1
      have R2 := Lib.hid (rnds_spec k hn).2
      have R6 : rnds k ≤ 6 := by
        unfold rnds
        repeat' split
        all_goals omega
      generalize rnds k = R at *
      have HBITS := Lib.hid (rfl : s0.2.2 = s0.2.2)
      go_loopw [14] (fun dv wr => ∃ (r D : Nat) (F2 : List Nat), r ≤ R ∧ D = 2 ^ r ∧ dv = .int .i64 D ∧ MakAt wr mb p F2 (spanTo k s0 r).1 ∧ Arr wr (mb :: F2) bm (spanTo k s0 r).2.1 ∧ Arr wr (mb :: F2) bg (spanTo k s0 r).2.2 ∧ Arr wr (mb :: F2) bb s0.2.2 ∧ Stepped w wr (mb :: F) (mb :: F2)) (fun dv _ => k - (intOf dv).toNat)
      case atStart => exact ⟨0, 1, F1, Nat.zero_le _, rfl, rfl, HM1.out, HB1.out, HB2.out, HB3.out, HST1.out⟩
      case round =>
        clear HB1 HB2 HB3 HM1 HST1
        obtain ⟨r, D, F2, hr, hD, rfl, hmk, hA1, hA2, hA3, hst⟩ := hrel
        have hD1 : 1 ≤ D := by rw [hD]; exact Nat.one_le_two_pow
        have hD64 : D ≤ 64 := by rw [hD]; exact Nat.pow_le_pow_right (by omega) (show r ≤ 6 by omega)
        by_cases hlt : D < k
        · have hrR : r < R := by
            rcases Nat.lt_or_ge r R with h | h
            · exact h
            · have : 2 ^ R ≤ 2 ^ r := Nat.pow_le_pow_right (by omega) h
              omega
          have HP1 := spanTo_ok (n := k) HP0.out r
          have HE := Lib.hid (show spanTo k s0 (r + 1) = roundTo (spanTo k s0 r).1 (spanTo k s0 r).2.1 (spanTo k s0 r).2.2 D (k - D) from by rw [hD]; rfl)
          have hwr := wideTo_le k hn r
          have hsz := HP1.ext.le
          have HP2 := Lib.hid (fun (j : Nat) => roundTo_ok (d := D) HP1.wf HP1.lm HP1.lg HP1.om HP1.og j)
          clear HP1
          generalize spanTo k s0 r = s1 at *
          obtain ⟨gr, M, G⟩ := s1
          simp only at *
          have hgr : gr.nodes.length ≤ 172000 := by omega
          have HD := Lib.hid hD
          clear hwr hsz hD
          have HA1 := Lib.hid hA1
          have HA2 := Lib.hid hA2
          have HA3 := Lib.hid hA3
          have HM := Lib.hid hmk
          have HST := Lib.hid hst
          have b1 := hA1.lt
          have b2 := hA2.lt
          have b3 := hA3.lt
          have b4 := blk_lt hmk.blk
          have hfar := Lib.hid hmk.far
          clear hA1 hA2 hA3 hmk hst
          obtain ⟨ZL, hZL⟩ : ∃ ZL : List Nat, ZL = List.replicate 64 0 := ⟨_, rfl⟩
          have HZL := Lib.hid (show ZL.length = 64 by rw [hZL]; exact List.length_replicate)
          have HZ := Lib.hid hZL
          clear hZL
          go_upto_region 12 with (fail)
          go_cut [15, 16] from 70 to 71 (fun s15 s16 wx => ∃ b15 b16, s15 = .pointer (some ⟨b15, 0, none⟩) ∧ s16 = .pointer (some ⟨b16, 0, none⟩) ∧ wr.heap.size ≤ b15 ∧ wr.heap.size ≤ b16 ∧ b15 ≠ b16 ∧ MakAt wx mb p F2 gr ∧ Arr wx (mb :: F2) bm M ∧ Arr wx (mb :: F2) bg G ∧ Arr wx (mb :: F2) bb s0.2.2 ∧ Arr wx (mb :: F2) b15 M ∧ Arr wx (mb :: F2) b16 G ∧ Stepped w wx (mb :: F) (mb :: F2))
          case first =>
            refine wp_region_held_drew (S := fun w' => w'.heap[bm]? = some (.cells (nats .u32 M).toArray 112 (0, 0)) ∧ w'.heap[bg]? = some (.cells (nats .u32 G).toArray 112 (0, 0))) (by kernel_rfl) ?_ (fun hHeld => ?_)
            · exact ⟨HA1.out.1.heap, HA2.out.1.heap⟩
            refine wpAnyH_take (i := 0) (v := .agg (nats .u32 M).toArray) rfl (by kernel_rfl) (by kernel_rfl) (by kernel_rfl) (fun _ _ _ h => h) (Or.inl ⟨by rfl, ?_⟩) (by assumption) ?_
            · intro w hSw
              exact ex_load_row _ _ rfl bm rfl _ _ (0, 0) _ hSw.1 Try.underlying112 rfl (row_size HA1.out.2)
            try simp only [Act.put, List.setIfInBounds_toArray, List.set_cons_zero, List.set_cons_succ]
            refine wpAnyH_take (i := 1) (v := .agg (nats .u32 G).toArray) rfl (by kernel_rfl) (by kernel_rfl) (by kernel_rfl) (fun _ _ _ h => h) (Or.inl ⟨by rfl, ?_⟩) (by assumption) ?_
            · intro w hSw
              exact ex_load_row _ _ rfl bg rfl _ _ (0, 0) _ hSw.2 Try.underlying112 rfl (row_size HA2.out.2)
            try simp only [Act.put, List.setIfInBounds_toArray, List.set_cons_zero, List.set_cons_succ]
            refine wpAnyH_ready (rs := [2, 3]) (by kernel_rfl) (by simp) ?_
            refine AllReadyH.cons rfl (fun K hK => ?_) ?_
            · go_simp
              rw [zeros64, ← HZ.out]
              refine hK.out _ _ ?_ (fun hHeld => ?_)
              · try dsimp only
                refine And.intro (Mine.heap (And.left (?_ : Arr _ (mb :: F2) bm M))) (Mine.heap (And.left (?_ : Arr _ (mb :: F2) bg G)))
                all_goals (repeat (first | with_reducible exact HA1.out | with_reducible exact HA2.out | with_reducible exact HA3.out | with_reducible exact M8.out | with_reducible exact M9.out | with_reducible apply Arr.alloc | with_reducible apply Arr.drew | with_reducible refine Arr.row (M := ZL) ?_ HA1.out.2 | with_reducible refine Arr.row (M := ZL) ?_ HA2.out.2 | with_reducible refine Arr.rowOther ?_ (by omega) _))
              clear hK K
              try simp only [Act.put, List.setIfInBounds_toArray, List.set_cons_zero, List.set_cons_succ]
              refine wpAnyH_ready (rs := [3]) (by kernel_rfl) (by simp) ?_
              refine AllReadyH.cons rfl (fun K hK => ?_) ?_
              · go_simp
                rw [zeros64, ← HZ.out]
                refine hK.out _ _ ?_ (fun hHeld => ?_)
                · try dsimp only
                  refine And.intro (Mine.heap (And.left (?_ : Arr _ (mb :: F2) bm M))) (Mine.heap (And.left (?_ : Arr _ (mb :: F2) bg G)))
                  all_goals (repeat (first | with_reducible exact HA1.out | with_reducible exact HA2.out | with_reducible exact HA3.out | with_reducible exact M8.out | with_reducible exact M9.out | with_reducible apply Arr.alloc | with_reducible apply Arr.drew | with_reducible refine Arr.row (M := ZL) ?_ HA1.out.2 | with_reducible refine Arr.row (M := ZL) ?_ HA2.out.2 | with_reducible refine Arr.rowOther ?_ (by omega) _))
                clear hK K
                try simp only [Act.put, List.setIfInBounds_toArray, List.set_cons_zero, List.set_cons_succ]
                have M8 : Hid (Arr ((wr.alloc (.cells (nats .u32 ZL).toArray 112)).alloc (.cells (nats .u32 ZL).toArray 112)) (mb :: F2) wr.heap.size ZL) := by
                  refine Lib.hid (Arr.alloc ?_ _)
                  exact And.intro (Mine.new rfl (fun x hx => by have := hfar.out x hx; exact this)) HZL.out
                have M9 : Hid (Arr ((wr.alloc (.cells (nats .u32 ZL).toArray 112)).alloc (.cells (nats .u32 ZL).toArray 112)) (mb :: F2) (wr.heap.size + 1) ZL) := by
                  exact Lib.hid (And.intro (Mine.new (by rw [size_new]) (fun x hx => by have := hfar.out x hx; rw [size_new]; omega)) HZL.out)
                refine wpAnyH_ready (rs := [4]) (by kernel_rfl) (by simp) ?_
                refine AllReadyH.cons rfl (fun K hK => ?_) ?_
                · refine step_row (e := 112) (t := 112) (old := (nats .u32 ZL).toArray) (cells := (nats .u32 M).toArray) rfl rfl rfl rfl (row_size HA1.out.2) (row_same HZL.out HA1.out.2) row_one M8.out.1.heap ?_
                  refine hK.out _ _ ?_ (fun hHeld => ?_)
                  · try dsimp only
                    refine And.intro (Mine.heap (And.left (?_ : Arr _ (mb :: F2) bm M))) (Mine.heap (And.left (?_ : Arr _ (mb :: F2) bg G)))
                    all_goals (repeat (first | with_reducible exact HA1.out | with_reducible exact HA2.out | with_reducible exact HA3.out | with_reducible exact M8.out | with_reducible exact M9.out | with_reducible apply Arr.alloc | with_reducible apply Arr.drew | with_reducible refine Arr.row (M := ZL) ?_ HA1.out.2 | with_reducible refine Arr.row (M := ZL) ?_ HA2.out.2 | with_reducible refine Arr.rowOther ?_ (by omega) _))
                  clear hK K
                  try simp only [Act.put, List.setIfInBounds_toArray, List.set_cons_zero, List.set_cons_succ]
                  refine wpAnyH_ready (rs := [5]) (by kernel_rfl) (by simp) ?_
                  refine AllReadyH.cons rfl (fun K hK => ?_) ?_
                  · refine step_row (e := 112) (t := 112) (old := (nats .u32 ZL).toArray) (cells := (nats .u32 G).toArray) rfl rfl rfl rfl (row_size HA2.out.2) (row_same HZL.out HA2.out.2) row_one (Arr.rowOther M9.out (by omega) _).1.heap ?_
                    refine hK.out _ _ ?_ (fun hHeld => ?_)
                    · try dsimp only
                      refine And.intro (Mine.heap (And.left (?_ : Arr _ (mb :: F2) bm M))) (Mine.heap (And.left (?_ : Arr _ (mb :: F2) bg G)))
                      all_goals (repeat (first | with_reducible exact HA1.out | with_reducible exact HA2.out | with_reducible exact HA3.out | with_reducible exact M8.out | with_reducible exact M9.out | with_reducible apply Arr.alloc | with_reducible apply Arr.drew | with_reducible refine Arr.row (M := ZL) ?_ HA1.out.2 | with_reducible refine Arr.row (M := ZL) ?_ HA2.out.2 | with_reducible refine Arr.rowOther ?_ (by omega) _))
                    clear hK K
                    try simp only [Act.put, List.setIfInBounds_toArray, List.set_cons_zero, List.set_cons_succ]
                    refine wpAnyH_done (by kernel_rfl) ?_ _
                    go_wp2_with fail
                    go_meet
                    refine ⟨_, _, rfl, rfl, by omega, by omega, by omega, ?_, ?_, ?_, ?_, ?_, ?_, ?_⟩
                    · refine MakAt.setRow (MakAt.setRow (MakAt.kept0 HM.out ?_) M8.out.1.out _) M9.out.1.out _
                      exact (((Kept.refl [] wr).alloc _).alloc _).drew
                    · (repeat (first | with_reducible exact HA1.out | with_reducible exact HA2.out | with_reducible exact HA3.out | with_reducible exact M8.out | with_reducible exact M9.out | with_reducible apply Arr.alloc | with_reducible apply Arr.drew | with_reducible refine Arr.row (M := ZL) ?_ HA1.out.2 | with_reducible refine Arr.row (M := ZL) ?_ HA2.out.2 | with_reducible refine Arr.rowOther ?_ (by omega) _))
                    · (repeat (first | with_reducible exact HA1.out | with_reducible exact HA2.out | with_reducible exact HA3.out | with_reducible exact M8.out | with_reducible exact M9.out | with_reducible apply Arr.alloc | with_reducible apply Arr.drew | with_reducible refine Arr.row (M := ZL) ?_ HA1.out.2 | with_reducible refine Arr.row (M := ZL) ?_ HA2.out.2 | with_reducible refine Arr.rowOther ?_ (by omega) _))
                    · (repeat (first | with_reducible exact HA1.out | with_reducible exact HA2.out | with_reducible exact HA3.out | with_reducible exact M8.out | with_reducible exact M9.out | with_reducible apply Arr.alloc | with_reducible apply Arr.drew | with_reducible refine Arr.row (M := ZL) ?_ HA1.out.2 | with_reducible refine Arr.row (M := ZL) ?_ HA2.out.2 | with_reducible refine Arr.rowOther ?_ (by omega) _))
                    · exact Arr.rowOther (Arr.row (M := ZL) (Arr.drew M8.out) HA1.out.2) (by omega) _
                    · exact Arr.row (M := ZL) (Arr.rowOther (Arr.drew M9.out) (by omega) _) HA2.out.2
                    · refine Stepped.rowNew (Stepped.rowNew ?_ (by have := HST.out.kept.size; omega) _) (by have := HST.out.kept.size; omega) _
                      exact ((HST.out.alloc _).alloc _).drew
                  exact AllReadyH.nil
                exact AllReadyH.nil
              exact AllReadyH.nil
            refine AllReadyH.cons rfl (fun K hK => ?_) ?_
            · go_simp
              rw [zeros64, ← HZ.out]
              refine hK.out _ _ ?_ (fun hHeld => ?_)
              · try dsimp only
                refine And.intro (Mine.heap (And.left (?_ : Arr _ (mb :: F2) bm M))) (Mine.heap (And.left (?_ : Arr _ (mb :: F2) bg G)))
                all_goals (repeat (first | with_reducible exact HA1.out | with_reducible exact HA2.out | with_reducible exact HA3.out | with_reducible exact M8.out | with_reducible exact M9.out | with_reducible apply Arr.alloc | with_reducible apply Arr.drew | with_reducible refine Arr.row (M := ZL) ?_ HA1.out.2 | with_reducible refine Arr.row (M := ZL) ?_ HA2.out.2 | with_reducible refine Arr.rowOther ?_ (by omega) _))
              clear hK K
              try simp only [Act.put, List.setIfInBounds_toArray, List.set_cons_zero, List.set_cons_succ]
              refine wpAnyH_ready (rs := [2]) (by kernel_rfl) (by simp) ?_
              refine AllReadyH.cons rfl (fun K hK => ?_) ?_
              · go_simp
                rw [zeros64, ← HZ.out]
                refine hK.out _ _ ?_ (fun hHeld => ?_)
                · try dsimp only
                  refine And.intro (Mine.heap (And.left (?_ : Arr _ (mb :: F2) bm M))) (Mine.heap (And.left (?_ : Arr _ (mb :: F2) bg G)))
                  all_goals (repeat (first | with_reducible exact HA1.out | with_reducible exact HA2.out | with_reducible exact HA3.out | with_reducible exact M8.out | with_reducible exact M9.out | with_reducible apply Arr.alloc | with_reducible apply Arr.drew | with_reducible refine Arr.row (M := ZL) ?_ HA1.out.2 | with_reducible refine Arr.row (M := ZL) ?_ HA2.out.2 | with_reducible refine Arr.rowOther ?_ (by omega) _))
                clear hK K
                try simp only [Act.put, List.setIfInBounds_toArray, List.set_cons_zero, List.set_cons_succ]
                have M9 : Hid (Arr ((wr.alloc (.cells (nats .u32 ZL).toArray 112)).alloc (.cells (nats .u32 ZL).toArray 112)) (mb :: F2) wr.heap.size ZL) := by
                  refine Lib.hid (Arr.alloc ?_ _)
                  exact And.intro (Mine.new rfl (fun x hx => by have := hfar.out x hx; exact this)) HZL.out
                have M8 : Hid (Arr ((wr.alloc (.cells (nats .u32 ZL).toArray 112)).alloc (.cells (nats .u32 ZL).toArray 112)) (mb :: F2) (wr.heap.size + 1) ZL) := by
                  exact Lib.hid (And.intro (Mine.new (by rw [size_new]) (fun x hx => by have := hfar.out x hx; rw [size_new]; omega)) HZL.out)
                refine wpAnyH_ready (rs := [4]) (by kernel_rfl) (by simp) ?_
                refine AllReadyH.cons rfl (fun K hK => ?_) ?_
                · refine step_row (e := 112) (t := 112) (old := (nats .u32 ZL).toArray) (cells := (nats .u32 M).toArray) rfl rfl rfl rfl (row_size HA1.out.2) (row_same HZL.out HA1.out.2) row_one M8.out.1.heap ?_
                  refine hK.out _ _ ?_ (fun hHeld => ?_)
                  · try dsimp only
                    refine And.intro (Mine.heap (And.left (?_ : Arr _ (mb :: F2) bm M))) (Mine.heap (And.left (?_ : Arr _ (mb :: F2) bg G)))
                    all_goals (repeat (first | with_reducible exact HA1.out | with_reducible exact HA2.out | with_reducible exact HA3.out | with_reducible exact M8.out | with_reducible exact M9.out | with_reducible apply Arr.alloc | with_reducible apply Arr.drew | with_reducible refine Arr.row (M := ZL) ?_ HA1.out.2 | with_reducible refine Arr.row (M := ZL) ?_ HA2.out.2 | with_reducible refine Arr.rowOther ?_ (by omega) _))
                  clear hK K
                  try simp only [Act.put, List.setIfInBounds_toArray, List.set_cons_zero, List.set_cons_succ]
                  refine wpAnyH_ready (rs := [5]) (by kernel_rfl) (by simp) ?_
                  refine AllReadyH.cons rfl (fun K hK => ?_) ?_
                  · refine step_row (e := 112) (t := 112) (old := (nats .u32 ZL).toArray) (cells := (nats .u32 G).toArray) rfl rfl rfl rfl (row_size HA2.out.2) (row_same HZL.out HA2.out.2) row_one (Arr.rowOther M9.out (by omega) _).1.heap ?_
                    refine hK.out _ _ ?_ (fun hHeld => ?_)
                    · try dsimp only
                      refine And.intro (Mine.heap (And.left (?_ : Arr _ (mb :: F2) bm M))) (Mine.heap (And.left (?_ : Arr _ (mb :: F2) bg G)))
                      all_goals (repeat (first | with_reducible exact HA1.out | with_reducible exact HA2.out | with_reducible exact HA3.out | with_reducible exact M8.out | with_reducible exact M9.out | with_reducible apply Arr.alloc | with_reducible apply Arr.drew | with_reducible refine Arr.row (M := ZL) ?_ HA1.out.2 | with_reducible refine Arr.row (M := ZL) ?_ HA2.out.2 | with_reducible refine Arr.rowOther ?_ (by omega) _))
                    clear hK K
                    try simp only [Act.put, List.setIfInBounds_toArray, List.set_cons_zero, List.set_cons_succ]
                    refine wpAnyH_done (by kernel_rfl) ?_ _
                    go_wp2_with fail
                    go_meet
                    refine ⟨_, _, rfl, rfl, by omega, by omega, by omega, ?_, ?_, ?_, ?_, ?_, ?_, ?_⟩
                    · refine MakAt.setRow (MakAt.setRow (MakAt.kept0 HM.out ?_) M8.out.1.out _) M9.out.1.out _
                      exact (((Kept.refl [] wr).alloc _).alloc _).drew
                    · (repeat (first | with_reducible exact HA1.out | with_reducible exact HA2.out | with_reducible exact HA3.out | with_reducible exact M8.out | with_reducible exact M9.out | with_reducible apply Arr.alloc | with_reducible apply Arr.drew | with_reducible refine Arr.row (M := ZL) ?_ HA1.out.2 | with_reducible refine Arr.row (M := ZL) ?_ HA2.out.2 | with_reducible refine Arr.rowOther ?_ (by omega) _))
                    · (repeat (first | with_reducible exact HA1.out | with_reducible exact HA2.out | with_reducible exact HA3.out | with_reducible exact M8.out | with_reducible exact M9.out | with_reducible apply Arr.alloc | with_reducible apply Arr.drew | with_reducible refine Arr.row (M := ZL) ?_ HA1.out.2 | with_reducible refine Arr.row (M := ZL) ?_ HA2.out.2 | with_reducible refine Arr.rowOther ?_ (by omega) _))
                    · (repeat (first | with_reducible exact HA1.out | with_reducible exact HA2.out | with_reducible exact HA3.out | with_reducible exact M8.out | with_reducible exact M9.out | with_reducible apply Arr.alloc | with_reducible apply Arr.drew | with_reducible refine Arr.row (M := ZL) ?_ HA1.out.2 | with_reducible refine Arr.row (M := ZL) ?_ HA2.out.2 | with_reducible refine Arr.rowOther ?_ (by omega) _))
                    · exact Arr.rowOther (Arr.row (M := ZL) (Arr.drew M8.out) HA1.out.2) (by omega) _
                    · exact Arr.row (M := ZL) (Arr.rowOther (Arr.drew M9.out) (by omega) _) HA2.out.2
                    · refine Stepped.rowNew (Stepped.rowNew ?_ (by have := HST.out.kept.size; omega) _) (by have := HST.out.kept.size; omega) _
                      exact ((HST.out.alloc _).alloc _).drew
                  exact AllReadyH.nil
                exact AllReadyH.nil
              exact AllReadyH.nil
            exact AllReadyH.nil
          case rest =>
            obtain ⟨b15, b16, rfl, rfl, y15, y16, yne, hm0, hB1, hB2, hB3, hB5, hB6, hst⟩ := hcut
            have HM2 := Lib.hid hm0
            have HB1 := Lib.hid hB1
            have HB2 := Lib.hid hB2
            have HB3 := Lib.hid hB3
            have HB5 := Lib.hid hB5
            have HB6 := Lib.hid hB6
            have HST2 := Lib.hid hst
            clear hm0 hB1 hB2 hB3 hB5 hB6 hst HA1 HA2 HA3 HM HST hfar HZ HZL
            have x1 : b15 ≠ bm := by omega
            have x2 : b15 ≠ bg := by omega
            have x3 : b15 ≠ bb := by omega
            have x4 : b16 ≠ bm := by omega
            have x5 : b16 ≠ bg := by omega
            have x6 : b16 ≠ bb := by omega
            have x7 : b15 ≠ mb := by omega
            have x8 : b16 ≠ mb := by omega
            clear y15 y16 b1 b2 b3 b4
            go_wp2_with fail
            have HDK := Lib.hid hlt
            go_loopw [17] (fun iv wr => ∃ (j I : Nat) (F3 : List Nat), j ≤ k - D ∧ I = D + j ∧ iv = .int .i64 I ∧ MakAt wr mb p F3 (roundTo gr M G D j).1 ∧ Arr wr (mb :: F3) bm (roundTo gr M G D j).2.1 ∧ Arr wr (mb :: F3) bg (roundTo gr M G D j).2.2 ∧ Arr wr (mb :: F3) bb s0.2.2 ∧ Arr wr (mb :: F3) b15 M ∧ Arr wr (mb :: F3) b16 G ∧ Stepped w wr (mb :: F) (mb :: F3)) (fun iv _ => k - (intOf iv).toNat)
            case atStart => exact ⟨0, D, F2, Nat.zero_le _, rfl, rfl, HM2.out, HB1.out, HB2.out, HB3.out, HB5.out, HB6.out, HST2.out⟩
            case round =>
              clear HB1 HB2 HB3 HB5 HB6 HM2 HST2
              obtain ⟨j, I, F3, hj, hI, rfl, hmk, hA1, hA2, hA3, hA5, hA6, hst⟩ := hrel
              have HMM := Lib.hid hmk
              have HA1 := Lib.hid hA1
              have HA2 := Lib.hid hA2
              have HA3 := Lib.hid hA3
              have HA5 := Lib.hid hA5
              have HA6 := Lib.hid hA6
              have HST := Lib.hid hst
              clear hmk hA1 hA2 hA3 hA5 hA6 hst
              by_cases hlt : I < k
              · have hIJ : (I : Int) - (D : Int) = (j : Int) := by omega
                have HI := Lib.hid hI
                have HJ := Lib.hid hj
                have i64 : I < 64 := by omega
                have j64 : j < 64 := by omega
                have ki64 : (I : Int) < 64 := by omega
                have kj64 : (j : Int) < 64 := by omega
                have hw1 : IntKind.i64.wrap (j : Int) = (j : Int) := IntWalk.i64_in _ (by omega)
                have hw2 : IntKind.i64.wrap ((I : Int) - (D : Int)) = (j : Int) := by rw [hIJ]; exact hw1
                have hp := HP2.out j
                have hw0 : WF gr.nodes := (HP2.out 0).wf
                have ho0 : ∀ x ∈ M, gr.ok x := (HP2.out 0).om
                have hq0 : ∀ x ∈ G, gr.ok x := (HP2.out 0).og
                have hsz := hp.ext.le
                have ox := hp.ext.ok (getD_ok hw0 ho0 I)
                have oy := hp.ext.ok (getD_ok hw0 hq0 I)
                have oz := hp.ext.ok (getD_ok hw0 ho0 j)
                have ot := hp.ext.ok (getD_ok hw0 hq0 j)
                have HE2 := Lib.hid (show roundTo gr M G D (j + 1) = ((andG (carryG (roundTo gr M G D j).1 (M.getD I 0) (G.getD I 0) (M.getD j 0)).1 (G.getD I 0) (G.getD j 0)).1, (roundTo gr M G D j).2.1.set I (carryG (roundTo gr M G D j).1 (M.getD I 0) (G.getD I 0) (M.getD j 0)).2, (roundTo gr M G D j).2.2.set I (andG (carryG (roundTo gr M G D j).1 (M.getD I 0) (G.getD I 0) (M.getD j 0)).1 (G.getD I 0) (G.getD j 0)).2) from by rw [hI]; rfl)
                have s1 := carryG_spec hp.wf ox oy oz
                clear HP2 hw0 ho0 hq0 hI hj
                generalize roundTo gr M G D j = s at *
                obtain ⟨gk, Mk, Gk⟩ := s
                simp only at *
                have r15I := HA5.out.cell I i64
                have r15j := HA5.out.cell j j64
                have r16I := HA6.out.cell I i64
                have HQ5 := Lib.hid (fun (w' : World) (F' : List Nat) (h : Arr w' F' b15 M) => And.intro (h.cell I i64) (h.cell j j64))
                have HQ6 := Lib.hid (fun (w' : World) (F' : List Nat) (h : Arr w' F' b16 G) => And.intro (h.cell I i64) (h.cell j j64))
                generalize M.getD I 0 = mi at *
                generalize G.getD I 0 = gi at *
                generalize M.getD j 0 = mj at *
                generalize G.getD j 0 = gj at *
                have HK1 := Lib.hid (maker_carry (HMM.out.kept0 (Kept.refl [] wr).drew) (by omega) ox oy oz)
                generalize carryG gk mi gi mj = q1 at *
                obtain ⟨g1, v1⟩ := q1
                have hle1 := s1.2.1.le
                simp only at *
                have OY := Lib.hid (s1.2.1.ok oy)
                have OT := Lib.hid (s1.2.1.ok ot)
                have WF1 := s1.1
                clear HMM s1 ox oy oz ot hp
                go_wp2_with fail
                go_region_held3 (fun w' => w'.cell? ⟨b15, I, none⟩ = some (.int .u32 (mi : Nat)) ∧ w'.cell? ⟨b16, I, none⟩ = some (.int .u32 (gi : Nat)) ∧ w'.cell? ⟨b15, j, none⟩ = some (.int .u32 (mj : Nat)))
                  (first | exact ⟨t0, t1, t2⟩ | exact ⟨cell_far t0 x1, cell_far t1 x4, cell_far t2 x1⟩ | go_keep)
                  (first | (go_at_call 72; refine HK1.out.mono ?_; rintro e w1 ⟨F4, rfl, hm1, hst1⟩; have t0 := (HQ5.out _ _ (HA5.out.drew.step hst1)).1; have t1 := (HQ6.out _ _ (HA6.out.drew.step hst1)).1; have t2 := (HQ5.out _ _ (HA5.out.drew.step hst1)).2; have B1 := Lib.hid (HA1.out.drew.step hst1); have r1 := B1.out.cell I i64; have r2 := B1.out.free I; have HM1 := Lib.hid hm1; have HS1 := Lib.hid (HST.out.drew.trans hst1); have HD1 := Lib.hid hst1; clear hm1 hst1))
                all_goals
                  obtain ⟨w2, hw2⟩ : ∃ w2, w2 = w1.setCell ⟨bm, I, none⟩ (.int .u32 (v1 : Nat)) := ⟨_, rfl⟩
                  have HA1 := Lib.hid (show Arr w2 (mb :: F4) bm (Mk.set I v1) from by rw [hw2]; exact B1.out.set I v1)
                  have HA2 := Lib.hid (show Arr w2 (mb :: F4) bg Gk from by rw [hw2]; exact (HA2.out.drew.step HD1.out).other n1 _)
                  have HA3 := Lib.hid (show Arr w2 (mb :: F4) bb s0.2.2 from by rw [hw2]; exact (HA3.out.drew.step HD1.out).other n2 _)
                  have HA5 := Lib.hid (show Arr w2 (mb :: F4) b15 M from by rw [hw2]; exact (HA5.out.drew.step HD1.out).other x1.symm _)
                  have HA6 := Lib.hid (show Arr w2 (mb :: F4) b16 G from by rw [hw2]; exact (HA6.out.drew.step HD1.out).other x4.symm _)
                  have hm2 : MakAt w2 mb p F4 g1 := by rw [hw2]; exact HM1.out.set (q := ⟨bm, I, none⟩) B1.out.1.out _
                  have HST := Lib.hid (show Stepped w w2 (mb :: F) (mb :: F4) from by rw [hw2]; exact HS1.out.setNew (p := ⟨bm, I, none⟩) z1 _)
                  rw [← hw2]
                  clear HM1 HS1 HD1 t0 t1 t2 r1 r2 r15I r15j r16I HK1 hw2 B1
                  have c0 : w2.cell? ⟨mb, 0, none⟩ = some (.pointer (some ⟨p, 0, none⟩)) := blk_cell hm2.blk 0
                  have r16I := (HQ6.out _ _ HA6.out).1
                  have r16j := (HQ6.out _ _ HA6.out).2
                  have HK1 := Lib.hid (mk_and (hm2.kept0 (Kept.refl [] w2).drew) (by omega) OY.out OT.out)
                  generalize andG g1 gi gj = q2 at *
                  obtain ⟨g2, v2⟩ := q2
                  simp only at *
                  clear hm2
                  go_wp2_with fail
                  go_region_held3 (fun w' => w'.cell? ⟨mb, 0, none⟩ = some (.pointer (some ⟨p, 0, none⟩)) ∧ w'.cell? ⟨b16, I, none⟩ = some (.int .u32 (gi : Nat)) ∧ w'.cell? ⟨b16, j, none⟩ = some (.int .u32 (gj : Nat)))
                    (first | exact ⟨t0, t1, t2⟩ | exact ⟨cell_far t0 (Ne.symm m2), cell_far t1 x5, cell_far t2 x5⟩ | go_keep)
                    (first | (go_at_call 71; refine HK1.out.mono ?_; rintro e w3 ⟨F5, rfl, hm1, hst1⟩; have t0 : w3.cell? ⟨mb, 0, none⟩ = some (.pointer (some ⟨p, 0, none⟩)) := blk_cell hm1.blk 0; have t1 := (HQ6.out _ _ (HA6.out.drew.step hst1)).1; have t2 := (HQ6.out _ _ (HA6.out.drew.step hst1)).2; have B1 := Lib.hid (HA2.out.drew.step hst1); have r1 := B1.out.cell I i64; have r2 := B1.out.free I; have HM1 := Lib.hid hm1; have HS1 := Lib.hid (HST.out.drew.trans hst1); have HD1 := Lib.hid hst1; clear hm1 hst1))
                  all_goals
                    go_wp2_with fail
                    go_roundw
                    case rel =>
                      have hj := HJ.out
                      have hI := HI.out
                      refine ⟨j + 1, I + 1, F5, by omega, by omega, by go_num, ?_, ?_, ?_, ?_, ?_, ?_, ?_⟩
                      · rw [HE2.out]; exact HM1.out.set (q := ⟨bg, I, none⟩) B1.out.1.out _
                      · rw [HE2.out]; exact (HA1.out.drew.step HD1.out).other n1.symm _
                      · rw [HE2.out]; exact B1.out.set I v2
                      · exact (HA3.out.drew.step HD1.out).other n3 _
                      · exact (HA5.out.drew.step HD1.out).other x2.symm _
                      · exact (HA6.out.drew.step HD1.out).other x5.symm _
                      · exact HS1.out.setNew (p := ⟨bg, I, none⟩) z2 _
                    case measure => simp [intOf]; omega
              · have hjk : j = k - D := by omega
                subst hjk
                have eD : IntKind.i64.wrap ((D : Int) * 2) = ((2 * D : Nat) : Int) := by rw [IntWalk.i64_in _ (by omega)]; omega
                go_wp2_with fail
                go_roundw
                case rel =>
                  refine ⟨r + 1, 2 * D, F3, by omega, by rw [HD.out]; omega, by go_num, ?_, ?_, ?_, HA3.out, HST.out⟩
                  · rw [HE.out]; exact HMM.out
                  · rw [HE.out]; exact HA1.out
                  · rw [HE.out]; exact HA2.out
                case measure => simp [intOf]; have := HDK.out; omega
        · have hrR : r = R := by
            rcases Nat.lt_or_ge r R with h | h
            · have := R2.out r h
              omega
            · omega
          subst hrR
          have Q0 : StOk 0 s0.1 s0 := ⟨HP0.out.wf, .refl _, HP0.out.lm, HP0.out.lg, HP0.out.om, HP0.out.og⟩
          have Q1 := spanTo_ok (n := k) Q0 r
          have obits : ∀ x ∈ s0.2.2, (spanTo k s0 r).1.ok x := fun x hx => Q1.ext.ok (HP0.out.og x hx)
          have occ : (spanTo k s0 r).1.ok c := Q1.ext.ok (HP0.out.ext.ok HOC.out)
          have Q2 := spanTo_ok (n := k) HP0.out r
          have hsz := Q2.ext.le
          have hwr := wideTo_le k hn r
          have hbl := HP0.out.lg
          clear Q0 Q1 HP0 HBITS hD hD64
          generalize spanTo k s0 r = S at *
          generalize s0.2.2 = BB at *
          have HS := Lib.hid (fun i => sumTo_ok Q2 obits occ i)
          have HSU : Hid (∀ i, sumTo S BB c (i + 1) = ((carryG (xorG (sumTo S BB c i).1 (BB.getD i 0) (sumTo S BB c i).2.2).1 (S.2.1.getD i 0) (S.2.2.getD i 0) c).1, (sumTo S BB c i).2.1 ++ [(xorG (sumTo S BB c i).1 (BB.getD i 0) (sumTo S BB c i).2.2).2], (carryG (xorG (sumTo S BB c i).1 (BB.getD i 0) (sumTo S BB c i).2.2).1 (S.2.1.getD i 0) (S.2.2.getD i 0) c).2)) := Lib.hid (fun i => rfl)
          have HZ0 := Lib.hid (show sumTo S BB c 0 = (S.1, [], c) from rfl)
          have HQ2 := Lib.hid Q2
          have HOB2 := Lib.hid obits
          have HOC2 := Lib.hid occ
          have hgr : S.1.nodes.length ≤ 172000 := by omega
          clear hwr hsz Q2 obits occ
          have HA1 := Lib.hid hA1
          have HA2 := Lib.hid hA2
          have HA3 := Lib.hid hA3
          have HM := Lib.hid hmk
          have HST := Lib.hid hst
          clear hA1 hA2 hA3 hmk hst
          go_wp2_with fail
          go_loopw [18, 19, 115] (fun sv cv iv wr => ∃ (i : Nat) (F3 : List Nat) (a' : Option Addr) (c' : Nat), i ≤ k ∧ iv = .int .i64 i ∧ cv = .int .u32 ((sumTo S BB c i).2.2 : Nat) ∧ sv = .slice a' i c' ∧ MakAt wr mb p F3 (sumTo S BB c i).1 ∧ Own wr 34 a' i c' (nats .u32 (sumTo S BB c i).2.1) ∧ Arr wr ((mb :: F3) ++ ft a') bm S.2.1 ∧ Arr wr ((mb :: F3) ++ ft a') bg S.2.2 ∧ Arr wr ((mb :: F3) ++ ft a') bb BB ∧ Stepped w wr (mb :: F) ((mb :: F3) ++ ft a')) (fun _ _ iv _ => k - (intOf iv).toNat)
          case atStart => exact ⟨0, F2, none, 0, Nat.zero_le _, rfl, by rw [HZ0.out], rfl, by rw [HZ0.out]; exact HM.out, by rw [HZ0.out]; exact Own.nil _ _, by simpa [ft] using HA1.out, by simpa [ft] using HA2.out, by simpa [ft] using HA3.out, by simpa [ft] using HST.out⟩
          case round =>
            clear HA1 HA2 HA3 HM HST HZ0
            obtain ⟨i, F3, a', c', hi, rfl, rfl, rfl, hmk, hown, hA1, hA2, hA3, hst⟩ := hrel
            have HA1 := Lib.hid hA1
            have HA2 := Lib.hid hA2
            have HA3 := Lib.hid hA3
            have HST := Lib.hid hst
            have HOW := Lib.hid hown
            have HMM := Lib.hid hmk
            clear hA1 hA2 hA3 hst hmk hown
            by_cases hlt : i < k
            · have i64 : i < 64 := by omega
              have ki64 : (i : Int) < 64 := by omega
              have hp := HS.out i
              have hsz := hp.ext.le
              have ob := hp.ext.ok (getD_ok HQ2.out.wf HOB2.out i)
              have oc := hp.oc
              have om := hp.ext.ok (getD_ok HQ2.out.wf HQ2.out.om i)
              have og := hp.ext.ok (getD_ok HQ2.out.wf HQ2.out.og i)
              have okc := hp.ext.ok HOC2.out
              have s1 := xorG_spec hp.wf ob oc
              have HE2 := Lib.hid (HSU.out i)
              generalize sumTo S BB c i = s at *
              obtain ⟨gk, lk, ck⟩ := s
              simp only at *
              have rb := HA3.out.cell i i64
              have HQ1 := Lib.hid (fun (w' : World) (F' : List Nat) (h : Arr w' F' bm S.2.1) => h.cell i i64)
              have HQG := Lib.hid (fun (w' : World) (F' : List Nat) (h : Arr w' F' bg S.2.2) => h.cell i i64)
              have HQB := Lib.hid (fun (w' : World) (F' : List Nat) (h : Arr w' F' bb BB) => h.cell i i64)
              generalize BB.getD i 0 = bi at *
              generalize S.2.1.getD i 0 = mi at *
              generalize S.2.2.getD i 0 = gi at *
              have HK1 := Lib.hid (mk_xor (HMM.out.kept0 (Kept.refl [] wr).drew) (by omega) ob oc)
              generalize xorG gk bi ck = q1 at *
              obtain ⟨g1, v1⟩ := q1
              have hle1 := s1.2.1.le
              simp only at *
              have OM := Lib.hid (s1.2.1.ok om)
              have OG := Lib.hid (s1.2.1.ok og)
              have OCC := Lib.hid (s1.2.1.ok okc)
              have HAP := Lib.hid (HMM.out.apart HOW.out (by decide) (by decide) (by decide) (by decide))
              have c0 : wr.cell? ⟨mb, 0, none⟩ = some (.pointer (some ⟨p, 0, none⟩)) := blk_cell HMM.out.blk 0
              have hwf1 := s1.1
              clear s1 om og okc ob oc hp
              go_wp2_with fail
              go_region_held3 (fun w' => w'.cell? ⟨mb, 0, none⟩ = some (.pointer (some ⟨p, 0, none⟩)) ∧ w'.cell? ⟨bb, i, none⟩ = some (.int .u32 (bi : Nat)))
                (first | exact ⟨t2, t3⟩ | exact ⟨t0, t1⟩ | go_keep)
                (first
                  | (refine step_push (by rfl) (by rfl) Try.underlying25 lit_info rfl (by omega) (by rfl) (by rfl) (news := [.int .u32 (v1 : Nat)]) (own_kept (w := w1) O1.out (((Kept.refl [] w1).alloc _)) (by simp)) rfl (news_blk (t := 34) (heap_alloc_new w1 _)) (by simp [Value.oneCell']) (by unfold maxLen; omega) (by omega) ?_; intro a3 c3 w3 hown3 hst3; have t2 : w3.cell? ⟨mb, 0, none⟩ = some (.pointer (some ⟨p, 0, none⟩)) := blk_cell ((HM1.out.kept0 ((Kept.refl [] w1).alloc _)).keptF hst3.kept (HM1.out.apart O1.out (by decide) (by decide) (by decide) (by decide))).blk 0; have t3 := HQB.out _ _ (Arr.step ((HA3.out.drew.step (HS1.out.beside _)).alloc _) (hst3.behind _)))
                  | (go_simp; go_at_call 71; refine HK1.out.mono ?_; rintro e w1 ⟨F4, rfl, hm1, hst1⟩; have t0 : w1.cell? ⟨mb, 0, none⟩ = some (.pointer (some ⟨p, 0, none⟩)) := blk_cell hm1.blk 0; have t1 := HQB.out _ _ (HA3.out.drew.step (hst1.beside _)); have O1 := Lib.hid (HOW.out.drew.kept hst1.kept HAP.out); have HM1 := Lib.hid hm1; have HS1 := Lib.hid hst1; clear hm1 hst1)
                  | (go_at_call 71; refine HK1.out.mono ?_; rintro e w1 ⟨F4, rfl, hm1, hst1⟩; have t0 : w1.cell? ⟨mb, 0, none⟩ = some (.pointer (some ⟨p, 0, none⟩)) := blk_cell hm1.blk 0; have t1 := HQB.out _ _ (HA3.out.drew.step (hst1.beside _)); have O1 := Lib.hid (HOW.out.drew.kept hst1.kept HAP.out); have HM1 := Lib.hid hm1; have HS1 := Lib.hid hst1; clear hm1 hst1))
              all_goals
                have hT3 : Stepped w w3 (mb :: F) ((mb :: F4) ++ ft a3) := (((HST.out.drew.trans (HS1.out.beside _)).alloc _)).trans (hst3.behind _)
                have hA1 := Lib.hid (show Arr w3 ((mb :: F4) ++ ft a3) bm S.2.1 from Arr.step ((HA1.out.drew.step (HS1.out.beside _)).alloc _) (hst3.behind _))
                have hA2 := Lib.hid (show Arr w3 ((mb :: F4) ++ ft a3) bg S.2.2 from Arr.step ((HA2.out.drew.step (HS1.out.beside _)).alloc _) (hst3.behind _))
                have hA3 := Lib.hid (show Arr w3 ((mb :: F4) ++ ft a3) bb BB from Arr.step ((HA3.out.drew.step (HS1.out.beside _)).alloc _) (hst3.behind _))
                have hap1 := (HM1.out.apart O1.out (by decide) (by decide) (by decide) (by decide))
                have hm3 : MakAt w3 mb p F4 g1 := (HM1.out.kept0 ((Kept.refl [] w1).alloc _)).keptF hst3.kept hap1
                have hown3 : Own w3 34 a3 (i + 1) c3 (nats .u32 (lk ++ [v1])) := by rw [← nats_append]; exact hown3
                have HOW3 := Lib.hid hown3
                have HM3 := Lib.hid hm3
                have HST3 := Lib.hid hT3
                have q1 := (HQ1.out _ _ hA1.out)
                have qg := (HQG.out _ _ hA2.out)
                have HAP3 := Lib.hid (hm3.apart hown3 (by decide) (by decide) (by decide) (by decide))
                have HK2 := Lib.hid (maker_carry (hm3.kept0 (Kept.refl [] w3).drew) (by omega) OM.out OG.out OCC.out)
                generalize carryG g1 mi gi c = q2 at *
                obtain ⟨g2, v2⟩ := q2
                try simp only at *
                clear hT3 hown3 hm3 hap1 hst3 t0 t1 t2 t3 HA1 HA2 HA3 HST HOW HMM HK1 HM1 HS1 O1 HAP c0 rb
                go_wp2_with fail
                go_region_law (first
                  | (go_simp; go_at_call 72; refine HK2.out.mono ?_; rintro e w5 ⟨F5, rfl, hm5, hst5⟩))
                all_goals
                  go_wp2_with fail
                  go_roundw
                  case rel =>
                    refine ⟨i + 1, F5, a3, c3, by omega, by go_num, by rw [HE2.out], rfl, by rw [HE2.out]; exact hm5, by rw [HE2.out]; exact HOW3.out.drew.kept hst5.kept HAP3.out, hA1.out.drew.step (hst5.beside _), hA2.out.drew.step (hst5.beside _), hA3.out.drew.step (hst5.beside _), HST3.out.drew.trans (hst5.beside _)⟩
                  case measure => simp [intOf]; omega
            · have hik : i = k := by omega
              subst hik
              go_wp2_with fail
              refine bodyPost_ret (v := .tuple #[.slice a' i c', .int .u32 ((sumTo S BB c i).2.2 : Nat)]) (by simp [results, Try.results64, go_sem]) rfl ?_
              rw [HS0.out]
              exact ⟨F3, a', c', rfl, HMM.out, HOW.out, HST.out⟩
end Go.Proofs.Ytenhbhckhncamaa
