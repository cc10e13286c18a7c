/-
  Package net: Check, of netlists that steps make.
-/
import Derived.Test.YtdmcdhkkbkgnbaaGreatP16
import Derived.Test.YtdmcdhkkbkgnbaaGreatP02
namespace Go.Proofs.YtdmcdhkkbkgnbaaGreat
open Go.ChangeShapes Go.WideShapes Go.ChangeAt Go.RowKit
open Go.Maps (Keyed)
open Go.WideMaps
set_option linter.unusedVariables false
set_option linter.unusedSimpArgs false

variable {w w' : World} {p n k : Nat} {F R S : List Nat} {g : Gr} {N : Nt}
/-- a map from literals to ints -/
def litF (φ : Nat → Option Int) : Value → Option Value
  | .int .u32 z => if 0 ≤ z then (φ z.toNat).map (Value.int .i64) else none
  | _ => none
theorem litF_get (φ : Nat → Option Int) (x : Nat) : litF φ (.int .u32 (x : Int)) = (φ x).map (Value.int .i64) := by simp [litF]
theorem litF_inv {φ : Nat → Option Int} {key v : Value} (h : litF φ key = some v) : ∃ x z, key = .int .u32 ((x : Nat) : Int) ∧ v = .int .i64 z ∧ φ x = some z := by
  unfold litF at h
  split at h
  · rename_i z
    split at h
    · rename_i hz
      obtain ⟨y, hy, rfl⟩ := Option.map_eq_some_iff.1 h
      exact ⟨z.toNat, y, by rw [Int.toNat_of_nonneg hz], rfl, hy⟩
    · cases h
  · cases h
theorem litF_upd (φ : Nat → Option Int) (x : Nat) (z : Int) : upd (litF φ) (.int .u32 (x : Int)) (.int .i64 z) = litF (fun y => if y = x then some z else φ y) := by
  funext v
  unfold upd
  by_cases h : v = .int .u32 (x : Int)
  · subst h
    rw [if_pos rfl, litF_get]
    simp
  · rw [if_neg h]
    unfold litF
    split
    · rename_i y
      split
      · rename_i hy
        show _ = Option.map (Value.int .i64) (if y.toNat = x then some z else φ y.toNat)
        rw [if_neg]
        intro e
        apply h
        congr 1
        omega
      · rfl
    · rfl
theorem litF_none : (fun _ => none : Value → Option Value) = litF (fun _ => none) := by
  funext v
  unfold litF
  split
  · split <;> rfl
  · rfl
def openF (l : List Nat) : Nat → Option Int := fun x => if x ∈ l then some 1 else none
def takenF (l d : List Nat) : Nat → Option Int := fun x => if x ∈ d then some 0 else if x ∈ l then some 1 else none
theorem openF_snoc (l : List Nat) (a : Nat) : (fun y => if y = a then some 1 else openF l y) = openF (l ++ [a]) := by
  funext y
  unfold openF
  by_cases h1 : y = a <;> by_cases h2 : y ∈ l <;> simp [h1, h2]
theorem takenF_nil (l : List Nat) : openF l = takenF l [] := by funext y; simp [openF, takenF]
theorem takenF_snoc (l d : List Nat) (a : Nat) : (fun y => if y = a then some 0 else takenF l d y) = takenF l (d ++ [a]) := by
  funext y
  unfold takenF
  by_cases h1 : y = a <;> by_cases h2 : y ∈ d <;> simp [h1, h2]
theorem lit_law : Keyed Tryz.prog 61 := Go.Maps.int_keyed Tryz.underlying61
theorem lit_key (x : Nat) (h : x < 4294967296) : ∃ kl, keyOf Tryz.prog 61 (.int .u32 (x : Int)) = some kl :=
  ⟨_, Go.Maps.keyOf_int_mk Tryz.underlying61 (by simp [Lit.wf, IntKind.min, IntKind.max, IntKind.signed, IntKind.bits]; omega)⟩
theorem int_zero' (w : World) : (zeroValue 3).run Tryz.prog w = .ok (.int .i64 0) w := by kernel_rfl
def LitMap (w : World) (m : Nat) (φ : Nat → Option Int) (c : Nat) : Prop := MapG w Tryz.prog 61 m (litF φ) c
theorem LitMap.look {m c : Nat} {φ : Nat → Option Int} (h : LitMap w m φ c) (x : Nat) (hx : x < 4294967296) : (Instr.lookup 132 (.map (some m)) (.int .u32 (x : Int)) false).run Tryz.prog w = .ok (.int .i64 ((φ x).getD 0)) w := by
  obtain ⟨kl, hkl⟩ := lit_key x hx
  have h2 := h.v.look false lit_law Tryz.underlying132 (int_zero' _) hkl
  rw [litF_get] at h2
  cases hφ : φ x <;> rw [hφ] at h2 <;> simpa using h2
/-- a whole struct stored into a block that has just been laid -/
theorem wpList_box {P : Program} {ops : Array Oper} {rest : List Oper} {o : Oper} {a : Act} {w w0 : World} {Q : Exit → Act → World → Prop} {ty T : TypeId} {x y : Operand} {cells old : Array Value} (hgd : o.guard = none) (ho : o.op = .store ty x y)
    (hx : a.eval x = .pointer (some ⟨w0.heap.size, 0, none⟩)) (hy : a.eval y = .agg cells) (hw : w = w0.alloc (.cells old T)) (hi : (P.info? ty).map (·.size) = some cells.size) (hold : old.size = cells.size) (h1 : cells.all (·.oneCell') = true)
    (h : ∀ w', w'.heap[w0.heap.size]? = some (.cells cells T (0, 0)) → Kept [] w0 w' → wpList P ops Q rest (a.put o.dst undef) w') : wpList P ops Q (o :: rest) a w := by
  subst hw
  have hg := heap_alloc_new w0 (.cells old T)
  refine wpList_store_row hgd ty x y ho w0.heap.size cells hx hy T old hg hi hold h1 (h _ (setRow_heap _ _ _ _ _ _ hg) ?_)
  exact ((Kept.refl [] w0).alloc _).setRow (.inr (Nat.le_refl _)) cells
theorem nats_app (K : IntKind) (l m : List Nat) : nats K (l ++ m) = nats K l ++ nats K m := by simp [nats]
theorem flat_snoc (l : List BR) (r : BR) : (l ++ [r]).flatMap (fun r => r.b.lits) = l.flatMap (fun r => r.b.lits) ++ r.b.lits := by simp
theorem take_succ_br (l : List BR) (k : Nat) (h : k < l.length) : l.take (k + 1) = l.take k ++ [l[k]] := by
  rw [List.take_succ_eq_append_getElem h]
theorem flat_len {l : List BR} (h : ∀ r ∈ l, r.b.lits.length ≤ 64) : (l.flatMap (fun r => r.b.lits)).length ≤ 64 * l.length := by
  induction l with
  | nil => simp
  | cons r l ih =>
    have h1 := h r (by simp)
    have h2 := ih (fun x hx => h x (by simp [hx]))
    simp only [List.flatMap_cons, List.length_append, List.length_cons]
    omega
set_option maxHeartbeats 6400000 in
set_option maxRecDepth 100000 in
theorem check_c (h : NetAt w n F R N) (hf : NtFine k N) (hk : k ≤ 700) : Calls Tryz.prog 20 #[.pointer (some ⟨n, 0, none⟩)] w (IntIs (checkN N : Nat) w) := by
  have hlen := hf.ok.len
  have hlen2 := hf.ok.ik
  have hlen3 := hf.ok.rk
  have hlen4 := hf.ok.ok
  have HNO := Lib.hid (net_none h (show N.g.nodes.length ≤ 1000000 by omega))
  have HNA := Lib.hid h
  have HFI := Lib.hid hf
  have hnm := hf.nm
  have hsz : N.name.size ≤ 140737488351232 := by
    unfold mayB at hnm
    simp only [Bool.and_eq_true, decide_eq_true_eq] at hnm
    have := hnm.1.2
    omega
  have HM := Lib.hid (fun (W : World) => show Calls Tryz.prog 65 #[.string N.name] W (BoolIs true W) from by have h := mayname_c N.name W hsz; rw [hnm] at h; exact h)
  obtain ⟨p, G, ia, ic, ra, rc, oa, oc, ri, ro, rfl, rfl, hc⟩ := h
  have HC := Lib.hid hc
  have HI := Lib.hid (fun (W : World) (hk' : Kept [] w W) => show Calls Tryz.prog 66 #[.pointer (some ⟨n, 0, none⟩), .slice ia N.inb.length ic] W (BoolIs true W) from
    named_c (HNA.out.kept0 hk') (by omega) ia ic N.inb.length ri (by rw [← hc.ib.is]; simp) (by omega) (hc.ib.slb.kept0 hk') (fun r hr => by
      have hb : r.b ∈ N.inb := by rw [← hc.ib.is]; exact List.mem_map_of_mem hr
      obtain ⟨i1, i2, i3, i4⟩ := hf.ok.il r.b hb
      exact ⟨(hc.ib.rows r hr).1.kept0 hk', i1, i2, i3, i4⟩) (by have := hf.ni; rw [← hc.ib.is, List.map_map] at this; exact this))
  have HO := Lib.hid (fun (W : World) (hk' : Kept [] w W) => show Calls Tryz.prog 66 #[.pointer (some ⟨n, 0, none⟩), .slice oa N.outb.length oc] W (BoolIs true W) from
    named_c (HNA.out.kept0 hk') (by omega) oa oc N.outb.length ro (by rw [← hc.ob.is]; simp) (by omega) (hc.ob.slb.kept0 hk') (fun r hr => by
      have hb : r.b ∈ N.outb := by rw [← hc.ob.is]; exact List.mem_map_of_mem hr
      obtain ⟨i1, i2, i3, i4⟩ := hf.ok.ol r.b hb
      exact ⟨(hc.ob.rows r hr).1.kept0 hk', i1, i2, i3, i4⟩) (by have := hf.no; rw [← hc.ob.is, List.map_map] at this; exact this))
  have HCE := Lib.hid (show checkN N = if fullB N then 0 else 37 from rfl)
  have c1 := hc.c1
  have c2 := hc.c2
  have c3 := hc.c3
  have c4 := hc.c4
  have C := Lib.hid (fun (W : World) (hk' : Kept [] w W) => (⟨hk'.cell hc.c0 (by simp), hk'.cell hc.c2 (by simp), hk'.cell hc.c3 (by simp), hk'.cell hc.c4 (by simp)⟩ : W.cell? ⟨n, 0, none⟩ = some (.pointer (some ⟨p, 0, none⟩)) ∧ W.cell? ⟨n, 2, none⟩ = some (.slice ia N.inb.length ic) ∧ W.cell? ⟨n, 3, none⟩ = some (.slice ra N.regs.length rc) ∧ W.cell? ⟨n, 4, none⟩ = some (.slice oa N.outb.length oc)))
  generalize checkN N = res at *
  obtain ⟨nI, hnI⟩ : ∃ k, k = N.inb.length := ⟨_, rfl⟩
  obtain ⟨nR, hnR⟩ : ∃ k, k = N.regs.length := ⟨_, rfl⟩
  obtain ⟨nO, hnO⟩ : ∃ k, k = N.outb.length := ⟨_, rfl⟩
  have HNI := Lib.hid hnI
  have HNR := Lib.hid hnR
  rw [← hnI] at hlen2 C HI c2
  rw [← hnR] at hlen3 C c3
  rw [← hnO] at hlen4 C HO c4
  clear hc hf hnm hsz hnI hnR hnO
  have hmm := @run_makeMap Tryz.prog
  go_enter Tryz.func20, Tryz.ntmps20; (try simp only [List.append])
  go_wp2_with fail
  refine HNO.out.mono ?_
  rintro e w' ⟨rfl, rfl⟩
  go_wp2_with fail
  refine (HM.out _).mono ?_
  rintro e w1 ⟨rfl, hk1⟩
  have K1 := Lib.hid hk1
  obtain ⟨-, a2, -, -⟩ := C.out _ hk1
  clear hk1 c1 c2 c3 c4
  go_wp2_with fail
  refine (HI.out _ K1.out).mono ?_
  rintro e w2 ⟨rfl, hk2⟩
  have K2 := Lib.hid (K1.out.trans hk2)
  obtain ⟨-, -, -, a4⟩ := C.out _ K2.out
  clear hk2 a2
  go_wp2_with fail
  refine (HO.out _ K2.out).mono ?_
  rintro e w3 ⟨rfl, hk3⟩
  have K3 := Lib.hid (K2.out.trans hk3)
  obtain ⟨-, b2, b3, -⟩ := C.out _ K3.out
  clear hk3 a4
  go_wp2_with fail
  have HRL := Lib.hid (show ri.length = nI from by rw [HNI.out, ← HC.out.ib.is]; simp)
  have HRB := Lib.hid (show ∀ r ∈ ri, 1 ≤ r.b.lits.length ∧ r.b.lits.length ≤ 64 from fun r hr => by
    have hb : r.b ∈ N.inb := by rw [← HC.out.ib.is]; exact List.mem_map_of_mem hr
    obtain ⟨i1, i2, _, _⟩ := HFI.out.ok.il r.b hb
    exact ⟨i1, i2⟩)
  go_loopw [3, 56] (fun v i wr => ∃ (j : Nat) (a' : Option Addr) (c' m' : Nat), j ≤ nI ∧ i = .int .i64 j ∧ v = .slice a' m' c' ∧ Own wr 61 a' m' c' (nats .u32 ((ri.take j).flatMap (fun r => r.b.lits))) ∧ Stepped w3 wr [] (ft a')) (fun _ i _ => nI - (intOf i).toNat)
  case atStart => exact ⟨0, none, 0, 0, Nat.zero_le _, rfl, rfl, Own.nil _ _, .refl _ _⟩
  case round =>
    obtain ⟨j, a', c', m', hj, rfl, rfl, hown, hst⟩ := hrel
    have OW := Lib.hid hown
    have ST := Lib.hid hst
    have hm' := hown.len
    rw [nats_length] at hm'
    have hfl := flat_len (l := ri.take j) (fun r hr => (HRB.out r (List.mem_of_mem_take hr)).2)
    rw [hm', List.length_take] at hfl
    have hfl2 : m' ≤ 64 * j := by omega
    have HM' := Lib.hid hm'
    clear hown hst hm' hfl
    by_cases hlt : j < nI
    · have hjl : j < ri.length := by rw [HRL.out]; exact hlt
      obtain ⟨b, hia, h1, h2⟩ := (HC.out.ib.slb.kept0 (K3.out.trans ST.out.kept)) j hjl
      have hrow := (HC.out.ib.rows _ (List.getElem_mem hjl)).1.kept0 (K3.out.trans ST.out.kept)
      obtain ⟨l1, l2⟩ := HRB.out _ (List.getElem_mem hjl)
      have HT := Lib.hid (show (ri.take (j + 1)).flatMap (fun r => r.b.lits) = (ri.take j).flatMap (fun r => r.b.lits) ++ ri[j].b.lits from by rw [take_succ_br ri j hjl, flat_snoc])
      obtain ⟨ad, had, -⟩ := hrow 0 (by omega)
      rw [had] at h2
      have HNW := Lib.hid (fun (W : World) (hk' : Kept [] wr W) => show ∀ i u, (nats .u32 ri[j].b.lits)[i]? = some u → W.cell? (ad.add i) = some u from fun i u hu => by
        obtain ⟨hi, rfl⟩ := List.getElem?_eq_some_iff.1 hu
        rw [nats_length] at hi
        obtain ⟨ad', h3, h4⟩ := (hrow.kept0 hk') i hi
        rw [had] at h3
        injection h3 with h3
        subst h3
        rw [h4]; simp [nats])
      have HLN := Lib.hid (nats_length .u32 ri[j].b.lits)
      clear hrow had
      generalize ri[j].b.lits = ll at *
      generalize ri[j].b.name = nm at *
      generalize ri[j].c = rcc at *
      obtain ⟨ln, hln⟩ : ∃ ln, ln = ll.length := ⟨_, rfl⟩
      have HLL := Lib.hid hln
      rw [← hln] at l1 l2 h2
      subst hia
      clear hln
      go_wp2_with (at_builtin; refine wpList_cat (news := nats .u32 ll) rfl rfl Tryz.underlying58 lit_info' rfl (by omega) rfl rfl (OW.out.kept0 ((Kept.refl [] wr).alloc _)) (by rw [HLN.out, Nat.mul_one, HLL.out]) (HNW.out _ ((Kept.refl [] wr).alloc _)) (nats_one _ _) (by unfold maxLen; omega) (by omega) ?_; intro a1 c1 w5 hown5 hst5)
      go_roundw
      case rel => exact ⟨j + 1, a1, c1, m' + ln, by omega, by go_num, rfl, by rw [HT.out, nats_app]; exact hown5, (ST.out.alloc _).trans hst5⟩
      case measure => simp [intOf]; omega
    · obtain rfl : j = nI := by omega
      have HD1 := Lib.hid (show (ri.take j).flatMap (fun r => r.b.lits) = N.inb.flatMap (·.lits) from by
        rw [List.take_of_length_le (by rw [HRL.out]; exact Nat.le_refl _), ← HC.out.ib.is, List.flatMap_map])
      rw [HD1.out] at OW HM'
      clear HD1
      obtain ⟨w4, rfl⟩ : ∃ v : World, v = wr := ⟨_, rfl⟩
      have K4 := Lib.hid (K3.out.trans ST.out.kept)
      have F4 := Lib.hid (show ∀ b ∈ ft a', w.heap.size ≤ b from fun b hb => by
        rcases ST.out.fresh b hb with h | h
        · simp at h
        · exact Nat.le_trans K3.out.size h)
      obtain ⟨-, -, e3, -⟩ := C.out _ K4.out
      have SLR := Lib.hid (fun (W : World) (hk' : Kept [] w W) => (regs_sl rfl HC.out.rb).kept0 hk')
      have HTR := Lib.hid (fun (W : World) (hk' : Kept [] w W) (r : Rg) (hr : r ∈ N.regs) (qa : Nat) (hqa : qa = W.heap.size) => show Calls Tryz.prog 67 #[.pointer (some ⟨n, 0, none⟩), .slice (some ⟨qa, 0, none⟩) 3 3] (W.alloc (.cells #[.int .u32 (r.q : Int), .int .u32 (r.d : Int), .int .u32 (r.en : Int)] 61)) (BoolIs true (W.alloc (.cells #[.int .u32 (r.q : Int), .int .u32 (r.d : Int), .int .u32 (r.en : Int)] 61))) from by
        subst hqa
        have hrl := HFI.out.ok.rl r hr
        have hok : ∀ x ∈ [r.q, r.d, r.en], N.g.ok x := by
          intro x hx
          simp at hx
          rcases hx with rfl | rfl | rfl
          · exact hrl.1
          · exact hrl.2.1
          · exact hrl.2.2
        have h := there_c (HNA.out.kept0 (hk'.alloc (.cells #[.int .u32 (r.q : Int), .int .u32 (r.d : Int), .int .u32 (r.en : Int)] 61))) (show N.g.nodes.length ≤ 200000 by omega) (some ⟨W.heap.size, 0, none⟩) 3 3 [r.q, r.d, r.en] rfl (by omega) (sln_new W .u32 [r.q, r.d, r.en] 61) (fun x hx => Gr.ok_lt (hok x hx) (by omega))
        rw [gone_false.2 hok] at h
        exact h)
      clear HRL HRB ST K3 K2 K1 b2 b3
      go_wp2_with fail
      go_loopw [3, 70] (fun v i wr => ∃ (j2 : Nat) (a2 : Option Addr) (c2 : Nat), j2 ≤ nR ∧ i = .int .i64 j2 ∧ v = .slice a2 (m' + j2) c2 ∧ Own wr 61 a2 (m' + j2) c2 (nats .u32 (N.inb.flatMap (·.lits) ++ (N.regs.take j2).map (·.q))) ∧ Kept [] w wr ∧ ∀ b ∈ ft a2, w.heap.size ≤ b) (fun _ i _ => nR - (intOf i).toNat)
      case atStart => exact ⟨0, a', c', Nat.zero_le _, rfl, rfl, by simpa using OW.out, K4.out, F4.out⟩
      case round =>
        obtain ⟨j2, a2, c2, hj2, rfl, rfl, hown, hkr, hfr2⟩ := hrel
        have OW2 := Lib.hid hown
        have KR2 := Lib.hid hkr
        have FR2 := Lib.hid hfr2
        clear hown hkr hfr2
        by_cases hlt2 : j2 < nR
        · have hjl : j2 < N.regs.length := by rw [← HNR.out]; exact hlt2
          obtain ⟨b, hra, q0, q1, q2, q3⟩ := SLR.out wr KR2.out j2 hjl
          have HT := Lib.hid (show (N.regs.take (j2 + 1)).map (·.q) = (N.regs.take j2).map (·.q) ++ [N.regs[j2].q] from by rw [List.take_succ_eq_append_getElem hjl, List.map_append]; rfl)
          have HTH := Lib.hid (fun (W : World) (hk' : Kept [] w W) (qa : Nat) (hqa : qa = W.heap.size) => HTR.out W hk' N.regs[j2] (List.getElem_mem hjl) qa hqa)
          generalize N.regs[j2] = r at *
          obtain ⟨x, y, z, bi⟩ := r
          simp only at q0 q1 q2 q3 HT HTH
          subst hra
          go_wp2_with fail
          refine (HTH.out _ (KR2.out.alloc _) _ (by simp)).mono ?_
          rintro e w6 ⟨rfl, hk6⟩
          have hbx := heap_alloc_new wr (.cells #[.int .u32 (x : Int), .int .u32 (y : Int), .int .u32 (z : Int), .bool bi] 63)
          have d0 : w6.cell? ⟨wr.heap.size, 0, none⟩ = some (.int .u32 (x : Int)) := hk6.cell (((Kept.refl [] (wr.alloc (.cells #[.int .u32 (x : Int), .int .u32 (y : Int), .int .u32 (z : Int), .bool bi] 63))).alloc _).cell (blk_cell hbx 0) (by simp)) (by simp)
          have K6 := Lib.hid ((((Kept.refl [] wr).alloc (.cells #[.int .u32 (x : Int), .int .u32 (y : Int), .int .u32 (z : Int), .bool bi] 63)).alloc (.cells #[.int .u32 (x : Int), .int .u32 (y : Int), .int .u32 (z : Int)] 61)).trans hk6)
          have hown6 := OW2.out.kept0 K6.out
          clear hk6 q0 q1 q2 q3 hbx
          go_wp2_with (at_builtin; refine wpList_push rfl rfl Tryz.underlying58 lit_info' rfl rfl rfl hown6 rfl (by unfold maxLen; omega) (by omega) ?_; intro a7 c7 w7 hown7 hst7)
          go_roundw
          case rel =>
            refine ⟨j2 + 1, a7, c7, by omega, by go_num, rfl, ?_, kept_up (KR2.out.trans K6.out) hst7.kept FR2.out, fun b hb => ?_⟩
            · rw [HT.out, ← List.append_assoc, ← nats_append]; exact hown7
            · rcases hst7.fresh b hb with h | h
              · exact FR2.out b h
              · exact Nat.le_trans (KR2.out.trans K6.out).size h
          case measure => simp [intOf]; omega
        · obtain rfl : j2 = nR := by omega
          have HD := Lib.hid (show N.inb.flatMap (·.lits) ++ (N.regs.take j2).map (·.q) = drivenN N from by rw [List.take_of_length_le (by rw [← HNR.out]; exact Nat.le_refl _)]; rfl)
          rw [HD.out] at OW2
          obtain ⟨mD, hmD⟩ : ∃ k, k = m' + j2 := ⟨_, rfl⟩
          rw [← hmD] at OW2 ⊢
          have hmD2 : mD ≤ 100000 := by omega
          obtain ⟨w6, rfl⟩ : ∃ v : World, v = wr := ⟨_, rfl⟩
          obtain ⟨e0, -, -, -⟩ := C.out _ (KR2.out.alloc (.map #[] 0))
          have HIN := Lib.hid (aig_inputs (HC.out.gr.kept0 (KR2.out.alloc (.map #[] 0))) (show N.g.nodes.length ≤ 1000000 by omega))
          have hile : (ins N.g.nodes).length ≤ N.g.nodes.length := insFrom_length 0 N.g.nodes
          obtain ⟨mI, hmI⟩ : ∃ k, k = (ins N.g.nodes).length := ⟨_, rfl⟩
          have HMI := Lib.hid hmI
          rw [← hmI] at HIN hile
          clear HD hmD hmI HTR SLR e3 hfl2 OW HM' F4 K4
          go_wp2_with fail
          refine HIN.out.mono ?_
          rintro e w7 ⟨ai, ci, rfl, hoi, hsi⟩
          have OI := Lib.hid hoi
          have K7 := Lib.hid hsi.kept
          have KW7 := Lib.hid ((KR2.out.alloc (.map #[] 0)).trans hsi.kept)
          obtain ⟨mm, hmmq⟩ : ∃ m, m = w6.heap.size := ⟨_, rfl⟩
          have MW := Lib.hid (show w.heap.size ≤ mm from by rw [hmmq]; exact KR2.out.size)
          have LM := Lib.hid (show LitMap w7 mm (openF []) 0 from by
            have h := MapG.new w6 Tryz.prog 61
            rw [litF_none] at h
            rw [hmmq]
            exact MapG.kept h hsi.kept (by simp))
          have FI := Lib.hid (show ∀ b ∈ ft ai, b ≠ mm from fun b hb => by
            rcases hsi.fresh b hb with h | h
            · simp at h
            · simp at h; omega)
          have FD := Lib.hid (show ∀ b ∈ ft a2, b ≠ mm from fun b hb => by have := OW2.out.lt b hb; omega)
          have OD := Lib.hid ((OW2.out.kept0 ((Kept.refl [] w6).alloc (.map #[] 0))).kept0 hsi.kept)
          rw [← hmmq]
          clear hoi hsi hmmq e0 HIN K7 OW2 KR2 FR2
          go_wp2_with fail
          go_loopw [97] (fun v wr => ∃ (j3 c3 : Nat), j3 ≤ mI ∧ v = .int .i64 j3 ∧ LitMap wr mm (openF (((ins N.g.nodes).take j3).map (2 * ·))) c3 ∧ Kept [mm] w7 wr) (fun v _ => mI - (intOf v).toNat)
          case atStart => exact ⟨0, 0, Nat.zero_le _, rfl, LM.out, .refl _ _⟩
          case round =>
            obtain ⟨j3, c3, hj3, rfl, hlm, hkr⟩ := hrel
            have LM3 := Lib.hid hlm
            have KR3 := Lib.hid hkr
            clear hlm hkr
            by_cases hlt3 : j3 < mI
            · have hjl : j3 < (ins N.g.nodes).length := by rw [← HMI.out]; exact hlt3
              obtain ⟨ad, rfl, hcx⟩ := (OI.out.kept KR3.out (fun b hb h => FI.out b hb (by simpa using h))).sln j3 hjl
              have hil := ins_lt N.g.nodes _ (List.getElem_mem hjl)
              have HT := Lib.hid (show ((ins N.g.nodes).take (j3 + 1)).map (2 * ·) = ((ins N.g.nodes).take j3).map (2 * ·) ++ [2 * (ins N.g.nodes)[j3]] from by rw [List.take_succ_eq_append_getElem hjl, List.map_append]; rfl)
              generalize (ins N.g.nodes)[j3] = iv at *
              have HO' := Lib.hid (show ofV (iv : Int) false = 2 * iv ∧ ofE (iv : Int) = 0 from ⟨by unfold ofV ifL; rw [if_pos (by omega)]; simp, by unfold ofE; rw [if_pos (by omega)]⟩)
              obtain ⟨y, hy⟩ : ∃ y, y = 2 * iv := ⟨_, rfl⟩
              rw [← hy] at HO' HT
              have hy32 : y < 4294967296 := by omega
              have HY := Lib.hid (lit_key y hy32)
              clear hy
              go_wp2_with fail
              refine (lit_of _ _ _).mono ?_
              rw [HO'.out.1, HO'.out.2]
              rintro e w' ⟨rfl, rfl⟩
              go_wp2_with (at_mapUpdate; refine wpList_updG rfl rfl lit_law Tryz.underlying132 rfl rfl rfl LM3.out HY.out ?_; intro w8 hm8 hk8)
              go_roundw
              case rel => exact ⟨j3 + 1, _, by omega, by go_num, by rw [HT.out, ← openF_snoc]; unfold LitMap; rw [← litF_upd]; exact hm8, KR3.out.trans hk8⟩
              case measure => simp [intOf]; omega
            · obtain rfl : j3 = mI := by omega
              have HL := Lib.hid (show (ins N.g.nodes).take j3 = ins N.g.nodes from List.take_of_length_le (by rw [← HMI.out]; exact Nat.le_refl _))
              rw [HL.out] at LM3
              have OD3 := Lib.hid (OD.out.kept KR3.out (fun b hb h => FD.out b hb (by simpa using h)))
              have hDl := OD3.out.len
              rw [nats_length] at hDl
              have HDL := Lib.hid hDl
              have HDN := Lib.hid HFI.out.dn
              have HDI := Lib.hid (show ∀ x ∈ drivenN N, x ∈ (ins N.g.nodes).map (2 * ·) from fun x hx => by
                obtain ⟨i, h1, h2⟩ := HFI.out.di x hx
                exact List.mem_map.2 ⟨i, h1, h2.symm⟩)
              have HDB := Lib.hid (show ∀ x ∈ drivenN N, x < 4294967296 from fun x hx => by have := drivenN_lt HFI.out x hx; omega)
              have HFB := Lib.hid (show fullB N = (ins N.g.nodes).all fun i => (drivenN N).contains (2 * i) from rfl)
              obtain ⟨w9, rfl⟩ : ∃ v : World, v = wr := ⟨_, rfl⟩
              have KW9 := Lib.hid (kept_up KW7.out KR3.out (fun b hb => by simp at hb; subst hb; exact MW.out))
              generalize drivenN N = D at *
              clear hDl hlt3 hj3 KW7 KR3 OD OI FI LM
              go_wp2_with fail
              go_loopw [111] (fun v wr => ∃ (j4 c4 : Nat), j4 ≤ mD ∧ v = .int .i64 j4 ∧ LitMap wr mm (takenF ((ins N.g.nodes).map (2 * ·)) (D.take j4)) c4 ∧ Kept [mm] w9 wr) (fun v _ => mD - (intOf v).toNat)
              case atStart => exact ⟨0, c3, Nat.zero_le _, rfl, by rw [List.take_zero, ← takenF_nil]; exact LM3.out, .refl _ _⟩
              case round =>
                obtain ⟨j4, c4, hj4, rfl, hlm, hkr⟩ := hrel
                have LM4 := Lib.hid hlm
                have KR4 := Lib.hid hkr
                clear hlm hkr
                by_cases hlt4 : j4 < mD
                · have hjl : j4 < D.length := by rw [HDL.out]; exact hlt4
                  obtain ⟨ad, rfl, hcx⟩ := (OD3.out.kept KR4.out (fun b hb h => FD.out b hb (by simpa using h))).sln j4 hjl
                  have hx32 := HDB.out _ (List.getElem_mem hjl)
                  have hxL := HDI.out _ (List.getElem_mem hjl)
                  have hxn : D[j4] ∉ D.take j4 := fun hx => by
                    obtain ⟨i, hi, e⟩ := List.getElem_of_mem hx
                    rw [List.length_take] at hi
                    rw [List.getElem_take] at e
                    have := (List.nodup_iff_pairwise_ne.1 HDN.out)
                    exact List.pairwise_iff_getElem.1 this i j4 (by omega) hjl (by omega) e
                  have HT := Lib.hid (show D.take (j4 + 1) = D.take j4 ++ [D[j4]] from List.take_succ_eq_append_getElem hjl)
                  generalize D[j4] = x at *
                  have e1 := Lib.hid (show takenF ((ins N.g.nodes).map (2 * ·)) (D.take j4) x = some 1 from by unfold takenF; rw [if_neg hxn, if_pos hxL])
                  have e2 := Lib.hid (show takenF ((ins N.g.nodes).map (2 * ·)) (D.take (j4 + 1)) x = some 0 from by unfold takenF; rw [HT.out, if_pos (by simp)])
                  have q1 := LM4.out.look x hx32
                  rw [e1.out] at q1
                  simp only [Option.getD_some] at q1
                  have HY := Lib.hid (lit_key x hx32)
                  clear hxn hxL
                  go_wp2_with (at_mapUpdate; refine wpList_updG rfl rfl lit_law Tryz.underlying132 rfl rfl rfl LM4.out HY.out ?_; intro w10 hm10 hk10; obtain ⟨c10, lm10⟩ : ∃ c, LitMap w10 mm (takenF ((ins N.g.nodes).map (2 * ·)) (D.take (j4 + 1))) c := ⟨_, by unfold LitMap; rw [HT.out, ← takenF_snoc, ← litF_upd]; exact hm10⟩; have q2 := lm10.look x hx32; rw [e2.out] at q2; simp only [Option.getD_some] at q2; have LM10 := Lib.hid lm10; clear lm10 hm10)
                  go_roundw
                  case rel => exact ⟨j4 + 1, c10, by omega, by go_num, LM10.out, KR4.out.trans hk10⟩
                  case measure => simp [intOf]; omega
                · obtain rfl : j4 = mD := by omega
                  rw [List.take_of_length_le (by rw [HDL.out]; exact Nat.le_refl _)] at LM4
                  obtain ⟨w10, rfl⟩ : ∃ v : World, v = wr := ⟨_, rfl⟩
                  have KW10 := Lib.hid (kept_up KW9.out KR4.out (fun b hb => by simp at hb; subst hb; exact MW.out))
                  have PH := Lib.hid (show ∀ x, takenF ((ins N.g.nodes).map (2 * ·)) D x = some 1 ↔ x ∉ D ∧ x ∈ (ins N.g.nodes).map (2 * ·) from fun x => by
                    unfold takenF
                    by_cases h1 : x ∈ D <;> by_cases h2 : x ∈ (ins N.g.nodes).map (2 * ·) <;> simp [h1, h2])
                  have PV := Lib.hid (show ∀ x z, takenF ((ins N.g.nodes).map (2 * ·)) D x = some z → z = 0 ∨ z = 1 from fun x z h => by
                    unfold takenF at h
                    split at h
                    · injection h with h; exact .inl h.symm
                    · split at h
                      · injection h with h; exact .inr h.symm
                      · cases h)
                  have P37 := Lib.hid (show ∀ x, takenF ((ins N.g.nodes).map (2 * ·)) D x = some 1 → res = 37 from fun x hx => by
                    obtain ⟨h1, h2⟩ := (PH.out x).1 hx
                    obtain ⟨i, h3, h4⟩ := List.mem_map.1 h2
                    rw [HCE.out, HFB.out, if_neg]
                    rw [List.all_eq_true]
                    intro h
                    have := h i h3
                    rw [List.contains_iff_mem] at this
                    exact h1 (h4 ▸ this))
                  have P0 := Lib.hid (show (∀ x, takenF ((ins N.g.nodes).map (2 * ·)) D x ≠ some 1) → res = 0 from fun hx => by
                    rw [HCE.out, HFB.out, if_pos]
                    rw [List.all_eq_true]
                    intro i hi
                    rw [List.contains_iff_mem]
                    by_cases h : 2 * i ∈ D
                    · exact h
                    · exact absurd ((PH.out (2 * i)).2 ⟨h, List.mem_map.2 ⟨i, hi, rfl⟩⟩) (hx _))
                  generalize takenF ((ins N.g.nodes).map (2 * ·)) D = φ at *
                  clear hlt4 hj4 KR4 OD3 HDN HDI HDB HFB HDL KW9 PH LM3 FD
                  go_wp2_with (at_range; refine wpList_rangeG rfl rfl Tryz.underlying132 rfl LM4.out ?_; intro w11 hrg hk11 hsz11)
                  go_frame
                  obtain ⟨r, hr⟩ : ∃ r, r = w10.heap.size := ⟨_, rfl⟩
                  have RW := Lib.hid (show w.heap.size ≤ r from by rw [hr]; exact KW10.out.size)
                  rw [← hr] at hrg ⊢
                  have RG := Lib.hid hrg
                  have KW11 := Lib.hid (KW10.out.trans hk11)
                  clear hrg hk11 hsz11 hr
                  go_loopg [16] c4 (fun gf v wr => ∃ todo, RangeG wr Tryz.prog 61 mm (litF φ) c4 r gf todo ∧ (∀ x, φ x = some 1 → todo (.int .u32 ((x : Nat) : Int))) ∧ Kept [] w wr)
                  case atStart => exact ⟨_, RG.out, fun _ _ => trivial, KW11.out⟩
                  case round =>
                    obtain ⟨todo, hrg, htd, hkr⟩ := hrel
                    have RGr := Lib.hid hrg
                    have TD := Lib.hid htd
                    have KR5 := Lib.hid hkr
                    clear hrg htd hkr
                    go_wp2_with (at_next; refine wpList_nextG rfl rfl rfl RGr.out ?_ ?_)
                    · intro hdone
                      have HRS := Lib.hid (P0.out (fun x hx => hdone (.int .u32 (x : Int)) (.int .i64 1) (by rw [litF_get, hx]; rfl) (TD.out x hx)))
                      clear hdone
                      go_wp2_with fail
                      go_ret
                      exact ⟨by rw [HRS.out]; rfl, KR5.out⟩
                    · intro key v w12 left' hkv hrg2 hlt5 hk12 hen
                      obtain ⟨x, z, rfl, rfl, hz⟩ := litF_inv hkv
                      have RG2 := Lib.hid hrg2
                      have K12 := Lib.hid (kept_up KR5.out hk12 (fun b hb => by simp at hb; subst hb; exact RW.out))
                      have HZ := Lib.hid hz
                      have HPV := Lib.hid (PV.out x z hz)
                      clear hkv hrg2 hk12 hz
                      rcases HPV.out with rfl | rfl
                      · go_wp2_with fail
                        go_roundg left'
                        case measure => omega
                        case rel => exact ⟨_, RG2.out, fun y hy => ⟨TD.out y hy, fun e => by
                          injection e with _ e
                          have : y = x := by omega
                          subst this
                          rw [HZ.out] at hy
                          cases hy⟩, K12.out⟩
                      · have HRS := Lib.hid (P37.out x HZ.out)
                        go_wp2_with fail
                        go_ret
                        exact ⟨by rw [HRS.out]; rfl, K12.out⟩
end Go.Proofs.YtdmcdhkkbkgnbaaGreat
