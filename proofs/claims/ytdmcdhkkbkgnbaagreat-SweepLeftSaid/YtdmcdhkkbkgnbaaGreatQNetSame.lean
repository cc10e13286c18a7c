/-
  slices.Equal, slices.EqualFunc of rows that are the same; aig.Same and net.Same of what is the same.
-/
import Derived.Test.YtdmcdhkkbkgnbaaGreatP13
import Derived.Deep.RegionHeld3
namespace Go.Proofs.YtdmcdhkkbkgnbaaGreat
open Go.ChangeShapes Go.WideShapes Go.ChangeAt Go.RowKit
open Go.Maps (Keyed)
open Go.WideMaps
set_option linter.unusedVariables false
set_option linter.unusedSimpArgs false

variable {w w' : World} {p q n n' : Nat} {F F' R R' S : List Nat} {g : Gr} {N : Nt}
set_option maxHeartbeats 800000 in
theorem equal_lits (a b : Option Addr) (c d n : Nat) (l : List Nat) (w : World) (hl : l.length = n) (hn : n ≤ 1000000) (ha : SlN w .u32 a l) (hb : SlN w .u32 b l) :
    Calls Tryz.prog 74 #[.slice a n c, .slice b n d] w fun e w' => e = .returned (.bool true) ∧ ∃ k, w' = w.drewN k := by
  have HL := Lib.hid hl
  have HA := Lib.hid ha
  have HB := Lib.hid hb
  clear hl ha hb
  go_enter Tryz.func74, Tryz.ntmps74
  go_wp2_with fail
  go_loopw [13] (fun i wr => ∃ k m : Nat, k ≤ n ∧ i = .int .i64 k ∧ wr = w.drewN m) (fun i _ => n - (intOf i).toNat)
  case atStart => exact ⟨0, 0, Nat.zero_le _, rfl, rfl⟩
  case round =>
    obtain ⟨k, m, hk, rfl, rfl⟩ := hrel
    by_cases hlt : k < n
    · have hkl : k < l.length := by rw [HL.out]; exact hlt
      obtain ⟨ad, rfl, hcx⟩ := HA.out k hkl
      obtain ⟨ad2, rfl, hcy⟩ := HB.out k hkl
      generalize l[k] = x at *
      go_wp2_with fail
      go_quiet (fail)
      go_wp2_with fail
      go_roundw
      case rel => exact ⟨k + 1, _, by omega, by go_num, rfl⟩
      case measure => simp [intOf]; omega
    · go_wp2_with fail
      go_ret
      exact ⟨rfl, m, rfl⟩
set_option maxHeartbeats 800000 in
theorem equal_ints (a b : Option Addr) (c d n : Nat) (l : List Nat) (w : World) (hl : l.length = n) (hn : n ≤ 1000000) (ha : SlN w .i64 a l) (hb : SlN w .i64 b l) :
    Calls Tryz.prog 121 #[.slice a n c, .slice b n d] w fun e w' => e = .returned (.bool true) ∧ ∃ k, w' = w.drewN k := by
  have HL := Lib.hid hl
  have HA := Lib.hid ha
  have HB := Lib.hid hb
  clear hl ha hb
  go_enter Tryz.func121, Tryz.ntmps121
  go_wp2_with fail
  go_loopw [13] (fun i wr => ∃ k m : Nat, k ≤ n ∧ i = .int .i64 k ∧ wr = w.drewN m) (fun i _ => n - (intOf i).toNat)
  case atStart => exact ⟨0, 0, Nat.zero_le _, rfl, rfl⟩
  case round =>
    obtain ⟨k, m, hk, rfl, rfl⟩ := hrel
    by_cases hlt : k < n
    · have hkl : k < l.length := by rw [HL.out]; exact hlt
      obtain ⟨ad, rfl, hcx⟩ := HA.out k hkl
      obtain ⟨ad2, rfl, hcy⟩ := HB.out k hkl
      generalize l[k] = x at *
      go_wp2_with fail
      go_quiet (fail)
      go_wp2_with fail
      go_roundw
      case rel => exact ⟨k + 1, _, by omega, by go_num, rfl⟩
      case measure => simp [intOf]; omega
    · go_wp2_with fail
      go_ret
      exact ⟨rfl, m, rfl⟩
theorem lit_size2 (w : World) : (sizeOf 61).run Tryz.prog w = .ok 1 w := by kernel_rfl
theorem two_eqT {t : TypeId} (ht : Tryz.prog.underlying t = some (.array 2 61)) (w : World) (y z : Int) : (Op.equalIn 10000 t (.agg #[.int .u32 y, .int .u32 z]) (.agg #[.int .u32 y, .int .u32 z])).run Tryz.prog w = .ok true w := by
  have he := Tryz.underlying61
  have pe : ∀ x : Int, (Op.equalIn 9999 61 (.int .u32 x) (.int .u32 x)).run Tryz.prog w = .ok true w := fun x => by
    rw [run_equalIn_int w 9998 _ .u32 .u32 _ _ he]
    simp
  have p1 : ∀ a b : Int, (part 61 #[.int .u32 a, .int .u32 b] 0).run Tryz.prog w = .ok (.int .u32 a) w := fun a b => by simp [part, isAgg, run_underlying he]
  have p2 : ∀ a b : Int, (part 61 #[.int .u32 a, .int .u32 b] 1).run Tryz.prog w = .ok (.int .u32 b) w := fun a b => by simp [part, isAgg, run_underlying he]
  rw [show (10000 : Nat) = 9999 + 1 from rfl, Op.equalIn]
  simp only [Sem.run_bind, run_underlying ht, Result.andThen_ok, lit_size2, Std.Legacy.Range.forIn_eq_forIn_range', Std.Legacy.Range.size, Nat.sub_zero, Nat.add_sub_cancel, Nat.div_one]
  simp [List.range', p1, p2, pe]
/-- pairs where they lie -/
def SlP (w : World) (a : Option Addr) (l : List (Nat × Nat)) : Prop := ∀ i (h : i < l.length), ∃ b, a = some ⟨b, 0, none⟩ ∧ w.cell? ⟨b, i * 2, none⟩ = some (.int .u32 (l[i].1 : Int)) ∧ w.cell? ⟨b, i * 2 + 1, none⟩ = some (.int .u32 (l[i].2 : Int))
theorem pcells_at (l : List (Nat × Nat)) (i : Nat) (r : Nat × Nat) (h : l[i]? = some r) : (pcells l)[2 * i]? = some (.int .u32 (r.1 : Int)) ∧ (pcells l)[2 * i + 1]? = some (.int .u32 (r.2 : Int)) := by
  induction l generalizing i with
  | nil => simp at h
  | cons q l ih =>
    cases i with
    | zero => simp at h; subst h; simp [pcells]
    | succ i =>
      have := ih i (by simpa using h)
      have e1 : 2 * (i + 1) = (2 * i) + 1 + 1 := by omega
      rw [e1]
      simpa [pcells] using this
theorem pairs_sl {a : Option Addr} {c m : Nat} {l : List (Nat × Nat)} (hl : l.length = m) (h : Own2 w 143 a m c (pcells l)) : SlP w a l := fun i hi => by
  obtain ⟨gb, h1, h2⟩ := own2_form h (by omega)
  have hg := pcells_at l i l[i] (List.getElem?_eq_getElem hi)
  exact ⟨gb, h1, by rw [h2 _ (by omega), ← hg.1, Nat.mul_comm], by rw [h2 _ (by omega), ← hg.2, Nat.mul_comm]⟩
set_option maxHeartbeats 800000 in
theorem equal_pairs (a b : Option Addr) (c d n : Nat) (l : List (Nat × Nat)) (w : World) (hl : l.length = n) (hn : n ≤ 1000000) (ha : SlP w a l) (hb : SlP w b l) :
    Calls Tryz.prog 120 #[.slice a n c, .slice b n d] w fun e w' => e = .returned (.bool true) ∧ ∃ k, w' = w.drewN k := by
  have HL := Lib.hid hl
  have HA := Lib.hid ha
  have HB := Lib.hid hb
  clear hl ha hb
  go_enter Tryz.func120, Tryz.ntmps120
  go_wp2_with fail
  go_loopw [13] (fun i wr => ∃ k m : Nat, k ≤ n ∧ i = .int .i64 k ∧ wr = w.drewN m) (fun i _ => n - (intOf i).toNat)
  case atStart => exact ⟨0, 0, Nat.zero_le _, rfl, rfl⟩
  case round =>
    obtain ⟨k, m, hk, rfl, rfl⟩ := hrel
    by_cases hlt : k < n
    · have hkl : k < l.length := by rw [HL.out]; exact hlt
      obtain ⟨b1, rfl, hcx, hcx2⟩ := HA.out k hkl
      obtain ⟨b2, rfl, hcy, hcy2⟩ := HB.out k hkl
      generalize l[k] = x at *
      obtain ⟨x, y⟩ := x
      simp only at hcx hcx2 hcy hcy2
      have htw := fun W => two_eqT Tryz.underlying143 W (x : Int) (y : Int)
      go_wp2_with fail
      go_quiet (fail)
      go_wp2_with fail
      go_roundw
      case rel => exact ⟨k + 1, _, by omega, by go_num, rfl⟩
      case measure => simp [intOf]; omega
    · go_wp2_with fail
      go_ret
      exact ⟨rfl, m, rfl⟩
set_option maxHeartbeats 1600000 in
theorem equal_regs (a b : Option Addr) (c d n : Nat) (l : List Rg) (w : World) (hl : l.length = n) (hn : n ≤ 1000000) (ha : SlR w a l) (hb : SlR w b l) :
    Calls Tryz.prog 77 #[.slice a n c, .slice b n d] w fun e w' => e = .returned (.bool true) ∧ ∃ k, w' = w.drewN k := by
  have HL := Lib.hid hl
  have HA := Lib.hid ha
  have HB := Lib.hid hb
  clear hl ha hb
  go_enter Tryz.func77, Tryz.ntmps77
  go_wp2_with fail
  go_loopw [13] (fun i wr => ∃ k m : Nat, k ≤ n ∧ i = .int .i64 k ∧ wr = w.drewN m) (fun i _ => n - (intOf i).toNat)
  case atStart => exact ⟨0, 0, Nat.zero_le _, rfl, rfl⟩
  case round =>
    obtain ⟨k, m, hk, rfl, rfl⟩ := hrel
    by_cases hlt : k < n
    · have hkl : k < l.length := by rw [HL.out]; exact hlt
      obtain ⟨b1, rfl, x0, x1, x2, x3⟩ := HA.out k hkl
      obtain ⟨b2, rfl, y0, y1, y2, y3⟩ := HB.out k hkl
      generalize l[k] = x at *
      obtain ⟨x, y, z, bi⟩ := x
      simp only at x0 x1 x2 x3 y0 y1 y2 y3
      go_wp2_with fail
      go_quiet (fail)
      go_wp2_with fail
      go_roundw
      case rel => exact ⟨k + 1, _, by omega, by go_num, rfl⟩
      case measure => simp [intOf]; omega
    · go_wp2_with fail
      go_ret
      exact ⟨rfl, m, rfl⟩
theorem same1_c (nm : ByteArray) (a b : Option Addr) (c d n : Nat) (l : List Nat) (w : World) (hl : l.length = n) (hn : n ≤ 1000000) (ha : SlN w .u32 a l) (hb : SlN w .u32 b l) :
    Calls Tryz.prog 73 #[.agg #[.string nm, .slice a n c], .agg #[.string nm, .slice b n d]] w (BoolIs true w) := by
  have HE := Lib.hid (fun (W : World) (hk : Kept [] w W) => equal_lits a b c d n l W hl hn (ha.kept0 hk) (hb.kept0 hk))
  clear hl ha hb
  go_enter Tryz.func73, Tryz.ntmps73
  go_wp2_with fail
  refine (HE.out _ (((Kept.refl [] w).alloc _).alloc _)).mono ?_
  rintro e w1 ⟨rfl, m, hm⟩
  have K := Lib.hid (show Kept [] w w1 from by rw [hm]; exact (((Kept.refl [] w).alloc _).alloc _).drewN _)
  clear hm
  go_wp2_with fail
  go_ret
  exact ⟨rfl, K.out⟩
set_option maxHeartbeats 1600000 in
set_option maxRecDepth 100000 in
theorem equal_buses (a b : Option Addr) (c d n : Nat) (r1 r2 : List BR) (l : List Bus) (w : World) (hl : l.length = n) (hn : n ≤ 1000000) (h1 : r1.map (·.b) = l) (h2 : r2.map (·.b) = l) (ha : SlB w a r1) (hb : SlB w b r2)
    (hr1 : ∀ r ∈ r1, SlN w .u32 r.a r.b.lits) (hr2 : ∀ r ∈ r2, SlN w .u32 r.a r.b.lits) (hz : ∀ x ∈ l, x.lits.length ≤ 1000000) :
    Calls Tryz.prog 76 #[.slice a n c, .slice b n d, .func (.func 73) #[] #[]] w (BoolIs true w) := by
  have HL1 := Lib.hid (show r1.length = n from by rw [← hl, ← h1]; simp)
  have HL2 := Lib.hid (show r2.length = n from by rw [← hl, ← h2]; simp)
  have HE := Lib.hid (fun k (h : k < r1.length) (h' : k < r2.length) => show r1[k].b = r2[k].b from by
    have e1 : (r1.map (·.b))[k]'(by simpa using h) = (r2.map (·.b))[k]'(by simpa using h') := by simp only [h1, h2]
    simpa using e1)
  have HZ := Lib.hid (fun k (h : k < r1.length) => show r1[k].b.lits.length ≤ 1000000 from hz _ (by rw [← h1]; exact List.mem_map_of_mem (List.getElem_mem h)))
  have HA := Lib.hid ha
  have HB := Lib.hid hb
  have HR1 := Lib.hid hr1
  have HR2 := Lib.hid hr2
  clear hl h1 h2 ha hb hr1 hr2 hz
  go_enter Tryz.func76, Tryz.ntmps76
  go_wp2_with fail
  go_loopw [17] (fun i wr => ∃ k : Nat, k ≤ n ∧ i = .int .i64 k ∧ Kept [] w wr) (fun i _ => n - (intOf i).toNat)
  case atStart => exact ⟨0, Nat.zero_le _, rfl, .refl _ _⟩
  case round =>
    obtain ⟨k, hk, rfl, hkr⟩ := hrel
    have KR := Lib.hid hkr
    clear hkr
    by_cases hlt : k < n
    · have hk1 : k < r1.length := by rw [HL1.out]; exact hlt
      have hk2 : k < r2.length := by rw [HL2.out]; exact hlt
      obtain ⟨b1, rfl, x0, x1⟩ := (HA.out.kept0 KR.out) k hk1
      obtain ⟨b2, rfl, y0, y1⟩ := (HB.out.kept0 KR.out) k hk2
      have s1 := (HR1.out _ (List.getElem_mem hk1)).kept0 KR.out
      have s2 := (HR2.out _ (List.getElem_mem hk2)).kept0 KR.out
      have he := HE.out k hk1 hk2
      have hzz := HZ.out k hk1
      rw [← he] at y0 y1 s2
      obtain ⟨ln, hln⟩ : ∃ ln, ln = r1[k].b.lits.length := ⟨_, rfl⟩
      rw [← hln] at x1 y1 hzz
      have HC := Lib.hid (fun (W : World) (hk' : Kept [] wr W) => same1_c r1[k].b.name r1[k].a r2[k].a r1[k].c r2[k].c ln r1[k].b.lits W hln.symm hzz (s1.kept0 hk') (s2.kept0 hk'))
      clear s1 s2 he hln
      generalize r1[k].b.name = nm at *
      generalize r1[k].a = a1 at *
      generalize r2[k].a = a2 at *
      generalize r1[k].c = c1 at *
      generalize r2[k].c = c2 at *
      have y0' := fun o => cell_alloc y0 o
      have y1' := fun o => cell_alloc y1 o
      go_wp2_with fail
      refine (HC.out _ (((Kept.refl [] wr).alloc _).alloc _)).mono ?_
      rintro e w5 ⟨rfl, hk5⟩
      have K5 := Lib.hid (KR.out.trans ((((Kept.refl [] wr).alloc _).alloc _).trans hk5))
      clear hk5 x0 x1 y0 y1 y0' y1'
      go_wp2_with fail
      go_roundw
      case rel => exact ⟨k + 1, by omega, by go_num, K5.out⟩
      case measure => simp [intOf]; omega
    · go_wp2_with fail
      go_ret
      exact ⟨rfl, KR.out⟩
set_option maxHeartbeats 1600000 in
set_option maxRecDepth 100000 in
theorem aig_same (h1 : GraphAt w p F g) (h2 : GraphAt w q F' g) (hm : g.nodes.length ≤ 1000000) : Calls Tryz.prog 75 #[.pointer (some ⟨p, 0, none⟩), .pointer (some ⟨q, 0, none⟩)] w fun e w' => e = .returned (.bool true) ∧ ∃ k, w' = w.drewN k := by
  have hile : (ins g.nodes).length ≤ g.nodes.length := insFrom_length 0 g.nodes
  obtain ⟨an, cn, ai, ci, m, f, rfl, hc⟩ := h1
  obtain ⟨an', cn', ai', ci', m', f', rfl, hd⟩ := h2
  have HNP := Lib.hid (aig_none p m w hc.c4)
  have HNQ := Lib.hid (aig_none q m' w hd.c4)
  have c0 := hc.c0
  have c1 := hc.c1
  have c2 := hc.c2
  have c3 := hc.c3
  have d0 := hd.c0
  have d1 := hd.c1
  have d2 := hd.c2
  have d3 := hd.c3
  obtain ⟨nN, hnN⟩ : ∃ k, k = g.nodes.length := ⟨_, rfl⟩
  obtain ⟨nI, hnI⟩ : ∃ k, k = (ins g.nodes).length := ⟨_, rfl⟩
  rw [← hnN] at c2 d2 hm
  rw [← hnI] at c3 d3
  have HP := Lib.hid (fun k => equal_pairs an an' cn cn' nN g.nodes (w.drewN k) hnN.symm hm (pairs_sl (w := w) hnN.symm (by rw [hnN]; exact hc.nodes)) (pairs_sl (w := w) hnN.symm (by rw [hnN]; exact hd.nodes)))
  have HI := Lib.hid (fun k => equal_ints ai ai' ci ci' nI (ins g.nodes) (w.drewN k) hnI.symm (by omega) (hc.inputs.sln.drewN k) (hd.inputs.sln.drewN k))
  clear hc hd hnN hnI hile
  go_enter Tryz.func75, Tryz.ntmps75
  go_wp2_with fail
  refine HNP.out.mono ?_
  rintro e w' ⟨rfl, rfl⟩
  go_wp2_with fail
  refine HNQ.out.mono ?_
  rintro e w' ⟨rfl, rfl⟩
  go_wp2_with fail
  go_quiet (first
    | (go_at_call 120; with_reducible exact q_drew (HP.out _))
    | (go_at_call 121; with_reducible exact q_drew (HI.out _)))
  go_wp2
  go_ret
  exact ⟨rfl, _, rfl⟩
end Go.Proofs.YtdmcdhkkbkgnbaaGreat
