/-
  Package sweep: parts of rows; a register set where it lies.
-/
import Derived.Test.YtdmcdhkkbkgnbaaGreatP31
namespace Go.Proofs.YtdmcdhkkbkgnbaaGreat
open Go.ChangeShapes Go.WideShapes Go.ChangeAt Go.RowKit
open Go.Maps (Keyed)
open Go.WideMaps
set_option linter.unusedVariables false
set_option linter.unusedSimpArgs false

section
variable {w w' : World} {p n gr : Nat} {F R S : List Nat} {g : Gr} {N : Nt}
def SetPostK (r : Nt × Nat) (w : World) (n : Nat) (F R : List Nat) (e : Ending) (w' : World) : Prop :=
  ∃ F' R', e = .returned (.int .i64 (r.2 : Nat)) ∧ NetAt w' n F' R' r.1 ∧ NStep w w' F R F' R' ∧ ∀ v, w.cell? ⟨n, 3, none⟩ = some v → w'.cell? ⟨n, 3, none⟩ = some v
set_option maxHeartbeats 3200000 in
set_option maxRecDepth 100000 in
theorem setreg_k (h : NetAt w n F R N) (hok : N.g.nodes.length ≤ 100000 ∧ N.regs.length ≤ 10000) (q d en : Nat) (hq : q < 4294967296) (hd : d < 4294967296) (he : en < 4294967296) {k : Nat} (hf : findR N.regs q = some k) (hg : gone N.g [d, en] = false) :
    Calls Tryz.prog 93 #[.pointer (some ⟨n, 0, none⟩), .int .u32 q, .int .u32 d, .int .u32 en] w (SetPostK (setReg N q d en) w n F R) := by
  have HNO := Lib.hid (net_none (h.kept0 ((Kept.refl [] w).alloc (.cells #[.int .u32 (q : Int)] 61))) (show N.g.nodes.length ≤ 1000000 by omega))
  have HTH := Lib.hid (fun (W : World) (hk : Kept [] w W) => there_c (h.kept0 (hk.alloc (.cells #[.int .u32 (d : Int), .int .u32 (en : Int)] 61))) (show N.g.nodes.length ≤ 200000 by omega) (some ⟨W.heap.size, 0, none⟩) 2 2 [d, en] rfl (by omega) (sln_new W .u32 [d, en] 61) (by intro x hx; simp at hx; omega))
  have HNA := Lib.hid h
  obtain ⟨p, G, ia, ic, ra, rc, oa, oc, ri, ro, rfl, rfl, hc⟩ := h
  have HC := Lib.hid hc
  have lenR := hok.2
  have HIX := Lib.hid (index_reg (w := w.alloc (.cells #[.int .u32 (q : Int)] 61)) q w.heap.size ra rc N.regs.length N.regs rfl (by omega) ((regs_sl rfl hc.rb).kept0 ((Kept.refl [] w).alloc _)) (by simp [World.cell?_alloc_new]))
  obtain ⟨nR, hnR⟩ : ∃ k, k = N.regs.length := ⟨_, rfl⟩
  have HNR := Lib.hid hnR
  have c3 : (w.alloc (.cells #[.int .u32 (q : Int)] 61)).cell? ⟨n, 3, none⟩ = some (.slice ra N.regs.length rc) := cell_alloc hc.c3 _
  rw [← hnR] at lenR c3 HIX
  clear hc hok hnR
  have HIX2 := Lib.hid (show Calls Tryz.prog 107 #[.slice ra nR rc, .func (.func 127) #[] #[.pointer (some ⟨w.heap.size, 0, none⟩)]] (w.alloc (.cells #[.int .u32 (q : Int)] 61)) (IntIs (k : Int) (w.alloc (.cells #[.int .u32 (q : Int)] 61))) from by
    have h := HIX.out
    rw [hf] at h
    exact h)
  clear HIX
  have hkR : k < nR := by
    have := (List.findIdx?_eq_some_iff_getElem.1 hf).1
    rw [HNR.out]; exact this
  rw [hg] at HTH
  rw [show setReg N q d en = ({ N with regs := putR N.regs k d en }, 0) from by unfold setReg; rw [hf]; simp [hg]]
  clear hg hf
  go_enter Tryz.func93, Tryz.ntmps93; (try simp only [List.append])
  go_wp2_with fail
  refine HNO.out.mono ?_
  rintro e w' ⟨rfl, rfl⟩
  go_wp2_with fail
  refine HIX2.out.mono ?_
  rintro e w2 ⟨rfl, hk2⟩
  have K2 := Lib.hid (((Kept.refl [] w).alloc (.cells #[.int .u32 (q : Int)] 61)).trans hk2)
  clear hk2 c3
  go_wp2_with fail
  refine (HTH.out _ K2.out).mono ?_
  rintro e w3 ⟨rfl, hk3⟩
  have K3 := Lib.hid ((K2.out.alloc _).trans hk3)
  clear hk3
  have HC3 := Lib.hid (HC.out.kept K3.out (by simp) (by simp))
  have c3 : w3.cell? ⟨n, 3, none⟩ = some (.slice ra nR rc) := by rw [HNR.out]; exact HC3.out.c3
  obtain ⟨gr, rfl, e0, e1, e2, e3⟩ := regs_sl (l := N.regs) rfl HC3.out.rb k (by rw [← HNR.out]; exact hkR)
  have hrb := HC3.out.rb
  have f1 : w3.frozen? ⟨gr, k * 4 + 1, none⟩ = false := World.ownsRow.frozenAt hrb _
  have f2 : w3.frozen? ⟨gr, k * 4 + 2, none⟩ = false := World.ownsRow.frozenAt hrb _
  clear hrb
  have hne : n ≠ gr := fun h => HC3.out.apart.2.2.1 (by simp [ft, h])
  have hkI : (k : Int) < (nR : Int) := by omega
  have hk0 : (0 : Int) ≤ (k : Int) := by omega
  go_wp2_with fail
  go_region_held3 (fun w' => w'.cell? ⟨n, 3, none⟩ = some (.slice (some ⟨gr, 0, none⟩) nR rc)) (first | exact cell_far hne c3 | exact cell_far hne (cell_far hne c3) | go_keep) (fail)
  go_wp2
  go_ret
  have s1 := set_regs1 HC3.out (d := d) (en := en) (by rw [← HNR.out]; exact hkR)
  have hF : ∀ b ∈ [gr], b ∈ n :: (G ++ (ft ia ++ (ft (some (⟨gr, 0, none⟩ : Addr)) ++ ft oa))) := by intro b hb; simp at hb; subst hb; simp [ft]
  refine ⟨_, _, rfl, ⟨p, G, ia, ic, some ⟨gr, 0, none⟩, rc, oa, oc, ri, ro, rfl, rfl, s1.1.kept ((Kept.refl [] _).drew) (by simp) (by simp)⟩, ⟨⟨((K3.out.more (by simp)).trans (s1.2.more hF)).drew, fun b hb => .inl hb⟩, fun b hb => .inl hb⟩, fun v hv => ?_⟩
  rw [HC.out.c3] at hv
  injection hv with hv
  subst hv
  have h := (s1.1.kept ((Kept.refl [] _).drew) (by simp) (by simp)).c3
  rw [show ({ N with regs := putR N.regs k d en } : Nt).regs.length = N.regs.length from putR_length _ _ _ _] at h
  exact h
end
/-! parts of rows of literals -/
theorem add_add2 (a : Addr) (m n : Nat) : (a.add m).add n = a.add (m + n) := by
  unfold Addr.add
  obtain ⟨b, o, s⟩ := a
  by_cases hm : m = 0 <;> by_cases hn : n = 0 <;> simp [hm, hn, Nat.add_assoc]
theorem elem_lits : Tryz.prog.elem 58 = 61 := by kernel_rfl
theorem size_lit (V : World) : (sizeOf 61).run Tryz.prog V = .ok 1 V := by kernel_rfl
theorem slice_head (w : World) (a : Option Addr) (n c i : Nat) (l : List Nat) (hi : i ≤ l.length) (hn : n = l.length) (hc : n ≤ c) (hs : SlN w .u32 a l) :
    ∃ a' c', (∀ V : World, (Instr.sliceAt 58 (.slice a n c) none (some (.int .i64 (i : Int))) none).run Tryz.prog V = .ok (.slice a' i c') V) ∧ SlN w .u32 a' (l.take i) ∧ i ≤ c' ∧ ∀ b ∈ ft a', b ∈ ft a := by
  have hz : ∀ V, (Instr.sliceAt 58 (.slice a n c) none (some (.int .i64 (i : Int))) none).run Tryz.prog V = .ok (sliced a 0 i c 1) V := fun V => by
    rw [run_sliceAt_slice (P := Tryz.prog) V _ _ _ _ _ (by rw [elem_lits]; exact Tryz.underlying58), run_slice_h (P := Tryz.prog) V _ a n c (by rw [elem_lits]; exact Tryz.underlying58) .i64 (i : Int) (by omega) (by omega), elem_lits, size_lit]
    simp only [Result.andThen_ok, Int.toNat_natCast]
  unfold sliced at hz
  refine ⟨_, _, hz, fun k hk => ?_, by omega, fun b hb => ?_⟩
  · rw [List.length_take] at hk
    obtain ⟨ad, rfl, h2⟩ := hs k (by omega)
    split
    · exact ⟨ad, rfl, by rw [h2, List.getElem_take]⟩
    · refine ⟨ad.add (0 * 1), rfl, ?_⟩
      rw [add_add2, Nat.zero_mul, Nat.zero_add, h2, List.getElem_take]
  · split at hb
    · exact hb
    · cases a with
      | none => exact hb
      | some ad =>
        simp only [Option.map_some, ft, Option.toList_some, List.mem_singleton] at hb ⊢
        rw [hb, block_add]
theorem slice_tail (w : World) (a : Option Addr) (n c i : Nat) (l : List Nat) (hi : i ≤ l.length) (hn : n = l.length) (hc : n ≤ c) (hs : SlN w .u32 a l) :
    ∃ a' c', (∀ V : World, (Instr.sliceAt 58 (.slice a n c) (some (.int .i64 (i : Int))) none none).run Tryz.prog V = .ok (.slice a' (n - i) c') V) ∧ SlN w .u32 a' (l.drop i) ∧ n - i ≤ c' ∧ ∀ b ∈ ft a', b ∈ ft a := by
  have hz : ∀ V, (Instr.sliceAt 58 (.slice a n c) (some (.int .i64 (i : Int))) none none).run Tryz.prog V = .ok (sliced a i n c 1) V := fun V => by
    rw [run_sliceAt_slice (P := Tryz.prog) V _ _ _ _ _ (by rw [elem_lits]; exact Tryz.underlying58), run_slice_l (P := Tryz.prog) V _ a n c (by rw [elem_lits]; exact Tryz.underlying58) .i64 (i : Int) (by omega) (by omega), elem_lits, size_lit]
    simp only [Result.andThen_ok, Int.toNat_natCast]
  unfold sliced at hz
  refine ⟨_, _, hz, fun k hk => ?_, by omega, fun b hb => ?_⟩
  · rw [List.length_drop] at hk
    obtain ⟨ad, rfl, h2⟩ := hs (i + k) (by omega)
    rw [if_neg (by omega)]
    refine ⟨ad.add (i * 1), rfl, ?_⟩
    rw [add_add2, Nat.mul_one, h2, List.getElem_drop]
  · split at hb
    · exact hb
    · cases a with
      | none => exact hb
      | some ad =>
        simp only [Option.map_some, ft, Option.toList_some, List.mem_singleton] at hb ⊢
        rw [hb, block_add]
/-- a row of literals is none of what a netlist writes -/
theorem net_lits {w : World} {n : Nat} {F R : List Nat} {N : Nt} (h : NetAt w n F R N) {a : Option Addr} {m c : Nat} {xs : List Value} (ho : Own w 61 a m c xs) : ∀ b ∈ ft a, b ∉ F := by
  obtain ⟨p, G, ia, ic, ra, rc, oa, oc, ri, ro, rfl, rfl, hc⟩ := h
  intro b hb hx
  simp only [List.mem_cons, List.mem_append] at hx
  rcases hx with rfl | hx | hx | hx | hx
  · exact blk_apart hc.blk ho (by decide) hb
  · exact hc.gr.apart ho (by decide) (by decide) (by decide) b hb hx
  · exact owns_apart ho hc.ib.own (by decide) b hb hx
  · exact owns_apart ho hc.rb (by decide) b hb hx
  · exact owns_apart ho hc.ob.own (by decide) b hb hx
end Go.Proofs.YtdmcdhkkbkgnbaaGreat
