/-
  Package sweep: the copy (the sweeper's second step).
  Package sweep: parts of rows; a register set where it lies.
-/
import Derived.Test.YtdmcdhkkbkgnbaaGreatP28
namespace Go.Proofs.YtdmcdhkkbkgnbaaGreat
open Go.ChangeShapes Go.WideShapes Go.ChangeAt Go.RowKit
open Go.Maps (Keyed)
open Go.WideMaps
set_option linter.unusedVariables false
set_option linter.unusedSimpArgs false

section
variable {w w' : World} {p n gr : Nat} {F R S : List Nat} {g : Gr} {N : Nt}
def SetPostK (r : Nt × Nat) (w : World) (n : Nat) (F R : List Nat) (e : Ending) (w' : World) : Prop :=
  ∃ F' R', e = .returned (.int .i64 (r.2 : Nat)) ∧ NetAt w' n F' R' r.1 ∧ NStep w w' F R F' R' ∧ ∀ v, w.cell? ⟨n, 3, none⟩ = some v → w'.cell? ⟨n, 3, none⟩ = some v
set_option maxHeartbeats 3200000 in
set_option maxRecDepth 100000 in
theorem setreg_k (h : NetAt w n F R N) (hok : N.g.nodes.length ≤ 100000 ∧ N.regs.length ≤ 10000) (q d en : Nat) (hq : q < 4294967296) (hd : d < 4294967296) (he : en < 4294967296) {k : Nat} (hf : findR N.regs q = some k) (hg : gone N.g [d, en] = false) :
    Calls Tryz.prog 93 #[.pointer (some ⟨n, 0, none⟩), .int .u32 q, .int .u32 d, .int .u32 en] w (SetPostK (setReg N q d en) w n F R) := by
  have HNO := Lib.hid (net_none (h.kept0 ((Kept.refl [] w).alloc (.cells #[.int .u32 (q : Int)] 61))) (show N.g.nodes.length ≤ 1000000 by omega))
  have HTH := Lib.hid (fun (W : World) (hk : Kept [] w W) => there_c (h.kept0 (hk.alloc (.cells #[.int .u32 (d : Int), .int .u32 (en : Int)] 61))) (show N.g.nodes.length ≤ 200000 by omega) (some ⟨W.heap.size, 0, none⟩) 2 2 [d, en] rfl (by omega) (sln_new W .u32 [d, en] 61) (by intro x hx; simp at hx; omega))
  have HNA := Lib.hid h
  obtain ⟨p, G, ia, ic, ra, rc, oa, oc, ri, ro, rfl, rfl, hc⟩ := h
  have HC := Lib.hid hc
  have lenR := hok.2
  have HIX := Lib.hid (index_reg (w := w.alloc (.cells #[.int .u32 (q : Int)] 61)) q w.heap.size ra rc N.regs.length N.regs rfl (by omega) ((regs_sl rfl hc.rb).kept0 ((Kept.refl [] w).alloc _)) (by simp [World.cell?_alloc_new]))
  obtain ⟨nR, hnR⟩ : ∃ k, k = N.regs.length := ⟨_, rfl⟩
  have HNR := Lib.hid hnR
  have c3 : (w.alloc (.cells #[.int .u32 (q : Int)] 61)).cell? ⟨n, 3, none⟩ = some (.slice ra N.regs.length rc) := cell_alloc hc.c3 _
  rw [← hnR] at lenR c3 HIX
  clear hc hok hnR
  have HIX2 := Lib.hid (show Calls Tryz.prog 107 #[.slice ra nR rc, .func (.func 127) #[] #[.pointer (some ⟨w.heap.size, 0, none⟩)]] (w.alloc (.cells #[.int .u32 (q : Int)] 61)) (IntIs (k : Int) (w.alloc (.cells #[.int .u32 (q : Int)] 61))) from by
    have h := HIX.out
    rw [hf] at h
    exact h)
  clear HIX
  have hkR : k < nR := by
    have := (List.findIdx?_eq_some_iff_getElem.1 hf).1
    rw [HNR.out]; exact this
  rw [hg] at HTH
  rw [show setReg N q d en = ({ N with regs := putR N.regs k d en }, 0) from by unfold setReg; rw [hf]; simp [hg]]
  clear hg hf
  go_enter Tryz.func93, Tryz.ntmps93; (try simp only [List.append])
  go_wp2_with fail
  refine HNO.out.mono ?_
  rintro e w' ⟨rfl, rfl⟩
  go_wp2_with fail
  refine HIX2.out.mono ?_
  rintro e w2 ⟨rfl, hk2⟩
  have K2 := Lib.hid (((Kept.refl [] w).alloc (.cells #[.int .u32 (q : Int)] 61)).trans hk2)
  clear hk2 c3
  go_wp2_with fail
  refine (HTH.out _ K2.out).mono ?_
  rintro e w3 ⟨rfl, hk3⟩
  have K3 := Lib.hid ((K2.out.alloc _).trans hk3)
  clear hk3
  have HC3 := Lib.hid (HC.out.kept K3.out (by simp) (by simp))
  have c3 : w3.cell? ⟨n, 3, none⟩ = some (.slice ra nR rc) := by rw [HNR.out]; exact HC3.out.c3
  obtain ⟨gr, rfl, e0, e1, e2, e3⟩ := regs_sl (l := N.regs) rfl HC3.out.rb k (by rw [← HNR.out]; exact hkR)
  have hrb := HC3.out.rb
  have f1 : w3.frozen? ⟨gr, k * 4 + 1, none⟩ = false := World.ownsRow.frozenAt hrb _
  have f2 : w3.frozen? ⟨gr, k * 4 + 2, none⟩ = false := World.ownsRow.frozenAt hrb _
  clear hrb
  have hne : n ≠ gr := fun h => HC3.out.apart.2.2.1 (by simp [ft, h])
  have hkI : (k : Int) < (nR : Int) := by omega
  have hk0 : (0 : Int) ≤ (k : Int) := by omega
  go_wp2_with fail
  go_region_held3 (fun w' => w'.cell? ⟨n, 3, none⟩ = some (.slice (some ⟨gr, 0, none⟩) nR rc)) (first | exact cell_far hne c3 | exact cell_far hne (cell_far hne c3) | go_keep) (fail)
  go_wp2
  go_ret
  have s1 := set_regs1 HC3.out (d := d) (en := en) (by rw [← HNR.out]; exact hkR)
  have hF : ∀ b ∈ [gr], b ∈ n :: (G ++ (ft ia ++ (ft (some (⟨gr, 0, none⟩ : Addr)) ++ ft oa))) := by intro b hb; simp at hb; subst hb; simp [ft]
  refine ⟨_, _, rfl, ⟨p, G, ia, ic, some ⟨gr, 0, none⟩, rc, oa, oc, ri, ro, rfl, rfl, s1.1.kept ((Kept.refl [] _).drew) (by simp) (by simp)⟩, ⟨⟨((K3.out.more (by simp)).trans (s1.2.more hF)).drew, fun b hb => .inl hb⟩, fun b hb => .inl hb⟩, fun v hv => ?_⟩
  rw [HC.out.c3] at hv
  injection hv with hv
  subst hv
  have h := (s1.1.kept ((Kept.refl [] _).drew) (by simp) (by simp)).c3
  rw [show ({ N with regs := putR N.regs k d en } : Nt).regs.length = N.regs.length from putR_length _ _ _ _] at h
  exact h
end
/-! parts of rows of literals -/
theorem add_add2 (a : Addr) (m n : Nat) : (a.add m).add n = a.add (m + n) := by
  unfold Addr.add
  obtain ⟨b, o, s⟩ := a
  by_cases hm : m = 0 <;> by_cases hn : n = 0 <;> simp [hm, hn, Nat.add_assoc]
theorem elem_lits : Tryz.prog.elem 58 = 61 := by kernel_rfl
theorem size_lit (V : World) : (sizeOf 61).run Tryz.prog V = .ok 1 V := by kernel_rfl
theorem slice_head (w : World) (a : Option Addr) (n c i : Nat) (l : List Nat) (hi : i ≤ l.length) (hn : n = l.length) (hc : n ≤ c) (hs : SlN w .u32 a l) :
    ∃ a' c', (∀ V : World, (Instr.sliceAt 58 (.slice a n c) none (some (.int .i64 (i : Int))) none).run Tryz.prog V = .ok (.slice a' i c') V) ∧ SlN w .u32 a' (l.take i) ∧ i ≤ c' ∧ ∀ b ∈ ft a', b ∈ ft a := by
  have hz : ∀ V, (Instr.sliceAt 58 (.slice a n c) none (some (.int .i64 (i : Int))) none).run Tryz.prog V = .ok (sliced a 0 i c 1) V := fun V => by
    rw [run_sliceAt_slice (P := Tryz.prog) V _ _ _ _ _ (by rw [elem_lits]; exact Tryz.underlying58), run_slice_h (P := Tryz.prog) V _ a n c (by rw [elem_lits]; exact Tryz.underlying58) .i64 (i : Int) (by omega) (by omega), elem_lits, size_lit]
    simp only [Result.andThen_ok, Int.toNat_natCast]
  unfold sliced at hz
  refine ⟨_, _, hz, fun k hk => ?_, by omega, fun b hb => ?_⟩
  · rw [List.length_take] at hk
    obtain ⟨ad, rfl, h2⟩ := hs k (by omega)
    split
    · exact ⟨ad, rfl, by rw [h2, List.getElem_take]⟩
    · refine ⟨ad.add (0 * 1), rfl, ?_⟩
      rw [add_add2, Nat.zero_mul, Nat.zero_add, h2, List.getElem_take]
  · split at hb
    · exact hb
    · cases a with
      | none => exact hb
      | some ad =>
        simp only [Option.map_some, ft, Option.toList_some, List.mem_singleton] at hb ⊢
        rw [hb, block_add]
theorem slice_tail (w : World) (a : Option Addr) (n c i : Nat) (l : List Nat) (hi : i ≤ l.length) (hn : n = l.length) (hc : n ≤ c) (hs : SlN w .u32 a l) :
    ∃ a' c', (∀ V : World, (Instr.sliceAt 58 (.slice a n c) (some (.int .i64 (i : Int))) none none).run Tryz.prog V = .ok (.slice a' (n - i) c') V) ∧ SlN w .u32 a' (l.drop i) ∧ n - i ≤ c' ∧ ∀ b ∈ ft a', b ∈ ft a := by
  have hz : ∀ V, (Instr.sliceAt 58 (.slice a n c) (some (.int .i64 (i : Int))) none none).run Tryz.prog V = .ok (sliced a i n c 1) V := fun V => by
    rw [run_sliceAt_slice (P := Tryz.prog) V _ _ _ _ _ (by rw [elem_lits]; exact Tryz.underlying58), run_slice_l (P := Tryz.prog) V _ a n c (by rw [elem_lits]; exact Tryz.underlying58) .i64 (i : Int) (by omega) (by omega), elem_lits, size_lit]
    simp only [Result.andThen_ok, Int.toNat_natCast]
  unfold sliced at hz
  refine ⟨_, _, hz, fun k hk => ?_, by omega, fun b hb => ?_⟩
  · rw [List.length_drop] at hk
    obtain ⟨ad, rfl, h2⟩ := hs (i + k) (by omega)
    rw [if_neg (by omega)]
    refine ⟨ad.add (i * 1), rfl, ?_⟩
    rw [add_add2, Nat.mul_one, h2, List.getElem_drop]
  · split at hb
    · exact hb
    · cases a with
      | none => exact hb
      | some ad =>
        simp only [Option.map_some, ft, Option.toList_some, List.mem_singleton] at hb ⊢
        rw [hb, block_add]
/-- a row of literals is none of what a netlist writes -/
theorem net_lits {w : World} {n : Nat} {F R : List Nat} {N : Nt} (h : NetAt w n F R N) {a : Option Addr} {m c : Nat} {xs : List Value} (ho : Own w 61 a m c xs) : ∀ b ∈ ft a, b ∉ F := by
  obtain ⟨p, G, ia, ic, ra, rc, oa, oc, ri, ro, rfl, rfl, hc⟩ := h
  intro b hb hx
  simp only [List.mem_cons, List.mem_append] at hx
  rcases hx with rfl | hx | hx | hx | hx
  · exact blk_apart hc.blk ho (by decide) hb
  · exact hc.gr.apart ho (by decide) (by decide) (by decide) b hb hx
  · exact owns_apart ho hc.ib.own (by decide) b hb hx
  · exact owns_apart ho hc.rb (by decide) b hb hx
  · exact owns_apart ho hc.ob.own (by decide) b hb hx
end Go.Proofs.YtdmcdhkkbkgnbaaGreat

namespace Go.Proofs.YtdmcdhkkbkgnbaaGreat
open Go.ChangeShapes Go.WideShapes Go.ChangeAt Go.RowKit
open Go.Maps (Keyed)
open Go.WideMaps
set_option linter.unusedVariables false
set_option linter.unusedSimpArgs false

variable {w w' W w0 : World} {p n n' k m s mp gd fb : Nat} {fcs : Array Value} {F R S F' R' F'' R'' : List Nat} {g : Gr} {N M M' : Nt} {φ ψ : Nat → Option Nat} {wl : List Nat}
theorem own_cap {w : World} {e : TypeId} {a : Option Addr} {n cap : Nat} {xs : List Value} (h : Own w e a n cap xs) : n ≤ cap := by
  rcases h.2 with ⟨hv, h0⟩ | ⟨g', cap', cur, hv, hb, hg, hle, rest⟩
  · omega
  · injection hv with _ _ hc
    subst hc
    exact hle
theorem keep_4f {w w' : World} {F : List Nat} {a0 a1 a2 a3 : Addr} {v0 v1 v2 v3 : Value} (hk : Kept F w w') (h0 : w.cell? a0 = some v0) (h1 : w.cell? a1 = some v1) (h2 : w.cell? a2 = some v2) (h3 : w.cell? a3 = some v3) (n0 : a0.block ∉ F) (n1 : a1.block ∉ F) (n2 : a2.block ∉ F) (n3 : a3.block ∉ F) :
    w'.cell? a0 = some v0 ∧ w'.cell? a1 = some v1 ∧ w'.cell? a2 = some v2 ∧ w'.cell? a3 = some v3 := ⟨hk.cell h0 n0, hk.cell h1 n1, hk.cell h2 n2, hk.cell h3 n3⟩
def RestPost (w0 : World) (s n n' mp gd fb : Nat) (fcs : Array Value) (N : Nt) (w : World) (e : Ending) (w' : World) : Prop :=
  ∃ F' R', e = .returned (.int .i64 0) ∧ SwpAt w0 w' s n n' mp gd fb fcs F' R' N (onceN N) (regM N N.regs.length) (wantedN N)
theorem keep_5g {w w' : World} {F : List Nat} {s n' n : Nat} {v0 v1 v2 v3 v4 : Value} (hk : Kept F w w') (h0 : w.cell? ⟨s, 0, none⟩ = some v0) (h1 : w.cell? ⟨s, 1, none⟩ = some v1) (h2 : w.cell? ⟨s, 4, none⟩ = some v2) (h3 : w.cell? ⟨n', 0, none⟩ = some v3) (h4 : w.cell? ⟨n, 0, none⟩ = some v4) (n0 : s ∉ F) (n1 : n' ∉ F) (n2 : n ∉ F) :
    w'.cell? ⟨s, 0, none⟩ = some v0 ∧ w'.cell? ⟨s, 1, none⟩ = some v1 ∧ w'.cell? ⟨s, 4, none⟩ = some v2 ∧ w'.cell? ⟨n', 0, none⟩ = some v3 ∧ w'.cell? ⟨n, 0, none⟩ = some v4 := ⟨hk.cell h0 n0, hk.cell h1 n0, hk.cell h2 n0, hk.cell h3 n1, hk.cell h4 n2⟩
set_option maxHeartbeats 6400000 in
set_option maxRecDepth 100000 in
theorem rest_c (hN : NetAt w0 n F R N) (hf : NtFine k N) (hk : k ≤ 600) (h : SwpAt w0 w s n n' mp gd fb fcs F' R' N (regTo N N.regs.length) (regM N N.regs.length) (wantedN N)) :
    Calls Tryz.prog 42 #[.pointer (some ⟨s, 0, none⟩)] w (RestPost w0 s n n' mp gd fb fcs N w) := by
  have HF := Lib.hid hf
  have HN := Lib.hid hN
  have HS := Lib.hid h
  obtain ⟨a0, c0, hs0, ho0, hf0⟩ := h.cs
  have d0 : w.cell? ⟨s, 0, none⟩ = some (.pointer (some ⟨n, 0, none⟩)) := blk_cell hs0 0
  obtain ⟨pp, G, ia, ic, ra, rc, oa, oc, ri, ro, hFe, hRe, hc⟩ := hN
  have HC := Lib.hid hc
  have HLT0 := Lib.hid (show (n < w0.heap.size) ∧ (∀ b ∈ G, b < w0.heap.size) from by
    have l := hc.lt.1
    exact ⟨l n (by simp), fun b hb => l b (by simp [hb])⟩)
  have cn0 := h.kept.cell hc.c0 (by simp)
  have hnn : N.g.nodes.length ≤ 38401 := by have := hf.ok.len; omega
  have HIN := Lib.hid (aig_inputs (hc.gr.kept0 h.kept) (by omega))
  obtain ⟨nI, hnI⟩ : ∃ m, m = (ins N.g.nodes).length := ⟨_, rfl⟩
  have HNI := Lib.hid hnI
  rw [← hnI] at HIN
  have HIL := Lib.hid (ins_lt N.g.nodes)
  have hni : nI ≤ 38401 := by
    have h1 : (ins N.g.nodes).length ≤ N.g.nodes.length := insFrom_length 0 N.g.nodes
    omega
  obtain ⟨nO, hnO⟩ : ∃ m, m = N.outb.length := ⟨_, rfl⟩
  have HNO := Lib.hid hnO
  have hno : nO ≤ 600 := by rw [hnO]; have := hf.ok.ok; omega
  have HRO := Lib.hid (show ro.length = nO from by rw [hnO, ← hc.ob.is]; simp)
  have hnn2 := Lib.hid hnn
  clear hc hnI hnO hf h hs0 ho0 hf0 hFe hRe hnn
  go_enter Tryz.func42, Tryz.ntmps42
  go_wp2_with fail
  refine HIN.out.mono ?_
  rintro e w1 ⟨ai, ci, rfl, hoi, hsi⟩
  have K1 := Lib.hid (show Kept [] w w1 from hsi.kept)
  have S1 := Lib.hid (HS.out.kept0 hsi.kept)
  have OI := Lib.hid hoi
  clear hoi hsi d0 cn0
  go_wp2_with fail
  go_loopw [3, 23] (fun v i wr => ∃ (m : Nat) (a : Option Addr) (c : Nat), m ≤ nI ∧ i = .int .i64 m ∧ v = .slice a m c ∧ Own wr 61 a m c (nats .u32 ((byN N).take m)) ∧ Kept [] w1 wr ∧ ∀ b ∈ ft a, w1.heap.size ≤ b) (fun _ i _ => nI - (intOf i).toNat)
  case atStart => exact ⟨0, none, 0, Nat.zero_le _, rfl, rfl, by simpa [nats] using Own.nil _ _, .refl _ _, by simp [ft]⟩
  case round =>
    obtain ⟨m, a, c, hm, rfl, rfl, ho, hkr, hfa⟩ := hrel
    have HO := Lib.hid ho
    have KR := Lib.hid hkr
    have FA := Lib.hid hfa
    clear ho hkr hfa
    by_cases hlt : m < nI
    · have hml : m < (ins N.g.nodes).length := by rw [← HNI.out]; exact hlt
      obtain ⟨ad, rfl, hcx⟩ := (OI.out.sln.kept0 KR.out) m hml
      have HT := Lib.hid (show (byN N).take (m + 1) = (byN N).take m ++ [standN N (ins N.g.nodes)[m]] from by
        rw [List.take_succ_eq_append_getElem (show m < (byN N).length by unfold byN; rw [List.length_map]; exact hml)]
        unfold byN
        rw [List.getElem_map])
      have hx := HIL.out _ (List.getElem_mem hml)
      generalize (ins N.g.nodes)[m] = x at *
      have SR := Lib.hid (S1.out.kept0 KR.out)
      obtain ⟨a4, c4, hs4, _, _⟩ := SR.out.cs
      have d3 : wr.cell? ⟨s, 3, none⟩ = some (.map (some mp)) := blk_cell hs4 3
      have hlk := SdMap.look SR.out.pm x (by have := hnn2.out; omega)
      rw [regM_all] at hlk
      obtain ⟨z, hz⟩ : ∃ z, z = standN N x := ⟨_, rfl⟩
      rw [← hz] at HT hlk
      have m0 : (0 : Int) ≤ (m : Int) := by omega
      have m1 : (m : Int) < (nI : Int) := by omega
      clear hz hml hx hs4
      go_wp2_with (at_builtin; refine wpList_push rfl rfl Tryz.underlying58 lit_info' rfl rfl rfl HO.out rfl (by unfold maxLen; omega) (by omega) ?_; intro a5 c5 w5 hown5 hst5)
      go_roundw
      case rel =>
        refine ⟨m + 1, a5, c5, by omega, by go_num, rfl, ?_, kept_up KR.out hst5.kept FA.out, fun b hb => ?_⟩
        · rw [HT.out, ← nats_append]; exact hown5
        · rcases hst5.fresh b hb with h | h
          · exact FA.out b h
          · exact Nat.le_trans KR.out.size h
      case measure => simp [intOf]; omega
    · obtain rfl : m = nI := by omega
      have HB := Lib.hid (show (byN N).take m = byN N from List.take_of_length_le (by unfold byN; rw [List.length_map, HNI.out]; exact Nat.le_refl _))
      have HO2 := Lib.hid (show Own wr 61 a m c (nats .u32 (byN N)) from by have h := HO.out; rw [HB.out] at h; exact h)
      have SR := Lib.hid (S1.out.kept0 KR.out)
      obtain ⟨a4, c4, hs4, ho4, hf4⟩ := SR.out.cs
      obtain ⟨p', G', ia', ic', ra', rc', oa', oc', ri', ro', hFe', hRe', hc'⟩ := SR.out.net
      have HC' := Lib.hid hc'
      have HCO := Lib.hid (fun (V : World) (hV : Kept [] wr V) => show Calls Tryz.prog 103 #[.pointer (some ⟨p', 0, none⟩), .pointer (some ⟨pp, 0, none⟩), .slice a m c, .slice a4 (wantedN N).length c4] V (CopyRow (copyN N) (wantedN N) V p' G') from by
        have hFn : ∀ b ∈ G', b ∈ F' := fun b hb => by rw [hFe']; simp [hb]
        refine cone_copy (hc'.gr.kept0 hV) (HC.out.gr.kept0 (SR.out.kept.trans hV)) (fun x hx hx' => ?_) ?_ ?_ a c m (byN N) ?_ HNI.out (HO2.out.sln.kept0 hV) (byN_ok N) (fun x hx hx' => ?_) a4 c4 _ (wantedN N) rfl ?_ (ho4.sln.kept0 hV) (wanted_ok HF.out) (fun x hx hx' => ?_)
        · have h1 := HLT0.out.2 x hx
          have h2 := SR.out.newF x (List.mem_append_left _ (hFn x hx'))
          omega
        · have := (regTo_ok HF.out N.regs.length (Nat.le_refl _)).1
          omega
        · have := hnn2.out; omega
        · unfold byN; rw [List.length_map]; exact HNI.out.symm
        · have h1 := FA.out x hx
          have h2 := S1.out.net.lt.1 x (hFn x hx')
          omega
        · have h1 := wantTo_len N N.regs.length
          rw [wantTo_all] at h1
          have h2 := goingTo_length N N.regs.length
          have h3 := outsTo_len HF.out N.outb.length
          rw [outsTo_all] at h3
          have h4 := HF.out.ok.ok
          have h5 := HF.out.ok.rk
          omega
        · exact (hf4 x hx).2.1 (hFn x hx'))
      have d0 : wr.cell? ⟨s, 0, none⟩ = some (.pointer (some ⟨n, 0, none⟩)) := blk_cell hs4 0
      have d1 : wr.cell? ⟨s, 1, none⟩ = some (.pointer (some ⟨n', 0, none⟩)) := blk_cell hs4 1
      have d4 : wr.cell? ⟨s, 4, none⟩ = some (.slice a4 (wantedN N).length c4) := blk_cell hs4 4
      have e0 := hc'.c0
      have e1 := SR.out.kept.cell HC.out.c0 (by simp)
      obtain ⟨wl, hwl⟩ : ∃ x, x = (wantedN N).length := ⟨_, rfl⟩
      have HWL := Lib.hid hwl
      rw [← hwl] at HCO d4
      have HSG := Lib.hid (show s ∉ G' from fun hx => (SR.out.new s (by simp)).2.1 (by rw [hFe']; simp [hx]))
      have HNG := Lib.hid (show n' ∉ G' from hc'.apart.1)
      have HOG := Lib.hid (show n ∉ G' from fun hx => by
        have h1 := HLT0.out.1
        have h2 := SR.out.newF n (List.mem_append_left _ (by rw [hFe']; simp [hx]))
        omega)
      clear hs4 ho4 hf4 hc' hwl
      go_upto_region 7 with (fail)
      go_region_held3 (fun V => V.cell? ⟨s, 0, none⟩ = some (.pointer (some ⟨n, 0, none⟩)) ∧ V.cell? ⟨s, 1, none⟩ = some (.pointer (some ⟨n', 0, none⟩)) ∧ V.cell? ⟨s, 4, none⟩ = some (.slice a4 wl c4) ∧ V.cell? ⟨n', 0, none⟩ = some (.pointer (some ⟨p', 0, none⟩)) ∧ V.cell? ⟨n, 0, none⟩ = some (.pointer (some ⟨pp, 0, none⟩)))
        (first | exact keep_5g (w := wr) (F := G') (by (repeat (first | with_reducible exact Kept.refl _ _ | with_reducible apply Kept.drew | with_reducible apply Kept.drewN | with_reducible apply Kept.alloc | refine Kept.trans ?_ k5))) d0 d1 d4 e0 e1 HSG.out HNG.out HOG.out | go_keep)
        (first | (go_at_call 103; (with_reducible refine (HCO.out _ ?kk).mono ?_); (case kk => ((repeat (first | with_reducible exact Kept.refl _ _ | with_reducible apply Kept.drew | with_reducible apply Kept.drewN | with_reducible apply Kept.alloc | refine Kept.trans ?_ k2)))); rintro e w4 ⟨F4, a5, c5, rfl, hg4, ho5, hs5⟩; have k5 := hs5.kept))
      have HWR := Lib.hid (show (rowN N).length = (wantedN N).length from by unfold rowN; rw [List.length_map])
      have SW4 := Lib.hid (show SwpAt w0 w4 s n n' mp gd fb fcs (n' :: (F4 ++ (ft ia' ++ (ft ra' ++ ft oa')))) R' N (outTo N 0) (regM N N.regs.length) (wantedN N) from by
        have hst := NetC.graph_step (n := n') (ia := ia') (ra := ra') (oa := oa') (ri := ri') (ro := ro') hs5
        rw [← hFe', ← hRe'] at hst
        refine (SR.out.kept0 (show Kept [] wr wr.drew from (Kept.refl [] wr).drew)).step ?_ hst
        rw [outTo_zero]
        exact ⟨p', F4, ia', ic', ra', rc', oa', oc', ri', ro', rfl, hRe', (HC'.out.kept (show Kept [] wr wr.drew from (Kept.refl [] wr).drew) (by simp) (by simp)).graph hg4 hs5⟩)
      have HO5 := Lib.hid (show Own w4 61 a5 (wantedN N).length c5 (nats .u32 (rowN N)) from ho5)
      have HL5 := Lib.hid (show ∀ b ∈ ft a5, b ∉ (n' :: (F4 ++ (ft ia' ++ (ft ra' ++ ft oa')))) ∧ b < w4.heap.size from fun b hb => ⟨net_lits SW4.out.net HO5.out b hb, HO5.out.lt b hb⟩)
      obtain ⟨F5, hF5⟩ : ∃ x, x = (n' :: (F4 ++ (ft ia' ++ (ft ra' ++ ft oa')))) := ⟨_, rfl⟩
      rw [← hF5] at SW4 HL5
      clear ho5 hg4 hs5 k5 d0 d1 d4 e0 e1 hF5 HCO
      obtain ⟨a6, c6, hs6, _, _⟩ := SW4.out.cs
      have d0 : w4.cell? ⟨s, 0, none⟩ = some (.pointer (some ⟨n, 0, none⟩)) := blk_cell hs6 0
      have c4' := SW4.out.kept.cell HC.out.c4 (by simp)
      rw [← HNO.out] at c4'
      clear hs6
      go_wp2_with fail
      clear d0 c4'
      go_loopw [6, 71] (fun v i wr => ∃ (m : Nat) (F R : List Nat) (av : Option Addr) (cv : Nat), m ≤ nO ∧ i = .int .i64 m ∧ v = .slice av (rowTo N m).length cv ∧ SlN wr .u32 av (rowTo N m) ∧ (rowTo N m).length ≤ cv ∧ (∀ b ∈ ft av, b ∉ F ∧ b < wr.heap.size) ∧ SwpAt w0 wr s n n' mp gd fb fcs F R N (outTo N m) (regM N N.regs.length) (wantedN N)) (fun _ i _ => nO - (intOf i).toNat)
      case atStart =>
        refine ⟨0, F5, R', a5, c5, Nat.zero_le _, rfl, by rw [rowTo_zero, HWR.out], by rw [rowTo_zero]; exact HO5.out.sln, ?_, HL5.out, SW4.out⟩
        rw [rowTo_zero, HWR.out]
        exact own_cap HO5.out
      case round =>
        obtain ⟨m2, F1, R1, av, cv, hm2, rfl, rfl, hsl, hcv, hav, hsw⟩ := hrel
        obtain ⟨wx, rfl⟩ : ∃ v : World, v = wr := ⟨_, rfl⟩
        have SW := Lib.hid hsw
        have SL := Lib.hid hsl
        have AV := Lib.hid hav
        have CV := Lib.hid hcv
        clear hsw hsl hav hcv
        obtain ⟨rl, hrl⟩ : ∃ x, x = (rowTo N m2).length := ⟨_, rfl⟩
        have HRL := Lib.hid hrl
        rw [← hrl] at CV ⊢
        clear hrl
        by_cases hlt : m2 < nO
        · have hml : m2 < ro.length := by rw [HRO.out]; exact hlt
          obtain ⟨gb, rfl, x0, x1⟩ := (HC.out.ob.slb.kept0 SW.out.kept) m2 hml
          have hbo : N.outb[m2]? = some ro[m2].b := by rw [← HC.out.ob.is, List.getElem?_map, List.getElem?_eq_getElem hml]; rfl
          have HBO := Lib.hid hbo
          have hol := HF.out.ok.ol _ (List.mem_of_getElem? hbo)
          have HMAY := Lib.hid hol.2.2.1
          have HL64 := Lib.hid hol.2.1
          have HAO := Lib.hid (outTo_succ HF.out hbo)
          have HRH := Lib.hid (rowTo_head hbo)
          clear hbo hol
          generalize ro[m2] = r at *
          obtain ⟨⟨nm, lits⟩, ra2, rc2⟩ := r
          simp only at x0 x1 HMAY HL64 HAO HRH HBO
          obtain ⟨ln, hln⟩ : ∃ ln, ln = lits.length := ⟨_, rfl⟩
          have HLN := Lib.hid hln
          rw [← hln] at x1 HL64 HRH
          have m0 : (0 : Int) ≤ (m2 : Int) := by omega
          have m1 : (m2 : Int) < (nO : Int) := by omega
          have hle := HRH.out.2.2
          rw [← HRL.out] at hle
          have HLE := Lib.hid hle
          clear hln hml hle
          go_upto_region 13 with (fail)
          obtain ⟨w5, hw5⟩ : ∃ v, v = wx.alloc (.cells #[.string nm, .slice ra2 ln rc2] 60) := ⟨_, rfl⟩
          obtain ⟨b5, hb5⟩ : ∃ v, v = wx.heap.size := ⟨_, rfl⟩
          have K5 := Lib.hid (show Kept [] wx w5 from by rw [hw5]; exact (Kept.refl [] wx).alloc _)
          have hbl : w5.heap[b5]? = some (.cells #[.string nm, .slice ra2 ln rc2] 60 (0, 0)) := by rw [hw5, hb5]; exact heap_alloc_new wx _
          have hge5 : wx.heap.size ≤ b5 := by rw [hb5]; exact Nat.le_refl _
          rw [← hw5, ← hb5]
          have SW5 := Lib.hid (SW.out.kept0 K5.out)
          have SL5 := Lib.hid (SL.out.kept0 K5.out)
          obtain ⟨a7, c7, hs7, _, _⟩ := SW5.out.cs
          have d0 : w5.cell? ⟨b5, 0, none⟩ = some (.string nm) := blk_cell hbl 0
          have d1 : w5.cell? ⟨b5, 1, none⟩ = some (.slice ra2 ln rc2) := blk_cell hbl 1
          have d2 : w5.cell? ⟨s, 1, none⟩ = some (.pointer (some ⟨n', 0, none⟩)) := blk_cell hs7 1
          have HBL5 := Lib.hid hbl
          have HN1 := Lib.hid (show b5 ∉ F1 from fun hx => by have := SW.out.net.lt.1 b5 hx; omega)
          have HN2 := Lib.hid (show s ∉ F1 from (SW.out.new s (by simp)).2.1)
          obtain ⟨ah, ch, hsh, hsl2, hch, hfh⟩ := slice_head w5 av rl cv ln (rowTo N m2) (by rw [← HRL.out]; exact HLE.out) HRL.out CV.out SL5.out
          have HSH := Lib.hid hsl2
          rw [HRH.out.1] at HSH
          have HAD := Lib.hid (fun (V : World) (hV : Kept [] w5 V) => addout_c (SW5.out.net.kept0 hV) (by
              have h1 := once_length HF.out
              have h2 := HF.out.ok.len
              have h3 : (outTo N m2).g.nodes.length = (onceN N).g.nodes.length := rfl
              have h4 : (outTo N m2).outb.length ≤ N.outb.length := by
                show ((N.outb.take m2).map _).length ≤ _
                rw [List.length_map, List.length_take]; omega
              have h5 := HF.out.ok.ok
              omega) nm (by have := mayB_size HMAY.out; omega) ah ch ln (lits.map (overL (copyN N).2)) (by rw [List.length_map, HLN.out]) (by have := HL64.out; omega) (HSH.out.kept0 hV) (fun x hx => by
              obtain ⟨y, _, rfl⟩ := List.mem_map.1 hx
              have h1 := over_ok N y
              have h2 := once_length HF.out
              have h3 := HF.out.ok.len
              unfold Gr.ok at h1
              omega))
          rw [HAO.out] at HAD
          clear hw5 hb5 hbl hge5 hs7 x0 x1 hch hsl2
          go_region_held3 (fun V => V.cell? ⟨b5, 0, none⟩ = some (.string nm) ∧ V.cell? ⟨b5, 1, none⟩ = some (.slice ra2 ln rc2) ∧ V.cell? ⟨s, 1, none⟩ = some (.pointer (some ⟨n', 0, none⟩)))
            (first | exact keep_3f (w := w5) (F := F1) (by (repeat (first | with_reducible exact Kept.refl _ _ | with_reducible apply Kept.drew | with_reducible apply Kept.drewN | with_reducible apply Kept.alloc | refine Kept.trans ?_ k5))) d0 d1 d2 HN1.out HN1.out HN2.out | go_keep)
            (first | (go_at_call 94; (with_reducible refine (HAD.out _ ?kk).mono ?_); (case kk => ((repeat (first | with_reducible exact Kept.refl _ _ | with_reducible apply Kept.drew | with_reducible apply Kept.drewN | with_reducible apply Kept.alloc | refine Kept.trans ?_ k2)))); rintro e w6 ⟨F6, R6, rfl, hn6, hs6⟩; have k5 := hs6.st.kept))
          have SW6 := Lib.hid ((SW5.out.kept0 (show Kept [] w5 w5.drew from (Kept.refl [] w5).drew)).step hn6 hs6)
          have HBL6 := Lib.hid (k5.heap HBL5.out HN1.out)
          have hap := fun b hb => AV.out b hb
          have SL6 := Lib.hid ((SL5.out.kept0 (show Kept [] w5 w5.drew from (Kept.refl [] w5).drew)).kept k5 (fun b hb => (AV.out b hb).1))
          have AV6 := Lib.hid (show ∀ b ∈ ft av, b ∉ F6 ∧ b < w6.heap.size from fun b hb => by
            have h1 := AV.out b hb
            have h2 := K5.out.size
            have h3 := k5.size
            exact ⟨fun hx => (hs6.st.fresh b hx).elim h1.1 (fun h => by have h4 : w5.heap.size ≤ b := h; omega), by have h4 : w5.heap.size ≤ w6.heap.size := h3; omega⟩)
          obtain ⟨at_, ct, hst_, hsl3, hct, hft⟩ := slice_tail w6 av rl cv ln (rowTo N m2) (by rw [← HRL.out]; exact HLE.out) HRL.out CV.out SL6.out
          have HST := Lib.hid hsl3
          rw [HRH.out.2.1] at HST
          have HCT := Lib.hid hct
          have HFT := Lib.hid hft
          have HLR := Lib.hid (show (rowTo N (m2 + 1)).length = rl - ln from by rw [← HRH.out.2.1, List.length_drop, ← HRL.out])
          have d1' : w6.cell? ⟨b5, 1, none⟩ = some (.slice ra2 ln rc2) := blk_cell HBL6.out 1
          clear hn6 hs6 k5 d0 d1 d2 hsh hfh hap hsl3 hct hft HAD
          go_wp2_with fail
          go_roundw
          case rel => exact ⟨m2 + 1, F6, R6, at_, ct, by omega, by go_num, by rw [HLR.out], HST.out, by rw [HLR.out]; exact HCT.out, fun b hb => AV6.out b (HFT.out b hb), SW6.out⟩
          case measure => simp [intOf]; omega
        · obtain rfl : m2 = nO := by omega
          have HE := Lib.hid (show outTo N m2 = settTo N 0 from by rw [HNO.out]; exact (settTo_zero N).symm)
          have HRA := Lib.hid (show rowTo N m2 = ((goingL N).flatMap fun r => [r.d, r.en]).map (overL (copyN N).2) from by rw [HNO.out]; exact rowTo_all N)
          have SW2 := Lib.hid (show SwpAt w0 wx s n n' mp gd fb fcs F1 R1 N (settTo N 0) (regM N N.regs.length) (wantedN N) from by rw [← HE.out]; exact SW.out)
          have SL2 := Lib.hid (show SlN wx .u32 av (((goingL N).flatMap fun r => [r.d, r.en]).map (overL (copyN N).2)) from by rw [← HRA.out]; exact SL.out)
          obtain ⟨nG, hnG⟩ : ∃ x, x = (goingL N).length := ⟨_, rfl⟩
          have HNG2 := Lib.hid hnG
          have hrl2 : rl = 2 * nG := by rw [HRL.out, HRA.out, List.length_map, goingTwo, hnG]
          have hng : nG ≤ 600 := by
            have h1 := goingTo_length N N.regs.length
            have h2 := HF.out.ok.rk
            unfold goingL at hnG
            omega
          obtain ⟨p2, G2, ia2, ic2, ra2, rc2, oa2, oc2, ri2, ro2, hFe2, hRe2, hc2⟩ := SW2.out.net
          have c3 := hc2.c3
          rw [settTo_len N 0 (Nat.zero_le _), ← hnG] at c3
          have HC3 := Lib.hid c3
          obtain ⟨a7, c7, hs7, _, _⟩ := SW2.out.cs
          have d1 : wx.cell? ⟨s, 1, none⟩ = some (.pointer (some ⟨n', 0, none⟩)) := blk_cell hs7 1
          clear hs7 hc2 hFe2 hRe2 SW SL HE HRA CV HRL
          have HRL2 := Lib.hid hrl2
          have hrlb : rl ≤ 1200 := by omega
          clear hnG hrl2
          go_wp2_with fail
          clear c3 d1
          go_loopw [104] (fun v wr => ∃ (j : Nat) (F R : List Nat), j ≤ nG ∧ v = .int .i64 j ∧ SwpAt w0 wr s n n' mp gd fb fcs F R N (settTo N j) (regM N N.regs.length) (wantedN N) ∧ SlN wr .u32 av (((goingL N).flatMap fun r => [r.d, r.en]).map (overL (copyN N).2)) ∧ (∀ b ∈ ft av, b ∉ F ∧ b < wr.heap.size) ∧ wr.cell? ⟨n', 3, none⟩ = some (.slice ra2 nG rc2)) (fun v _ => nG - (intOf v).toNat)
          case atStart => exact ⟨0, F1, R1, Nat.zero_le _, rfl, SW2.out, SL2.out, AV.out, HC3.out⟩
          case round =>
            obtain ⟨j, F2, R2, hj, rfl, hsw, hsl, hav, hc3⟩ := hrel
            obtain ⟨wy, rfl⟩ : ∃ v : World, v = wr := ⟨_, rfl⟩
            have SW := Lib.hid hsw
            have SL := Lib.hid hsl
            have AV2 := Lib.hid hav
            have C3 := Lib.hid hc3
            clear hsw hsl hav hc3
            by_cases hlt : j < nG
            · have hjl : j < (goingL N).length := by rw [← HNG2.out]; exact hlt
              have hget := List.getElem?_eq_getElem hjl
              have HTW := Lib.hid (two_get (goingL N) (copyN N).2 hget)
              have HSE := Lib.hid (settTo_get N (j := j) (i := j) (Nat.le_of_lt hjl) hget)
              have HSS := Lib.hid (settTo_succ N hget)
              have hlen := settTo_len N j (Nat.le_of_lt hjl)
              obtain ⟨p4, G4, ia4, ic4, ra4, rc4, oa4, oc4, ri4, ro4, hFe4, hRe4, hc4⟩ := SW.out.net
              have c34 := hc4.c3
              rw [C3.out, hlen] at c34
              injection c34 with c34
              injection c34 with c34 c36 c35
              clear c36
              subst c34 c35
              have hrs := regs_sl (l := (settTo N j).regs) rfl hc4.rb j (by rw [hlen]; exact hjl)
              obtain ⟨gr, rfl, e0, e1, e2, e3⟩ := hrs
              obtain ⟨hx1, hx2⟩ := List.getElem?_eq_some_iff.1 HSE.out
              rw [if_neg (Nat.lt_irrefl j)] at hx2
              rw [hx2] at e0 e1 e2 e3
              simp only at e0 e1 e2 e3
              generalize (goingL N)[j] = r at *
              have HLN := Lib.hid (show (((goingL N).flatMap fun r => [r.d, r.en]).map (overL (copyN N).2)).length = 2 * nG from by rw [List.length_map, goingTwo, ← HNG2.out])
              obtain ⟨ad, rfl, hv1⟩ := SL.out (2 * j) (by rw [HLN.out]; omega)
              obtain ⟨ad', had, hv2⟩ := SL.out (2 * j + 1) (by rw [HLN.out]; omega)
              injection had with had
              subst had
              rw [(List.getElem?_eq_some_iff.1 HTW.out.1).2] at hv1
              rw [(List.getElem?_eq_some_iff.1 HTW.out.2).2] at hv2
              have HVL := Lib.hid (show ∀ y, overL (copyN N).2 y < 4294967296 from fun y => by
                have h1 := over_ok N y
                have h2 := once_length HF.out
                have h3 := HF.out.ok.len
                unfold Gr.ok at h1
                omega)
              obtain ⟨q, hq⟩ : ∃ x, x = 2 * (1 + inMany N.inb + j) := ⟨_, rfl⟩
              have hql : q < 4294967296 := by
                have h2 := inMany_len HF.out N.inb.length
                rw [List.take_length] at h2
                have h3 := HF.out.ok.ik
                omega
              rw [← hq] at e0 HSS
              have hfd : findR (settTo N j).regs q = some j := by rw [hq]; exact settTo_find N hjl
              have HSK := Lib.hid (fun (V : World) (hV : Kept [] wy V) => setreg_k (SW.out.net.kept0 hV) (by
                  have h1 := once_length HF.out
                  have h2 := HF.out.ok.len
                  have h3 : (settTo N j).g.nodes.length = (onceN N).g.nodes.length := rfl
                  have h4 := HNG2.out
                  omega) q (overL (copyN N).2 r.d) (overL (copyN N).2 r.en) hql (HVL.out _) (HVL.out _) hfd (by
                  rw [gone_false]
                  intro x hx
                  simp only [List.mem_cons, List.not_mem_nil, or_false] at hx
                  rcases hx with rfl | rfl
                  · exact over_ok N _
                  · exact over_ok N _))
              rw [HSS.out] at HSK
              generalize overL (copyN N).2 r.d = xd at *
              generalize overL (copyN N).2 r.en = xe at *
              have HGR := Lib.hid (show Kept [] wy wy from .refl _ _)
              have j0 : (0 : Int) ≤ (j : Int) := by omega
              have j1 : (j : Int) < (nG : Int) := by omega
              obtain ⟨j2, hj2⟩ : ∃ x, x = 2 * j := ⟨_, rfl⟩
              obtain ⟨j3, hj3⟩ : ∃ x, x = 2 * j + 1 := ⟨_, rfl⟩
              rw [← hj2] at hv1
              rw [← hj3] at hv2
              have w1' : IntKind.i64.wrap (2 * (j : Int)) = (j2 : Int) := by rw [IntWalk.i64_in _ (by omega)]; omega
              have w2' : IntKind.i64.wrap ((j2 : Int) + 1) = (j3 : Int) := by rw [IntWalk.i64_in _ (by omega)]; omega
              have b1' : (0 : Int) ≤ (j2 : Int) := by omega
              have b2' : (j2 : Int) < (rl : Int) := by have := HRL2.out; omega
              have b3' : (0 : Int) ≤ (j3 : Int) := by omega
              have b4' : (j3 : Int) < (rl : Int) := by have := HRL2.out; omega
              clear hj2 hj3
              clear hjl hget hlen hc4 hx1 hx2 hfd hq hql hFe4 hRe4 HTW HSE HSS
              go_upto_region 21 with (fail)
              obtain ⟨w5, hw5⟩ : ∃ v, v = wy.alloc (.cells #[.int .u32 (q : Int), .int .u32 0, .int .u32 0, .bool r.init] 63) := ⟨_, rfl⟩
              obtain ⟨b5, hb5⟩ : ∃ v, v = wy.heap.size := ⟨_, rfl⟩
              have K5 := Lib.hid (show Kept [] wy w5 from by rw [hw5]; exact (Kept.refl [] wy).alloc _)
              have hbl : w5.heap[b5]? = some (.cells #[.int .u32 (q : Int), .int .u32 0, .int .u32 0, .bool r.init] 63 (0, 0)) := by rw [hw5, hb5]; exact heap_alloc_new wy _
              have hge5 : wy.heap.size ≤ b5 := by rw [hb5]; exact Nat.le_refl _
              rw [← hw5, ← hb5]
              have SW5 := Lib.hid (SW.out.kept0 K5.out)
              obtain ⟨a7, c7, hs7, _, _⟩ := SW5.out.cs
              have d0 : w5.cell? ⟨b5, 0, none⟩ = some (.int .u32 (q : Int)) := blk_cell hbl 0
              have d1 : w5.cell? ⟨s, 1, none⟩ = some (.pointer (some ⟨n', 0, none⟩)) := blk_cell hs7 1
              have d2 := K5.out.cell hv1 (by simp)
              have d3 := K5.out.cell hv2 (by simp)
              have HN1 := Lib.hid (show b5 ∉ F2 from fun hx => by have := SW.out.net.lt.1 b5 hx; omega)
              have HN2 := Lib.hid (show s ∉ F2 from (SW.out.new s (by simp)).2.1)
              have HN3 := Lib.hid (show (ad.add j2).block ∉ F2 from by rw [block_add]; exact (AV2.out ad.block (by simp [ft])).1)
              have HN4 := Lib.hid (show (ad.add j3).block ∉ F2 from by rw [block_add]; exact (AV2.out ad.block (by simp [ft])).1)
              clear hw5 hb5 hbl hge5 hs7 e0 e1 e2 e3 hv1 hv2
              go_region_held3 (fun V => V.cell? ⟨b5, 0, none⟩ = some (.int .u32 (q : Int)) ∧ V.cell? ⟨s, 1, none⟩ = some (.pointer (some ⟨n', 0, none⟩)) ∧ V.cell? (ad.add j2) = some (.int .u32 (xd : Int)) ∧ V.cell? (ad.add j3) = some (.int .u32 (xe : Int)))
                (first | exact keep_4f (w := w5) (F := F2) (by (repeat (first | with_reducible exact Kept.refl _ _ | with_reducible apply Kept.drew | with_reducible apply Kept.drewN | with_reducible apply Kept.alloc | refine Kept.trans ?_ k5))) d0 d1 d2 d3 HN1.out HN2.out HN3.out HN4.out | go_keep)
                (first | (go_at_call 93; (with_reducible refine (HSK.out _ ?kk).mono ?_); (case kk => (refine Kept.trans K5.out ?_; ((repeat (first | with_reducible exact Kept.refl _ _ | with_reducible apply Kept.drew | with_reducible apply Kept.drewN | with_reducible apply Kept.alloc | refine Kept.trans ?_ k2))))); rintro e w6 ⟨F6, R6, rfl, hn6, hs6, hc6⟩; have k5 := hs6.st.kept))
              have SW6 := Lib.hid ((SW5.out.kept0 (show Kept [] w5 w5.drew from (Kept.refl [] w5).drew)).step hn6 hs6)
              have SL6 := Lib.hid ((SL.out.kept0 (K5.out.trans (show Kept [] w5 w5.drew from (Kept.refl [] w5).drew))).kept k5 (fun b hb => (AV2.out b hb).1))
              have AV6 := Lib.hid (show ∀ b ∈ ft (some ad), b ∉ F6 ∧ b < w6.heap.size from fun b hb => by
                have h1 := AV2.out b hb
                have h2 := K5.out.size
                have h3 := k5.size
                exact ⟨fun hx => (hs6.st.fresh b hx).elim h1.1 (fun h => by have h4 : w5.heap.size ≤ b := h; omega), by have h4 : w5.heap.size ≤ w6.heap.size := h3; omega⟩)
              have C36 := Lib.hid (hc6 _ ((K5.out.trans (show Kept [] w5 w5.drew from (Kept.refl [] w5).drew)).cell C3.out (by simp)))
              clear hn6 hs6 hc6 k5 d0 d1 d2 d3 HSK w1' w2' b1' b2' b3' b4'
              go_wp2_with fail
              go_roundw
              case rel => exact ⟨j + 1, F6, R6, by omega, by go_num, SW6.out, SL6.out, AV6.out, C36.out⟩
              case measure => simp [intOf]; omega
            · obtain rfl : j = nG := by omega
              have HE := Lib.hid (show settTo N j = onceN N from by rw [HNG2.out]; exact settTo_all N)
              go_wp2_with fail
              go_ret
              refine ⟨F2, R2, rfl, ?_⟩
              have h := SW.out
              rw [HE.out] at h
              exact h
end Go.Proofs.YtdmcdhkkbkgnbaaGreat
