/-
  Law 08: tells.
  Law 08: toggle.
-/
import Derived.Test.YtielfgngdhcpfaaGreatP35
import Derived.Test.YtielfgngdhcpfaaGreatP36
import Derived.Test.YtielfgngdhcpfaaGreatP32
namespace Go.Proofs.YtielfgngdhcpfaaGreat
open Go.ChangeShapes Go.WideShapes Go.ChangeAt Go.RowKit
open Go.Maps (Keyed)
open Go.WideMaps
set_option linter.unusedVariables false
set_option linter.unusedSimpArgs false

variable {w w' W W' : World} {p n k : Nat} {F R F' R' S : List Nat} {g : Gr} {N : Nt}
def tg0 : Nt := newN ⟨#[116, 111, 103, 103, 108, 101]⟩ false false
def tg1 : Nt := (addIn tg0 ⟨#[117, 112]⟩ 1).1
def tg2 : Nt := (addReg tg1 false).1
def tg3 : Nt := (setReg tg2 4 5 2).1
def tg4 : Nt := (addOut tg3 ⟨#[111, 117, 116]⟩ [4]).1
theorem tg_facts : mayB ⟨#[116, 111, 103, 103, 108, 101]⟩ = true ∧ (addIn tg0 ⟨#[117, 112]⟩ 1).2 = ([2], 0) ∧ (addReg tg1 false).2 = 4 ∧ (setReg tg2 4 5 2).2 = 0 ∧ (addOut tg3 ⟨#[111, 117, 116]⟩ [4]).2 = 0 ∧ checkN tg4 = 0 := by
  refine ⟨by kernel_rfl, by kernel_rfl, by kernel_rfl, by kernel_rfl, by kernel_rfl, by kernel_rfl⟩
theorem tg_fine : NtFine 4 tg4 := addOut_fine (setReg_fine (addReg_fine (addIn_fine (newN_fine _ false false tg_facts.1) _ _) _) _ _ _) _ _
def IsToggle (w : World) (e : Ending) (w' : World) : Prop := ∃ n F R, e = .returned (.pointer (some ⟨n, 0, none⟩)) ∧ NetAt w' n F R tg4 ∧ Kept [] w w'
set_option maxHeartbeats 3200000 in
set_option maxRecDepth 100000 in
theorem toggle_c (w : World) : Calls Tryz.prog 45 #[] w (IsToggle w) := by
  have TF := Lib.hid tg_facts
  have b0 := Lib.hid (show tg0.g.nodes.length ≤ 100 ∧ tg0.inb.length ≤ 100 from by decide)
  have b1 := Lib.hid (show tg1.g.nodes.length ≤ 100 ∧ tg1.regs.length ≤ 100 from by decide)
  have b2 := Lib.hid (show tg2.g.nodes.length ≤ 100 ∧ tg2.regs.length ≤ 100 from by decide)
  have b3 := Lib.hid (show tg3.g.nodes.length ≤ 100 ∧ tg3.outb.length ≤ 100 from by decide)
  go_enter Tryz.func45, Tryz.ntmps45; (try simp only [List.append])
  go_wp2_with fail
  refine (new_net ⟨#[116, 111, 103, 103, 108, 101]⟩ false false _ (by decide) TF.out.1).mono ?_
  rintro e w1 ⟨n, F, rfl, hn, hk, hf⟩
  have N1 := Lib.hid (show NetAt w1 n F [] tg0 from hn)
  have K1 := Lib.hid (And.intro hk hf)
  obtain ⟨p0, hc0⟩ : ∃ p, w1.cell? ⟨n, 0, none⟩ = some (.pointer (some ⟨p, 0, none⟩)) := by
    obtain ⟨p, G, ia, ic, ra, rc, oa, oc, ri, ro, rfl, hR, hc⟩ := hn
    exact ⟨p, hc.c0⟩
  clear hn hk hf
  go_wp2_with fail
  refine (addin_c N1.out (by have := b0.out; omega) ⟨#[117, 112]⟩ (by decide) 1 (by omega) (by omega)).mono ?_
  intro e w2 hx
  obtain ⟨F2, R2, a2, c2, k2, he, hn, hst, ho, hfr⟩ := hx
  rw [TF.out.2.1] at he ho
  subst he
  have N2 := Lib.hid (show NetAt w2 n F2 R2 tg1 from hn)
  have K2 := Lib.hid (NStep.up K1.out.1 K1.out.2 hst)
  clear hn hst ho hfr hc0
  go_wp2_with fail
  refine (addreg_c N2.out (by have := b1.out; omega) false).mono ?_
  intro e w3 hx
  obtain ⟨F3, he, hn, hst⟩ := hx
  rw [TF.out.2.2.1] at he
  subst he
  have N3 := Lib.hid (show NetAt w3 n F3 R2 tg2 from hn)
  have K3 := Lib.hid (NStep.up K2.out.1 K2.out.2 hst)
  clear hn hst N2 N1 K1 K2
  go_wp2_with fail
  refine (lit_not 4 _ (by omega)).mono ?_
  rintro e w4 ⟨rfl, rfl⟩
  go_wp2_with fail
  refine (setreg_c N3.out (by have := b2.out; omega) 4 5 2 (by omega) (by omega) (by omega)).mono ?_
  intro e w5 hx
  obtain ⟨F5, R5, he, hn, hst⟩ := hx
  rw [TF.out.2.2.2.1] at he
  subst he
  have N5 := Lib.hid (show NetAt w5 n F5 R5 tg3 from hn)
  have K5 := Lib.hid (NStep.up K3.out.1 K3.out.2 hst)
  clear hn hst N3 K3
  go_wp2_with fail
  refine (addout_c (N5.out.kept0 ((Kept.refl [] w5).alloc _)) (by have := b3.out; omega) ⟨#[111, 117, 116]⟩ (by decide) (some ⟨w5.heap.size, 0, none⟩) 1 1 [4] rfl (by omega) (row_new w5 [4] 59) (by simp)).mono ?_
  intro e w6 hx
  obtain ⟨F6, R6, he, hn, hst0⟩ := hx
  rw [TF.out.2.2.2.2.1] at he
  subst he
  have hst : NStep w5 w6 F5 R5 F6 R6 := ((NStep.refl w5 F5 R5).keep ((Kept.refl [] w5).alloc _)).trans hst0
  have N6 := Lib.hid (show NetAt w6 n F6 R6 tg4 from hn)
  have K6 := Lib.hid (NStep.up K5.out.1 K5.out.2 hst)
  clear hn hst hst0 N5 K5
  go_wp2_with fail
  go_ret
  exact ⟨n, F6, R6, rfl, N6.out, K6.out.1⟩
end Go.Proofs.YtielfgngdhcpfaaGreat

namespace Go.Proofs.YtielfgngdhcpfaaGreat
open Go.ChangeShapes Go.WideShapes Go.ChangeAt Go.RowKit
open Go.Maps (Keyed)
open Go.WideMaps
set_option linter.unusedVariables false
set_option linter.unusedSimpArgs false

variable {w w' W W' : World} {s p n k : Nat} {F R F' R' S : List Nat} {g : Gr} {N : Nt}
theorem own_one (w : World) (e : TypeId) (v : Value) : Own (w.alloc (.cells #[v] e)) e (some ⟨w.heap.size, 0, none⟩) 1 1 [v] :=
  ⟨by simp, .inr ⟨w.heap.size, 1, _, rfl, Nat.zero_le _, heap_alloc_new w _, Nat.le_refl _, by decide, by simp, by simp⟩⟩
/-- the toggle's states -/
def sg (up : Nat) : Nat → Sm
  | 0 => newS tg4
  | k + 1 => nextS (sg up k) [[up]]
def tgWant (up j : Nat) : Nat := if j = 1 then up else 0
theorem sg_N (up k : Nat) : (sg up k).N = tg4 := by
  induction k with
  | zero => rfl
  | succ k ih => simp [sg, nextS, ih]
theorem sg_cy (up k : Nat) : (sg up k).cy = k := by
  induction k with
  | zero => rfl
  | succ k ih => simp [sg, nextS, ih]
theorem sg_ok (up : Nat) (hup : up < 18446744073709551616) (k : Nat) : SmOk 4 (sg up k) := by
  induction k with
  | zero => exact newS_ok tg_fine (by omega)
  | succ k ih => exact nextS_ok ih (by intro r hr x hx; simp at hr; subst hr; simp at hx; omega)
theorem sg_out (up : Nat) (hup : up = 18446744073709551615 ∨ up = 1) (j : Nat) (hj : j < 3) : outN (sg up j).N (wordsN (sg up j).N [[up]] (sg up j).regs) = [[tgWant up j]] := by
  rcases hup with rfl | rfl
  · rcases (by omega : j = 0 ∨ j = 1 ∨ j = 2) with rfl | rfl | rfl
    · kernel_rfl
    · kernel_rfl
    · kernel_rfl
  · rcases (by omega : j = 0 ∨ j = 1 ∨ j = 2) with rfl | rfl | rfl
    · kernel_rfl
    · kernel_rfl
    · kernel_rfl
theorem sg_fit (up k : Nat) : fitB (sg up k).N.inb [[up]] = true := by
  rw [sg_N]
  have h : tg4.inb.map (·.lits.length) = [1] := by decide
  unfold fitB
  rw [h]
  rfl
def TgStep (s : Nat) (F : List Nat) (up j : Nat) (w : World) (e : Ending) (w' : World) : Prop :=
  ∃ ob oc ad rc R', e = .returned (.tuple #[.slice (some ⟨ob, 0, none⟩) 1 oc, .int .i64 0]) ∧ w'.cell? ⟨ob, 0, none⟩ = some (.slice (some ad) 1 rc) ∧ w'.cell? ad = some (.int .u64 (tgWant up j : Nat)) ∧ w'.cell? (ad.add 0) = some (.int .u64 (tgWant up j : Nat)) ∧ SimAt w' s F R' (sg up (j + 1)) ∧ Kept F w w'
theorem tg_step (up : Nat) (hup : up = 18446744073709551615 ∨ up = 1) (j : Nat) (hj : j < 3) (h : SimAt w s F R (sg up j)) {a : Option Addr} {c : Nat} {r : WR} (hr : WRows w a 1 c [r]) (hrl : r.l = [up]) :
    Calls Tryz.prog 10 #[.pointer (some ⟨s, 0, none⟩), .slice a 1 c] w (TgStep s F up j w) := by
  have hlt : up < 18446744073709551616 := by omega
  refine (sim_step h (sg_ok up hlt j) (by rw [sg_cy]; omega) (by omega) hr (by intro q hq x hx; simp at hq; subst hq; rw [hrl] at hx; simp at hx; omega) (by simp only [List.map_cons, List.map_nil, hrl]; exact sg_fit up j)).mono ?_
  intro e w' hx
  obtain ⟨oa, oc, rs, R', he, hrows, hmap, hsim, hst, _⟩ := hx
  simp only [List.map_cons, List.map_nil, hrl] at hmap hsim
  rw [sg_out up hup j hj] at hmap
  have hO : (sg up j).N.outb.length = 1 := by rw [sg_N]; decide
  rw [hO] at he hrows
  obtain ⟨q, rfl⟩ : ∃ q, rs = [q] := by
    have := congrArg List.length hmap
    simp at this
    exact List.length_eq_one_iff.1 this
  simp at hmap
  obtain ⟨ob, rfl, hc⟩ := hrows.cell 0 (by simp)
  obtain ⟨ad, ha, hcell⟩ := (hrows.rows q (by simp)).1 0 (by simp [hmap])
  simp only [List.getElem_cons_zero, hmap, List.length_cons, List.length_nil, ha] at hc hcell
  refine ⟨ob, oc, ad, q.c, R', he, hc, ?_, hcell, hsim, hst.st.kept⟩
  have : ad.add 0 = ad := by unfold Addr.add; split <;> simp_all
  rwa [this] at hcell
set_option maxHeartbeats 3200000 in
set_option maxRecDepth 100000 in
theorem tells8 (w : World) : Calls Tryz.prog 12 #[] w fun e w' => e = .returned (.bool true) ∧ Kept [] w w' := by
  have TC := Lib.hid tg_facts
  have i0 : ∀ w, (Instr.index 108 (.agg #[.int .u64 18446744073709551615, .int .u64 1]) (.int .i64 0)).run Tryz.prog w = .ok (.int .u64 18446744073709551615) w := fun _ => by kernel_rfl
  have i1 : ∀ w, (Instr.index 108 (.agg #[.int .u64 18446744073709551615, .int .u64 1]) (.int .i64 1)).run Tryz.prog w = .ok (.int .u64 1) w := fun _ => by kernel_rfl
  have j0 : ∀ w (x : Int), (Instr.index 109 (.agg #[.int .u64 0, .int .u64 x, .int .u64 0]) (.int .i64 0)).run Tryz.prog w = .ok (.int .u64 0) w := fun _ _ => by kernel_rfl
  have j1 : ∀ w (x : Int), (Instr.index 109 (.agg #[.int .u64 0, .int .u64 x, .int .u64 0]) (.int .i64 1)).run Tryz.prog w = .ok (.int .u64 x) w := fun _ _ => by kernel_rfl
  have j2 : ∀ w (x : Int), (Instr.index 109 (.agg #[.int .u64 0, .int .u64 x, .int .u64 0]) (.int .i64 2)).run Tryz.prog w = .ok (.int .u64 0) w := fun _ _ => by kernel_rfl
  go_enter Tryz.func12, Tryz.ntmps12; (try simp only [List.append])
  go_wp2_with fail
  go_loopw [10] (fun i wr => ∃ k : Nat, k ≤ 2 ∧ i = .int .i64 k ∧ Kept [] w wr) (fun i _ => 2 - (intOf i).toNat)
  case atStart => exact ⟨0, Nat.zero_le _, rfl, .refl _ _⟩
  case round =>
    obtain ⟨k, hk, rfl, hkr⟩ := hrel
    have KR := Lib.hid hkr
    clear hkr
    by_cases hlt : k < 2
    · rcases (by omega : k = 0 ∨ k = 1) with rfl | rfl
      · go_wp2_with fail
        refine (toggle_c _).mono ?_
        rintro e w1 ⟨n, F, R, rfl, hn, hk1⟩
        have HN := Lib.hid hn
        have K1 := Lib.hid (KR.out.trans hk1)
        clear hn hk1
        go_wp2_with fail
        refine (sim_new HN.out tg_fine (by omega) TC.out.2.2.2.2.2).mono ?_
        rintro e w2 ⟨s, F2, R2, rfl, hs, hk2, hf2⟩
        have K2 := Lib.hid (K1.out.trans hk2)
        have HS := Lib.hid (show SimAt w2 s F2 R2 (sg 18446744073709551615 0) from hs)
        have F2S := Lib.hid (show ∀ b ∈ F2, w.heap.size ≤ b from fun b hb => Nat.le_trans K1.out.size (hf2 b (by simp [hb])))
        clear hs hk2 hf2
        go_wp2_with fail
        go_loopw [22] (fun i wr => ∃ (j : Nat) (R' : List Nat), j ≤ 3 ∧ i = .int .i64 j ∧ SimAt wr s F2 R' (sg 18446744073709551615 j) ∧ Kept [] w wr) (fun i _ => 3 - (intOf i).toNat)
        case atStart => exact ⟨0, R2, Nat.zero_le _, rfl, HS.out, K2.out⟩
        case round =>
          obtain ⟨j, R', hj, rfl, hs, hkr⟩ := hrel
          have HSJ := Lib.hid hs
          have KJ := Lib.hid hkr
          clear hs hkr
          by_cases hlt3 : j < 3
          · have HST := Lib.hid (fun (W : World) (hk : Kept [] wr W) (a : Option Addr) (c : Nat) (r : WR) (hr : WRows W a 1 c [r]) (hrl : r.l = [18446744073709551615]) => tg_step (s := s) (F := F2) 18446744073709551615 (by omega) j hlt3 (HSJ.out.kept0 hk) hr hrl)
            have HR := Lib.hid (show WRows ((wr.alloc (.cells #[.int .u64 18446744073709551615] 34)).alloc (.cells #[.slice (some ⟨wr.heap.size, 0, none⟩) 1 1] 35)) (some ⟨wr.heap.size + 1, 0, none⟩) 1 1 [⟨[18446744073709551615], some ⟨wr.heap.size, 0, none⟩, 1⟩] from by
              refine ⟨?_, ?_⟩
              · have h := own_one (wr.alloc (.cells #[.int .u64 18446744073709551615] 34)) 35 (.slice (some ⟨wr.heap.size, 0, none⟩) 1 1)
                have e1 : (wr.alloc (.cells #[.int .u64 18446744073709551615] 34)).heap.size = wr.heap.size + 1 := by simp
                rw [e1] at h
                exact h
              · intro r hr
                rw [List.mem_singleton] at hr
                subst hr
                have h := (own_one wr 34 (.int .u64 18446744073709551615)).alloc (.cells #[.slice (some ⟨wr.heap.size, 0, none⟩) 1 1] 35)
                have h2 : Own ((wr.alloc (.cells #[.int .u64 18446744073709551615] 34)).alloc (.cells #[.slice (some ⟨wr.heap.size, 0, none⟩) 1 1] 35)) 34 (some ⟨wr.heap.size, 0, none⟩) 1 1 (nats .u64 [18446744073709551615]) := h
                exact ⟨h2.sln, h2.lt⟩)
            rcases (by omega : j = 0 ∨ j = 1 ∨ j = 2) with rfl | rfl | rfl
            all_goals
              go_wp2_with fail
              refine (HST.out _ (((Kept.refl [] wr).alloc _).alloc _) _ _ _ HR.out rfl).mono ?_
              rintro e w5 ⟨ob, oc, ad, rc, R5, rfl, q1, q2, q3, hs5, hk5⟩
              have HS5 := Lib.hid hs5
              have K5 := Lib.hid (show Kept [] w w5 from kept_up (KJ.out.trans (((Kept.refl [] wr).alloc _).alloc _)) hk5 F2S.out)
              clear hs5 hk5
              simp only [tgWant, Nat.reduceEqDiff, if_true, if_false, Nat.zero_ne_one] at q2 q3
              go_wp2_with fail
              go_roundw
              case rel => exact ⟨_, R5, by omega, by go_num, HS5.out, K5.out⟩
              case measure => simp [intOf]
          · obtain rfl : j = 3 := by omega
            go_wp2_with fail
            go_roundw
            case rel => exact ⟨1, by omega, by go_num, KJ.out⟩
            case measure => simp [intOf]
      · go_wp2_with fail
        refine (toggle_c _).mono ?_
        rintro e w1 ⟨n, F, R, rfl, hn, hk1⟩
        have HN := Lib.hid hn
        have K1 := Lib.hid (KR.out.trans hk1)
        clear hn hk1
        go_wp2_with fail
        refine (sim_new HN.out tg_fine (by omega) TC.out.2.2.2.2.2).mono ?_
        rintro e w2 ⟨s, F2, R2, rfl, hs, hk2, hf2⟩
        have K2 := Lib.hid (K1.out.trans hk2)
        have HS := Lib.hid (show SimAt w2 s F2 R2 (sg 1 0) from hs)
        have F2S := Lib.hid (show ∀ b ∈ F2, w.heap.size ≤ b from fun b hb => Nat.le_trans K1.out.size (hf2 b (by simp [hb])))
        clear hs hk2 hf2
        go_wp2_with fail
        go_loopw [22] (fun i wr => ∃ (j : Nat) (R' : List Nat), j ≤ 3 ∧ i = .int .i64 j ∧ SimAt wr s F2 R' (sg 1 j) ∧ Kept [] w wr) (fun i _ => 3 - (intOf i).toNat)
        case atStart => exact ⟨0, R2, Nat.zero_le _, rfl, HS.out, K2.out⟩
        case round =>
          obtain ⟨j, R', hj, rfl, hs, hkr⟩ := hrel
          have HSJ := Lib.hid hs
          have KJ := Lib.hid hkr
          clear hs hkr
          by_cases hlt3 : j < 3
          · have HST := Lib.hid (fun (W : World) (hk : Kept [] wr W) (a : Option Addr) (c : Nat) (r : WR) (hr : WRows W a 1 c [r]) (hrl : r.l = [1]) => tg_step (s := s) (F := F2) 1 (by omega) j hlt3 (HSJ.out.kept0 hk) hr hrl)
            have HR := Lib.hid (show WRows ((wr.alloc (.cells #[.int .u64 1] 34)).alloc (.cells #[.slice (some ⟨wr.heap.size, 0, none⟩) 1 1] 35)) (some ⟨wr.heap.size + 1, 0, none⟩) 1 1 [⟨[1], some ⟨wr.heap.size, 0, none⟩, 1⟩] from by
              refine ⟨?_, ?_⟩
              · have h := own_one (wr.alloc (.cells #[.int .u64 1] 34)) 35 (.slice (some ⟨wr.heap.size, 0, none⟩) 1 1)
                have e1 : (wr.alloc (.cells #[.int .u64 1] 34)).heap.size = wr.heap.size + 1 := by simp
                rw [e1] at h
                exact h
              · intro r hr
                rw [List.mem_singleton] at hr
                subst hr
                have h := (own_one wr 34 (.int .u64 1)).alloc (.cells #[.slice (some ⟨wr.heap.size, 0, none⟩) 1 1] 35)
                have h2 : Own ((wr.alloc (.cells #[.int .u64 1] 34)).alloc (.cells #[.slice (some ⟨wr.heap.size, 0, none⟩) 1 1] 35)) 34 (some ⟨wr.heap.size, 0, none⟩) 1 1 (nats .u64 [1]) := h
                exact ⟨h2.sln, h2.lt⟩)
            rcases (by omega : j = 0 ∨ j = 1 ∨ j = 2) with rfl | rfl | rfl
            all_goals
              go_wp2_with fail
              refine (HST.out _ (((Kept.refl [] wr).alloc _).alloc _) _ _ _ HR.out rfl).mono ?_
              rintro e w5 ⟨ob, oc, ad, rc, R5, rfl, q1, q2, q3, hs5, hk5⟩
              have HS5 := Lib.hid hs5
              have K5 := Lib.hid (show Kept [] w w5 from kept_up (KJ.out.trans (((Kept.refl [] wr).alloc _).alloc _)) hk5 F2S.out)
              clear hs5 hk5
              simp only [tgWant, Nat.reduceEqDiff, if_true, if_false, Nat.zero_ne_one] at q2 q3
              go_wp2_with fail
              go_roundw
              case rel => exact ⟨_, R5, by omega, by go_num, HS5.out, K5.out⟩
              case measure => simp [intOf]
          · obtain rfl : j = 3 := by omega
            go_wp2_with fail
            go_roundw
            case rel => exact ⟨2, by omega, by go_num, KJ.out⟩
            case measure => simp [intOf]
    · obtain rfl : k = 2 := by omega
      go_wp2_with fail
      go_ret
      exact ⟨rfl, KR.out⟩
end Go.Proofs.YtielfgngdhcpfaaGreat
