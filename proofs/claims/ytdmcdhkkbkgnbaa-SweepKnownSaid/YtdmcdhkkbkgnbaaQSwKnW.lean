/-
  SweepKnown: the chapter's rows, a chain of stuck ones, none (closed).
-/
import Derived.Test.YtdmcdhkkbkgnbaaQSwKnA
import Derived.StillTailTactics
namespace Go.Proofs.Ytdmcdhkkbkgnbaa
open Go.ChangeShapes Go.WideShapes Go.ChangeAt Go.RowKit
open Go.Maps (Keyed)
open Go.WideMaps
set_option linter.unusedVariables false
set_option linter.unusedSimpArgs false

variable {w w' W w0 : World} {p n k m : Nat} {F R F' R' : List Nat} {N M : Nt}
theorem blk_net {q : Nat} {o : Obj} (hq : W.heap[q]? = some o) (hf : q ∉ F ∧ q ∉ R) (hs : NStep W w' F R F' R') : w'.heap[q]? = some o ∧ q ∉ F' ∧ q ∉ R' := by
  have hlt := blk_lt hq
  exact ⟨(hs.st.kept.block q hlt hf.1).trans hq, fun h => (hs.st.fresh q h).elim hf.1 (fun h2 => by omega), fun h => (hs.rows q h).elim hf.2 (fun h2 => by omega)⟩
/-- the netlist, the law's four literals, and its input's row -/
structure KnAt (w0 w : World) (n : Nat) (F R : List Nat) (N : Nt) (qa : Nat) (cs : Array Value) (ia : Option Addr) (ic : Nat) : Prop where
  net : NetAt w n F R N
  q : w.heap[qa]? = some (.cells cs 42 (0, 0))
  qf : qa ∉ F ∧ qa ∉ R
  io : Own w 41 ia 1 ic (nats .u32 [2])
  ig : ∀ b ∈ ft ia, b ∉ F ∧ b ∉ R
  iq : qa ∉ ft ia
  kept : Kept [] w0 w
  nw : ∀ b ∈ F, w0.heap.size ≤ b
  nq : w0.heap.size ≤ qa
theorem KnAt.step {qa ic : Nat} {cs : Array Value} {ia : Option Addr} (h : KnAt w0 w n F R N qa cs ia ic) (hn : NetAt w' n F' R' M) (hs : NStep w w' F R F' R') : KnAt w0 w' n F' R' M qa cs ia ic := by
  have h1 := blk_net h.q h.qf hs
  have h2 := NStep.up h.kept h.nw hs
  have h3 := own_net h.io h.ig hs
  exact ⟨hn, h1.1, h1.2, h3.1, h3.2, h.iq, h2.1, h2.2, h.nq⟩
theorem KnAt.kept0 {qa ic : Nat} {cs : Array Value} {ia : Option Addr} (h : KnAt w0 w n F R N qa cs ia ic) (hk : Kept [] w w') : KnAt w0 w' n F R N qa cs ia ic := h.step (h.net.kept0 hk) ((NStep.refl w F R).keep hk)
theorem KnAt.put {qa ic : Nat} {cs : Array Value} {ia : Option Addr} (h : KnAt w0 w n F R N qa cs ia ic) (k : Nat) (v : Value) : KnAt w0 (w.setCell ⟨qa, k, none⟩ v) n F R N qa (cs.setIfInBounds k v) ia ic := by
  have hk : Kept [qa] w (w.setCell ⟨qa, k, none⟩ v) := (Kept.refl [qa] w).setCell (p := ⟨qa, k, none⟩) (.inl (by simp)) v
  have h1 : ∀ {b}, b ≠ qa → b ∉ [qa] := fun h => by simpa using h
  exact ⟨h.net.kept hk (fun b hb => h1 (fun e => h.qf.1 (e ▸ hb))) (fun b hb => h1 (fun e => h.qf.2 (e ▸ hb))), blk_set h.q k v, h.qf, h.io.kept hk (fun b hb => h1 (fun e => h.iq (e ▸ hb))), h.ig, h.iq, kept_up h.kept hk (fun b hb => by rw [List.mem_singleton] at hb; subst hb; exact h.nq), h.nw, h.nq⟩
def qV (x : Nat) : Value := .int .u32 (x : Int)
def arrQ : Nat → Array Value
  | 0 => #[.int .u32 0, .int .u32 0, .int .u32 0, .int .u32 0]
  | 1 => #[.int .u32 4, .int .u32 0, .int .u32 0, .int .u32 0]
  | 2 => #[.int .u32 4, .int .u32 6, .int .u32 0, .int .u32 0]
  | 3 => #[.int .u32 4, .int .u32 6, .int .u32 8, .int .u32 0]
  | _ => #[.int .u32 4, .int .u32 6, .int .u32 8, .int .u32 10]
theorem arrQ_at : ∀ k, k < 4 → (arrQ 4)[k]? = some (.int .u32 ((4 + 2 * k : Nat) : Int))
  | 0, _ => rfl
  | 1, _ => rfl
  | 2, _ => rfl
  | 3, _ => rfl
theorem kS_len : ∀ k, k ≤ 4 → (kS k).g.nodes.length ≤ 100
  | 0, _ => k_facts.2.2.2.2.1.1
  | 1, _ => k_facts.2.2.2.2.1.2.1
  | 2, _ => k_facts.2.2.2.2.1.2.2.1
  | 3, _ => k_facts.2.2.2.2.1.2.2.2.1
  | 4, _ => k_facts.2.2.2.2.1.2.2.2.2.1
theorem keep_3k {w w' : World} {F : List Nat} {a0 a1 a2 : Addr} {v0 v1 v2 : Value} (hk : Kept F w w') (h0 : w.cell? a0 = some v0) (h1 : w.cell? a1 = some v1) (h2 : w.cell? a2 = some v2) (n0 : a0.block ∉ F) (n1 : a1.block ∉ F) (n2 : a2.block ∉ F) :
    w'.cell? a0 = some v0 ∧ w'.cell? a1 = some v1 ∧ w'.cell? a2 = some v2 := ⟨hk.cell h0 n0, hk.cell h1 n1, hk.cell h2 n2⟩
def YesKn (w : World) (e : Ending) (w' : World) : Prop := e = .returned (.bool true) ∧ Kept [] w w'
set_option maxHeartbeats 6400000 in
set_option maxRecDepth 100000 in
theorem sweep_known (w : World) : Calls Try.prog 3 #[] w (YesKn w) := by
  have HA0 := Lib.hid (fun (W : World) => kn_all W)
  have HO0 := Lib.hid (fun (W : World) => kn_once W)
  have HN0 := Lib.hid (fun (W : World) => kn_needed W)
  have HS0 := Lib.hid (fun (W : World) => kn_stuck W)
  have HT := Lib.hid (fun (W : World) => tells30 W)
  have KF := Lib.hid k_facts
  have ZF := Lib.hid kZ_facts
  go_enter Try.func3, Try.ntmps3; (try simp only [List.append])
  go_wp2_with fail
  refine (HA0.out _).mono ?_
  rintro e w1 ⟨rfl, k1⟩
  have K1 := Lib.hid (k1)
  clear k1
  go_wp2_with fail
  refine (HO0.out _).mono ?_
  rintro e w2 ⟨rfl, k1⟩
  have K2 := Lib.hid ((K1.out.trans k1))
  clear k1
  go_wp2_with fail
  refine (HN0.out _).mono ?_
  rintro e w3 ⟨rfl, k1⟩
  have K3 := Lib.hid ((K2.out.trans k1))
  clear k1
  go_wp2_with fail
  refine (HS0.out _).mono ?_
  rintro e w4 ⟨rfl, k1⟩
  have K4 := Lib.hid ((K3.out.trans k1))
  clear k1
  go_wp2_with fail
  refine (new_net ⟨#[99, 104, 97, 105, 110]⟩ true true _ (by decide) (by decide)).mono ?_
  rintro e w5 ⟨n, F5, rfl, hn, hk, hf⟩
  have K5 := Lib.hid (K4.out.trans hk)
  have F5' := Lib.hid (show ∀ b ∈ F5, w.heap.size ≤ b from fun b hb => Nat.le_trans K4.out.size (hf b hb))
  have N5 := Lib.hid hn
  obtain ⟨p5, hc5⟩ := N5.out.graphC
  clear hn hk hf
  go_wp2_with fail
  clear hc5
  refine (addin_c N5.out (by decide) ⟨#[105, 110]⟩ (by decide) 1 (by omega) (by omega)).mono ?_
  intro e w6 hx
  obtain ⟨F6, R6, ia, ic, ik, he, hn, hst, ho, hfr⟩ := hx
  rw [KF.out.1] at he ho
  have hik : ik = 1 := by have := ho.len; simpa [nats] using this.symm
  subst hik
  subst he
  have K6 := Lib.hid (NStep.up K5.out F5'.out hst)
  have N6 := Lib.hid (show NetAt w6 n F6 R6 (kR 0) from hn)
  have O6 := Lib.hid (And.intro ho (fun b hb => (hfr b hb).2))
  clear hn hst ho hfr N5 K5 F5'
  go_wp2_with fail
  obtain ⟨w7, hw7⟩ : ∃ v, v = w6.alloc (.cells (arrQ 0) 42) := ⟨_, rfl⟩
  have KA := Lib.hid (show KnAt w w7 n F6 R6 (kR 0) w6.heap.size (arrQ 0) ia ic from by
    have hk : Kept [] w6 w7 := by rw [hw7]; exact (Kept.refl [] w6).alloc _
    have lt := N6.out.lt
    refine ⟨N6.out.kept0 hk, by rw [hw7]; exact heap_alloc_new w6 _, ⟨fun h => absurd (lt.1 _ h) (Nat.lt_irrefl _), fun h => absurd (lt.2 _ h) (Nat.lt_irrefl _)⟩, O6.out.1.kept0 hk, O6.out.2, fun h => absurd (O6.out.1.lt _ h) (Nat.lt_irrefl _), K6.out.1.trans hk, K6.out.2, K6.out.1.size⟩)
  rw [show w6.alloc (.cells #[.int .u32 0, .int .u32 0, .int .u32 0, .int .u32 0] 42) = w7 from hw7.symm]
  clear hw7 N6 O6 K6
  generalize w6.heap.size = qa at *
  go_loopw [82] (fun v wr => ∃ (k : Nat) (F R : List Nat), k ≤ 4 ∧ v = .int .i64 k ∧ KnAt w wr n F R (kR k) qa (arrQ k) ia ic) (fun v _ => 4 - (intOf v).toNat)
  case atStart => exact ⟨0, F6, R6, by omega, rfl, KA.out⟩
  case round =>
    clear KA
    obtain ⟨k, F, R, hk, rfl, hka⟩ := hrel
    obtain ⟨wr', rfl⟩ : ∃ v : World, v = wr := ⟨_, rfl⟩
    have KA := Lib.hid hka
    clear hka
    obtain rfl | rfl | rfl | rfl | rfl : k = 0 ∨ k = 1 ∨ k = 2 ∨ k = 3 ∨ k = 4 := by omega
    · as_aux_lemma =>
      go_wp2_with fail
      refine (addreg_c KA.out.net (by have := KF.out.2.2.2.1.1; have := (kR_fine 0).ok.rk; omega) false).mono ?_
      intro e w8 hx
      obtain ⟨F8, he, hn, hst⟩ := hx
      rw [KF.out.2.1.1] at he
      subst he
      have KB := Lib.hid (show KnAt w w8 n F8 R (kR 1) qa (arrQ 0) ia ic from KA.out.step hn hst)
      clear hn hst
      have e0 : w8.cell? ⟨qa, 0, none⟩ = some (.int .u32 0) := blk_cell KB.out.q 0
      have e1 := blk_free KB.out.q 0
      go_wp2_with fail
      have KC := Lib.hid (show KnAt w _ n F8 R (kR 1) qa (arrQ 1) ia ic from KB.out.put 0 (.int .u32 4))
      clear e0 e1
      go_roundw
      case rel => exact ⟨1, F8, R, by omega, by go_num, KC.out⟩
      case measure => simp [intOf]
    · as_aux_lemma =>
      go_wp2_with fail
      refine (addreg_c KA.out.net (by have := KF.out.2.2.2.1.2.1; have := (kR_fine 1).ok.rk; omega) false).mono ?_
      intro e w8 hx
      obtain ⟨F8, he, hn, hst⟩ := hx
      rw [KF.out.2.1.2.1] at he
      subst he
      have KB := Lib.hid (show KnAt w w8 n F8 R (kR 2) qa (arrQ 1) ia ic from KA.out.step hn hst)
      clear hn hst
      have e0 : w8.cell? ⟨qa, 1, none⟩ = some (.int .u32 0) := blk_cell KB.out.q 1
      have e1 := blk_free KB.out.q 1
      go_wp2_with fail
      have KC := Lib.hid (show KnAt w _ n F8 R (kR 2) qa (arrQ 2) ia ic from KB.out.put 1 (.int .u32 6))
      clear e0 e1
      go_roundw
      case rel => exact ⟨2, F8, R, by omega, by go_num, KC.out⟩
      case measure => simp [intOf]
    · as_aux_lemma =>
      go_wp2_with fail
      refine (addreg_c KA.out.net (by have := KF.out.2.2.2.1.2.2.1; have := (kR_fine 2).ok.rk; omega) false).mono ?_
      intro e w8 hx
      obtain ⟨F8, he, hn, hst⟩ := hx
      rw [KF.out.2.1.2.2.1] at he
      subst he
      have KB := Lib.hid (show KnAt w w8 n F8 R (kR 3) qa (arrQ 2) ia ic from KA.out.step hn hst)
      clear hn hst
      have e0 : w8.cell? ⟨qa, 2, none⟩ = some (.int .u32 0) := blk_cell KB.out.q 2
      have e1 := blk_free KB.out.q 2
      go_wp2_with fail
      have KC := Lib.hid (show KnAt w _ n F8 R (kR 3) qa (arrQ 3) ia ic from KB.out.put 2 (.int .u32 8))
      clear e0 e1
      go_roundw
      case rel => exact ⟨3, F8, R, by omega, by go_num, KC.out⟩
      case measure => simp [intOf]
    · as_aux_lemma =>
      go_wp2_with fail
      refine (addreg_c KA.out.net (by have := KF.out.2.2.2.1.2.2.2; have := (kR_fine 3).ok.rk; omega) false).mono ?_
      intro e w8 hx
      obtain ⟨F8, he, hn, hst⟩ := hx
      rw [KF.out.2.1.2.2.2] at he
      subst he
      have KB := Lib.hid (show KnAt w w8 n F8 R (kR 4) qa (arrQ 3) ia ic from KA.out.step hn hst)
      clear hn hst
      have e0 : w8.cell? ⟨qa, 3, none⟩ = some (.int .u32 0) := blk_cell KB.out.q 3
      have e1 := blk_free KB.out.q 3
      go_wp2_with fail
      have KC := Lib.hid (show KnAt w _ n F8 R (kR 4) qa (arrQ 4) ia ic from KB.out.put 3 (.int .u32 10))
      clear e0 e1
      go_roundw
      case rel => exact ⟨4, F8, R, by omega, by go_num, KC.out⟩
      case measure => simp [intOf]
    · have KB := Lib.hid (show KnAt w wr' n F R (kS 0) qa (arrQ 4) ia ic from KA.out)
      obtain ⟨ad, had, hcx⟩ := KB.out.io.sln 0 (by simp)
      rw [add_nil] at hcx
      subst had
      have e0 : wr'.cell? ⟨qa, 0, none⟩ = some (.int .u32 4) := blk_cell KB.out.q 0
      have e1 : wr'.cell? ad = some (.int .u32 2) := hcx
      clear hcx KA
      go_wp2_with fail
      refine wp_region_still_tail 6 (by kernel_rfl) (by kernel_rfl) ?_
      simp only [List.take_succ_cons, List.take_zero, List.drop_succ_cons, List.drop_zero]
      repeat still_step
      refine wpStill_nil ?_
      change wpList _ _ _ _ _ wr'.drew
      have KB2 := Lib.hid (KB.out.kept0 (show Kept [] wr' wr'.drew from (Kept.refl [] wr').drew))
      go_wp2_with fail
      refine (setreg_c KB2.out.net (by have := KF.out.2.2.2.2.1.1; have := (kS_fine 0).ok.rk; omega) 4 2 0 (by omega) (by omega) (by omega)).mono ?_
      intro e w8 hx
      obtain ⟨F8, R8, he, hn, hst⟩ := hx
      subst he
      have KC := Lib.hid (show KnAt w w8 n F8 R8 (kS 1) qa (arrQ 4) (some ad) ic from KB2.out.step hn hst)
      clear hn hst e0 e1 KB KB2
      go_wp2_with fail
      go_loopw [16] (fun v wr => ∃ (k : Nat) (F R : List Nat), 1 ≤ k ∧ k ≤ 4 ∧ v = .int .i64 k ∧ KnAt w wr n F R (kS k) qa (arrQ 4) (some ad) ic) (fun v _ => 4 - (intOf v).toNat)
      case atStart => exact ⟨1, F8, R8, by omega, by omega, rfl, KC.out⟩
      case round =>
        clear KC
        obtain ⟨k, F, R, hk1, hk, rfl, hka⟩ := hrel
        obtain ⟨ws, rfl⟩ : ∃ v : World, v = wr := ⟨_, rfl⟩
        have KA := Lib.hid hka
        clear hka
        by_cases hlt : k < 4
        · as_aux_lemma =>
          obtain ⟨j, hkj⟩ : ∃ j, k = j + 1 := ⟨k - 1, by omega⟩
          obtain ⟨x, hx⟩ : ∃ x, x = 4 + 2 * k := ⟨_, rfl⟩
          obtain ⟨y, hy⟩ : ∃ y, y = 2 + 2 * k := ⟨_, rfl⟩
          have e0 : ws.cell? ⟨qa, k, none⟩ = some (.int .u32 (x : Int)) := by rw [hx]; exact (blk_cell KA.out.q k).trans (arrQ_at k hlt)
          have e1 : ws.cell? ⟨qa, j, none⟩ = some (.int .u32 (y : Int)) := by rw [hy, show 2 + 2 * k = 4 + 2 * j from by omega]; exact (blk_cell KA.out.q j).trans (arrQ_at j (by omega))
          have HX := Lib.hid hx
          have HY := Lib.hid hy
          have HK := Lib.hid hkj
          have j0 : (0 : Int) ≤ (k : Int) := by omega
          have j1 : (k : Int) < 4 := by omega
          have j2 : (0 : Int) ≤ (j : Int) := by omega
          have j3 : (j : Int) < 4 := by omega
          have hw : IntKind.i64.wrap ((k : Int) - 1) = (j : Int) := by rw [IntWalk.i64_in _ (by omega)]; omega
          clear hx hy hkj
          go_wp2_with fail
          refine wp_region_still_tail 8 (by kernel_rfl) (by kernel_rfl) ?_
          simp only [List.take_succ_cons, List.take_zero, List.drop_succ_cons, List.drop_zero]
          repeat still_step
          refine wpStill_nil ?_
          change wpList _ _ _ _ _ ws.drew
          have KB2 := Lib.hid (KA.out.kept0 (show Kept [] ws ws.drew from (Kept.refl [] ws).drew))
          go_wp2_with fail
          refine (setreg_c KB2.out.net (by have := (kS_fine k).ok.rk; have := kS_len k (by omega); omega) x y 1 (by have := HX.out; omega) (by have := HY.out; omega) (by omega)).mono ?_
          intro e w8 hx
          obtain ⟨F8, R8, he, hn, hst⟩ := hx
          subst he
          have KC := Lib.hid (show KnAt w w8 n F8 R8 (kS (k + 1)) qa (arrQ 4) (some ad) ic from KB2.out.step (by
            have h1 : kS (k + 1) = (setReg (kS k) x y 1).1 := by rw [HX.out, HY.out, HK.out]; rfl
            rw [h1]; exact hn) hst)
          clear hn hst e0 e1
          go_wp2_with fail
          go_roundw
          case rel => exact ⟨k + 1, F8, R8, by omega, by omega, by go_num, KC.out⟩
          case measure => simp [intOf]; omega
        · obtain rfl : k = 4 := by omega
          have KB := Lib.hid KA.out
          obtain ⟨p, G, ja, jc, ra, rc, oa, oc, ri, ro, hFe, hRe, hc⟩ := KB.out.net
          have HC := Lib.hid hc
          have HF := Lib.hid hFe
          have HR := Lib.hid hRe
          have hcx := KB.out.io.sln 0 (by simp)
          obtain ⟨ad2, had, hcx⟩ := hcx
          injection had with had
          subst had
          rw [add_nil] at hcx
          have e0 : ws.cell? ⟨qa, 3, none⟩ = some (.int .u32 10) := blk_cell KB.out.q 3
          have e1 : ws.cell? ad = some (.int .u32 2) := hcx
          have e2 := hc.c0
          clear hcx hc hFe hRe KA
          have HG1 := Lib.hid (HC.out.gr.kept0 (show Kept [] ws ws.drew from (Kept.refl [] ws).drew))
          have hlt3 := HG1.out.lt
          have HXC := Lib.hid (show Calls Try.prog 12 #[.pointer (some ⟨p, 0, none⟩), .slice (some ⟨ws.heap.size, 0, none⟩) 2 2] (ws.drew.alloc (.cells #[.int .u32 (10 : Int), .int .u32 (2 : Int)] 41)) (fun e w' => ∃ F', e = .returned (.tuple #[.int .u32 (kxl : Nat), .int .i64 0]) ∧ GraphAt w' p F' (xorG (kS 4).g 10 2).1 ∧ Stepped (ws.drew.alloc (.cells #[.int .u32 (10 : Int), .int .u32 (2 : Int)] 41)) w' G F') from
            aig_Xor_ (HG1.out.kept0 ((Kept.refl [] ws.drew).alloc _)) (some ⟨ws.drew.heap.size, 0, none⟩) 2 2 [10, 2] rfl (by have := KF.out.2.2.2.2.1.2.2.2.2.1; omega) (row_new ws.drew [10, 2] 41) (gone_false.1 KF.out.2.2.1.1) (by intro b hb hx; rw [mem_ft] at hb; subst hb; exact Nat.lt_irrefl _ (hlt3 _ hx)))
          have n0 := Lib.hid (show n ∉ G from HC.out.apart.1)
          have n1 := Lib.hid (show qa ∉ G from fun h => KB.out.qf.1 (by rw [HF.out]; simp [h]))
          have n2 := Lib.hid (show ad.block ∉ G from fun h => (KB.out.ig ad.block (by simp [ft])).1 (by rw [HF.out]; simp [h]))
          have HXL := Lib.hid KF.out.2.2.2.2.2.2
          have E9 := Lib.hid (show kX = { kS 4 with g := (xorG (kS 4).g 10 2).1 } from by unfold kX gateN; rw [KF.out.2.2.1.1]; rfl)
          have EZ := Lib.hid (show kZ = (addOut kX ⟨#[120]⟩ [kxl]).1 from rfl)
          have LZ := Lib.hid (show kX.outb.length ≤ 100 from by have := (gateN_fine (kS_fine 4) xorG two_xor 10 2).ok.ok; unfold kX; omega)
          generalize kxl = kx at *
          generalize (xorG (kS 4).g 10 2).1 = gx at *
          clear hlt3
          go_upto_region 21 with (fail)
          go_region_held3 (fun V => V.cell? ⟨n, 0, none⟩ = some (.pointer (some ⟨p, 0, none⟩)) ∧ V.cell? ⟨qa, 3, none⟩ = some (.int .u32 10) ∧ V.cell? ad = some (.int .u32 2))
            (first | exact keep_3k (w := ws) (F := G) (by (repeat (first | with_reducible exact Kept.refl _ _ | with_reducible apply Kept.drew | with_reducible apply Kept.drewN | with_reducible apply Kept.alloc | refine Kept.trans ?_ k5))) e2 e0 e1 n0.out n1.out n2.out | go_keep)
            (first | (go_at_call 12; refine HXC.out.mono ?_; rintro e w9 ⟨G9, rfl, hg9, hst9⟩; have k5 := hst9.kept))
          all_goals
            have st9 : Stepped ws w9 G G9 := (⟨((Kept.refl [] ws).drew.alloc _) |>.more (by simp), fun b hb => .inl hb⟩ : Stepped ws _ G G).trans hst9
            have hgr9 : GraphAt w9 p G9 gx := hg9
            have hc9 := HC.out.graph hgr9 st9
            have hs9 : NStep ws w9 F R (n :: (G9 ++ (ft ja ++ (ft ra ++ ft oa)))) R := by
              have h := NetC.graph_step (n := n) (ia := ja) (ra := ra) (oa := oa) (ri := ri) (ro := ro) st9
              rw [HF.out, HR.out]; exact h
            have KC := Lib.hid (show KnAt w w9 n (n :: (G9 ++ (ft ja ++ (ft ra ++ ft oa)))) R kX qa (arrQ 4) (some ad) ic from KB.out.step (by
              rw [E9.out]
              exact ⟨p, G9, ja, jc, ra, rc, oa, oc, ri, ro, rfl, HR.out, hc9⟩) hs9)
            generalize (n :: (G9 ++ (ft ja ++ (ft ra ++ ft oa)))) = F9 at *
            clear hg9 hst9 st9 hgr9 hc9 hs9 HC HF HR e0 e1 e2 KB HG1
            go_wp2_with fail
            refine (addout_c (KC.out.net.kept0 ((Kept.refl [] w9).alloc _)) (by have := LZ.out; have := KF.out.2.2.2.2.1.2.2.2.2.2; omega) ⟨#[120]⟩ (by decide) (some ⟨w9.heap.size, 0, none⟩) 1 1 [kx] rfl (by omega) (row_new w9 [kx] 41) (by have := HXL.out; simp; omega)).mono ?_
            intro e w10 hx
            obtain ⟨F10, R10, he, hn, hst0⟩ := hx
            have hst := ((NStep.refl w9 F9 R).keep ((Kept.refl [] w9).alloc _)).trans hst0
            subst he
            have KD := Lib.hid (show KnAt w w10 n F10 R10 kZ qa (arrQ 4) (some ad) ic from KC.out.step (by rw [EZ.out]; exact hn) hst)
            clear hn hst hst0 KC
            have hon := Once_c KD.out.net kZ_fine (by omega)
            rw [if_pos ZF.out.1] at hon
            have HON := Lib.hid hon
            clear hon
            go_wp2_with fail
            refine HON.out.mono ?_
            rintro e w11 ⟨n1, F11, R11, rfl, hn1, k11, hf11⟩
            have N11 := Lib.hid hn1
            have KE := Lib.hid (KD.out.kept0 k11)
            have hal := All_c KE.out.net kZ_fine (by omega)
            rw [if_pos ZF.out.1] at hal
            have HAL := Lib.hid hal
            clear hn1 k11 hf11 hal HON KD
            go_wp2_with fail
            refine HAL.out.mono ?_
            rintro e w12 ⟨n2, F12, R12, rfl, hn2, k12, hf12⟩
            have N12 := Lib.hid (N11.out.kept0 k12)
            have A12 := Lib.hid hn2
            have KG := Lib.hid (KE.out.kept0 k12)
            clear hn2 k12 hf12 HAL KE N11
            obtain ⟨p2, G2, ia2, ic2, ra2, rc2, oa2, oc2, ri2, ro2, hF, hR, hc⟩ := A12.out
            have HGX := Lib.hid hc.gr
            have hoL : (sweptN kZ).outb.length = 1 := by have h := congrArg List.length ZF.out.2.2.2.2.2; simpa using h
            have hro : ro2.length = 1 := by rw [← hoL, ← hc.ob.is, List.length_map]
            have LX := Lib.hid (show LookN w12 n2 p2 ia2 ic2 oa2 oc2 (sweptN kZ).inb.length 1 from ⟨hc.c0, hc.c2, by have h := hc.c4; rw [hoL] at h; exact h⟩)
            obtain ⟨gb, rfl, x0, x1⟩ := hc.ob.slb 0 (by omega)
            have hlits : (ro2[0]'(by omega)).b.lits = [2] := by
              have h1 := ZF.out.2.2.2.2.2
              rw [← hc.ob.is, List.map_map] at h1
              have h2 := congrArg (fun l => l[0]?) h1
              simpa [List.getElem?_eq_getElem (show 0 < ro2.length by omega)] using h2
            have hrow := (hc.ob.rows _ (List.getElem_mem (show 0 < ro2.length by omega))).1
            rw [hlits] at x1 hrow
            obtain ⟨ad3, had, hcx⟩ := hrow 0 (by simp)
            rw [add_nil] at hcx
            rw [had] at x1
            simp only [Nat.zero_mul, Nat.zero_add, List.length_cons, List.length_nil, List.getElem_cons_zero] at x1 hcx
            have HX1 := Lib.hid x1
            have HCX := Lib.hid hcx
            generalize ro2[0].c = rcc at *
            clear hF hR hc hoL hro x0 hlits hrow had x1 hcx
            have HB1 := Lib.hid (fun (V : World) (hV : Kept [] w12 V) => nbits_c (N12.out.kept0 hV))
            have HB2 := Lib.hid (fun (V : World) (hV : Kept [] w12 V) => nbits_c (A12.out.kept0 hV))
            have HB3 := Lib.hid (fun (V : World) (hV : Kept [] w12 V) => nbits_c (KG.out.net.kept0 hV))
            rw [ZF.out.2.2.1] at HB1
            rw [ZF.out.2.2.2.1] at HB2
            rw [ZF.out.2.1] at HB3
            have HGT := Lib.hid (fun (V : World) (hV : Kept [] w12 V) => aig_gates (HGX.out.kept0 hV) (by have h := (swept_ind kZ_fine (fun _ => True) trivial (fun _ _ _ _ => trivial)).2.1.ok.len; omega))
            rw [gatesN_X (swept_ind kZ_fine (fun _ => True) trivial (fun _ _ _ _ => trivial)).2.1, ZF.out.2.2.2.2.1] at HGT
            have e0 := LX.out.c0
            go_wp2_with fail
            refine (HB1.out _ (Kept.refl _ _)).mono ?_
            rintro e v1 ⟨rfl, k1⟩
            have K1' := Lib.hid k1
            clear k1 e0
            go_wp2_with fail
            refine (HB2.out _ K1'.out).mono ?_
            rintro e v2 ⟨rfl, k2⟩
            have K2' := Lib.hid (K1'.out.trans k2)
            have e0 := (LX.out.kept0 K2'.out).c0
            clear k2
            go_wp2_with fail
            refine (HGT.out _ K2'.out).mono ?_
            rintro e v3 ⟨rfl, d3, h3⟩
            have K3' := Lib.hid (show Kept [] w12 v3 from by rw [h3]; exact K2'.out.drewN d3)
            clear h3 e0
            have e4 := (LX.out.kept0 K3'.out).c4
            have e5 := K3'.out.cell HX1.out (by simp)
            have e6 := K3'.out.cell HCX.out (by simp)
            go_wp2_with fail
            refine (HB3.out _ K3'.out).mono ?_
            rintro e v4 ⟨rfl, k4⟩
            have K4' := Lib.hid (K3'.out.trans k4)
            clear k4 e4 e5 e6
            go_wp2_with fail
            refine (HT.out _).mono ?_
            rintro e v5 ⟨rfl, k5⟩
            have K5' := Lib.hid (K4'.out.trans k5)
            clear k5
            go_wp2_with fail
            go_ret
            exact ⟨rfl, KG.out.kept.trans K5'.out⟩
end Go.Proofs.Ytdmcdhkkbkgnbaa
