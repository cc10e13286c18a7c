/-
  Package sim: New.
-/
import Derived.Test.YtdmcdhkkbkgnbaaGreatQSimB
namespace Go.Proofs.YtdmcdhkkbkgnbaaGreat
open Go.ChangeShapes Go.WideShapes Go.ChangeAt Go.RowKit
open Go.Maps (Keyed)
open Go.WideMaps
set_option linter.unusedVariables false
set_option linter.unusedSimpArgs false

variable {w w' : World} {s p n : Nat} {F R S : List Nat} {g : Gr} {N : Nt} {σ : Sm}
/-- the first k have their places, the others have none -/
def PlacedTo (f : Value → Option Value) (is : List Nat) (k : Nat) : Prop :=
  (∀ (j i : Nat), j < k → is[j]? = some i → f (.int .i64 (i : Int)) = some (.int .i64 (j : Int))) ∧ ∀ (j i : Nat), k ≤ j → is[j]? = some i → f (.int .i64 (i : Int)) = none
theorem placed_zero (is : List Nat) : PlacedTo (fun _ => none) is 0 := ⟨fun j i h => by omega, fun _ _ _ _ => rfl⟩
theorem nodup_get {is : List Nat} (hn : is.Nodup) {j k i : Nat} (hj : is[j]? = some i) (hk : is[k]? = some i) : j = k := by
  obtain ⟨h1, h2⟩ := List.getElem?_eq_some_iff.1 hj
  obtain ⟨h3, h4⟩ := List.getElem?_eq_some_iff.1 hk
  have := List.nodup_iff_pairwise_ne.1 hn
  rcases Nat.lt_trichotomy j k with h | h | h
  · exact absurd (h2.trans h4.symm) (List.pairwise_iff_getElem.1 this j k h1 h3 h)
  · exact h
  · exact absurd (h4.trans h2.symm) (List.pairwise_iff_getElem.1 this k j h3 h1 h)
theorem placed_succ {f : Value → Option Value} {is : List Nat} {k x : Nat} (hn : is.Nodup) (hk : is[k]? = some x) (h : PlacedTo f is k) : PlacedTo (upd f (.int .i64 (x : Int)) (.int .i64 (k : Int))) is (k + 1) := by
  refine ⟨fun j i hj hi => ?_, fun j i hj hi => ?_⟩
  · unfold upd
    by_cases hx : i = x
    · subst hx
      have := nodup_get hn hi hk
      subst this
      simp
    · have hjk : j ≠ k := fun e => by subst e; rw [hi] at hk; injection hk with hk; exact hx hk
      rw [if_neg (by intro e; injection e with _ e; omega)]
      exact h.1 j i (by omega) hi
  · unfold upd
    have hx : i ≠ x := fun e => by subst e; have := nodup_get hn hi hk; omega
    rw [if_neg (by intro e; injection e with _ e; omega)]
    exact h.2 j i (by omega) hi
theorem placed_all {f : Value → Option Value} {is : List Nat} {k : Nat} (hl : is.length = k) (h : PlacedTo f is k) : Placed f is := fun j i hi =>
  h.1 j i (by have := (List.getElem?_eq_some_iff.1 hi).1; omega) hi
def newS (N : Nt) : Sm := ⟨N, resetN N, [], 0⟩
def SimNew (N : Nt) (w : World) (e : Ending) (w' : World) : Prop := ∃ s F R, e = .returned (.tuple #[.pointer (some ⟨s, 0, none⟩), .int .i64 0]) ∧ SimAt w' s F R (newS N) ∧ Kept [] w w' ∧ ∀ b ∈ F ++ R, w.heap.size ≤ b
set_option maxHeartbeats 1600000 in
set_option maxRecDepth 100000 in
theorem sim_new {k : Nat} (h : NetAt w n F R N) (hf : NtFine k N) (hk : k ≤ 700) (hz : checkN N = 0) : Calls Tryz.prog 30 #[.pointer (some ⟨n, 0, none⟩)] w (SimNew N w) := by
  have hlen := hf.ok.len
  have hlen2 := hf.ok.ik
  have hlen3 := hf.ok.rk
  have hlen4 := hf.ok.ok
  have HK := Lib.hid (check_c h hf hk)
  rw [hz] at HK
  have HNC := Lib.hid (fun (W : World) (hk : Kept [] w W) => net_copy (h.kept0 hk) ⟨by omega, by omega, by omega, by omega⟩ (fun b hb => by have := hf.ok.il b hb; omega) (fun b hb => by have := hf.ok.ol b hb; omega))
  have hile : (ins N.g.nodes).length ≤ 1000000 := by have := insFrom_length 0 N.g.nodes; unfold ins; omega
  have hnodes : N.g.nodes.length ≤ 1000000 := by omega
  have hregs : N.regs.length ≤ 1000000 := by omega
  have HD := Lib.hid (ins_nodup N.g.nodes)
  have HLT := Lib.hid (ins_lt N.g.nodes)
  have hmm := @run_makeMap Tryz.prog
  clear h hf hk hz hlen hlen2 hlen3 hlen4
  go_enter Tryz.func30, Tryz.ntmps30
  go_wp2_with fail
  refine HK.out.mono ?_
  rintro e w1 ⟨rfl, hk1⟩
  have K1 := Lib.hid hk1
  clear hk1
  go_wp2_with fail
  refine (HNC.out _ K1.out).mono ?_
  rintro e w2 ⟨n', NF, NR, rfl, hn2, hk2, hfr2⟩
  have HN2 := Lib.hid hn2
  have K2 := Lib.hid (K1.out.trans hk2)
  have FR2 := Lib.hid (fun b hb => Nat.le_trans K1.out.size (hfr2 b hb))
  obtain ⟨p, G, ia, ic, ra, rc, oa, oc, ri, ro, hNF, hNR, hc⟩ := hn2
  have n0 := hc.c0
  have n0' := fun o o' => cell_alloc (cell_alloc n0 o) o'
  have HG := Lib.hid (fun (W : World) (hk : Kept [] w2 W) => aig_inputs (hc.gr.kept0 hk) hnodes)
  clear hk2 hfr2 hc hNF hNR n0
  go_wp2_with fail
  obtain ⟨mm, hmq⟩ : ∃ q, q = w2.heap.size := ⟨_, rfl⟩
  obtain ⟨q, hq⟩ : ∃ q, q = mm + 1 := ⟨_, rfl⟩
  rw [← hmq, ← hq]
  obtain ⟨w3, hw3⟩ : ∃ W, W = ((w2.alloc (.map #[] 0)).alloc (.cells #[.pointer (some ⟨n', 0, none⟩), .slice none 0 0, .map (some mm), .slice none 0 0, .int .i64 0] 154)) := ⟨_, rfl⟩
  rw [← hw3]
  have hK3 : Kept [] w2 w3 := by rw [hw3]; exact ((Kept.refl [] w2).alloc _).alloc _
  have hM3 : MapG w3 Tryz.prog 3 mm (fun _ => none) 0 := by rw [hw3, hmq]; exact (MapG.new w2 _ _).kept ((Kept.refl [] _).alloc _) (by simp)
  have hB3 : w3.heap[q]? = some (.cells #[.pointer (some ⟨n', 0, none⟩), .slice none 0 0, .map (some mm), .slice none 0 0, .int .i64 0] 154 (0, 0)) := by
    have hqq : q = (w2.alloc (.map #[] 0)).heap.size := by rw [hq, hmq]; simp
    rw [hw3, hqq]; exact heap_alloc_new _ _
  have K3 := Lib.hid hK3
  have M3 := Lib.hid hM3
  have B3 := Lib.hid hB3
  have HMQ := Lib.hid hmq
  have HQ := Lib.hid hq
  clear n0' hw3 hmq hq hK3 hM3 hB3 hmm
  refine (HG.out _ K3.out).mono ?_
  rintro e w4 ⟨ea, ec, rfl, ho4, hst4⟩
  have HO4 := Lib.hid ho4
  have K4 := Lib.hid hst4.kept
  clear ho4 hst4 HG
  obtain ⟨ni, hni⟩ : ∃ k, k = (ins N.g.nodes).length := ⟨_, rfl⟩
  have HNI := Lib.hid hni
  rw [← hni] at HO4 hile ⊢
  clear hni
  go_wp2_with fail
  go_loopw [27] (fun i wr => ∃ (k : Nat) (f : Value → Option Value), k ≤ ni ∧ i = .int .i64 k ∧ MapG wr Tryz.prog 3 mm f k ∧ PlacedTo f (ins N.g.nodes) k ∧ Kept [mm] w4 wr) (fun i _ => ni - (intOf i).toNat)
  case atStart => exact ⟨0, _, Nat.zero_le _, rfl, M3.out.kept K4.out (by simp), placed_zero _, .refl _ _⟩
  case round =>
    obtain ⟨k, f, hk, rfl, hmr, hpl, hkr⟩ := hrel
    have MR := Lib.hid hmr
    have PL := Lib.hid hpl
    have KR := Lib.hid hkr
    clear hmr hpl hkr
    have hqm : q ∉ [mm] := by have := HQ.out; simp; omega
    have BR := Lib.hid (KR.out.heap (K4.out.heap B3.out (by simp)) hqm)
    have b2 : wr.cell? ⟨q, 2, none⟩ = some (.map (some mm)) := blk_cell BR.out 2
    by_cases hlt : k < ni
    · have hki : k < (ins N.g.nodes).length := by rw [← HNI.out]; exact hlt
      have hme : ∀ b ∈ ft ea, b ∉ [mm] := fun b hb hx => by
        simp at hx; subst hx
        have h1 := HO4.out.apart hb
        obtain ⟨cur, h1⟩ := h1
        exact (M3.out.kept K4.out (by simp)).v.nocell h1 rfl
      obtain ⟨ad, rfl, hcx⟩ := (HO4.out.kept KR.out hme).sln k hki
      have hx := HLT.out _ (List.getElem_mem hki)
      have HXK := Lib.hid (show (ins N.g.nodes)[k]? = some (ins N.g.nodes)[k] from List.getElem?_eq_getElem hki)
      generalize (ins N.g.nodes)[k] = x at *
      have HKY := Lib.hid (place_key x (by omega))
      have HNX := Lib.hid (PL.out.2 k x (Nat.le_refl _) HXK.out)
      have HPS := Lib.hid (placed_succ HD.out HXK.out PL.out)
      go_wp2_with (at_mapUpdate; refine wpList_updG (key := .int .i64 (x : Int)) (val := .int .i64 (k : Int)) rfl rfl place_law Tryz.underlying71 rfl rfl rfl MR.out HKY.out ?_; intro w8 hm8 hk8)
      rw [HNX.out] at hm8
      go_roundw
      case rel => exact ⟨k + 1, _, by omega, by go_num, hm8, HPS.out, KR.out.trans hk8⟩
      case measure => simp [intOf]; omega
    · obtain rfl : k = ni := by omega
      have PA := Lib.hid (placed_all HNI.out.symm PL.out)
      obtain ⟨w5, rfl⟩ : ∃ v : World, v = wr := ⟨_, rfl⟩
      have hfm : ∀ b ∈ NF ++ NR, b ∉ [mm] := fun b hb hx => by
        simp at hx; subst hx
        have h1 : b < w2.heap.size := by
          rcases List.mem_append.1 hb with hb | hb
          · exact HN2.out.lt.1 b hb
          · exact HN2.out.lt.2 b hb
        have := HMQ.out
        omega
      have HN5 := Lib.hid (((HN2.out.kept0 K3.out).kept0 K4.out).kept KR.out (fun b hb => hfm b (by simp [hb])) (fun b hb => hfm b (by simp [hb])))
      have hqn : q ∉ NF := fun h => by have := HN2.out.lt.1 q h; have := HMQ.out; have := HQ.out; omega
      have HRS := Lib.hid (sim_reset BR.out HN5.out hregs hqn)
      have K5 := Lib.hid (show Kept [] w2 w5 from kept_up (K3.out.trans K4.out) KR.out (fun b hb => by simp at hb; subst hb; rw [HMQ.out]; exact Nat.le_refl _))
      go_wp2_with fail
      refine HRS.out.mono ?_
      rintro e w6 ⟨ra6, rc6, rfl, hb6, ho6, hk6, hf6⟩
      have B6 := Lib.hid hb6
      have O6 := Lib.hid ho6
      have K6 := Lib.hid hk6
      have F6 := Lib.hid hf6
      clear hb6 ho6 hk6 hf6
      go_wp2_with fail
      refine bodyPost_ret (v := .tuple #[.pointer (some ⟨q, 0, none⟩), .int .i64 0]) (by simp [results, Tryz.results30, go_sem]) rfl ⟨q, q :: ft ra6, mm :: (ft none ++ (NF ++ NR)), rfl, ⟨n', NF, NR, ra6, rc6, mm, f, none, 0, rfl, rfl, ?_⟩, ?_, ?_⟩
      · have hK := HN2.out.lt
        have z1 := HMQ.out
        have z2 := HQ.out
        have z3 := K5.out.size
        have z4 := blk_lt BR.out
        have hqr : q ∉ NR := fun h => by have := hK.2 q h; omega
        refine ⟨?_, HN5.out.kept K6.out (fun b hb hx => by simp at hx; subst hx; exact hqn hb) (fun b hb hx => by simp at hx; subst hx; exact hqr hb), ?_, ?_, PA.out, SlN.nil _ _ _, by simp [ft], fun b hb hx => ?_⟩
        · have := B6.out
          rw [← resetN_length N] at this
          exact this
        · have := O6.out
          rw [← resetN_length N] at this
          exact this
        · have := MR.out.kept K6.out (by simp; omega)
          rw [HNI.out] at this
          exact this
        · simp only [ft, Option.map_none, Option.toList_none, List.nil_append, List.mem_cons] at hx
          have h1 : b < w2.heap.size ∨ b = mm := by
            rcases hx with hx | hx
            · exact .inr hx
            · rcases List.mem_append.1 hx with hx | hx
              · exact .inl (hK.1 b hx)
              · exact .inl (hK.2 b hx)
          rcases List.mem_cons.1 hb with rfl | hb
          · omega
          · have := F6.out b hb
            omega
      · exact kept_up (K2.out.trans K5.out) K6.out (fun b hb => by simp at hb; subst hb; have := HQ.out; have := HMQ.out; have := K2.out.size; omega)
      · intro b hb
        have z1 := HMQ.out
        have z2 := HQ.out
        have z3 := K5.out.size
        have z4 := K2.out.size
        simp only [ft, Option.map_none, Option.toList_none, List.nil_append, List.mem_cons, List.mem_append] at hb
        rcases hb with (rfl | hb) | rfl | hb
        · omega
        · have := F6.out b hb
          omega
        · omega
        · exact FR2.out b (List.mem_append.2 hb)
end Go.Proofs.YtdmcdhkkbkgnbaaGreat
