/-
  Package sim: Step, its closure, its refusal.
  Package sim, plain: the pairs of literals and words, one after the other.
  Package sim: New.
-/
import Derived.Test.YtielfgngdhcpfaaGreatP33
import Derived.Test.YtielfgngdhcpfaaGreatP31
namespace Go.Proofs.YtielfgngdhcpfaaGreat
open Go.ChangeShapes Go.WideShapes Go.ChangeAt Go.RowKit
open Go.Maps (Keyed)
open Go.WideMaps
set_option linter.unusedVariables false
set_option linter.unusedSimpArgs false

variable {w w' : World} {s p n : Nat} {F R S : List Nat} {g : Gr} {N : Nt} {σ : Sm}
/-- the first k have their places, the others have none -/
def PlacedTo (f : Value → Option Value) (is : List Nat) (k : Nat) : Prop :=
  (∀ (j i : Nat), j < k → is[j]? = some i → f (.int .i64 (i : Int)) = some (.int .i64 (j : Int))) ∧ ∀ (j i : Nat), k ≤ j → is[j]? = some i → f (.int .i64 (i : Int)) = none
theorem placed_zero (is : List Nat) : PlacedTo (fun _ => none) is 0 := ⟨fun j i h => by omega, fun _ _ _ _ => rfl⟩
theorem nodup_get {is : List Nat} (hn : is.Nodup) {j k i : Nat} (hj : is[j]? = some i) (hk : is[k]? = some i) : j = k := by
  obtain ⟨h1, h2⟩ := List.getElem?_eq_some_iff.1 hj
  obtain ⟨h3, h4⟩ := List.getElem?_eq_some_iff.1 hk
  have := List.nodup_iff_pairwise_ne.1 hn
  rcases Nat.lt_trichotomy j k with h | h | h
  · exact absurd (h2.trans h4.symm) (List.pairwise_iff_getElem.1 this j k h1 h3 h)
  · exact h
  · exact absurd (h4.trans h2.symm) (List.pairwise_iff_getElem.1 this k j h3 h1 h)
theorem placed_succ {f : Value → Option Value} {is : List Nat} {k x : Nat} (hn : is.Nodup) (hk : is[k]? = some x) (h : PlacedTo f is k) : PlacedTo (upd f (.int .i64 (x : Int)) (.int .i64 (k : Int))) is (k + 1) := by
  refine ⟨fun j i hj hi => ?_, fun j i hj hi => ?_⟩
  · unfold upd
    by_cases hx : i = x
    · subst hx
      have := nodup_get hn hi hk
      subst this
      simp
    · have hjk : j ≠ k := fun e => by subst e; rw [hi] at hk; injection hk with hk; exact hx hk
      rw [if_neg (by intro e; injection e with _ e; omega)]
      exact h.1 j i (by omega) hi
  · unfold upd
    have hx : i ≠ x := fun e => by subst e; have := nodup_get hn hi hk; omega
    rw [if_neg (by intro e; injection e with _ e; omega)]
    exact h.2 j i (by omega) hi
theorem placed_all {f : Value → Option Value} {is : List Nat} {k : Nat} (hl : is.length = k) (h : PlacedTo f is k) : Placed f is := fun j i hi =>
  h.1 j i (by have := (List.getElem?_eq_some_iff.1 hi).1; omega) hi
def newS (N : Nt) : Sm := ⟨N, resetN N, [], 0⟩
def SimNew (N : Nt) (w : World) (e : Ending) (w' : World) : Prop := ∃ s F R, e = .returned (.tuple #[.pointer (some ⟨s, 0, none⟩), .int .i64 0]) ∧ SimAt w' s F R (newS N) ∧ Kept [] w w' ∧ ∀ b ∈ F ++ R, w.heap.size ≤ b
set_option maxHeartbeats 1600000 in
set_option maxRecDepth 100000 in
theorem sim_new {k : Nat} (h : NetAt w n F R N) (hf : NtFine k N) (hk : k ≤ 700) (hz : checkN N = 0) : Calls Tryz.prog 8 #[.pointer (some ⟨n, 0, none⟩)] w (SimNew N w) := by
  have hlen := hf.ok.len
  have hlen2 := hf.ok.ik
  have hlen3 := hf.ok.rk
  have hlen4 := hf.ok.ok
  have HK := Lib.hid (check_c h hf hk)
  rw [hz] at HK
  have HNC := Lib.hid (fun (W : World) (hk : Kept [] w W) => net_copy (h.kept0 hk) ⟨by omega, by omega, by omega, by omega⟩ (fun b hb => by have := hf.ok.il b hb; omega) (fun b hb => by have := hf.ok.ol b hb; omega))
  have hile : (ins N.g.nodes).length ≤ 1000000 := by have := insFrom_length 0 N.g.nodes; unfold ins; omega
  have hnodes : N.g.nodes.length ≤ 1000000 := by omega
  have hregs : N.regs.length ≤ 1000000 := by omega
  have HD := Lib.hid (ins_nodup N.g.nodes)
  have HLT := Lib.hid (ins_lt N.g.nodes)
  have hmm := @run_makeMap Tryz.prog
  clear h hf hk hz hlen hlen2 hlen3 hlen4
  go_enter Tryz.func8, Tryz.ntmps8
  go_wp2_with fail
  refine HK.out.mono ?_
  rintro e w1 ⟨rfl, hk1⟩
  have K1 := Lib.hid hk1
  clear hk1
  go_wp2_with fail
  refine (HNC.out _ K1.out).mono ?_
  rintro e w2 ⟨n', NF, NR, rfl, hn2, hk2, hfr2⟩
  have HN2 := Lib.hid hn2
  have K2 := Lib.hid (K1.out.trans hk2)
  have FR2 := Lib.hid (fun b hb => Nat.le_trans K1.out.size (hfr2 b hb))
  obtain ⟨p, G, ia, ic, ra, rc, oa, oc, ri, ro, hNF, hNR, hc⟩ := hn2
  have n0 := hc.c0
  have n0' := fun o o' => cell_alloc (cell_alloc n0 o) o'
  have HG := Lib.hid (fun (W : World) (hk : Kept [] w2 W) => aig_inputs (hc.gr.kept0 hk) hnodes)
  clear hk2 hfr2 hc hNF hNR n0
  go_wp2_with fail
  obtain ⟨mm, hmq⟩ : ∃ q, q = w2.heap.size := ⟨_, rfl⟩
  obtain ⟨q, hq⟩ : ∃ q, q = mm + 1 := ⟨_, rfl⟩
  rw [← hmq, ← hq]
  obtain ⟨w3, hw3⟩ : ∃ W, W = ((w2.alloc (.map #[] 0)).alloc (.cells #[.pointer (some ⟨n', 0, none⟩), .slice none 0 0, .map (some mm), .slice none 0 0, .int .i64 0] 99)) := ⟨_, rfl⟩
  rw [← hw3]
  have hK3 : Kept [] w2 w3 := by rw [hw3]; exact ((Kept.refl [] w2).alloc _).alloc _
  have hM3 : MapG w3 Tryz.prog 3 mm (fun _ => none) 0 := by rw [hw3, hmq]; exact (MapG.new w2 _ _).kept ((Kept.refl [] _).alloc _) (by simp)
  have hB3 : w3.heap[q]? = some (.cells #[.pointer (some ⟨n', 0, none⟩), .slice none 0 0, .map (some mm), .slice none 0 0, .int .i64 0] 99 (0, 0)) := by
    have hqq : q = (w2.alloc (.map #[] 0)).heap.size := by rw [hq, hmq]; simp
    rw [hw3, hqq]; exact heap_alloc_new _ _
  have K3 := Lib.hid hK3
  have M3 := Lib.hid hM3
  have B3 := Lib.hid hB3
  have HMQ := Lib.hid hmq
  have HQ := Lib.hid hq
  clear n0' hw3 hmq hq hK3 hM3 hB3 hmm
  refine (HG.out _ K3.out).mono ?_
  rintro e w4 ⟨ea, ec, rfl, ho4, hst4⟩
  have HO4 := Lib.hid ho4
  have K4 := Lib.hid hst4.kept
  clear ho4 hst4 HG
  obtain ⟨ni, hni⟩ : ∃ k, k = (ins N.g.nodes).length := ⟨_, rfl⟩
  have HNI := Lib.hid hni
  rw [← hni] at HO4 hile ⊢
  clear hni
  go_wp2_with fail
  go_loopw [27] (fun i wr => ∃ (k : Nat) (f : Value → Option Value), k ≤ ni ∧ i = .int .i64 k ∧ MapG wr Tryz.prog 3 mm f k ∧ PlacedTo f (ins N.g.nodes) k ∧ Kept [mm] w4 wr) (fun i _ => ni - (intOf i).toNat)
  case atStart => exact ⟨0, _, Nat.zero_le _, rfl, M3.out.kept K4.out (by simp), placed_zero _, .refl _ _⟩
  case round =>
    obtain ⟨k, f, hk, rfl, hmr, hpl, hkr⟩ := hrel
    have MR := Lib.hid hmr
    have PL := Lib.hid hpl
    have KR := Lib.hid hkr
    clear hmr hpl hkr
    have hqm : q ∉ [mm] := by have := HQ.out; simp; omega
    have BR := Lib.hid (KR.out.heap (K4.out.heap B3.out (by simp)) hqm)
    have b2 : wr.cell? ⟨q, 2, none⟩ = some (.map (some mm)) := blk_cell BR.out 2
    by_cases hlt : k < ni
    · have hki : k < (ins N.g.nodes).length := by rw [← HNI.out]; exact hlt
      have hme : ∀ b ∈ ft ea, b ∉ [mm] := fun b hb hx => by
        simp at hx; subst hx
        have h1 := HO4.out.apart hb
        obtain ⟨cur, h1⟩ := h1
        exact (M3.out.kept K4.out (by simp)).v.nocell h1 rfl
      obtain ⟨ad, rfl, hcx⟩ := (HO4.out.kept KR.out hme).sln k hki
      have hx := HLT.out _ (List.getElem_mem hki)
      have HXK := Lib.hid (show (ins N.g.nodes)[k]? = some (ins N.g.nodes)[k] from List.getElem?_eq_getElem hki)
      generalize (ins N.g.nodes)[k] = x at *
      have HKY := Lib.hid (place_key x (by omega))
      have HNX := Lib.hid (PL.out.2 k x (Nat.le_refl _) HXK.out)
      have HPS := Lib.hid (placed_succ HD.out HXK.out PL.out)
      go_wp2_with (at_mapUpdate; refine wpList_updG (key := .int .i64 (x : Int)) (val := .int .i64 (k : Int)) rfl rfl place_law Tryz.underlying97 rfl rfl rfl MR.out HKY.out ?_; intro w8 hm8 hk8)
      rw [HNX.out] at hm8
      go_roundw
      case rel => exact ⟨k + 1, _, by omega, by go_num, hm8, HPS.out, KR.out.trans hk8⟩
      case measure => simp [intOf]; omega
    · obtain rfl : k = ni := by omega
      have PA := Lib.hid (placed_all HNI.out.symm PL.out)
      obtain ⟨w5, rfl⟩ : ∃ v : World, v = wr := ⟨_, rfl⟩
      have hfm : ∀ b ∈ NF ++ NR, b ∉ [mm] := fun b hb hx => by
        simp at hx; subst hx
        have h1 : b < w2.heap.size := by
          rcases List.mem_append.1 hb with hb | hb
          · exact HN2.out.lt.1 b hb
          · exact HN2.out.lt.2 b hb
        have := HMQ.out
        omega
      have HN5 := Lib.hid (((HN2.out.kept0 K3.out).kept0 K4.out).kept KR.out (fun b hb => hfm b (by simp [hb])) (fun b hb => hfm b (by simp [hb])))
      have hqn : q ∉ NF := fun h => by have := HN2.out.lt.1 q h; have := HMQ.out; have := HQ.out; omega
      have HRS := Lib.hid (sim_reset BR.out HN5.out hregs hqn)
      have K5 := Lib.hid (show Kept [] w2 w5 from kept_up (K3.out.trans K4.out) KR.out (fun b hb => by simp at hb; subst hb; rw [HMQ.out]; exact Nat.le_refl _))
      go_wp2_with fail
      refine HRS.out.mono ?_
      rintro e w6 ⟨ra6, rc6, rfl, hb6, ho6, hk6, hf6⟩
      have B6 := Lib.hid hb6
      have O6 := Lib.hid ho6
      have K6 := Lib.hid hk6
      have F6 := Lib.hid hf6
      clear hb6 ho6 hk6 hf6
      go_wp2_with fail
      refine bodyPost_ret (v := .tuple #[.pointer (some ⟨q, 0, none⟩), .int .i64 0]) (by simp [results, Tryz.results8, go_sem]) rfl ⟨q, q :: ft ra6, mm :: (ft none ++ (NF ++ NR)), rfl, ⟨n', NF, NR, ra6, rc6, mm, f, none, 0, rfl, rfl, ?_⟩, ?_, ?_⟩
      · have hK := HN2.out.lt
        have z1 := HMQ.out
        have z2 := HQ.out
        have z3 := K5.out.size
        have z4 := blk_lt BR.out
        have hqr : q ∉ NR := fun h => by have := hK.2 q h; omega
        refine ⟨?_, HN5.out.kept K6.out (fun b hb hx => by simp at hx; subst hx; exact hqn hb) (fun b hb hx => by simp at hx; subst hx; exact hqr hb), ?_, ?_, PA.out, SlN.nil _ _ _, by simp [ft], fun b hb hx => ?_⟩
        · have := B6.out
          rw [← resetN_length N] at this
          exact this
        · have := O6.out
          rw [← resetN_length N] at this
          exact this
        · have := MR.out.kept K6.out (by simp; omega)
          rw [HNI.out] at this
          exact this
        · simp only [ft, Option.map_none, Option.toList_none, List.nil_append, List.mem_cons] at hx
          have h1 : b < w2.heap.size ∨ b = mm := by
            rcases hx with hx | hx
            · exact .inr hx
            · rcases List.mem_append.1 hx with hx | hx
              · exact .inl (hK.1 b hx)
              · exact .inl (hK.2 b hx)
          rcases List.mem_cons.1 hb with rfl | hb
          · omega
          · have := F6.out b hb
            omega
      · exact kept_up (K2.out.trans K5.out) K6.out (fun b hb => by simp at hb; subst hb; have := HQ.out; have := HMQ.out; have := K2.out.size; omega)
      · intro b hb
        have z1 := HMQ.out
        have z2 := HQ.out
        have z3 := K5.out.size
        have z4 := K2.out.size
        simp only [ft, Option.map_none, Option.toList_none, List.nil_append, List.mem_cons, List.mem_append] at hb
        rcases hb with (rfl | hb) | rfl | hb
        · omega
        · have := F6.out b hb
          omega
        · omega
        · exact FR2.out b (List.mem_append.2 hb)
end Go.Proofs.YtielfgngdhcpfaaGreat

namespace Go.Proofs.YtielfgngdhcpfaaGreat
set_option linter.unusedVariables false

/-- how many literals the first k buses have -/
def offB (l : List Bus) (k : Nat) : Nat := ((l.take k).map (·.lits.length)).sum
theorem offB_zero (l : List Bus) : offB l 0 = 0 := rfl
theorem offB_succ {l : List Bus} {k : Nat} {b : Bus} (h : l[k]? = some b) : offB l (k + 1) = offB l k + b.lits.length := by
  unfold offB
  rw [List.take_add_one, h]
  simp
theorem pairsB_cons (b : Bus) (l : List Bus) (r : List Nat) (rows : List (List Nat)) : pairsB (b :: l) (r :: rows) = b.lits.zip r ++ pairsB l rows := by simp [pairsB]
theorem fitB_cons {b : Bus} {l : List Bus} {r : List Nat} {rows : List (List Nat)} (h : fitB (b :: l) (r :: rows) = true) : r.length = b.lits.length ∧ fitB l rows = true := by
  unfold fitB at *
  rw [decide_eq_true_eq] at h
  simp only [List.map_cons, List.cons.injEq] at h
  exact ⟨h.1, by rw [decide_eq_true_eq]; exact h.2⟩
theorem fitB_len {l : List Bus} {rows : List (List Nat)} (h : fitB l rows = true) : rows.length = l.length := by
  unfold fitB at h
  rw [decide_eq_true_eq] at h
  simpa using congrArg List.length h
theorem fitB_at {l : List Bus} {rows : List (List Nat)} (h : fitB l rows = true) {k : Nat} {b : Bus} {r : List Nat} (hb : l[k]? = some b) (hr : rows[k]? = some r) : r.length = b.lits.length := by
  unfold fitB at h
  rw [decide_eq_true_eq] at h
  have := congrArg (fun l => l[k]?) h
  simpa [hb, hr] using this
theorem pairsB_len (l : List Bus) : ∀ rows, fitB l rows = true → (pairsB l rows).length = offB l l.length := by
  induction l with
  | nil => intro rows _; simp [pairsB, offB]
  | cons b l ih =>
    intro rows h
    cases rows with
    | nil => have := fitB_len h; simp at this
    | cons r rows =>
      obtain ⟨h1, h2⟩ := fitB_cons h
      rw [pairsB_cons, List.length_append, ih rows h2]
      simp [offB, h1]
theorem pairsB_at (l : List Bus) : ∀ (rows : List (List Nat)) (k i x v : Nat) (b : Bus) (r : List Nat), fitB l rows = true → l[k]? = some b → rows[k]? = some r → b.lits[i]? = some x → r[i]? = some v → (pairsB l rows)[offB l k + i]? = some (x, v) := by
  induction l with
  | nil => intro rows k i x v b r _ h; simp at h
  | cons b l ih =>
    intro rows k i x v b' r' h hb hr hx hv
    cases rows with
    | nil => have := fitB_len h; simp at this
    | cons r rows =>
      obtain ⟨h1, h2⟩ := fitB_cons h
      rw [pairsB_cons]
      have hz : (b.lits.zip r).length = b.lits.length := by rw [List.length_zip]; omega
      cases k with
      | zero =>
        simp at hb hr
        subst hb hr
        have hi := (List.getElem?_eq_some_iff.1 hx).1
        rw [offB_zero, Nat.zero_add, List.getElem?_append_left (by omega), List.getElem?_zip_eq_some]
        exact ⟨hx, hv⟩
      | succ k =>
        have e : offB (b :: l) (k + 1) + i = b.lits.length + (offB l k + i) := by unfold offB; simp; omega
        rw [e, List.getElem?_append_right (by omega), hz, Nat.add_sub_cancel_left]
        exact ih rows k i x v b' r' h2 (by simpa using hb) (by simpa using hr) hx hv
theorem pairsN_bus {N : Nt} {inp : List (List Nat)} {regs : List Nat} (hf : fitB N.inb inp = true) {k i x v : Nat} {b : Bus} {r : List Nat} (hb : N.inb[k]? = some b) (hr : inp[k]? = some r) (hx : b.lits[i]? = some x) (hv : r[i]? = some v) :
    (pairsN N inp regs)[offB N.inb k + i]? = some (x, v) := by
  have h := pairsB_at N.inb inp k i x v b r hf hb hr hx hv
  unfold pairsN
  rw [List.getElem?_append_left (List.getElem?_eq_some_iff.1 h).1]
  exact h
theorem pairsN_reg {N : Nt} {inp : List (List Nat)} {regs : List Nat} (hf : fitB N.inb inp = true) {k v : Nat} {r : Rg} (hr : N.regs[k]? = some r) (hv : regs[k]? = some v) :
    (pairsN N inp regs)[offB N.inb N.inb.length + k]? = some (r.q, v) := by
  unfold pairsN
  rw [List.getElem?_append_right (by rw [pairsB_len N.inb inp hf]; omega), pairsB_len N.inb inp hf, Nat.add_sub_cancel_left, List.getElem?_zip_eq_some]
  exact ⟨by simp [hr], hv⟩
theorem pairsN_len {N : Nt} {inp : List (List Nat)} {regs : List Nat} (hf : fitB N.inb inp = true) (hr : regs.length = N.regs.length) : (pairsN N inp regs).length = offB N.inb N.inb.length + N.regs.length := by
  unfold pairsN
  rw [List.length_append, pairsB_len N.inb inp hf, List.length_zip]
  simp [hr]
theorem pairsB_fst (l : List Bus) : ∀ rows, fitB l rows = true → (pairsB l rows).map (·.1) = l.flatMap (·.lits) := by
  induction l with
  | nil => intro rows _; simp [pairsB]
  | cons b l ih =>
    intro rows h
    cases rows with
    | nil => have := fitB_len h; simp at this
    | cons r rows =>
      obtain ⟨h1, h2⟩ := fitB_cons h
      rw [pairsB_cons, List.map_append, ih rows h2, List.map_fst_zip (by omega)]
      simp
theorem pairsN_fst {N : Nt} {inp : List (List Nat)} {regs : List Nat} (hf : fitB N.inb inp = true) (hr : regs.length = N.regs.length) : (pairsN N inp regs).map (·.1) = drivenN N := by
  unfold pairsN drivenN
  rw [List.map_append, pairsB_fst N.inb inp hf, List.map_fst_zip (by simp [hr])]
/-- where a driven literal's word goes -/
theorem asg_at {N : Nt} {k : Nat} {inp : List (List Nat)} {regs : List Nat} (hfine : NtFine k N) (hk7 : k ≤ 700) (hf : fitB N.inb inp = true) (hr : regs.length = N.regs.length) {t x v : Nat} (ht : (pairsN N inp regs)[t]? = some (x, v)) :
    ∃ j, (ins N.g.nodes)[j]? = some (x / 2) ∧ x < 4294967296 ∧ x / 2 < N.g.nodes.length ∧ asg (ins N.g.nodes) ((pairsN N inp regs).take (t + 1)) = (asg (ins N.g.nodes) ((pairsN N inp regs).take t)).set j v := by
  have hfst := pairsN_fst (regs := regs) hf hr
  have hx : (drivenN N)[t]? = some x := by rw [← hfst]; simp [ht]
  have hxm : x ∈ drivenN N := List.mem_of_getElem? hx
  obtain ⟨i, hi, rfl⟩ := hfine.di x hxm
  obtain ⟨j, hj⟩ := List.getElem?_of_mem hi
  have hil := ins_lt N.g.nodes i hi
  have e : 2 * i / 2 = i := by omega
  refine ⟨j, by rw [e]; exact hj, ?_, by omega, ?_⟩
  · have := hfine.ok.len; omega
  · rw [List.take_add_one, ht]
    have hno : ∀ p ∈ (pairsN N inp regs).take t, p.1 ≠ 2 * i := by
      intro p hp hpe
      obtain ⟨t', ht'⟩ := List.getElem?_of_mem hp
      rw [List.getElem?_take] at ht'
      split at ht'
      · have h1 : (drivenN N)[t']? = some (2 * i) := by rw [← hfst]; simp [ht', hpe]
        have h2 := List.nodup_iff_pairwise_ne.1 hfine.dn
        obtain ⟨l1, g1⟩ := List.getElem?_eq_some_iff.1 h1
        obtain ⟨l2, g2⟩ := List.getElem?_eq_some_iff.1 hx
        exact List.pairwise_iff_getElem.1 h2 t' t l1 l2 (by omega) (g1.trans g2.symm)
      · cases ht'
    exact asg_snoc (ins_nodup _) hj hno
end Go.Proofs.YtielfgngdhcpfaaGreat

namespace Go.Proofs.YtielfgngdhcpfaaGreat
open Go.ChangeShapes Go.WideShapes Go.ChangeAt Go.RowKit
open Go.Maps (Keyed)
open Go.WideMaps
set_option linter.unusedVariables false
set_option linter.unusedSimpArgs false

variable {w w' : World} {s p n : Nat} {F R S : List Nat} {g : Gr} {N : Nt} {σ : Sm}
set_option maxHeartbeats 800000 in
theorem step1_c (r : Rg) (was b : Nat) (wa : Option Addr) (wc wn : Nat) (ws : List Nat) (w : World) (hn : ws.length = wn) (hs : SlN w .u64 wa ws) (hw : Words ws) (hd : r.d < 4294967296) (he : r.en < 4294967296) (hwas : was < 18446744073709551616)
    (hb : w.cell? ⟨b, 0, none⟩ = some (.slice wa wn wc)) :
    Calls Tryz.prog 42 #[.agg #[.int .u32 (r.q : Int), .int .u32 (r.d : Int), .int .u32 (r.en : Int), .bool r.init], .int .u64 (was : Int), .pointer (some ⟨b, 0, none⟩)] w fun e w' => e = .returned (.int .u64 (nextR ws r was : Nat)) ∧ Kept [] w w' := by
  have HW := Lib.hid (fun (x : Nat) (hx : x < 4294967296) (W : World) (hk : Kept [] w W) => lit_word x wa wc wn ws W hn hx (hs.kept0 hk) hw)
  have HX := Lib.hid (show nextR ws r was = (wd ws r.d &&& wd ws r.en) ||| (was &&& noW (wd ws r.en)) from rfl)
  have l1 := wd_lt hw r.d
  have l2 := wd_lt hw r.en
  have hb' := fun o => cell_alloc hb o
  clear hn hs hw hb
  obtain ⟨xq, xd, xe, xi⟩ := r
  simp only at *
  have H1 := Lib.hid (HW.out xe he)
  have H2 := Lib.hid (HW.out xd hd)
  generalize nextR ws ⟨xq, xd, xe, xi⟩ was = res at *
  generalize wd ws xd = D at *
  generalize wd ws xe = E at *
  have e1 : bits .and .u64 (D : Int) (E : Int) = ((D &&& E : Nat) : Int) := u64_and_nat D E l1 l2
  have e2 : bits .andNot .u64 (was : Int) (E : Int) = ((was &&& noW E : Nat) : Int) := u64_andNot_nat was E hwas l2
  have e3 : bits .or .u64 ((D &&& E : Nat) : Int) ((was &&& noW E : Nat) : Int) = (res : Int) := by rw [u64_or_nat (D &&& E) (was &&& noW E) (and_word l1) (and_word hwas), HX.out]
  clear HW HX l1 l2
  go_enter Tryz.func42, Tryz.ntmps42
  go_wp2_with fail
  refine (H1.out _ ((Kept.refl [] w).alloc _)).mono ?_
  rintro e w2 ⟨rfl, rfl⟩
  go_wp2_with fail
  refine (H2.out _ ((Kept.refl [] w).alloc _)).mono ?_
  rintro e w2 ⟨rfl, rfl⟩
  generalize D &&& E = A1 at *
  generalize was &&& noW E = A2 at *
  go_wp2_with fail
  go_ret
  exact ⟨rfl, (Kept.refl [] w).alloc _⟩
/-- what is handed in does not fit -/
def StepBad (w : World) (e : Ending) (w' : World) : Prop := e = .returned (.tuple #[.slice none 0 0, .int .i64 1]) ∧ Kept [] w w'
set_option maxHeartbeats 1600000 in
set_option maxRecDepth 100000 in
theorem sim_step_bad {a : Option Addr} {m c : Nat} {rs : List WR} (h : SimAt w s F R σ) (hi : σ.N.inb.length ≤ 1000000) (hm : m ≤ 1000000) (hr : WRows w a m c rs) (hb : fitB σ.N.inb (rs.map (·.l)) = false) :
    Calls Tryz.prog 10 #[.pointer (some ⟨s, 0, none⟩), .slice a m c] w (StepBad w) := by
  obtain ⟨n, NF, NR, ra, rc, mm, f, wa, wc, rfl, rfl, hc⟩ := h
  have HN := Lib.hid (sim_none hc.c0)
  have HF := Lib.hid (fits_c hc.c0 hc.net hi hm hr)
  rw [hb] at HF
  clear hc hr hb
  go_enter Tryz.func10, Tryz.ntmps10; (try simp only [List.append])
  go_wp2_with fail
  refine HN.out.mono ?_
  rintro e w' ⟨rfl, rfl⟩
  go_wp2_with fail
  refine HF.out.mono ?_
  rintro e w2 ⟨rfl, hk2⟩
  have K2 := Lib.hid hk2
  clear hk2
  go_wp2_with fail
  refine bodyPost_ret (v := .tuple #[.slice none 0 0, .int .i64 1]) (by simp [results, Tryz.results10, go_sem]) rfl ⟨rfl, K2.out⟩
end Go.Proofs.YtielfgngdhcpfaaGreat
