/-
  Package sweep: whether any is stuck; how many gates are leant on.
-/
import Derived.Test.YtdmcdhkkbkgnbaaP40
import Derived.Test.YtdmcdhkkbkgnbaaP32
namespace Go.Proofs.Ytdmcdhkkbkgnbaa
open Go.ChangeShapes Go.WideShapes Go.ChangeAt Go.RowKit
open Go.Maps (Keyed)
open Go.WideMaps
set_option linter.unusedVariables false
set_option linter.unusedSimpArgs false

variable {w w' W w0 : World} {p n n' k m s mp gd fb : Nat} {F R S F' R' F'' R'' : List Nat} {g : Gr} {N M M' : Nt}
theorem opt_any {α : Type} (l : List α) (P : α → Bool) : decide (0 ≤ optI (l.findIdx? P)) = l.any P := by
  cases h : l.findIdx? P with
  | none =>
    rw [List.findIdx?_eq_none_iff] at h
    have : l.any P = false := by rw [List.any_eq_false]; exact fun x hx => by simp [h x hx]
    rw [this]; rfl
  | some k =>
    obtain ⟨h1, h2, _⟩ := List.findIdx?_eq_some_iff_getElem.1 h
    have : l.any P = true := by rw [List.any_eq_true]; exact ⟨_, List.getElem_mem h1, h2⟩
    rw [this]
    simp [optI]
set_option maxHeartbeats 800000 in
set_option maxRecDepth 100000 in
theorem index_stuck (a : Option Addr) (c len : Nat) (l : List Rg) (w : World) (hl : l.length = len) (hm : len ≤ 1000000) (hs : SlR w a l) :
    Calls Try.prog 36 #[.slice a len c, .func (.func 19) #[] #[]] w (IdxIs (l.findIdx? stuckR) w) := by
  have HL := Lib.hid hl
  have HS := Lib.hid hs
  have HF := Lib.hid (fun (r : Rg) (W : World) => stuck_c r W)
  unfold rgV at HF
  clear hl hs
  go_enter Try.func36, Try.ntmps36
  go_wp2_with fail
  go_loopw [8] (fun i wr => ∃ k : Nat, k ≤ len ∧ i = .int .i64 k ∧ Kept [] w wr ∧ ∀ j (h : j < l.length), j < k → stuckR l[j] = false) (fun i _ => len - (intOf i).toNat)
  case atStart => exact ⟨0, Nat.zero_le _, rfl, .refl _ _, fun j h h2 => by omega⟩
  case round =>
    obtain ⟨k, hk, rfl, hkr, hall⟩ := hrel
    have KR := Lib.hid hkr
    have HA := Lib.hid hall
    clear hkr hall
    by_cases hlt : k < len
    · have hkl : k < l.length := by rw [HL.out]; exact hlt
      obtain ⟨b, rfl, h1, h2, h3, h4⟩ := (HS.out.kept0 KR.out) k hkl
      have HR := Lib.hid (fun (hn : stuckR l[k] = true) => show l.findIdx? stuckR = some k from by
        rw [List.findIdx?_eq_some_iff_getElem]
        exact ⟨hkl, hn, fun j hj => by rw [HA.out j (by omega) hj]; simp⟩)
      have HN := Lib.hid (fun (hn : stuckR l[k] = false) => show ∀ j (h : j < l.length), j < k + 1 → stuckR l[j] = false from fun j h hj => by
        rcases Nat.lt_or_ge j k with h3 | h3
        · exact HA.out j h h3
        · have : j = k := by omega
          subst this; exact hn)
      have HF2 := Lib.hid (HF.out l[k] wr)
      obtain ⟨sb, hsb⟩ : ∃ b, b = stuckR l[k] := ⟨_, rfl⟩
      rw [← hsb] at HF2 HR HN
      clear hsb
      generalize l[k] = r at *
      obtain ⟨x, y, z, i⟩ := r
      simp only at h1 h2 h3 h4 HF2
      cases sb with
      | true =>
        have HR2 := Lib.hid (HR.out rfl)
        clear HR HN
        go_wp2_with fail
        refine HF2.out.mono ?_
        rintro e w1 ⟨rfl, hk1⟩
        have K1 := Lib.hid (KR.out.trans hk1)
        clear hk1
        go_wp2_with fail
        go_ret
        exact ⟨by rw [HR2.out]; rfl, K1.out⟩
      | false =>
        have HN2 := Lib.hid (HN.out rfl)
        clear HR HN
        go_wp2_with fail
        refine HF2.out.mono ?_
        rintro e w1 ⟨rfl, hk1⟩
        have K1 := Lib.hid (KR.out.trans hk1)
        clear hk1
        go_wp2_with fail
        go_roundw
        case rel => exact ⟨k + 1, by omega, by go_num, K1.out, HN2.out⟩
        case measure => simp [intOf]; omega
    · obtain rfl : k = len := by omega
      have HR := Lib.hid (show l.findIdx? stuckR = none from by
        rw [List.findIdx?_eq_none_iff]
        intro x hx
        obtain ⟨j, hj, rfl⟩ := List.getElem_of_mem hx
        exact HA.out j hj (by have := HL.out; omega))
      go_wp2_with fail
      go_ret
      exact ⟨by rw [HR.out]; rfl, KR.out⟩
theorem contains_stuck (a : Option Addr) (c len : Nat) (l : List Rg) (w : World) (hl : l.length = len) (hm : len ≤ 1000000) (hs : SlR w a l) :
    Calls Try.prog 18 #[.slice a len c, .func (.func 19) #[] #[]] w (BoolIs (l.any stuckR) w) := by
  have HX := Lib.hid (index_stuck a c len l w hl hm hs)
  have HA := Lib.hid (opt_any l stuckR)
  unfold IdxIs at HX
  generalize optI (l.findIdx? stuckR) = ix at *
  clear hl hs
  go_enter Try.func18, Try.ntmps18
  go_wp2_with fail
  refine HX.out.mono ?_
  rintro e w1 ⟨rfl, k1⟩
  have K1 := Lib.hid k1
  clear k1
  go_wp2_with fail
  go_ret
  exact ⟨by rw [← HA.out]; rfl, K1.out⟩
set_option maxHeartbeats 800000 in
set_option maxRecDepth 100000 in
theorem index_false (gd len c : Nat) (l : List Bool) (w : World) (hl : l.length = len) (hm : len ≤ 1000000) (hs : Own w 4 (some ⟨gd, 0, none⟩) len c (bls l)) :
    Calls Try.prog 43 #[.slice (some ⟨gd, 0, none⟩) len c, .bool false] w (IdxIs (l.findIdx? fun b => !b) w) := by
  have HL := Lib.hid hl
  have HS := Lib.hid hs
  clear hl hs
  go_enter Try.func43, Try.ntmps43
  go_wp2_with fail
  go_loopw [8] (fun i wr => ∃ k : Nat, k ≤ len ∧ i = .int .i64 k ∧ Kept [] w wr ∧ ∀ j (h : j < l.length), j < k → l[j] = true) (fun i _ => len - (intOf i).toNat)
  case atStart => exact ⟨0, Nat.zero_le _, rfl, .refl _ _, fun j h h2 => by omega⟩
  case round =>
    obtain ⟨k, hk, rfl, hkr, hall⟩ := hrel
    have KR := Lib.hid hkr
    have HA := Lib.hid hall
    clear hall hkr
    by_cases hlt : k < len
    · have hkl : k < l.length := by rw [HL.out]; exact hlt
      have h1 := own_cell_b (HS.out.kept0 KR.out) k hkl
      have hgd : l.getD k false = l[k]'hkl := by rw [List.getD_eq_getElem?_getD, List.getElem?_eq_getElem hkl]; rfl
      rw [hgd] at h1
      have HR := Lib.hid (fun (hn : l[k] = false) => show (l.findIdx? fun b => !b) = some k from by
        rw [List.findIdx?_eq_some_iff_getElem]
        exact ⟨hkl, by rw [hn]; rfl, fun j hj => by rw [HA.out j (by omega) hj]; simp⟩)
      have HN := Lib.hid (fun (hn : l[k] = true) => show ∀ j (h : j < l.length), j < k + 1 → l[j] = true from fun j h hj => by
        rcases Nat.lt_or_ge j k with h3 | h3
        · exact HA.out j h h3
        · have : j = k := by omega
          subst this; exact hn)
      clear hgd
      have k0 : (0 : Int) ≤ (k : Int) := by omega
      have k1 : (k : Int) < (len : Int) := by omega
      generalize l[k] = r at *
      cases r with
      | false =>
        have HR2 := Lib.hid (HR.out rfl)
        clear HR HN hkl
        go_wp2_with fail
        go_ret
        exact ⟨by rw [HR2.out]; rfl, KR.out⟩
      | true =>
        have HN2 := Lib.hid (HN.out rfl)
        clear HR HN hkl
        go_wp2_with fail
        go_roundw
        case rel => exact ⟨k + 1, by omega, by go_num, KR.out, HN2.out⟩
        case measure => simp [intOf]; omega
    · obtain rfl : k = len := by omega
      have HR := Lib.hid (show (l.findIdx? fun b => !b) = none from by
        rw [List.findIdx?_eq_none_iff]
        intro x hx
        obtain ⟨j, hj, rfl⟩ := List.getElem_of_mem hx
        rw [HA.out j hj (by have := HL.out; omega)]; rfl)
      go_wp2_with fail
      go_ret
      exact ⟨by rw [HR.out]; rfl, KR.out⟩
theorem any_false (l : List Bool) : (l.any fun b => !b) = l.contains false := by
  induction l with
  | nil => rfl
  | cons b l ih =>
    cases b
    · simp
    · simp only [List.any_cons, Bool.not_true, Bool.false_or, List.contains_cons]
      rw [ih]; rfl
theorem contains_false (gd len c : Nat) (l : List Bool) (w : World) (hl : l.length = len) (hm : len ≤ 1000000) (hs : Own w 4 (some ⟨gd, 0, none⟩) len c (bls l)) :
    Calls Try.prog 17 #[.slice (some ⟨gd, 0, none⟩) len c, .bool false] w (BoolIs (l.contains false) w) := by
  have HX := Lib.hid (index_false gd len c l w hl hm hs)
  have HA := Lib.hid (show decide (0 ≤ optI (l.findIdx? fun b => !b)) = l.contains false from (opt_any l fun b => !b).trans (any_false l))
  unfold IdxIs at HX
  generalize optI (l.findIdx? fun b => !b) = ix at *
  clear hl hs
  go_enter Try.func17, Try.ntmps17
  go_wp2_with fail
  refine HX.out.mono ?_
  rintro e w1 ⟨rfl, k1⟩
  have K1 := Lib.hid k1
  clear k1
  go_wp2_with fail
  go_ret
  exact ⟨by rw [← HA.out]; rfl, K1.out⟩
/-! how many gates are leant on -/
def leantTo (N : Nt) (m : Nat) : List Nat := outsN N ++ (N.regs.take m).flatMap fun r => [r.d, r.en]
theorem leantTo_all (N : Nt) : leantTo N N.regs.length = leantN N := by unfold leantTo leantN; rw [List.take_length]
theorem leantTo_succ {m : Nat} {r : Rg} (h : N.regs[m]? = some r) : leantTo N (m + 1) = leantTo N m ++ [r.d, r.en] := by
  obtain ⟨h1, h2⟩ := List.getElem?_eq_some_iff.1 h
  unfold leantTo
  rw [List.take_succ_eq_append_getElem h1, List.flatMap_append, h2, List.append_assoc]
  simp
theorem leantTo_len (hf : NtFine k N) (m : Nat) : (leantTo N m).length ≤ 66 * k := by
  have h1 := outsTo_len hf N.outb.length
  rw [outsTo_all] at h1
  have h2 := hf.ok.ok
  have h3 := goingTwo (N.regs.take m)
  have h4 := hf.ok.rk
  unfold leantTo
  rw [List.length_append, h3, List.length_take]
  omega
def reachTo (N : Nt) (i : Nat) : Nat := (((reachL N.g.nodes (leantN N)).take i).filter (gAt N.g.nodes)).length
theorem reachTo_all (N : Nt) : reachTo N (reachL N.g.nodes (leantN N)).length = reachedN N := by unfold reachTo reachedN; rw [List.take_length]
theorem gateA_at {ns : Gr} {x : Nat} (hx : x < ns.nodes.length) : (gateA ns (x : Int)).2.2 = gAt ns.nodes x := by
  unfold gateA gAt
  rw [List.getD_eq_getElem?_getD, List.getElem?_eq_getElem hx]
  by_cases h0 : x = 0
  · subst h0; simp
  · rw [if_pos (by omega), Int.toNat_natCast, List.getElem?_eq_getElem hx]
    obtain ⟨a, b⟩ := ns.nodes[x]
    simp only [Option.getD_some]
    by_cases h : a / 2 = x <;> simp [h, h0] <;> omega
set_option maxHeartbeats 1600000 in
set_option maxRecDepth 100000 in
theorem reached_c (h : NetAt w n F R N) (hf : NtFine k N) (hk : k ≤ 600) : Calls Try.prog 20 #[.pointer (some ⟨n, 0, none⟩)] w (IntIs (reachedN N : Nat) w) := by
  have HF := Lib.hid hf
  have HOU := Lib.hid (outs_c h hf (by omega))
  obtain ⟨pp, G, ia, ic, ra, rc, oa, oc, ri, ro, rfl, rfl, hc⟩ := h
  have HC := Lib.hid hc
  obtain ⟨nR, hnR⟩ : ∃ m, m = N.regs.length := ⟨_, rfl⟩
  have HNR := Lib.hid hnR
  have hnr : nR ≤ 600 := by rw [hnR]; have := hf.ok.rk; omega
  have HRS := Lib.hid (regs_sl (l := N.regs) rfl hc.rb)
  clear hc hnR hf
  go_enter Try.func20, Try.ntmps20
  go_wp2_with fail
  refine HOU.out.mono ?_
  rintro e w1 ⟨a1, c1, rfl, ho1, k1, hf1⟩
  have K1 := Lib.hid k1
  have c3 := k1.cell HC.out.c3 (by simp)
  rw [← HNR.out] at c3
  have HZ := Lib.hid (show leantTo N 0 = outsN N from by simp [leantTo])
  rw [← HZ.out] at ho1 ⊢
  have HO1 := Lib.hid ho1
  have HF1 := Lib.hid hf1
  clear k1 ho1 hf1
  go_wp2_with fail
  clear c3
  go_loopw [3, 21] (fun v i wr => ∃ (m : Nat) (a : Option Addr) (c : Nat), m ≤ nR ∧ i = .int .i64 m ∧ v = .slice a (leantTo N m).length c ∧ Own wr 41 a (leantTo N m).length c (nats .u32 (leantTo N m)) ∧ Kept [] w wr ∧ ∀ b ∈ ft a, w.heap.size ≤ b) (fun _ i _ => nR - (intOf i).toNat)
  case atStart => exact ⟨0, a1, c1, Nat.zero_le _, rfl, rfl, HO1.out, K1.out, HF1.out⟩
  case round =>
    obtain ⟨m, a, c, hm, rfl, rfl, ho, hkr, hfa⟩ := hrel
    have HO := Lib.hid ho
    have KR := Lib.hid hkr
    have FA := Lib.hid hfa
    have HLL := Lib.hid (leantTo_len HF.out m)
    clear ho hkr hfa
    by_cases hlt : m < nR
    · have hml : m < N.regs.length := by rw [← HNR.out]; exact hlt
      obtain ⟨gr, rfl, e0, e1, e2, e3⟩ := (HRS.out.kept0 KR.out) m hml
      have HT := Lib.hid (leantTo_succ (List.getElem?_eq_getElem hml))
      generalize N.regs[m] = r at *
      obtain ⟨q, d, en, init⟩ := r
      simp only at e0 e1 e2 e3 HT
      obtain ⟨ol, hol⟩ : ∃ ol, ol = (leantTo N m).length := ⟨_, rfl⟩
      have HOL := Lib.hid hol
      rw [← hol] at HO HLL ⊢
      have hol2 : ol ≤ 39600 := by have := HLL.out; omega
      have m0 : (0 : Int) ≤ (m : Int) := by omega
      have m1 : (m : Int) < (nR : Int) := by omega
      clear hml hol
      go_upto_region 5 with (fail)
      obtain ⟨w5, hw5⟩ : ∃ v, v = wr.alloc (.cells #[.int .u32 (q : Int), .int .u32 (d : Int), .int .u32 (en : Int), .bool init] 55) := ⟨_, rfl⟩
      obtain ⟨b5, hb5⟩ : ∃ v, v = wr.heap.size := ⟨_, rfl⟩
      have K5 := Lib.hid (show Kept [] wr w5 from by rw [hw5]; exact (Kept.refl [] wr).alloc _)
      have hbl : w5.heap[b5]? = some (.cells #[.int .u32 (q : Int), .int .u32 (d : Int), .int .u32 (en : Int), .bool init] 55 (0, 0)) := by rw [hw5, hb5]; exact heap_alloc_new wr _
      rw [← hw5, ← hb5]
      have d1 : w5.cell? ⟨b5, 1, none⟩ = some (.int .u32 (d : Int)) := blk_cell hbl 1
      have d2 : w5.cell? ⟨b5, 2, none⟩ = some (.int .u32 (en : Int)) := blk_cell hbl 2
      have K6 := Lib.hid (K5.out.alloc (.cells #[.int .u32 (d : Int), .int .u32 (en : Int)] 41))
      have HO6 := Lib.hid (HO.out.kept0 K6.out)
      clear hw5 hb5 hbl e0 e1 e2 e3
      go_wp2_with (at_builtin; refine wpList_cat (news := [.int .u32 (d : Int), .int .u32 (en : Int)]) rfl rfl Try.underlying37 lit_info rfl (by omega) rfl rfl HO6.out rfl (news_blk (t := 41) (heap_alloc_new _ _)) (by simp [Value.oneCell']) (by unfold maxLen; omega) (by omega) ?_; intro a7 c7 w7 hown7 hst7)
      have hlen2 : (leantTo N (m + 1)).length = ol + 2 := by rw [HT.out, List.length_append, ← HOL.out]; rfl
      have KU := kept_up (KR.out.trans K6.out) hst7.kept FA.out
      have HOW7 := Lib.hid hown7
      have HKU := Lib.hid KU
      have HFR := Lib.hid (show ∀ b ∈ ft a7, w.heap.size ≤ b from fun b hb => by
        rcases hst7.fresh b hb with h | h
        · exact FA.out b h
        · exact Nat.le_trans (KR.out.trans K6.out).size h)
      have HL2 := Lib.hid hlen2
      clear hown7 hst7 KU hlen2 d1 d2
      go_wp2_with fail
      go_roundw
      case rel => exact ⟨m + 1, a7, c7, by omega, by go_num, by rw [HL2.out], by rw [HL2.out, HT.out, show nats .u32 (leantTo N m ++ [d, en]) = nats .u32 (leantTo N m) ++ [.int .u32 (d : Int), .int .u32 (en : Int)] from by simp [nats]]; exact HOW7.out, HKU.out, HFR.out⟩
      case measure => simp [intOf]; omega
    · obtain rfl : m = nR := by omega
      have HE := Lib.hid (show leantTo N m = leantN N from by rw [HNR.out]; exact leantTo_all N)
      rw [HE.out] at HO HLL ⊢
      have HRC := Lib.hid (cone_reach (HC.out.gr.kept0 KR.out) (by have := HF.out.ok.len; omega) a c (leantN N).length (leantN N) rfl (by have := HLL.out; omega) HO.out.sln (leant_ok HF.out))
      obtain ⟨ll, hll⟩ : ∃ x, x = (leantN N).length := ⟨_, rfl⟩
      rw [← hll] at HRC ⊢
      have c0 := KR.out.cell HC.out.c0 (by simp)
      clear hll
      go_wp2_with fail
      refine HRC.out.mono ?_
      rintro e w5 ⟨a5, c5, n5, rfl, ho5, k5⟩
      have hn5 : n5 = (reachL N.g.nodes (leantN N)).length := by have := ho5.len; rw [nats_length] at this; omega
      have K5 := Lib.hid (KR.out.trans k5)
      have HO5 := Lib.hid ho5
      have HN5 := Lib.hid hn5
      have hn52 : n5 ≤ 38401 := by
        rw [hn5]
        have h1 : (reachL N.g.nodes (leantN N)).length ≤ N.g.nodes.length := pick_length _ _
        have := HF.out.ok.len
        omega
      have HRL := Lib.hid (show ∀ x ∈ reachL N.g.nodes (leantN N), x < N.g.nodes.length from fun x hx => by
        unfold reachL pick at hx
        exact List.mem_range.1 (List.mem_filter.1 hx).1)
      have c0' := k5.cell c0 (by simp)
      clear k5 ho5 hn5 c0
      go_wp2_with fail
      clear c0'
      go_loopw [6, 44] (fun v i wr => ∃ j : Nat, j ≤ n5 ∧ i = .int .i64 j ∧ v = .int .i64 (reachTo N j : Nat) ∧ reachTo N j ≤ j ∧ Kept [] w5 wr) (fun _ i _ => n5 - (intOf i).toNat)
      case atStart => exact ⟨0, Nat.zero_le _, rfl, by simp [reachTo], by simp [reachTo], .refl _ _⟩
      case round =>
        obtain ⟨j, hj, rfl, rfl, hle, hk5⟩ := hrel
        have KK := Lib.hid hk5
        clear hk5
        by_cases hlt2 : j < n5
        · have hjl : j < (reachL N.g.nodes (leantN N)).length := by rw [← HN5.out]; exact hlt2
          obtain ⟨ad, rfl, hcx⟩ := (HO5.out.sln.kept0 KK.out) j hjl
          have HX := HRL.out _ (List.getElem_mem hjl)
          have HSU := Lib.hid (show reachTo N (j + 1) = reachTo N j + (if gAt N.g.nodes (reachL N.g.nodes (leantN N))[j] then 1 else 0) from by
            unfold reachTo
            rw [List.take_succ_eq_append_getElem hjl, List.filter_append, List.length_append]
            congr 1
            cases h : gAt N.g.nodes (reachL N.g.nodes (leantN N))[j] <;> simp [h])
          have HGA := Lib.hid (gateA_at HX)
          generalize (reachL N.g.nodes (leantN N))[j] = x at *
          have HGC := Lib.hid (aig_gateOf (HC.out.gr.kept0 (K5.out.trans KK.out)) (by have := HF.out.ok.len; omega) (x : Int) (by have := HF.out.ok.len; omega) (by have := HF.out.ok.len; omega))
          have c0 := (K5.out.trans KK.out).cell HC.out.c0 (by simp)
          rw [← HGA.out] at HSU
          generalize gateA N.g (x : Int) = r at *
          obtain ⟨y, z, b⟩ := r
          simp only at HSU HGC
          obtain ⟨rj, hrj⟩ : ∃ v, v = reachTo N j := ⟨_, rfl⟩
          rw [← hrj] at HSU hle ⊢
          have j0 : (0 : Int) ≤ (j : Int) := by omega
          have j1 : (j : Int) < (n5 : Int) := by omega
          clear hrj hjl HX HGA
          go_wp2_with fail
          refine HGC.out.mono ?_
          rintro e w6 ⟨rfl, k6⟩
          have K6 := Lib.hid (KK.out.trans k6)
          clear k6 c0 hcx
          cases b with
          | true =>
            go_wp2_with fail
            go_roundw
            case rel => exact ⟨j + 1, by omega, by go_num, by rw [HSU.out]; go_num, by rw [HSU.out]; simp; omega, K6.out⟩
            case measure => simp [intOf]; omega
          | false =>
            go_wp2_with fail
            go_roundw
            case rel => exact ⟨j + 1, by omega, by go_num, by rw [HSU.out]; rfl, by rw [HSU.out]; simp; omega, K6.out⟩
            case measure => simp [intOf]; omega
        · obtain rfl : j = n5 := by omega
          have HE2 := Lib.hid (show reachTo N j = reachedN N from by rw [HN5.out]; exact reachTo_all N)
          go_wp2_with fail
          go_ret
          exact ⟨by rw [HE2.out]; rfl, K5.out.trans KK.out⟩
end Go.Proofs.Ytdmcdhkkbkgnbaa
