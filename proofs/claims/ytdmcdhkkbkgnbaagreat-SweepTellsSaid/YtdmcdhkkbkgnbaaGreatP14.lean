/-
  Law 06: Does, the steps whose statements draw their order.
  Law 06: Does, a step done with a netlist.
  Law 06: what a step does with a netlist.
  Package sweep: a register's constant; stuck ones; all that goes out.
-/
import Derived.Test.YtdmcdhkkbkgnbaaGreatP08
import Derived.Test.YtdmcdhkkbkgnbaaGreatP13
import Derived.Test.YtdmcdhkkbkgnbaaGreatP12
namespace Go.Proofs.YtdmcdhkkbkgnbaaGreat
open Go.ChangeShapes Go.WideShapes Go.ChangeAt Go.RowKit
open Go.Maps (Keyed)
open Go.WideMaps
set_option linter.unusedVariables false
set_option linter.unusedSimpArgs false

variable {w w' W : World} {p n k : Nat} {F R S : List Nat} {g : Gr} {N : Nt}
def rgV (r : Rg) : Value := .agg #[.int .u32 (r.q : Int), .int .u32 (r.d : Int), .int .u32 (r.en : Int), .bool r.init]
def LitIs (x : Nat) (w : World) (e : Ending) (w' : World) : Prop := e = .returned (.int .u32 (x : Int)) ∧ Kept [] w w'
theorem ifL_first (r : Rg) : ifL 0 r.init = firstR r := by unfold ifL firstR ntL; cases r.init <;> rfl
set_option maxRecDepth 100000 in
theorem first_c (r : Rg) (w : World) : Calls Tryz.prog 102 #[rgV r] w (LitIs (firstR r) w) := by
  have HI := Lib.hid (fun V => lit_if 0 r.init V (by omega))
  rw [ifL_first] at HI
  unfold rgV
  obtain ⟨fr, hfr⟩ : ∃ x, x = firstR r := ⟨_, rfl⟩
  rw [← hfr] at HI ⊢
  clear hfr
  obtain ⟨q, d, en, init⟩ := r
  simp only at HI ⊢
  go_enter Tryz.func102, Tryz.ntmps102
  go_wp2_with fail
  refine (HI.out _).mono ?_
  rintro e w' ⟨rfl, rfl⟩
  go_wp2_with fail
  go_ret
  exact ⟨rfl, (Kept.refl [] w).alloc _⟩
theorem keep_4 {w w' : World} {a0 a1 a2 a3 : Addr} {v0 v1 v2 v3 : Value} (hk : Kept [] w w') (h0 : w.cell? a0 = some v0) (h1 : w.cell? a1 = some v1) (h2 : w.cell? a2 = some v2) (h3 : w.cell? a3 = some v3) :
    w'.cell? a0 = some v0 ∧ w'.cell? a1 = some v1 ∧ w'.cell? a2 = some v2 ∧ w'.cell? a3 = some v3 :=
  ⟨hk.cell h0 (by simp), hk.cell h1 (by simp), hk.cell h2 (by simp), hk.cell h3 (by simp)⟩
set_option maxHeartbeats 1600000 in
set_option maxRecDepth 100000 in
theorem stuck_c (r : Rg) (w : World) : Calls Tryz.prog 39 #[rgV r] w (BoolIs (stuckR r) w) := by
  have HF := Lib.hid (fun V => first_c r V)
  have HS := Lib.hid (show stuckR r = (decide (r.en = 0) || decide (r.d = r.q) || decide (r.d = firstR r)) from rfl)
  unfold rgV at HF ⊢
  obtain ⟨fr, hfr⟩ : ∃ x, x = firstR r := ⟨_, rfl⟩
  rw [← hfr] at HF HS
  rw [HS.out]
  clear hfr HS
  obtain ⟨q, d, en, init⟩ := r
  simp only at HF ⊢
  by_cases h1 : en = 0
  · subst h1
    go_enter Tryz.func39, Tryz.ntmps39
    go_wp2_with fail
    go_quiet (fail)
    go_wp2_with fail
    go_ret
    exact ⟨by simp, ((Kept.refl [] w).alloc _).drewN _⟩
  · by_cases h2 : d = q
    · subst h2
      have e1 : ((en : Int) == 0) = false := by simp; omega
      go_enter Tryz.func39, Tryz.ntmps39
      go_wp2_with fail
      go_quiet (fail)
      go_wp2_with fail
      go_ret
      exact ⟨by simp, ((Kept.refl [] w).alloc _).drewN _⟩
    · have e1 : ((en : Int) == 0) = false := by simp; omega
      have e2 : ((d : Int) == (q : Int)) = false := by simp; omega
      obtain ⟨V, hV⟩ : ∃ V, V = w.alloc (.cells #[.int .u32 (q : Int), .int .u32 (d : Int), .int .u32 (en : Int), .bool init] 63) := ⟨_, rfl⟩
      obtain ⟨b, hb⟩ : ∃ b, b = w.heap.size := ⟨_, rfl⟩
      have KV := Lib.hid (show Kept [] w V from by rw [hV]; exact (Kept.refl [] w).alloc _)
      have hbl : V.heap[b]? = some (.cells #[.int .u32 (q : Int), .int .u32 (d : Int), .int .u32 (en : Int), .bool init] 63 (0, 0)) := by rw [hV, hb]; exact heap_alloc_new w _
      have d0 : V.cell? ⟨b, 0, none⟩ = some (.int .u32 (q : Int)) := blk_cell hbl 0
      have d1 : V.cell? ⟨b, 1, none⟩ = some (.int .u32 (d : Int)) := blk_cell hbl 1
      have d2 : V.cell? ⟨b, 2, none⟩ = some (.int .u32 (en : Int)) := blk_cell hbl 2
      have d3 : V.cell? ⟨b, 3, none⟩ = some (.bool init) := blk_cell hbl 3
      clear hbl
      go_enter Tryz.func39, Tryz.ntmps39
      go_wp2_with fail
      rw [← hV, ← hb]
      clear hV hb
      go_region_held3 (fun w' => w'.cell? ⟨b, 0, none⟩ = some (.int .u32 (q : Int)) ∧ w'.cell? ⟨b, 1, none⟩ = some (.int .u32 (d : Int)) ∧ w'.cell? ⟨b, 2, none⟩ = some (.int .u32 (en : Int)) ∧ w'.cell? ⟨b, 3, none⟩ = some (.bool init))
        (first | exact keep_4 (w := V) (by (repeat (first | with_reducible exact Kept.refl _ _ | with_reducible apply Kept.drew | with_reducible apply Kept.drewN | with_reducible apply Kept.alloc | refine Kept.trans ?_ k2))) d0 d1 d2 d3 | go_keep)
        (first | (go_at_call 102; (with_reducible refine (HF.out _).mono ?_); rintro e u2 ⟨rfl, k2⟩))
      all_goals
        have KZ := Lib.hid (show Kept [] V u2 from by (repeat (first | with_reducible exact Kept.refl _ _ | with_reducible apply Kept.drew | with_reducible apply Kept.drewN | with_reducible apply Kept.alloc | refine Kept.trans ?_ k2)))
        clear k2 d0 d1 d2 d3
        go_wp2_with fail
        go_ret
        refine ⟨?_, KV.out.trans KZ.out⟩
        have e3 : ((d : Int) == (fr : Int)) = decide (d = fr) := by rw [Bool.eq_iff_iff]; simp; omega
        simp [h1, h2, e3]
def LitsNew (l : List Nat) (w : World) (e : Ending) (w' : World) : Prop := ∃ a c, e = .returned (.slice a l.length c) ∧ Own w' 61 a l.length c (nats .u32 l) ∧ Kept [] w w' ∧ ∀ b ∈ ft a, w.heap.size ≤ b
def outsTo (N : Nt) (m : Nat) : List Nat := (N.outb.take m).flatMap (·.lits)
theorem outsTo_succ {b : Bus} {m : Nat} (h : N.outb[m]? = some b) : outsTo N (m + 1) = outsTo N m ++ b.lits := by
  obtain ⟨h1, h2⟩ := List.getElem?_eq_some_iff.1 h
  unfold outsTo
  rw [List.take_succ_eq_append_getElem h1, List.flatMap_append, h2]
  simp
theorem outsTo_len (hf : NtFine k N) (m : Nat) : (outsTo N m).length ≤ 64 * m := by
  induction m with
  | zero => simp [outsTo]
  | succ m ih =>
    cases h : N.outb[m]? with
    | none =>
      have : N.outb.length ≤ m := List.getElem?_eq_none_iff.1 h
      unfold outsTo at *
      rw [List.take_of_length_le (by omega)]
      rw [List.take_of_length_le this] at ih
      omega
    | some b =>
      rw [outsTo_succ h, List.length_append]
      have := (hf.ok.ol b (List.mem_of_getElem? h)).2.1
      omega
theorem outsTo_all (N : Nt) : outsTo N N.outb.length = outsN N := by unfold outsTo outsN; rw [List.take_length]
set_option maxHeartbeats 1600000 in
set_option maxRecDepth 100000 in
theorem outs_c (h : NetAt w n F R N) (hf : NtFine k N) (hk : k ≤ 700) : Calls Tryz.prog 36 #[.pointer (some ⟨n, 0, none⟩)] w (LitsNew (outsN N) w) := by
  have HF := Lib.hid hf
  obtain ⟨p, G, ia, ic, ra, rc, oa, oc, ri, ro, rfl, rfl, hc⟩ := h
  have HC := Lib.hid hc
  obtain ⟨nO, hnO⟩ : ∃ m, m = N.outb.length := ⟨_, rfl⟩
  have HNO := Lib.hid hnO
  have c4 := hc.c4
  rw [← hnO] at c4
  have hno : nO ≤ 700 := by rw [hnO]; have := hf.ok.ok; omega
  have HRL := Lib.hid (show ro.length = nO from by rw [hnO, ← hc.ob.is]; simp)
  clear hc hnO hf
  go_enter Tryz.func36, Tryz.ntmps36
  go_wp2_with fail
  clear c4
  go_loopw [3, 11] (fun v i wr => ∃ (m : Nat) (a : Option Addr) (c : Nat), m ≤ nO ∧ i = .int .i64 m ∧ v = .slice a (outsTo N m).length c ∧ Own wr 61 a (outsTo N m).length c (nats .u32 (outsTo N m)) ∧ Kept [] w wr ∧ ∀ b ∈ ft a, w.heap.size ≤ b) (fun _ i _ => nO - (intOf i).toNat)
  case atStart => exact ⟨0, none, 0, Nat.zero_le _, rfl, rfl, Own.nil _ _, .refl _ _, by simp [ft]⟩
  case round =>
    obtain ⟨m, a, c, hm, rfl, rfl, ho, hkr, hfa⟩ := hrel
    have HO := Lib.hid ho
    have KR := Lib.hid hkr
    have FA := Lib.hid hfa
    clear ho hkr hfa
    by_cases hlt : m < nO
    · have hml : m < ro.length := by rw [HRL.out]; exact hlt
      obtain ⟨gb, rfl, x0, x1⟩ := (HC.out.ob.slb.kept0 KR.out) m hml
      have hrow := (HC.out.ob.rows _ (List.getElem_mem hml)).1.kept0 KR.out
      have hbo : N.outb[m]? = some ro[m].b := by rw [← HC.out.ob.is, List.getElem?_map, List.getElem?_eq_getElem hml]; rfl
      have hT := outsTo_succ hbo
      have hol := HF.out.ok.ol _ (List.mem_of_getElem? hbo)
      have hl64 := hol.2.1
      have hl1 := hol.1
      have hlen := outsTo_len HF.out m
      clear hbo hol
      generalize ro[m] = r at *
      obtain ⟨⟨nm, lits⟩, ra2, rc2⟩ := r
      simp only at x0 x1 hrow hT hl64 hl1
      obtain ⟨ad, had⟩ : ∃ ad, ra2 = some ad := by
        obtain ⟨ad, h, _⟩ := hrow 0 hl1
        exact ⟨ad, h⟩
      subst had
      obtain ⟨ln, hln⟩ : ∃ ln, ln = lits.length := ⟨_, rfl⟩
      obtain ⟨ol, hol⟩ : ∃ ol, ol = (outsTo N m).length := ⟨_, rfl⟩
      have HLN := Lib.hid hln
      have HOL := Lib.hid hol
      rw [← hln] at x1 hl64
      rw [← hol] at hlen
      have ho2 := HO.out
      rw [← hol] at ho2
      have HO2 := Lib.hid (fun o => own_kept (w := wr) ho2 ((Kept.refl [] wr).alloc o) (by simp))
      have HCL := Lib.hid (show ∀ o j u, (nats .u32 lits)[j]? = some u → (wr.alloc o).cell? (ad.add j) = some u from fun o j u hu => by
        have hj : j < lits.length := by
          have := (List.getElem?_eq_some_iff.1 hu).1
          rwa [nats_length] at this
        obtain ⟨ad2, h1, h2⟩ := hrow j hj
        injection h1 with h1
        subst h1
        have e : u = .int .u32 (lits[j] : Nat) := by
          have := (List.getElem?_eq_some_iff.1 hu).2
          rw [← this]
          simp [nats]
        rw [e]
        exact cell_alloc h2 _)
      have HT := Lib.hid hT
      rw [← hol]
      clear hrow hT hln hol ho2 hl1
      go_wp2_with (at_builtin; refine wpList_cat (news := nats .u32 lits) rfl rfl Tryz.underlying58 lit_info rfl (by omega) rfl rfl (HO2.out _) (by rw [nats_length, HLN.out, Nat.mul_one]) (HCL.out _) (by intro u hu; simp [nats] at hu; obtain ⟨_, _, rfl⟩ := hu; rfl) (by unfold maxLen; omega) (by omega) ?_; intro a5 c5 w5 hown5 hst5)
      have KA := Lib.hid (show Kept [] w _ from KR.out.alloc (.cells #[.string nm, .slice (some ad) ln rc2] 60))
      have hlen2 : (outsTo N (m + 1)).length = ol + ln := by rw [HT.out, List.length_append, ← HOL.out, ← HLN.out]
      refine ⟨⟨m + 1, a5, c5, by omega, by go_num, by rw [hlen2], ?_, kept_up KA.out hst5.kept FA.out, fun b hb => ?_⟩, by simp [intOf]; omega⟩
      · rw [hlen2, HT.out, show nats .u32 (outsTo N m ++ lits) = nats .u32 (outsTo N m) ++ nats .u32 lits from by simp [nats]]
        exact hown5
      · rcases hst5.fresh b hb with h | h
        · exact FA.out b h
        · exact Nat.le_trans KA.out.size h
    · obtain rfl : m = nO := by omega
      have HT := Lib.hid (show outsTo N m = outsN N from by rw [HNO.out]; exact outsTo_all N)
      go_wp2_with fail
      go_ret
      have ho := HO.out
      rw [HT.out] at ho ⊢
      exact ⟨a, c, rfl, ho, KR.out, FA.out⟩
end Go.Proofs.YtdmcdhkkbkgnbaaGreat

namespace Go.Proofs.YtdmcdhkkbkgnbaaGreat
open Go.ChangeShapes Go.WideShapes Go.ChangeAt Go.RowKit
open Go.Maps (Keyed)
open Go.WideMaps
set_option linter.unusedVariables false
set_option linter.unusedSimpArgs false

variable {w w' : World} {p n : Nat} {F R S : List Nat} {g : Gr} {N : Nt}
def RowNew (l : List Nat) (n : Nat) (w : World) (e : Ending) (w' : World) : Prop := ∃ a c, e = .returned (.slice a n c) ∧ Own w' 61 a n c (nats .u32 l) ∧ Stepped w w' [] (ft a)
set_option maxHeartbeats 800000 in
theorem of_c (a : Option Addr) (c n : Nat) (l : List Nat) (w : World) (hl : l.length = n) (hn : n ≤ 140737488351232) (hs : SlN w .u32 a l) :
    Calls Tryz.prog 95 #[.slice a n c] w (RowNew (l.take 70) (min n 70) w) := by
  have HL := Lib.hid hl
  clear hl
  go_enter Tryz.func95, Tryz.ntmps95
  go_wp2_with fail
  go_loopw [3, 4] (fun v i wr => ∃ (k : Nat) (a' : Option Addr) (c' : Nat), k ≤ n ∧ k ≤ 70 ∧ i = .int .i64 k ∧ v = .slice a' k c' ∧ Own wr 61 a' k c' (nats .u32 (l.take k)) ∧ Stepped w wr [] (ft a')) (fun _ i _ => 70 - (intOf i).toNat)
  case atStart => exact ⟨0, none, 0, Nat.zero_le _, by omega, rfl, rfl, Own.nil _ _, .refl _ _⟩
  case round =>
    obtain ⟨k, a', c', hk, h70, rfl, rfl, hown, hst⟩ := hrel
    by_cases hlt : k < n ∧ k < 70
    · obtain ⟨h1, h2⟩ := hlt
      have hkl : k < l.length := by rw [HL.out]; exact h1
      obtain ⟨ad, rfl, hcx⟩ := (hs.kept0 hst.kept) k hkl
      have HT := Lib.hid (take_snoc l k hkl)
      generalize l[k] = x at *
      go_wp2_with (at_builtin; refine wpList_push rfl rfl Tryz.underlying58 lit_info' rfl rfl rfl hown rfl (by unfold maxLen; omega) (by omega) ?_; intro a1 c1 w5 hown5 hst5)
      go_roundw
      case rel => exact ⟨k + 1, a1, c1, by omega, by omega, by go_num, rfl, by rw [HT.out, ← nats_append]; exact hown5, hst.trans hst5⟩
      case measure => simp [intOf]; omega
    · have HE := Lib.hid (show l.take k = l.take 70 from by
        have := HL.out
        by_cases h : k < 70
        · rw [List.take_of_length_le (by omega), List.take_of_length_le (by omega)]
        · rw [show k = 70 by omega])
      have HK := Lib.hid (show k = min n 70 from by omega)
      rw [HE.out] at hown
      have HO := Lib.hid hown
      have HS := Lib.hid hst
      clear hown hst HE
      by_cases h1 : k < n
      · have h2 : ¬ k < 70 := by omega
        clear hlt
        go_wp2_with fail
        go_ret
        exact ⟨a', c', by rw [← HK.out]; rfl, by rw [← HK.out]; exact HO.out, HS.out⟩
      · clear hlt
        go_wp2_with fail
        go_ret
        exact ⟨a', c', by rw [← HK.out]; rfl, by rw [← HK.out]; exact HO.out, HS.out⟩
def NoGate (w : World) (e : Ending) (w' : World) : Prop := e = .returned (.tuple #[.int .u32 0, .int .i64 1]) ∧ Kept [] w w'
theorem asksE_gone {l : List Nat} (h : gone g l = true) : asksE g l = 1 := by
  have : bad g.nodes.length l = true := h
  unfold asksE; rw [this]; rfl
theorem and_gone (hg : GraphAt w p F g) (hm : g.nodes.length ≤ 200000) (a : Option Addr) (c len : Nat) (l : List Nat) (hl : l.length = len) (hlm : len ≤ 1000000) (hs : SlN w .u32 a l) (hr : Lits l) (hb : gone g l = true) :
    Calls Tryz.prog 96 #[.pointer (some ⟨p, 0, none⟩), .slice a len c] w (NoGate w) := by
  have HA := Lib.hid (aig_asks hg hm a c len l hl hlm hs hr)
  rw [asksE_gone hb] at HA
  have HM := Lib.hid (fun (v f : Value) => show Calls Tryz.prog 128 #[.pointer (some ⟨p, 0, none⟩), v, f, .slice a len c] w (NoGate w) from by
    go_enter Tryz.func128, Tryz.ntmps128
    go_wp2_with fail
    refine HA.out.mono ?_
    rintro e w1 ⟨rfl, hk1⟩
    have K1 := Lib.hid hk1
    clear hk1
    go_wp2_with fail
    go_ret2
    exact ⟨rfl, K1.out⟩)
  clear hg hl hs hr hb HA
  go_enter Tryz.func96, Tryz.ntmps96
  go_wp2_with fail
  refine (HM.out _ _).mono ?_
  rintro e w1 ⟨rfl, hk1⟩
  have K1 := Lib.hid hk1
  clear hk1
  go_wp2_with fail
  go_ret2
  exact ⟨rfl, K1.out⟩
theorem xor_gone (hg : GraphAt w p F g) (hm : g.nodes.length ≤ 200000) (a : Option Addr) (c len : Nat) (l : List Nat) (hl : l.length = len) (hlm : len ≤ 1000000) (hs : SlN w .u32 a l) (hr : Lits l) (hb : gone g l = true) :
    Calls Tryz.prog 97 #[.pointer (some ⟨p, 0, none⟩), .slice a len c] w (NoGate w) := by
  have HA := Lib.hid (aig_asks hg hm a c len l hl hlm hs hr)
  rw [asksE_gone hb] at HA
  have HM := Lib.hid (fun (v f : Value) => show Calls Tryz.prog 128 #[.pointer (some ⟨p, 0, none⟩), v, f, .slice a len c] w (NoGate w) from by
    go_enter Tryz.func128, Tryz.ntmps128
    go_wp2_with fail
    refine HA.out.mono ?_
    rintro e w1 ⟨rfl, hk1⟩
    have K1 := Lib.hid hk1
    clear hk1
    go_wp2_with fail
    go_ret2
    exact ⟨rfl, K1.out⟩)
  clear hg hl hs hr hb HA
  go_enter Tryz.func97, Tryz.ntmps97
  go_wp2_with fail
  refine (HM.out _ _).mono ?_
  rintro e w1 ⟨rfl, hk1⟩
  have K1 := Lib.hid hk1
  clear hk1
  go_wp2_with fail
  go_ret2
  exact ⟨rfl, K1.out⟩
theorem one_c (x : Int) (k : Int) (w : World) : Calls Tryz.prog 90 #[.int .u32 x, .int .i64 k] w fun e w' => e = .returned (.tuple #[.slice (some ⟨w.heap.size, 0, none⟩) 1 1, .int .i64 k]) ∧ w' = w.alloc (.cells #[.int .u32 x] 61) := by
  go_enter Tryz.func90, Tryz.ntmps90
  go_wp2
  go_ret2
  exact ⟨rfl, rfl⟩
/-- a call of a gate on a netlist's graph -/
def GatePostN (r : Nt × List Nat × Nat) (x : Nat) (w : World) (n : Nat) (F R : List Nat) (e : Ending) (w' : World) : Prop :=
  ∃ F' x, e = .returned (.tuple #[.int .u32 (x : Nat), .int .i64 (r.2.2 : Nat)]) ∧ NetAt w' n F' R r.1 ∧ NStep w w' F R F' R ∧ r.2.1 = [x]
def stepCells6 (s : NStp) (la : Option Addr) (lc : Nat) : Array Value := #[.int .i64 s.what, .string s.name, .int .i64 s.n, .int .u32 (s.a : Int), .int .u32 (s.b : Int), .int .u32 (s.c : Int), .slice la s.lits.length lc]
structure NStp.ok (s : NStp) : Prop where
  nm : s.name.size ≤ 140737488351232
  n1 : -9223372036854775808 ≤ s.n
  n2 : s.n ≤ 9223372036854775807
  a : s.a < 4294967296
  b : s.b < 4294967296
  c : s.c < 4294967296
  l : ∀ x ∈ s.lits, x < 4294967296
  ll : s.lits.length ≤ 140737488351232
theorem whole_row {e : TypeId} {gb n : Nat} {xs : List Value} (h : w.heap[gb]? = some (.cells xs.toArray e (0, 0))) (hl : xs.length = n) (hn : n ≤ maxLen) : Own w e (some ⟨gb, 0, none⟩) n n xs :=
  ⟨by rw [hl, Nat.mul_one], .inr ⟨gb, n, xs.toArray, rfl, Nat.zero_le _, h, Nat.le_refl _, hn, by simp [hl], by simp [← hl]⟩⟩
/-- a new row of one literal -/
theorem one_row {W : World} {x k : Nat} {F' R' : List Nat} (hn : NetAt W n F' R' N) (hst : NStep w W F R F' R') :
    ∃ F' R' a c k', Ending.returned (.tuple #[.slice (some ⟨W.heap.size, 0, none⟩) 1 1, .int .i64 (k : Nat)]) = .returned (.tuple #[.slice a k' c, .int .i64 (k : Nat)]) ∧ NetAt (W.alloc (.cells #[.int .u32 (x : Int)] 61)) n F' R' N ∧ NStep w (W.alloc (.cells #[.int .u32 (x : Int)] 61)) F R F' R' ∧ Own (W.alloc (.cells #[.int .u32 (x : Int)] 61)) 61 a k' c (nats .u32 [x]) ∧ ∀ b ∈ ft a, w.heap.size ≤ b ∧ b ∉ F' ∧ b ∉ R' := by
  have hk : Kept [] W (W.alloc (.cells #[.int .u32 (x : Int)] 61)) := (Kept.refl [] W).alloc _
  refine ⟨F', R', some ⟨W.heap.size, 0, none⟩, 1, 1, rfl, hn.kept0 hk, hst.keep hk, whole_row (heap_alloc_new W _) rfl (by unfold maxLen; omega), fun b hb => ?_⟩
  rw [mem_ft] at hb
  subst hb
  exact ⟨hst.st.kept.size, fun h => Nat.lt_irrefl _ (hn.lt.1 _ h), fun h => Nat.lt_irrefl _ (hn.lt.2 _ h)⟩
end Go.Proofs.YtdmcdhkkbkgnbaaGreat

namespace Go.Proofs.YtdmcdhkkbkgnbaaGreat
open Go.ChangeShapes Go.WideShapes Go.ChangeAt Go.RowKit
open Go.Maps (Keyed)
open Go.WideMaps
set_option linter.unusedVariables false
set_option linter.unusedSimpArgs false

variable {w w' : World} {p n : Nat} {F R S : List Nat} {g : Gr} {N : Nt}
def stepV (s : NStp) (la : Option Addr) (lc : Nat) : Value := .agg (stepCells6 s la lc)
theorem box_cell (s : NStp) (la : Option Addr) (lc : Nat) (w : World) (i : Nat) : (w.alloc (.cells (stepCells6 s la lc) 89)).cell? ⟨w.heap.size, i, none⟩ = (stepCells6 s la lc)[i]? := blk_cell (heap_alloc_new w _) i
set_option maxHeartbeats 3200000 in
set_option maxRecDepth 100000 in
theorem does_0 (s : NStp) (la : Option Addr) (lc : Nat) (h : NetAt w n F R N) (hok : N.g.nodes.length ≤ 50000 ∧ N.inb.length ≤ 10000 ∧ N.regs.length ≤ 10000 ∧ N.outb.length ≤ 10000) (hs : s.ok) (h0 : s.what = 0) :
    Calls Tryz.prog 34 #[.pointer (some ⟨n, 0, none⟩), stepV s la lc] w (AddInPost (addIn N s.name s.n) w n F R) := by
  have H := Lib.hid (addin_c (h.kept0 ((Kept.refl [] w).alloc (.cells (stepCells6 s la lc) 89))) (by omega) s.name hs.nm s.n hs.n1 hs.n2)
  have HK := Lib.hid ((Kept.refl [] w).alloc (.cells (stepCells6 s la lc) 89))
  generalize addIn N s.name s.n = res at *
  obtain ⟨what, nm, sn, a, b, c, lits⟩ := s
  simp only [stepV, stepCells6] at *
  subst h0
  clear hs h
  go_enter Tryz.func34, Tryz.ntmps34; (try simp only [List.append])
  go_wp2_with fail
  refine H.out.mono ?_
  rintro e w1 ⟨F', R', a', c', k', rfl, hn, hst, ho, hf⟩
  have HN := Lib.hid hn
  have HS := Lib.hid hst
  have HO := Lib.hid ho
  have HF := Lib.hid hf
  clear hn hst ho hf
  go_wp2_with fail
  go_ret2
  exact ⟨F', R', a', c', k', rfl, HN.out, ((NStep.refl w F R).keep HK.out).trans HS.out, HO.out, fun b hb => ⟨Nat.le_trans HK.out.size (HF.out b hb).1, (HF.out b hb).2⟩⟩
theorem rem_spell (n : Int) (h1 : -9223372036854775808 ≤ n) (h2 : n ≤ 9223372036854775807) : (n.tmod 2 != 0) = decide (n % 2 ≠ 0) := by
  rw [Bool.eq_iff_iff, bne_iff_ne, decide_eq_true_eq]
  have : n.tmod 2 = 0 ↔ n % 2 = 0 := by
    constructor
    · intro h; have := Int.dvd_of_tmod_eq_zero h; omega
    · intro h; exact Int.tmod_eq_zero_of_dvd (by omega)
  rw [ne_eq, ne_eq, this]
set_option maxHeartbeats 3200000 in
set_option maxRecDepth 100000 in
theorem does_1 (s : NStp) (la : Option Addr) (lc : Nat) (h : NetAt w n F R N) (hok : N.g.nodes.length ≤ 50000 ∧ N.inb.length ≤ 10000 ∧ N.regs.length ≤ 10000 ∧ N.outb.length ≤ 10000) (hs : s.ok) (h0 : s.what = 1) :
    Calls Tryz.prog 34 #[.pointer (some ⟨n, 0, none⟩), stepV s la lc] w (AddInPost ((addReg N (decide (s.n % 2 ≠ 0))).1, [(addReg N (decide (s.n % 2 ≠ 0))).2], 0) w n F R) := by
  have H := Lib.hid (fun b => addreg_c (h.kept0 ((Kept.refl [] w).alloc (.cells (stepCells6 s la lc) 89))) (by omega) b)
  have HK := Lib.hid ((Kept.refl [] w).alloc (.cells (stepCells6 s la lc) 89))
  have hrm := rem_spell s.n hs.n1 hs.n2
  have b1 := hs.n1
  have b2 := hs.n2
  generalize decide (s.n % 2 ≠ 0) = rb at *
  have H2 := Lib.hid (H.out rb)
  clear H
  generalize addReg N rb = res at *
  obtain ⟨N', y⟩ := res
  obtain ⟨what, nm, sn, a, b, c, lits⟩ := s
  simp only [stepV, stepCells6] at *
  subst h0
  clear hs h
  go_enter Tryz.func34, Tryz.ntmps34; (try simp only [List.append])
  go_wp2_with fail
  refine H2.out.mono ?_
  rintro e w1 ⟨F', rfl, hn, hst⟩
  have HN := Lib.hid hn
  have HS := Lib.hid (((NStep.refl w F R).keep HK.out).trans hst)
  clear hn hst
  go_wp2_with fail
  refine (one_c _ _ _).mono ?_
  rintro e w2 ⟨rfl, rfl⟩
  go_wp2_with fail
  go_ret2
  exact one_row HN.out HS.out
set_option maxHeartbeats 3200000 in
set_option maxRecDepth 100000 in
theorem does_2 (s : NStp) (la : Option Addr) (lc : Nat) (h : NetAt w n F R N) (hok : N.g.nodes.length ≤ 50000 ∧ N.inb.length ≤ 10000 ∧ N.regs.length ≤ 10000 ∧ N.outb.length ≤ 10000) (hs : s.ok) (h0 : s.what = 2) :
    Calls Tryz.prog 34 #[.pointer (some ⟨n, 0, none⟩), stepV s la lc] w (AddInPost ((setReg N s.a s.b s.c).1, [], (setReg N s.a s.b s.c).2) w n F R) := by
  have H := Lib.hid (setreg_c (h.kept0 ((Kept.refl [] w).alloc (.cells (stepCells6 s la lc) 89))) (by omega) s.a s.b s.c hs.a hs.b hs.c)
  have HK := Lib.hid ((Kept.refl [] w).alloc (.cells (stepCells6 s la lc) 89))
  generalize setReg N s.a s.b s.c = res at *
  obtain ⟨N', y⟩ := res
  obtain ⟨what, nm, sn, a, b, c, lits⟩ := s
  simp only [stepV, stepCells6] at *
  subst h0
  clear hs h
  go_enter Tryz.func34, Tryz.ntmps34; (try simp only [List.append])
  go_wp2_with fail
  refine H.out.mono ?_
  rintro e w1 ⟨F', R', rfl, hn, hst⟩
  have HN := Lib.hid hn
  have HS := Lib.hid (((NStep.refl w F R).keep HK.out).trans hst)
  clear hn hst
  go_wp2_with fail
  go_ret2
  exact ⟨F', R', none, 0, 0, rfl, HN.out, HS.out, Own.nil _ _, by simp [ft]⟩
set_option maxHeartbeats 3200000 in
set_option maxRecDepth 100000 in
theorem does_8 (s : NStp) (la : Option Addr) (lc : Nat) (h : NetAt w n F R N) (hok : N.g.nodes.length ≤ 50000 ∧ N.inb.length ≤ 10000 ∧ N.regs.length ≤ 10000 ∧ N.outb.length ≤ 10000) (hs : s.ok) (h0 : s.what = 8) :
    Calls Tryz.prog 34 #[.pointer (some ⟨n, 0, none⟩), stepV s la lc] w (AddInPost ({ N with g := (inputG N.g).1 }, [2 * N.g.nodes.length], 0) w n F R) := by
  have HK := Lib.hid ((Kept.refl [] w).alloc (.cells (stepCells6 s la lc) 89))
  obtain ⟨p, G, ia, ic, ra, rc, oa, oc, ri, ro, rfl, rfl, hc⟩ := h
  have HC := Lib.hid (hc.kept HK.out (by simp) (by simp))
  have H := Lib.hid (aig_input HC.out.gr (show N.g.nodes.length ≤ 199000 by omega))
  have HV := Lib.hid (show (inputG N.g).2 = 2 * N.g.nodes.length from rfl)
  generalize inputG N.g = res at *
  obtain ⟨g', y⟩ := res
  simp only at HV
  rw [← HV.out]
  have c0 := HC.out.c0
  obtain ⟨what, nm, sn, a, b, c, lits⟩ := s
  simp only [stepV, stepCells6] at *
  subst h0
  clear hs hc
  go_enter Tryz.func34, Tryz.ntmps34; (try simp only [List.append])
  go_wp2_with fail
  refine H.out.mono ?_
  rintro e w1 ⟨G', rfl, hg, hst⟩
  have HN := Lib.hid (HC.out.graph hg hst)
  have HS := Lib.hid (((NStep.refl w _ _).keep HK.out).trans (NetC.graph_step (n := n) (ia := ia) (ra := ra) (oa := oa) (ri := ri) (ro := ro) hst))
  clear hg hst c0
  go_wp2_with fail
  refine (one_c _ _ _).mono ?_
  rintro e w2 ⟨rfl, rfl⟩
  go_wp2_with fail
  go_ret2
  exact one_row ⟨p, G', ia, ic, ra, rc, oa, oc, ri, ro, rfl, rfl, HN.out⟩ HS.out
set_option maxHeartbeats 3200000 in
set_option maxRecDepth 100000 in
theorem does_9 (s : NStp) (la : Option Addr) (lc : Nat) (h : NetAt w n F R N) (h0 : s.what < 0 ∨ 8 < s.what) :
    Calls Tryz.prog 34 #[.pointer (some ⟨n, 0, none⟩), stepV s la lc] w (AddInPost (N, [], 0) w n F R) := by
  have HPO := Lib.hid (AddInPost.no (k := 0) h ((Kept.refl [] w).alloc (.cells (stepCells6 s la lc) 89)))
  generalize ((N, [], 0) : Nt × List Nat × Nat) = res at *
  obtain ⟨what, nm, sn, a, b, c, lits⟩ := s
  simp only [stepV, stepCells6] at *
  have e0 : (what == 0) = false := by rw [beq_eq_false_iff_ne]; omega
  have e1 : (what == 1) = false := by rw [beq_eq_false_iff_ne]; omega
  have e2 : (what == 2) = false := by rw [beq_eq_false_iff_ne]; omega
  have e3 : (what == 3) = false := by rw [beq_eq_false_iff_ne]; omega
  have e4 : (what == 4) = false := by rw [beq_eq_false_iff_ne]; omega
  have e5 : (what == 5) = false := by rw [beq_eq_false_iff_ne]; omega
  have e6 : (what == 6) = false := by rw [beq_eq_false_iff_ne]; omega
  have e7 : (what == 7) = false := by rw [beq_eq_false_iff_ne]; omega
  have e8 : (what == 8) = false := by rw [beq_eq_false_iff_ne]; omega
  clear h0 h
  go_enter Tryz.func34, Tryz.ntmps34; (try simp only [List.append])
  go_wp2_with fail
  go_ret2
  exact HPO.out
end Go.Proofs.YtdmcdhkkbkgnbaaGreat

namespace Go.Proofs.YtdmcdhkkbkgnbaaGreat
open Go.ChangeShapes Go.WideShapes Go.ChangeAt Go.RowKit
open Go.Maps (Keyed)
open Go.WideMaps
set_option linter.unusedVariables false
set_option linter.unusedSimpArgs false

variable {w w' : World} {p n : Nat} {F R S : List Nat} {g : Gr} {N : Nt}
theorem sln_blk {W : World} {b : Nat} {l : List Nat} {T : TypeId} (h : W.heap[b]? = some (.cells (nats .u32 l).toArray T (0, 0))) : SlN W .u32 (some ⟨b, 0, none⟩) l := fun k hk => by
  have hadd : (⟨b, 0, none⟩ : Addr).add k = ⟨b, k, none⟩ := by unfold Addr.add; split <;> simp_all
  refine ⟨_, rfl, ?_⟩
  rw [hadd, blk_cell h]
  simp [nats, hk]
set_option maxHeartbeats 3200000 in
set_option maxRecDepth 100000 in
theorem does_3 (s : NStp) (la : Option Addr) (lc : Nat) (h : NetAt w n F R N) (hok : N.g.nodes.length ≤ 50000 ∧ N.inb.length ≤ 10000 ∧ N.regs.length ≤ 10000 ∧ N.outb.length ≤ 10000) (hs : s.ok) (hsl : SlN w .u32 la s.lits) (h0 : s.what = 3) :
    Calls Tryz.prog 34 #[.pointer (some ⟨n, 0, none⟩), stepV s la lc] w (AddInPost ((addOut N s.name (s.lits.take 70)).1, [], (addOut N s.name (s.lits.take 70)).2) w n F R) := by
  have HK0 := (Kept.refl [] w).alloc (.cells (stepCells6 s la lc) 89)
  have HK := Lib.hid HK0
  have HN := Lib.hid (h.kept0 HK0)
  have HSL := Lib.hid (hsl.kept0 HK0)
  have HLT := Lib.hid (show ∀ x ∈ s.lits.take 70, x < 4294967296 from fun x hx => hs.l x (List.mem_of_mem_take hx))
  have HLL := Lib.hid (show (s.lits.take 70).length = min s.lits.length 70 from by simp [Nat.min_comm])
  have hqF : w.heap.size ∉ F := fun hx => Nat.lt_irrefl _ (h.lt.1 _ hx)
  have hnm := hs.nm
  have hll := hs.ll
  obtain ⟨ln, hln⟩ : ∃ k, k = s.lits.length := ⟨_, rfl⟩
  have HLN := Lib.hid hln.symm
  rw [← hln] at HLL hll
  have HB := Lib.hid (fun i => box_cell s la lc w i)
  generalize hres : addOut N s.name (s.lits.take 70) = res
  have HRES := Lib.hid hres
  clear hres
  obtain ⟨N', y⟩ := res
  obtain ⟨what, nm, sn, a, b, c, lits⟩ := s
  simp only [stepV, stepCells6] at *
  rw [← hln] at HK HN HSL HB ⊢
  subst h0
  clear hs h hsl hln HK0
  go_enter Tryz.func34, Tryz.ntmps34; (try simp only [List.append])
  go_wp2_with fail
  obtain ⟨q, hq⟩ : ∃ q, q = w.heap.size := ⟨_, rfl⟩
  obtain ⟨w0, hw0⟩ : ∃ w0, w0 = w.alloc (.cells #[.int .i64 3, .string nm, .int .i64 sn, .int .u32 (a : Int), .int .u32 (b : Int), .int .u32 (c : Int), .slice la ln lc] 89) := ⟨_, rfl⟩
  rw [← hq, ← hw0] at HB
  rw [← hw0] at HK HN HSL
  rw [← hq] at hqF
  rw [← hq, ← hw0]
  have d1 : w0.cell? ⟨q, 1, none⟩ = some (.string nm) := HB.out 1
  have d6 : w0.cell? ⟨q, 6, none⟩ = some (.slice la ln lc) := HB.out 6
  clear hq hw0 HB
  go_region_held3 (fun w' => w'.cell? ⟨q, 1, none⟩ = some (.string nm) ∧ w'.cell? ⟨q, 6, none⟩ = some (.slice la ln lc))
    (first | exact ⟨Kept.cell (F := F) (w := w0) (by (repeat (first | with_reducible exact Kept.refl _ _ | with_reducible apply Kept.drew | with_reducible apply Kept.drewN | with_reducible apply Kept.alloc | refine Kept.trans ?_ k6 | refine Kept.trans ?_ (k5.more (by simp))))) d1 hqF, Kept.cell (F := F) (w := w0) (by (repeat (first | with_reducible exact Kept.refl _ _ | with_reducible apply Kept.drew | with_reducible apply Kept.drewN | with_reducible apply Kept.alloc | refine Kept.trans ?_ k6 | refine Kept.trans ?_ (k5.more (by simp))))) d6 hqF⟩ | exact ⟨Kept.cell (F := []) (w := w0) (by (repeat (first | with_reducible exact Kept.refl _ _ | with_reducible apply Kept.drew | with_reducible apply Kept.drewN | with_reducible apply Kept.alloc | refine Kept.trans ?_ k5))) d1 (by simp), Kept.cell (F := []) (w := w0) (by (repeat (first | with_reducible exact Kept.refl _ _ | with_reducible apply Kept.drew | with_reducible apply Kept.drewN | with_reducible apply Kept.alloc | refine Kept.trans ?_ k5))) d6 (by simp)⟩ | go_keep)
    (first
      | (go_at_call 95; (with_reducible refine (of_c la lc ln lits _ HLN.out hll (HSL.out.kept0 ?kk)).mono ?_); (case kk => ((repeat (first | with_reducible exact Kept.refl _ _ | with_reducible apply Kept.drew | with_reducible apply Kept.drewN | with_reducible apply Kept.alloc)))); rintro e w5 ⟨a5, c5, rfl, ho5, hst5⟩; have k5 := hst5.kept)
      | (go_at_call 94; (with_reducible refine (addout_c (HN.out.kept0 ?kk1) (by omega) nm hnm a5 c5 (min ln 70) (lits.take 70) HLL.out (by omega) (Own.sln (ho5.kept0 ?kk2)) HLT.out).mono ?_); (case kk1 => ((repeat (first | with_reducible exact Kept.refl _ _ | with_reducible apply Kept.drew | with_reducible apply Kept.drewN | with_reducible apply Kept.alloc | refine Kept.trans ?_ k5)))); (case kk2 => ((repeat (first | with_reducible exact Kept.refl _ _ | with_reducible apply Kept.drew | with_reducible apply Kept.drewN | with_reducible apply Kept.alloc)))); rintro e w6 ⟨F6, R6, rfl, hn6, hs6⟩; have k6 := hs6.st.kept))
  all_goals
    rw [HRES.out] at hn6
    have HN6 := Lib.hid hn6
    have HS6 := Lib.hid (((NStep.refl w F R).keep (HK.out.trans (by (repeat (first | with_reducible exact Kept.refl _ _ | with_reducible apply Kept.drew | with_reducible apply Kept.drewN | with_reducible apply Kept.alloc | refine Kept.trans ?_ k5))))).trans hs6)
    have HY := Lib.hid (show (addOut N nm (lits.take 70)).2 = y from by rw [HRES.out])
    clear hn6 hs6 k6 k5 hst5 ho5 d1 d6
    rw [HY.out]
    go_wp2_with fail
    go_ret2
    exact ⟨F6, R6, none, 0, 0, rfl, HN6.out, HS6.out, Own.nil _ _, by simp [ft]⟩
set_option maxHeartbeats 3200000 in
set_option maxRecDepth 100000 in
theorem does_4 (s : NStp) (la : Option Addr) (lc : Nat) (h : NetAt w n F R N) (hok : N.g.nodes.length ≤ 50000 ∧ N.inb.length ≤ 10000 ∧ N.regs.length ≤ 10000 ∧ N.outb.length ≤ 10000) (hs : s.ok) (h0 : s.what = 4) :
    Calls Tryz.prog 34 #[.pointer (some ⟨n, 0, none⟩), stepV s la lc] w (AddInPost (gateN N andG s.b s.c) w n F R) := by
  have HK0 := (Kept.refl [] w).alloc (.cells (stepCells6 s la lc) 89)
  have HK := Lib.hid HK0
  obtain ⟨p, G, ia, ic, ra, rc, oa, oc, ri, ro, rfl, rfl, hc⟩ := h
  have HC := Lib.hid (hc.kept HK0 (by simp) (by simp))
  have hqG : w.heap.size ∉ G := fun hx => Nat.lt_irrefl _ (hc.gr.lt _ hx)
  have hnG := hc.apart.1
  have LR := Lib.hid (show Lits [s.b, s.c] from by intro x hx; simp at hx; rcases hx with rfl | rfl; exact hs.b; exact hs.c)
  have HB := Lib.hid (fun i => box_cell s la lc w i)
  have HGN := Lib.hid (show gateN N andG s.b s.c = if gone N.g [s.b, s.c] then (N, [0], 1) else ({ N with g := (andG N.g s.b s.c).1 }, [(andG N.g s.b s.c).2], 0) from rfl)
  have HOKS := Lib.hid (fun (hg : gone N.g [s.b, s.c] = false) => gone_false.1 hg)
  have glen := hok.1
  obtain ⟨what, nm, sn, a, b, c, lits⟩ := s
  obtain ⟨ln, hln⟩ : ∃ k, k = lits.length := ⟨_, rfl⟩
  simp only [stepV, stepCells6] at *
  rw [← hln] at HK HC HB ⊢
  subst h0
  clear hs hc hok hln HK0
  rw [HGN.out]
  clear HGN
  cases hgn : gone N.g [b, c] with
  | true =>
    simp only [if_true]
    have HA := Lib.hid (fun (W : World) (hk : Kept [] (w.alloc (.cells #[.int .i64 4, .string nm, .int .i64 sn, .int .u32 (a : Int), .int .u32 (b : Int), .int .u32 (c : Int), .slice la ln lc] 89)) W) (b0 : Nat) (hm : Mine W G b0 (.cells #[.int .u32 (b : Int), .int .u32 (c : Int)] 61 (0, 0))) => and_gone (HC.out.gr.kept0 hk) (show N.g.nodes.length ≤ 200000 by omega) (some ⟨b0, 0, none⟩) 2 2 [b, c] rfl (by omega) (sln_blk (T := 61) hm.heap) LR.out hgn)
    clear hgn HOKS
    go_enter Tryz.func34, Tryz.ntmps34; (try simp only [List.append])
    go_wp2_with fail
    obtain ⟨q, hq⟩ : ∃ q, q = w.heap.size := ⟨_, rfl⟩
    obtain ⟨w0, hw0⟩ : ∃ w0, w0 = w.alloc (.cells #[.int .i64 4, .string nm, .int .i64 sn, .int .u32 (a : Int), .int .u32 (b : Int), .int .u32 (c : Int), .slice la ln lc] 89) := ⟨_, rfl⟩
    rw [← hq, ← hw0] at HB
    rw [← hw0] at HK HC HA
    rw [← hq] at hqG
    rw [← hq, ← hw0]
    have GL := Lib.hid (fun x hx => HC.out.gr.lt x hx)
    have d0 : w0.cell? ⟨n, 0, none⟩ = some (.pointer (some ⟨p, 0, none⟩)) := HC.out.c0
    have d4 : w0.cell? ⟨q, 4, none⟩ = some (.int .u32 (b : Int)) := HB.out 4
    have d5 : w0.cell? ⟨q, 5, none⟩ = some (.int .u32 (c : Int)) := HB.out 5
    clear hq hw0 HB
    go_region_held3 (fun w' => w'.cell? ⟨n, 0, none⟩ = some (.pointer (some ⟨p, 0, none⟩)) ∧ w'.cell? ⟨q, 4, none⟩ = some (.int .u32 (b : Int)) ∧ w'.cell? ⟨q, 5, none⟩ = some (.int .u32 (c : Int)))
      (first | exact ⟨Kept.cell (F := []) (w := w0) (by (repeat (first | with_reducible exact Kept.refl _ _ | with_reducible apply Kept.drew | with_reducible apply Kept.drewN | with_reducible apply Kept.alloc | refine Kept.trans ?_ k5))) d0 (by simp), Kept.cell (F := []) (w := w0) (by (repeat (first | with_reducible exact Kept.refl _ _ | with_reducible apply Kept.drew | with_reducible apply Kept.drewN | with_reducible apply Kept.alloc | refine Kept.trans ?_ k5))) d4 (by simp), Kept.cell (F := []) (w := w0) (by (repeat (first | with_reducible exact Kept.refl _ _ | with_reducible apply Kept.drew | with_reducible apply Kept.drewN | with_reducible apply Kept.alloc | refine Kept.trans ?_ k5))) d5 (by simp)⟩ | exact ⟨Kept.cell (F := []) (w := w0) (by (repeat (first | with_reducible exact Kept.refl _ _ | with_reducible apply Kept.drew | with_reducible apply Kept.drewN | with_reducible apply Kept.alloc))) d0 (by simp), Kept.cell (F := []) (w := w0) (by (repeat (first | with_reducible exact Kept.refl _ _ | with_reducible apply Kept.drew | with_reducible apply Kept.drewN | with_reducible apply Kept.alloc))) d4 (by simp), Kept.cell (F := []) (w := w0) (by (repeat (first | with_reducible exact Kept.refl _ _ | with_reducible apply Kept.drew | with_reducible apply Kept.drewN | with_reducible apply Kept.alloc))) d5 (by simp)⟩ | go_keep)
      (first
        | (go_at_call 96; (with_reducible refine (HA.out _ ?kk1 _ ?kk2).mono ?_); (case kk1 => ((repeat (first | with_reducible exact Kept.refl _ _ | with_reducible apply Kept.drew | with_reducible apply Kept.drewN | with_reducible apply Kept.alloc)))); (case kk2 => (repeat (first | (with_reducible refine Mine.new ?_ (fun x hx => Nat.lt_of_lt_of_le (GL.out x hx) (Kept.size (F := []) (by (repeat (first | with_reducible exact Kept.refl _ _ | with_reducible apply Kept.drew | with_reducible apply Kept.drewN | with_reducible apply Kept.alloc))))); focus (first | rfl | (simp; done))) | with_reducible apply Mine.drew | with_reducible apply Mine.alloc))); rintro e w5 ⟨rfl, k5⟩)
        | (go_at_call 90; (with_reducible refine (one_c _ _ _).mono ?_); rintro e w6 ⟨rfl, rfl⟩))
    all_goals
      have HS5 := Lib.hid ((NStep.refl w (n :: (G ++ (ft ia ++ (ft ra ++ ft oa)))) (rowsOf ri ++ rowsOf ro)).keep (HK.out.trans (show Kept [] w0 w5 from by (repeat (first | with_reducible exact Kept.refl _ _ | with_reducible apply Kept.drew | with_reducible apply Kept.drewN | with_reducible apply Kept.alloc | refine Kept.trans ?_ k5)))))
      have HN5 := Lib.hid (HC.out.kept (show Kept [] w0 w5 from by (repeat (first | with_reducible exact Kept.refl _ _ | with_reducible apply Kept.drew | with_reducible apply Kept.drewN | with_reducible apply Kept.alloc | refine Kept.trans ?_ k5))) (by simp) (by simp))
      clear k5 d0 d4 d5
      go_wp2_with fail
      go_ret2
      exact one_row ⟨p, G, ia, ic, ra, rc, oa, oc, ri, ro, rfl, rfl, HN5.out⟩ HS5.out
  | false =>
    simp only [Bool.false_eq_true, if_false]
    have hok2 := HOKS.out hgn
    have HA := Lib.hid (fun (W : World) (hk : Kept [] (w.alloc (.cells #[.int .i64 4, .string nm, .int .i64 sn, .int .u32 (a : Int), .int .u32 (b : Int), .int .u32 (c : Int), .slice la ln lc] 89)) W) (b0 : Nat) (hm : Mine W G b0 (.cells #[.int .u32 (b : Int), .int .u32 (c : Int)] 61 (0, 0))) => show Calls Tryz.prog 96 #[.pointer (some ⟨p, 0, none⟩), .slice (some ⟨b0, 0, none⟩) 2 2] W (Twos (andG N.g b c) W p G) from aig_And_ (HC.out.gr.kept0 hk) (some ⟨b0, 0, none⟩) 2 2 [b, c] rfl (by omega) (sln_blk (T := 61) hm.heap) hok2 (by intro x hx; rw [mem_ft] at hx; subst hx; exact hm.out))
    clear hgn HOKS hok2
    generalize andG N.g b c = res at *
    obtain ⟨g', y⟩ := res
    go_enter Tryz.func34, Tryz.ntmps34; (try simp only [List.append])
    go_wp2_with fail
    obtain ⟨q, hq⟩ : ∃ q, q = w.heap.size := ⟨_, rfl⟩
    obtain ⟨w0, hw0⟩ : ∃ w0, w0 = w.alloc (.cells #[.int .i64 4, .string nm, .int .i64 sn, .int .u32 (a : Int), .int .u32 (b : Int), .int .u32 (c : Int), .slice la ln lc] 89) := ⟨_, rfl⟩
    rw [← hq, ← hw0] at HB
    rw [← hw0] at HK HC HA
    rw [← hq] at hqG
    rw [← hq, ← hw0]
    have GL := Lib.hid (fun x hx => HC.out.gr.lt x hx)
    have d0 : w0.cell? ⟨n, 0, none⟩ = some (.pointer (some ⟨p, 0, none⟩)) := HC.out.c0
    have d4 : w0.cell? ⟨q, 4, none⟩ = some (.int .u32 (b : Int)) := HB.out 4
    have d5 : w0.cell? ⟨q, 5, none⟩ = some (.int .u32 (c : Int)) := HB.out 5
    clear hq hw0 HB
    go_region_held3 (fun w' => w'.cell? ⟨n, 0, none⟩ = some (.pointer (some ⟨p, 0, none⟩)) ∧ w'.cell? ⟨q, 4, none⟩ = some (.int .u32 (b : Int)) ∧ w'.cell? ⟨q, 5, none⟩ = some (.int .u32 (c : Int)))
      (first | exact ⟨Kept.cell (F := G) (w := w0) (by (repeat (first | with_reducible exact Kept.refl _ _ | with_reducible apply Kept.drew | with_reducible apply Kept.drewN | with_reducible apply Kept.alloc | refine Kept.trans ?_ k5))) d0 hnG, Kept.cell (F := G) (w := w0) (by (repeat (first | with_reducible exact Kept.refl _ _ | with_reducible apply Kept.drew | with_reducible apply Kept.drewN | with_reducible apply Kept.alloc | refine Kept.trans ?_ k5))) d4 hqG, Kept.cell (F := G) (w := w0) (by (repeat (first | with_reducible exact Kept.refl _ _ | with_reducible apply Kept.drew | with_reducible apply Kept.drewN | with_reducible apply Kept.alloc | refine Kept.trans ?_ k5))) d5 hqG⟩ | exact ⟨Kept.cell (F := []) (w := w0) (by (repeat (first | with_reducible exact Kept.refl _ _ | with_reducible apply Kept.drew | with_reducible apply Kept.drewN | with_reducible apply Kept.alloc))) d0 (by simp), Kept.cell (F := []) (w := w0) (by (repeat (first | with_reducible exact Kept.refl _ _ | with_reducible apply Kept.drew | with_reducible apply Kept.drewN | with_reducible apply Kept.alloc))) d4 (by simp), Kept.cell (F := []) (w := w0) (by (repeat (first | with_reducible exact Kept.refl _ _ | with_reducible apply Kept.drew | with_reducible apply Kept.drewN | with_reducible apply Kept.alloc))) d5 (by simp)⟩ | go_keep)
      (first
        | (go_at_call 96; (with_reducible refine (HA.out _ ?kk1 _ ?kk2).mono ?_); (case kk1 => ((repeat (first | with_reducible exact Kept.refl _ _ | with_reducible apply Kept.drew | with_reducible apply Kept.drewN | with_reducible apply Kept.alloc)))); (case kk2 => (repeat (first | (with_reducible refine Mine.new ?_ (fun x hx => Nat.lt_of_lt_of_le (GL.out x hx) (Kept.size (F := []) (by (repeat (first | with_reducible exact Kept.refl _ _ | with_reducible apply Kept.drew | with_reducible apply Kept.drewN | with_reducible apply Kept.alloc))))); focus (first | rfl | (simp; done))) | with_reducible apply Mine.drew | with_reducible apply Mine.alloc))); rintro e w5 ⟨G5, rfl, hg5, hst5⟩; have k5 := hst5.kept)
        | (go_at_call 90; (with_reducible refine (one_c _ _ _).mono ?_); rintro e w6 ⟨rfl, rfl⟩))
    all_goals
      have st5 : Stepped w0 w5 G G5 := (⟨show Kept G w0 _ from by (repeat (first | with_reducible exact Kept.refl _ _ | with_reducible apply Kept.drew | with_reducible apply Kept.drewN | with_reducible apply Kept.alloc)), fun b hb => .inl hb⟩ : Stepped w0 _ G G).trans hst5
      have HS5 := Lib.hid (((NStep.refl w _ _).keep HK.out).trans (NetC.graph_step (n := n) (ia := ia) (ra := ra) (oa := oa) (ri := ri) (ro := ro) st5))
      have HN5 := Lib.hid (HC.out.graph hg5 st5)
      clear k5 d0 d4 d5 st5 hst5 hg5
      go_wp2_with fail
      go_ret2
      exact one_row ⟨p, G5, ia, ic, ra, rc, oa, oc, ri, ro, rfl, rfl, HN5.out⟩ HS5.out
end Go.Proofs.YtdmcdhkkbkgnbaaGreat
