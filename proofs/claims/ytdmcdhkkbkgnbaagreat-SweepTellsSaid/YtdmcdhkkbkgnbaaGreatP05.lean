/-
  Contracts of package aig: the calls (And, Or, Xor, Mux, Raw) of any literals that are there.
  Contracts of package aig: And, Or, Xor, Mux of literals that are there.
-/
import Derived.Test.YtdmcdhkkbkgnbaaGreatP04
namespace Go.Proofs.YtdmcdhkkbkgnbaaGreat
open Go.ChangeShapes Go.WideShapes Go.ChangeAt Go.RowKit
open Go.Maps (Keyed)
open Go.WideMaps
set_option linter.unusedVariables false

variable {w w' : World} {p : Nat} {F S : List Nat} {g : Gr}

theorem Gr.ok_lt {g : Gr} {a : Nat} (h : g.ok a) (hm : g.nodes.length ≤ 200000) : a < 4294967296 := by unfold Gr.ok at h; omega

/-- What a call of two literals does: it answers the literal; the graph goes on as 'two' says. -/
def Twos (r : Gr × Nat) (w : World) (p : Nat) (F : List Nat) (e : Ending) (w' : World) : Prop :=
  ∃ F', e = .returned (.tuple #[.int .u32 (r.2 : Nat), .int .i64 0]) ∧ GraphAt w' p F' r.1 ∧ Stepped w w' F F'

set_option maxHeartbeats 800000 in
theorem aig_and {a b : Nat} (hg : GraphAt w p F g) (hm : g.nodes.length ≤ 200000) (ha : g.ok a) (hb : g.ok b) :
    Calls Tryz.prog 129 #[.pointer (some ⟨p, 0, none⟩), .int .u32 a, .int .u32 b] w (Twos (andG g a b) w p F) := by
  have HA := Lib.hid (Gr.ok_lt ha hm)
  have HB := Lib.hid (Gr.ok_lt hb hm)
  have HGT := Lib.hid (aig_gate hg hm ha hb)
  have HGA := Lib.hid hg
  have hlits : max a b < 4294967296 ∧ min a b < 4294967296 := by have := HA.out; have := HB.out; omega
  have HK := Lib.hid (pair_key hlits.1 hlits.2)
  clear hlits ha hb
  have hAnd := Lib.hid (show andG g a b = (if foldB a b && g.fold then (g, foldV a b) else if (look g.nodes (max a b) (min a b)).isSome && g.hash then (g, (look g.nodes (max a b) (min a b)).getD 0) else gateG g a b) from rfl)
  have HP := Lib.hid (fun w => lit_pair a b w)
  have HF := Lib.hid (fun w => lit_fold a b w HA.out HB.out)
  obtain ⟨an, cn, ai, ci, m, f, rfl, hc⟩ := hg
  have c0 := hc.c0
  have c1 := hc.c1
  have c4 := hc.c4
  have HC := Lib.hid hc; clear hc
  have HM := Lib.hid (HC.out.is (max a b) (min a b))
  generalize max a b = x at *
  generalize min a b = y at *
  generalize foldB a b = fb at *
  generalize foldV a b = fv at *
  generalize gateG g a b = r at *
  generalize hgf : g.fold = gf at *
  have Hgf := Lib.hid hgf; clear hgf
  generalize hgh : g.hash = gh at *
  have Hgh := Lib.hid hgh; clear hgh
  by_cases h1 : (fb && gf) = true
  · obtain ⟨rfl, rfl⟩ := by simpa using h1
    have HR := Lib.hid (show andG g a b = (g, fv) by rw [hAnd.out]; rfl)
    clear h1
    go_enter Tryz.func129, Tryz.ntmps129
    go_wp2_with (go_at_call 145; refine (HF.out _).mono ?_; rintro e w' ⟨rfl, rfl⟩)
    go_ret2
    exact ⟨_, by rw [HR.out]; rfl, by rw [HR.out]; exact HGA.out, .refl _ _⟩
  · cases hl : look g.nodes x y with
    | some c =>
      have HL := Lib.hid hl; clear hl
      cases gh with
      | true =>
        have HR := Lib.hid (show andG g a b = (g, c) by rw [hAnd.out, if_neg h1, HL.out]; rfl)
        cases fb <;> cases gf <;> simp at h1
        all_goals
          go_enter Tryz.func129, Tryz.ntmps129
          go_wp2_with (first
            | (go_at_call 145; refine (HF.out _).mono ?_; rintro e w' ⟨rfl, rfl⟩)
            | (go_at_call 146; refine (HP.out _).mono ?_; rintro e w' ⟨rfl, rfl⟩)
            | (at_lookup; refine wpList_look rfl rfl pair_law Tryz.underlying137 (lit_zero _) rfl rfl HC.out.made HK.out ?_; (show wpList _ _ _ _ (Act.put _ _ (.tuple #[(f (pairV x y)).getD _, .bool (f (pairV x y)).isSome])) _); rw [HM.out, HL.out]))
          go_ret2
          exact ⟨_, by rw [HR.out]; rfl, by rw [HR.out]; exact HGA.out, .refl _ _⟩
      | false =>
        have HR := Lib.hid (show andG g a b = r by rw [hAnd.out, if_neg h1, HL.out]; rfl)
        cases fb <;> cases gf <;> simp at h1
        all_goals
          go_enter Tryz.func129, Tryz.ntmps129
          go_wp2_with (first
            | (go_at_call 145; refine (HF.out _).mono ?_; rintro e w' ⟨rfl, rfl⟩)
            | (go_at_call 146; refine (HP.out _).mono ?_; rintro e w' ⟨rfl, rfl⟩)
            | (go_at_call 147; refine HGT.out.mono ?_; rintro e w1 ⟨F1, rfl, hg1, hst1⟩)
            | (at_lookup; refine wpList_look rfl rfl pair_law Tryz.underlying137 (lit_zero _) rfl rfl HC.out.made HK.out ?_; (show wpList _ _ _ _ (Act.put _ _ (.tuple #[(f (pairV x y)).getD _, .bool (f (pairV x y)).isSome])) _); rw [HM.out, HL.out]))
          go_ret2
          exact ⟨F1, by rw [HR.out]; rfl, by rw [HR.out]; exact hg1, hst1⟩
    | none =>
      have HL := Lib.hid hl; clear hl
      have HR := Lib.hid (show andG g a b = r by rw [hAnd.out, if_neg h1, HL.out]; rfl)
      cases fb <;> cases gf <;> simp at h1
      all_goals
        go_enter Tryz.func129, Tryz.ntmps129
        go_wp2_with (first
          | (go_at_call 145; refine (HF.out _).mono ?_; rintro e w' ⟨rfl, rfl⟩)
          | (go_at_call 146; refine (HP.out _).mono ?_; rintro e w' ⟨rfl, rfl⟩)
          | (go_at_call 147; refine HGT.out.mono ?_; rintro e w1 ⟨F1, rfl, hg1, hst1⟩)
          | (at_lookup; refine wpList_look rfl rfl pair_law Tryz.underlying137 (lit_zero _) rfl rfl HC.out.made HK.out ?_; (show wpList _ _ _ _ (Act.put _ _ (.tuple #[(f (pairV x y)).getD _, .bool (f (pairV x y)).isSome])) _); rw [HM.out, HL.out]))
        go_ret2
        exact ⟨F1, by rw [HR.out]; rfl, by rw [HR.out]; exact hg1, hst1⟩

theorem aig_not (l : Nat) (w : World) (h : l < 4294967296) : Calls Tryz.prog 162 #[.int .u32 l, .int .i64 0] w fun e w' => e = .returned (.tuple #[.int .u32 (ntL l : Nat), .int .i64 0]) ∧ w = w' := by
  go_enter Tryz.func162, Tryz.ntmps162
  go_wp2_with (go_at_call 29; refine (lit_not _ _ h).mono ?_; rintro e w' ⟨rfl, rfl⟩)
  go_ret2
  exact ⟨rfl, rfl⟩
theorem aig_or {a b : Nat} (hg : GraphAt w p F g) (hm : g.nodes.length ≤ 200000) (ha : g.ok a) (hb : g.ok b) :
    Calls Tryz.prog 158 #[.pointer (some ⟨p, 0, none⟩), .int .u32 a, .int .u32 b] w (Twos (orG g a b) w p F) := by
  have HA := Lib.hid (Gr.ok_lt ha hm)
  have HB := Lib.hid (Gr.ok_lt hb hm)
  have hs := andG_spec hg.wf (ok_nt ha) (ok_nt hb)
  have HL := Lib.hid (show (andG g (ntL a) (ntL b)).2 < 4294967296 by have := hs.2.1.le; have := hs.2.2; unfold Gr.ok at this; omega)
  have HAN := Lib.hid (aig_and hg hm (ok_nt ha) (ok_nt hb))
  clear hs ha hb
  go_enter Tryz.func158, Tryz.ntmps158
  go_wp2_with (first
    | (go_at_call_of 29 (Value.int IntKind.u32 (a : Int)); refine (lit_not a _ HA.out).mono ?_; rintro e w' ⟨rfl, rfl⟩)
    | (go_at_call 29; refine (lit_not b _ HB.out).mono ?_; rintro e w' ⟨rfl, rfl⟩)
    | (go_at_call 129; refine HAN.out.mono ?_; rintro e w1 ⟨F1, rfl, hg1, hst1⟩)
    | (go_at_call 162; refine (aig_not _ _ HL.out).mono ?_; rintro e w' ⟨rfl, rfl⟩))
  go_ret2
  exact ⟨F1, rfl, hg1, hst1⟩
set_option maxHeartbeats 400000 in
theorem aig_both {a b c d : Nat} (hg : GraphAt w p F g) (hm : g.nodes.length ≤ 199000) (ha : g.ok a) (hb : g.ok b) (hc : g.ok c) (hd : g.ok d) :
    Calls Tryz.prog 148 #[.pointer (some ⟨p, 0, none⟩), .int .u32 a, .int .u32 b, .int .u32 c, .int .u32 d] w (Twos (bothG g a b c d) w p F) := by
  obtain ⟨h1, h2, h3⟩ := andG_spec hg.wf ha hb
  obtain ⟨h4, h5, h6⟩ := andG_spec h1 (h2.ok hc) (h2.ok hd)
  have l1 := h2.le
  have l2 := h5.le
  have HA1 := Lib.hid (aig_and hg (by omega) ha hb)
  have HA2 := Lib.hid (fun (w : World) (F : List Nat) (h : GraphAt w p F (andG g a b).1) => aig_and h (by omega) (h2.ok hc) (h2.ok hd))
  have HO := Lib.hid (fun (w : World) (F : List Nat) (h : GraphAt w p F (andG (andG g a b).1 c d).1) => aig_or h (by omega) (h5.ok h3) h6)
  have HB := Lib.hid (show bothG g a b c d = orG (andG (andG g a b).1 c d).1 (andG g a b).2 (andG (andG g a b).1 c d).2 from rfl)
  clear h1 h2 h3 h4 h5 h6 l1 l2 ha hb hc hd
  have tok1 : True := trivial
  go_enter Tryz.func148, Tryz.ntmps148
  go_wp2_with (first
    | (go_at_call 129; have tk := tok1; refine HA1.out.mono ?_; rintro e w1 ⟨F1, rfl, hg1, hst1⟩; clear tok1 tk)
    | (go_at_call 129; refine (HA2.out _ _ hg1).mono ?_; rintro e w2 ⟨F2, rfl, hg2, hst2⟩)
    | (go_at_call 158; refine (HO.out _ _ hg2).mono ?_; rintro e w3 ⟨F3, rfl, hg3, hst3⟩))
  go_ret2
  exact ⟨F3, by rw [HB.out]; rfl, by rw [HB.out]; exact hg3, (hst1.trans hst2).trans hst3⟩
theorem aig_xor {a b : Nat} (hg : GraphAt w p F g) (hm : g.nodes.length ≤ 199000) (ha : g.ok a) (hb : g.ok b) :
    Calls Tryz.prog 130 #[.pointer (some ⟨p, 0, none⟩), .int .u32 a, .int .u32 b] w (Twos (xorG g a b) w p F) := by
  have HA := Lib.hid (Gr.ok_lt ha (by omega))
  have HB := Lib.hid (Gr.ok_lt hb (by omega))
  have HO := Lib.hid (aig_both hg hm ha (ok_nt hb) (ok_nt ha) hb)
  clear ha hb
  go_enter Tryz.func130, Tryz.ntmps130
  go_wp2_with (first
    | (go_at_call_of 29 (Value.int IntKind.u32 (a : Int)); refine (lit_not a _ HA.out).mono ?_; rintro e w' ⟨rfl, rfl⟩)
    | (go_at_call 29; refine (lit_not b _ HB.out).mono ?_; rintro e w' ⟨rfl, rfl⟩)
    | (go_at_call 148; refine HO.out.mono ?_; rintro e w1 ⟨F1, rfl, hg1, hst1⟩))
  go_ret2
  exact ⟨F1, rfl, hg1, hst1⟩
end Go.Proofs.YtdmcdhkkbkgnbaaGreat

namespace Go.Proofs.YtdmcdhkkbkgnbaaGreat
open Go.ChangeShapes Go.WideShapes Go.ChangeAt Go.RowKit
open Go.Maps (Keyed)
open Go.WideMaps
set_option linter.unusedVariables false

variable {w w' : World} {p : Nat} {F S : List Nat} {g : Gr}

theorem aig_asks1 (x q : Nat) (n cn : Nat) (an : Option Addr) (w : World) (hx : x < 4294967296) (hm : n ≤ 1000000) (hq : w.cell? ⟨q, 0, none⟩ = some (.pointer (some ⟨p, 0, none⟩))) (c2 : w.cell? ⟨p, 2, none⟩ = some (.slice an n cn)) :
    Calls Tryz.prog 157 #[.int .u32 x, .pointer (some ⟨q, 0, none⟩)] w fun e w' => e = .returned (.bool (decide (n ≤ x / 2))) ∧ ∃ k, w' = w.drewN k := by
  have HF := Lib.hid (show decide ((n : Int) ≤ (x : Int) / 2) = decide (n ≤ x / 2) by rw [Bool.eq_iff_iff]; simp; omega)
  go_enter Tryz.func157, Tryz.ntmps157
  go_wp2_with fail
  go_quiet ((go_at_call 27; exact q_same (lit_node _ _ hx)))
  go_wp2
  go_ret
  exact ⟨by rw [← HF.out]; rfl, _, rfl⟩

def bad (n : Nat) (l : List Nat) : Bool := l.any fun x => decide (n ≤ x / 2)
def IdxPost (n : Nat) (l : List Nat) (w : World) (e : Ending) (w' : World) : Prop := ∃ r : Int, e = .returned (.int .i64 r) ∧ decide (0 ≤ r) = bad n l ∧ ∃ k, w' = w.drewN k
set_option maxHeartbeats 400000 in
theorem aig_index (a : Option Addr) (c len : Nat) (l : List Nat) (q : Nat) (n cn : Nat) (an : Option Addr) (w : World) (hl : l.length = len) (hlm : len ≤ 1000000) (hs : SlN w .u32 a l) (hr : Lits l) (hm : n ≤ 1000000) (hq : w.cell? ⟨q, 0, none⟩ = some (.pointer (some ⟨p, 0, none⟩))) (c2 : w.cell? ⟨p, 2, none⟩ = some (.slice an n cn)) :
    Calls Tryz.prog 141 #[.slice a len c, .func (.func 157) #[] #[.pointer (some ⟨q, 0, none⟩)]] w (IdxPost n l w) := by
  have HL := Lib.hid hl; clear hl
  have HR := Lib.hid hr; clear hr
  have HC := Lib.hid (fun (x : Nat) (k : Nat) (hx : x < 4294967296) => aig_asks1 x q n cn an (w.drewN k) hx hm hq c2)
  clear hq c2
  go_enter Tryz.func141, Tryz.ntmps141
  go_wp2
  go_loopw [8] (fun i wr => ∃ k m : Nat, k ≤ len ∧ i = .int .i64 k ∧ wr = w.drewN m ∧ ∀ x ∈ l.take k, x / 2 < n) (fun i _ => len - (intOf i).toNat)
  case atStart => exact ⟨0, 0, Nat.zero_le _, rfl, rfl, by simp⟩
  case round =>
    obtain ⟨k, m, hk, rfl, rfl, hall⟩ := hrel
    have HA := Lib.hid hall; clear hall
    by_cases hlt : k < len
    · have hkl : k < l.length := by have := HL.out; omega
      obtain ⟨ad, rfl, hc⟩ := hs k hkl
      have hx := HR.out _ (List.getElem_mem hkl)
      have HM := Lib.hid (List.getElem_mem hkl)
      have HT := Lib.hid (take_snoc l k hkl)
      generalize l[k] = x at *
      by_cases hb : n ≤ x / 2
      · have HB := Lib.hid (show bad n l = true by unfold bad; rw [List.any_eq_true]; exact ⟨x, HM.out, by simpa using hb⟩)
        have hd : decide (n ≤ x / 2) = true := by simpa using hb
        go_wp2_with (go_at_call 157; refine (HC.out x m hx).mono ?_; rintro e w1 ⟨rfl, k1, rfl⟩)
        go_ret
        exact ⟨(k : Int), rfl, by rw [HB.out]; simp, _, rfl⟩
      · have hd : decide (n ≤ x / 2) = false := by simpa using hb
        go_wp2_with (go_at_call 157; refine (HC.out x m hx).mono ?_; rintro e w1 ⟨rfl, k1, rfl⟩)
        go_roundw
        case rel =>
          refine ⟨k + 1, m + k1, by omega, by go_num, by first | rfl | rw [World.drewN_drewN], ?_⟩
          rw [HT.out]
          intro y hy
          rcases List.mem_append.1 hy with h | h
          · exact HA.out y h
          · simp at h; omega
        case measure => simp [intOf]; omega
    · obtain rfl : k = len := by omega
      have HB := Lib.hid (show bad n l = false by
        have h := HA.out
        rw [List.take_of_length_le (by have := HL.out; omega)] at h
        unfold bad; rw [List.any_eq_false]; intro x hx; have := h x hx; simp; omega)
      go_wp2
      go_ret
      exact ⟨-1, rfl, by rw [HB.out]; rfl, _, rfl⟩

theorem aig_contains (a : Option Addr) (c len : Nat) (l : List Nat) (q : Nat) (n cn : Nat) (an : Option Addr) (w : World) (hl : l.length = len) (hlm : len ≤ 1000000) (hs : SlN w .u32 a l) (hr : Lits l) (hm : n ≤ 1000000) (hq : w.cell? ⟨q, 0, none⟩ = some (.pointer (some ⟨p, 0, none⟩))) (c2 : w.cell? ⟨p, 2, none⟩ = some (.slice an n cn)) :
    Calls Tryz.prog 115 #[.slice a len c, .func (.func 157) #[] #[.pointer (some ⟨q, 0, none⟩)]] w fun e w' => e = .returned (.bool (bad n l)) ∧ ∃ k, w' = w.drewN k := by
  have HC := Lib.hid (aig_index a c len l q n cn an w hl hlm hs hr hm hq c2)
  clear hq c2 hl
  go_enter Tryz.func115, Tryz.ntmps115
  go_wp2_with (go_at_call 141; refine HC.out.mono ?_; rintro e w1 ⟨r, rfl, hr1, k1, rfl⟩; have HR1 := Lib.hid hr1; clear hr1)
  go_ret
  exact ⟨by rw [← HR1.out]; rfl, _, rfl⟩

def asksE (g : Gr) (l : List Nat) : Int := if bad g.nodes.length l then 1 else 0
theorem bad_ok {l : List Nat} (h : ∀ x ∈ l, g.ok x) : bad g.nodes.length l = false := by
  unfold bad; rw [List.any_eq_false]; intro x hx; have := h x hx; unfold Gr.ok at this; simp; omega
theorem asksE_ok {l : List Nat} (h : ∀ x ∈ l, g.ok x) : asksE g l = 0 := by unfold asksE; rw [bad_ok h]; rfl
set_option maxHeartbeats 400000 in
theorem aig_asks (hg : GraphAt w p F g) (hm : g.nodes.length ≤ 200000) (a : Option Addr) (c len : Nat) (l : List Nat) (hl : l.length = len) (hlm : len ≤ 1000000) (hs : SlN w .u32 a l) (hr : Lits l) :
    Calls Tryz.prog 144 #[.pointer (some ⟨p, 0, none⟩), .slice a len c] w fun e w' => e = .returned (.int .i64 (asksE g l)) ∧ Kept [] w w' := by
  obtain ⟨an, cn, ai, ci, m, f, rfl, hc⟩ := hg
  have HC := Lib.hid hc; clear hc
  have HQ := Lib.hid (fun (w : World) (hs : SlN w .u32 a l) (q : Nat) (hq : w.cell? ⟨q, 0, none⟩ = some (.pointer (some ⟨p, 0, none⟩))) (c2 : w.cell? ⟨p, 2, none⟩ = some (.slice an g.nodes.length cn)) => aig_contains a c len l q g.nodes.length cn an w hl hlm hs hr (by omega) hq c2)
  have HE := Lib.hid (show asksE g l = if bad g.nodes.length l then 1 else 0 from rfl)
  clear hl hr
  generalize bad g.nodes.length l = b at *
  cases b
  all_goals
    go_enter Tryz.func144, Tryz.ntmps144
    go_wp2_with (first
      | (go_at_call 70; refine (aig_none p m _ (cell_alloc HC.out.c4 _)).mono ?_; rintro e w' ⟨rfl, rfl⟩)
      | (go_at_call 115; refine (HQ.out _ (hs.kept0 ((Kept.refl [] w).alloc _)) w.heap.size (by simp [World.cell?_alloc_new]) (cell_alloc HC.out.c2 _)).mono ?_; rintro e w' ⟨rfl, k1, rfl⟩))
    go_ret
    exact ⟨by rw [HE.out]; rfl, ((Kept.refl [] w).alloc _).drewN _⟩

set_option maxHeartbeats 800000 in
theorem aig_many_and (hg : GraphAt w p F g) (a : Option Addr) (c len : Nat) (l : List Nat) (hl : l.length = len) (hm : g.nodes.length + 3 * len ≤ 199000) (hs : SlN w .u32 a l) (hok : ∀ x ∈ l, g.ok x) (hd : ∀ b ∈ ft a, b ∉ F) :
    Calls Tryz.prog 128 #[.pointer (some ⟨p, 0, none⟩), .int .u32 1, .func (.func 129) #[.pointer (some ⟨p, 0, none⟩)] #[], .slice a len c] w (Twos (manyG andG g 1 l) w p F) := by
  have hlits : Lits l := fun x hx => Gr.ok_lt (hok x hx) (by omega)
  have HAS := Lib.hid (aig_asks hg (by omega) a c len l hl (by omega) hs hlits)
  have HE := Lib.hid (asksE_ok hok)
  have HGA := Lib.hid hg; clear hg
  have HL := Lib.hid hl; clear hl
  have HOK := Lib.hid hok; clear hok
  have HS := Lib.hid hs; clear hs
  have HD := Lib.hid hd; clear hd hlits
  have HSP := Lib.hid (fun (l' : List Nat) (h : ∀ x ∈ l', g.ok x) => manyG_spec andG (fun g a b hw ha hb => two_and g a b hw ha hb) HGA.out.wf (start := 1) (by omega) l' h)
  go_enter Tryz.func128, Tryz.ntmps128
  go_wp2_with (go_at_call 144; refine HAS.out.mono ?_; rintro e w0 ⟨rfl, hk0⟩; rw [HE.out])
  have HG0 := Lib.hid (HGA.out.kept0 hk0)
  go_loopw [1, 13, 22] (fun v u i wr => ∃ (k : Nat) (F' : List Nat), k ≤ len ∧ i = .int .i64 k ∧ v = .int .u32 ((manyG andG g 1 (l.take k)).2 : Nat) ∧ GraphAt wr p F' (manyG andG g 1 (l.take k)).1 ∧ Stepped w wr F F') (fun _ _ i _ => len - (intOf i).toNat)
  case atStart => exact ⟨0, F, Nat.zero_le _, rfl, rfl, HG0.out, ⟨hk0.more (by simp), fun b hb => .inl hb⟩⟩
  case round =>
    obtain ⟨k, F', hk, rfl, rfl, hgr, hst⟩ := hrel
    by_cases hlt : k < len
    · have hkl : k < l.length := by have := HL.out; omega
      have hsk : SlN wr .u32 a l := HS.out.kept hst.kept HD.out
      obtain ⟨ad, rfl, hc⟩ := hsk k hkl
      have hxo := HOK.out _ (List.getElem_mem hkl)
      have HT := Lib.hid (take_snoc l k hkl)
      have HPR := Lib.hid (HSP.out (l.take k) (fun y hy => HOK.out y (List.mem_of_mem_take hy)))
      have hle := HPR.out.2.1.le.2
      rw [List.length_take, Nat.min_eq_left (by omega)] at hle
      by_cases hk0' : k = 0
      · have kz : ((k : Int) == 0) = true := by simp [hk0']
        have HK0 := Lib.hid hk0'; clear hk0' hle hxo
        generalize l[k] = x at *
        go_wp2
        go_roundw
        case rel =>
          refine ⟨k + 1, F', by omega, by go_num, ?_, ?_, hst⟩
          · rw [HT.out, HK0.out]; rfl
          · rw [HT.out, HK0.out]
            have h := hgr
            rw [HK0.out] at h
            exact h
        case measure => simp [intOf]; omega
      · have kz : ((k : Int) == 0) = false := by simp [hk0']
        have HK1 := Lib.hid (manyG_snoc andG g 1 (l.take k) l[k] (fun h => by
          have := congrArg List.length h
          rw [List.length_take, Nat.min_eq_left (by omega)] at this
          exact hk0' this))
        have HTW := Lib.hid (aig_and hgr (by omega) HPR.out.2.2 (HPR.out.2.1.ok hxo))
        clear hk0' hle hxo
        generalize l[k] = x at *
        generalize manyG andG g 1 (l.take k) = r at *
        go_wp2_with (go_at_call 129; refine HTW.out.mono ?_; rintro e w1 ⟨F1, rfl, hg1, hst1⟩)
        go_roundw
        case rel => exact ⟨k + 1, F1, by omega, by go_num, by rw [HT.out, HK1.out], by rw [HT.out, HK1.out]; exact hg1, hst.trans hst1⟩
        case measure => simp [intOf]; omega
    · obtain rfl : k = len := by omega
      have HT := Lib.hid (show l.take k = l from List.take_of_length_le (by have := HL.out; omega))
      go_wp2
      go_ret2
      exact ⟨F', by rw [HT.out]; rfl, by rw [← HT.out]; exact hgr, hst⟩
theorem aig_And_ (hg : GraphAt w p F g) (a : Option Addr) (c len : Nat) (l : List Nat) (hl : l.length = len) (hm : g.nodes.length + 3 * len ≤ 199000) (hs : SlN w .u32 a l) (hok : ∀ x ∈ l, g.ok x) (hd : ∀ b ∈ ft a, b ∉ F) :
    Calls Tryz.prog 96 #[.pointer (some ⟨p, 0, none⟩), .slice a len c] w (Twos (manyG andG g 1 l) w p F) := by
  have HM := Lib.hid (aig_many_and hg a c len l hl hm hs hok hd)
  clear hg hl hs hok hd
  go_enter Tryz.func96, Tryz.ntmps96
  go_wp2_with (go_at_call 128; refine HM.out.mono ?_; rintro e w1 ⟨F1, rfl, hg1, hst1⟩)
  go_ret2
  exact ⟨F1, rfl, hg1, hst1⟩

set_option maxHeartbeats 800000 in
theorem aig_many_or (hg : GraphAt w p F g) (a : Option Addr) (c len : Nat) (l : List Nat) (hl : l.length = len) (hm : g.nodes.length + 3 * len ≤ 199000) (hs : SlN w .u32 a l) (hok : ∀ x ∈ l, g.ok x) (hd : ∀ b ∈ ft a, b ∉ F) :
    Calls Tryz.prog 128 #[.pointer (some ⟨p, 0, none⟩), .int .u32 0, .func (.func 158) #[.pointer (some ⟨p, 0, none⟩)] #[], .slice a len c] w (Twos (manyG orG g 0 l) w p F) := by
  have hlits : Lits l := fun x hx => Gr.ok_lt (hok x hx) (by omega)
  have HAS := Lib.hid (aig_asks hg (by omega) a c len l hl (by omega) hs hlits)
  have HE := Lib.hid (asksE_ok hok)
  have HGA := Lib.hid hg; clear hg
  have HL := Lib.hid hl; clear hl
  have HOK := Lib.hid hok; clear hok
  have HS := Lib.hid hs; clear hs
  have HD := Lib.hid hd; clear hd hlits
  have HSP := Lib.hid (fun (l' : List Nat) (h : ∀ x ∈ l', g.ok x) => manyG_spec orG (fun g a b hw ha hb => two_or g a b hw ha hb) HGA.out.wf (start := 0) (by omega) l' h)
  go_enter Tryz.func128, Tryz.ntmps128
  go_wp2_with (go_at_call 144; refine HAS.out.mono ?_; rintro e w0 ⟨rfl, hk0⟩; rw [HE.out])
  have HG0 := Lib.hid (HGA.out.kept0 hk0)
  go_loopw [1, 13, 22] (fun v u i wr => ∃ (k : Nat) (F' : List Nat), k ≤ len ∧ i = .int .i64 k ∧ v = .int .u32 ((manyG orG g 0 (l.take k)).2 : Nat) ∧ GraphAt wr p F' (manyG orG g 0 (l.take k)).1 ∧ Stepped w wr F F') (fun _ _ i _ => len - (intOf i).toNat)
  case atStart => exact ⟨0, F, Nat.zero_le _, rfl, rfl, HG0.out, ⟨hk0.more (by simp), fun b hb => .inl hb⟩⟩
  case round =>
    obtain ⟨k, F', hk, rfl, rfl, hgr, hst⟩ := hrel
    by_cases hlt : k < len
    · have hkl : k < l.length := by have := HL.out; omega
      have hsk : SlN wr .u32 a l := HS.out.kept hst.kept HD.out
      obtain ⟨ad, rfl, hc⟩ := hsk k hkl
      have hxo := HOK.out _ (List.getElem_mem hkl)
      have HT := Lib.hid (take_snoc l k hkl)
      have HPR := Lib.hid (HSP.out (l.take k) (fun y hy => HOK.out y (List.mem_of_mem_take hy)))
      have hle := HPR.out.2.1.le.2
      rw [List.length_take, Nat.min_eq_left (by omega)] at hle
      by_cases hk0' : k = 0
      · have kz : ((k : Int) == 0) = true := by simp [hk0']
        have HK0 := Lib.hid hk0'; clear hk0' hle hxo
        generalize l[k] = x at *
        go_wp2
        go_roundw
        case rel =>
          refine ⟨k + 1, F', by omega, by go_num, ?_, ?_, hst⟩
          · rw [HT.out, HK0.out]; rfl
          · rw [HT.out, HK0.out]
            have h := hgr
            rw [HK0.out] at h
            exact h
        case measure => simp [intOf]; omega
      · have kz : ((k : Int) == 0) = false := by simp [hk0']
        have HK1 := Lib.hid (manyG_snoc orG g 0 (l.take k) l[k] (fun h => by
          have := congrArg List.length h
          rw [List.length_take, Nat.min_eq_left (by omega)] at this
          exact hk0' this))
        have HTW := Lib.hid (aig_or hgr (by omega) HPR.out.2.2 (HPR.out.2.1.ok hxo))
        clear hk0' hle hxo
        generalize l[k] = x at *
        generalize manyG orG g 0 (l.take k) = r at *
        go_wp2_with (go_at_call 158; refine HTW.out.mono ?_; rintro e w1 ⟨F1, rfl, hg1, hst1⟩)
        go_roundw
        case rel => exact ⟨k + 1, F1, by omega, by go_num, by rw [HT.out, HK1.out], by rw [HT.out, HK1.out]; exact hg1, hst.trans hst1⟩
        case measure => simp [intOf]; omega
    · obtain rfl : k = len := by omega
      have HT := Lib.hid (show l.take k = l from List.take_of_length_le (by have := HL.out; omega))
      go_wp2
      go_ret2
      exact ⟨F', by rw [HT.out]; rfl, by rw [← HT.out]; exact hgr, hst⟩

set_option maxHeartbeats 800000 in
theorem aig_many_xor (hg : GraphAt w p F g) (a : Option Addr) (c len : Nat) (l : List Nat) (hl : l.length = len) (hm : g.nodes.length + 3 * len ≤ 199000) (hs : SlN w .u32 a l) (hok : ∀ x ∈ l, g.ok x) (hd : ∀ b ∈ ft a, b ∉ F) :
    Calls Tryz.prog 128 #[.pointer (some ⟨p, 0, none⟩), .int .u32 0, .func (.func 130) #[.pointer (some ⟨p, 0, none⟩)] #[], .slice a len c] w (Twos (manyG xorG g 0 l) w p F) := by
  have hlits : Lits l := fun x hx => Gr.ok_lt (hok x hx) (by omega)
  have HAS := Lib.hid (aig_asks hg (by omega) a c len l hl (by omega) hs hlits)
  have HE := Lib.hid (asksE_ok hok)
  have HGA := Lib.hid hg; clear hg
  have HL := Lib.hid hl; clear hl
  have HOK := Lib.hid hok; clear hok
  have HS := Lib.hid hs; clear hs
  have HD := Lib.hid hd; clear hd hlits
  have HSP := Lib.hid (fun (l' : List Nat) (h : ∀ x ∈ l', g.ok x) => manyG_spec xorG (fun g a b hw ha hb => two_xor g a b hw ha hb) HGA.out.wf (start := 0) (by omega) l' h)
  go_enter Tryz.func128, Tryz.ntmps128
  go_wp2_with (go_at_call 144; refine HAS.out.mono ?_; rintro e w0 ⟨rfl, hk0⟩; rw [HE.out])
  have HG0 := Lib.hid (HGA.out.kept0 hk0)
  go_loopw [1, 13, 22] (fun v u i wr => ∃ (k : Nat) (F' : List Nat), k ≤ len ∧ i = .int .i64 k ∧ v = .int .u32 ((manyG xorG g 0 (l.take k)).2 : Nat) ∧ GraphAt wr p F' (manyG xorG g 0 (l.take k)).1 ∧ Stepped w wr F F') (fun _ _ i _ => len - (intOf i).toNat)
  case atStart => exact ⟨0, F, Nat.zero_le _, rfl, rfl, HG0.out, ⟨hk0.more (by simp), fun b hb => .inl hb⟩⟩
  case round =>
    obtain ⟨k, F', hk, rfl, rfl, hgr, hst⟩ := hrel
    by_cases hlt : k < len
    · have hkl : k < l.length := by have := HL.out; omega
      have hsk : SlN wr .u32 a l := HS.out.kept hst.kept HD.out
      obtain ⟨ad, rfl, hc⟩ := hsk k hkl
      have hxo := HOK.out _ (List.getElem_mem hkl)
      have HT := Lib.hid (take_snoc l k hkl)
      have HPR := Lib.hid (HSP.out (l.take k) (fun y hy => HOK.out y (List.mem_of_mem_take hy)))
      have hle := HPR.out.2.1.le.2
      rw [List.length_take, Nat.min_eq_left (by omega)] at hle
      by_cases hk0' : k = 0
      · have kz : ((k : Int) == 0) = true := by simp [hk0']
        have HK0 := Lib.hid hk0'; clear hk0' hle hxo
        generalize l[k] = x at *
        go_wp2
        go_roundw
        case rel =>
          refine ⟨k + 1, F', by omega, by go_num, ?_, ?_, hst⟩
          · rw [HT.out, HK0.out]; rfl
          · rw [HT.out, HK0.out]
            have h := hgr
            rw [HK0.out] at h
            exact h
        case measure => simp [intOf]; omega
      · have kz : ((k : Int) == 0) = false := by simp [hk0']
        have HK1 := Lib.hid (manyG_snoc xorG g 0 (l.take k) l[k] (fun h => by
          have := congrArg List.length h
          rw [List.length_take, Nat.min_eq_left (by omega)] at this
          exact hk0' this))
        have HTW := Lib.hid (aig_xor hgr (by omega) HPR.out.2.2 (HPR.out.2.1.ok hxo))
        clear hk0' hle hxo
        generalize l[k] = x at *
        generalize manyG xorG g 0 (l.take k) = r at *
        go_wp2_with (go_at_call 130; refine HTW.out.mono ?_; rintro e w1 ⟨F1, rfl, hg1, hst1⟩)
        go_roundw
        case rel => exact ⟨k + 1, F1, by omega, by go_num, by rw [HT.out, HK1.out], by rw [HT.out, HK1.out]; exact hg1, hst.trans hst1⟩
        case measure => simp [intOf]; omega
    · obtain rfl : k = len := by omega
      have HT := Lib.hid (show l.take k = l from List.take_of_length_le (by have := HL.out; omega))
      go_wp2
      go_ret2
      exact ⟨F', by rw [HT.out]; rfl, by rw [← HT.out]; exact hgr, hst⟩
theorem aig_Xor_ (hg : GraphAt w p F g) (a : Option Addr) (c len : Nat) (l : List Nat) (hl : l.length = len) (hm : g.nodes.length + 3 * len ≤ 199000) (hs : SlN w .u32 a l) (hok : ∀ x ∈ l, g.ok x) (hd : ∀ b ∈ ft a, b ∉ F) :
    Calls Tryz.prog 97 #[.pointer (some ⟨p, 0, none⟩), .slice a len c] w (Twos (manyG xorG g 0 l) w p F) := by
  have HM := Lib.hid (aig_many_xor hg a c len l hl hm hs hok hd)
  clear hg hl hs hok hd
  go_enter Tryz.func97, Tryz.ntmps97
  go_wp2_with (go_at_call 128; refine HM.out.mono ?_; rintro e w1 ⟨F1, rfl, hg1, hst1⟩)
  go_ret2
  exact ⟨F1, rfl, hg1, hst1⟩
end Go.Proofs.YtdmcdhkkbkgnbaaGreat
