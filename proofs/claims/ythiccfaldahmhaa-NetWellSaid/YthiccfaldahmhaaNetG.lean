/-
  Law 06: what a step does with a netlist.
-/
import Derived.Test.YthiccfaldahmhaaNetF
namespace Go.Proofs.Ythiccfaldahmhaa
open Go.ChangeShapes Go.WideShapes Go.ChangeAt Go.RowKit
open Go.Maps (Keyed)
open Go.WideMaps
set_option linter.unusedVariables false
set_option linter.unusedSimpArgs false

variable {w w' : World} {p n : Nat} {F R S : List Nat} {g : Gr} {N : Nt}
def RowNew (l : List Nat) (n : Nat) (w : World) (e : Ending) (w' : World) : Prop := ∃ a c, e = .returned (.slice a n c) ∧ Own w' 44 a n c (nats .u32 l) ∧ Stepped w w' [] (ft a)
set_option maxHeartbeats 800000 in
theorem of_c (a : Option Addr) (c n : Nat) (l : List Nat) (w : World) (hl : l.length = n) (hn : n ≤ 140737488351232) (hs : SlN w .u32 a l) :
    Calls Try.prog 11 #[.slice a n c] w (RowNew (l.take 70) (min n 70) w) := by
  have HL := Lib.hid hl
  clear hl
  go_enter Try.func11, Try.ntmps11
  go_wp2_with fail
  go_loopw [3, 4] (fun v i wr => ∃ (k : Nat) (a' : Option Addr) (c' : Nat), k ≤ n ∧ k ≤ 70 ∧ i = .int .i64 k ∧ v = .slice a' k c' ∧ Own wr 44 a' k c' (nats .u32 (l.take k)) ∧ Stepped w wr [] (ft a')) (fun _ i _ => 70 - (intOf i).toNat)
  case atStart => exact ⟨0, none, 0, Nat.zero_le _, by omega, rfl, rfl, Own.nil _ _, .refl _ _⟩
  case round =>
    obtain ⟨k, a', c', hk, h70, rfl, rfl, hown, hst⟩ := hrel
    by_cases hlt : k < n ∧ k < 70
    · obtain ⟨h1, h2⟩ := hlt
      have hkl : k < l.length := by rw [HL.out]; exact h1
      obtain ⟨ad, rfl, hcx⟩ := (hs.kept0 hst.kept) k hkl
      have HT := Lib.hid (take_snoc l k hkl)
      generalize l[k] = x at *
      go_wp2_with (at_builtin; refine wpList_push rfl rfl Try.underlying41 lit_info' rfl rfl rfl hown rfl (by unfold maxLen; omega) (by omega) ?_; intro a1 c1 w5 hown5 hst5)
      go_roundw
      case rel => exact ⟨k + 1, a1, c1, by omega, by omega, by go_num, rfl, by rw [HT.out, ← nats_append]; exact hown5, hst.trans hst5⟩
      case measure => simp [intOf]; omega
    · have HE := Lib.hid (show l.take k = l.take 70 from by
        have := HL.out
        by_cases h : k < 70
        · rw [List.take_of_length_le (by omega), List.take_of_length_le (by omega)]
        · rw [show k = 70 by omega])
      have HK := Lib.hid (show k = min n 70 from by omega)
      rw [HE.out] at hown
      have HO := Lib.hid hown
      have HS := Lib.hid hst
      clear hown hst HE
      by_cases h1 : k < n
      · have h2 : ¬ k < 70 := by omega
        clear hlt
        go_wp2_with fail
        go_ret
        exact ⟨a', c', by rw [← HK.out]; rfl, by rw [← HK.out]; exact HO.out, HS.out⟩
      · clear hlt
        go_wp2_with fail
        go_ret
        exact ⟨a', c', by rw [← HK.out]; rfl, by rw [← HK.out]; exact HO.out, HS.out⟩
def NoGate (w : World) (e : Ending) (w' : World) : Prop := e = .returned (.tuple #[.int .u32 0, .int .i64 1]) ∧ Kept [] w w'
theorem asksE_gone {l : List Nat} (h : gone g l = true) : asksE g l = 1 := by
  have : bad g.nodes.length l = true := h
  unfold asksE; rw [this]; rfl
theorem and_gone (hg : GraphAt w p F g) (hm : g.nodes.length ≤ 200000) (a : Option Addr) (c len : Nat) (l : List Nat) (hl : l.length = len) (hlm : len ≤ 1000000) (hs : SlN w .u32 a l) (hr : Lits l) (hb : gone g l = true) :
    Calls Try.prog 36 #[.pointer (some ⟨p, 0, none⟩), .slice a len c] w (NoGate w) := by
  have HA := Lib.hid (aig_asks hg hm a c len l hl hlm hs hr)
  rw [asksE_gone hb] at HA
  have HM := Lib.hid (fun (v f : Value) => show Calls Try.prog 69 #[.pointer (some ⟨p, 0, none⟩), v, f, .slice a len c] w (NoGate w) from by
    go_enter Try.func69, Try.ntmps69
    go_wp2_with fail
    refine HA.out.mono ?_
    rintro e w1 ⟨rfl, hk1⟩
    have K1 := Lib.hid hk1
    clear hk1
    go_wp2_with fail
    go_ret2
    exact ⟨rfl, K1.out⟩)
  clear hg hl hs hr hb HA
  go_enter Try.func36, Try.ntmps36
  go_wp2_with fail
  refine (HM.out _ _).mono ?_
  rintro e w1 ⟨rfl, hk1⟩
  have K1 := Lib.hid hk1
  clear hk1
  go_wp2_with fail
  go_ret2
  exact ⟨rfl, K1.out⟩
theorem xor_gone (hg : GraphAt w p F g) (hm : g.nodes.length ≤ 200000) (a : Option Addr) (c len : Nat) (l : List Nat) (hl : l.length = len) (hlm : len ≤ 1000000) (hs : SlN w .u32 a l) (hr : Lits l) (hb : gone g l = true) :
    Calls Try.prog 29 #[.pointer (some ⟨p, 0, none⟩), .slice a len c] w (NoGate w) := by
  have HA := Lib.hid (aig_asks hg hm a c len l hl hlm hs hr)
  rw [asksE_gone hb] at HA
  have HM := Lib.hid (fun (v f : Value) => show Calls Try.prog 69 #[.pointer (some ⟨p, 0, none⟩), v, f, .slice a len c] w (NoGate w) from by
    go_enter Try.func69, Try.ntmps69
    go_wp2_with fail
    refine HA.out.mono ?_
    rintro e w1 ⟨rfl, hk1⟩
    have K1 := Lib.hid hk1
    clear hk1
    go_wp2_with fail
    go_ret2
    exact ⟨rfl, K1.out⟩)
  clear hg hl hs hr hb HA
  go_enter Try.func29, Try.ntmps29
  go_wp2_with fail
  refine (HM.out _ _).mono ?_
  rintro e w1 ⟨rfl, hk1⟩
  have K1 := Lib.hid hk1
  clear hk1
  go_wp2_with fail
  go_ret2
  exact ⟨rfl, K1.out⟩
theorem one_c (x : Int) (k : Int) (w : World) : Calls Try.prog 35 #[.int .u32 x, .int .i64 k] w fun e w' => e = .returned (.tuple #[.slice (some ⟨w.heap.size, 0, none⟩) 1 1, .int .i64 k]) ∧ w' = w.alloc (.cells #[.int .u32 x] 44) := by
  go_enter Try.func35, Try.ntmps35
  go_wp2
  go_ret2
  exact ⟨rfl, rfl⟩
/-- a call of a gate on a netlist's graph -/
def GatePostN (r : Nt × List Nat × Nat) (x : Nat) (w : World) (n : Nat) (F R : List Nat) (e : Ending) (w' : World) : Prop :=
  ∃ F' x, e = .returned (.tuple #[.int .u32 (x : Nat), .int .i64 (r.2.2 : Nat)]) ∧ NetAt w' n F' R r.1 ∧ NStep w w' F R F' R ∧ r.2.1 = [x]
def stepCells6 (s : NStp) (la : Option Addr) (lc : Nat) : Array Value := #[.int .i64 s.what, .string s.name, .int .i64 s.n, .int .u32 (s.a : Int), .int .u32 (s.b : Int), .int .u32 (s.c : Int), .slice la s.lits.length lc]
structure NStp.ok (s : NStp) : Prop where
  nm : s.name.size ≤ 140737488351232
  n1 : -9223372036854775808 ≤ s.n
  n2 : s.n ≤ 9223372036854775807
  a : s.a < 4294967296
  b : s.b < 4294967296
  c : s.c < 4294967296
  l : ∀ x ∈ s.lits, x < 4294967296
  ll : s.lits.length ≤ 140737488351232
theorem whole_row {e : TypeId} {gb n : Nat} {xs : List Value} (h : w.heap[gb]? = some (.cells xs.toArray e (0, 0))) (hl : xs.length = n) (hn : n ≤ maxLen) : Own w e (some ⟨gb, 0, none⟩) n n xs :=
  ⟨by rw [hl, Nat.mul_one], .inr ⟨gb, n, xs.toArray, rfl, Nat.zero_le _, h, Nat.le_refl _, hn, by simp [hl], by simp [← hl]⟩⟩
/-- a new row of one literal -/
theorem one_row {W : World} {x k : Nat} {F' R' : List Nat} (hn : NetAt W n F' R' N) (hst : NStep w W F R F' R') :
    ∃ F' R' a c k', Ending.returned (.tuple #[.slice (some ⟨W.heap.size, 0, none⟩) 1 1, .int .i64 (k : Nat)]) = .returned (.tuple #[.slice a k' c, .int .i64 (k : Nat)]) ∧ NetAt (W.alloc (.cells #[.int .u32 (x : Int)] 44)) n F' R' N ∧ NStep w (W.alloc (.cells #[.int .u32 (x : Int)] 44)) F R F' R' ∧ Own (W.alloc (.cells #[.int .u32 (x : Int)] 44)) 44 a k' c (nats .u32 [x]) ∧ ∀ b ∈ ft a, w.heap.size ≤ b ∧ b ∉ F' ∧ b ∉ R' := by
  have hk : Kept [] W (W.alloc (.cells #[.int .u32 (x : Int)] 44)) := (Kept.refl [] W).alloc _
  refine ⟨F', R', some ⟨W.heap.size, 0, none⟩, 1, 1, rfl, hn.kept0 hk, hst.keep hk, whole_row (heap_alloc_new W _) rfl (by unfold maxLen; omega), fun b hb => ?_⟩
  rw [mem_ft] at hb
  subst hb
  exact ⟨hst.st.kept.size, fun h => Nat.lt_irrefl _ (hn.lt.1 _ h), fun h => Nat.lt_irrefl _ (hn.lt.2 _ h)⟩
end Go.Proofs.Ythiccfaldahmhaa
