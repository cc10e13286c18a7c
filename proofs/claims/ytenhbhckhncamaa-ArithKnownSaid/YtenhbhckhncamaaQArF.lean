/-
  Package arith: On, How, Const, One.
-/
import Derived.Test.YtenhbhckhncamaaQArE
namespace Go.Proofs.Ytenhbhckhncamaa
open Go.ChangeShapes Go.WideShapes Go.ChangeAt Go.RowKit
set_option linter.unusedVariables false
set_option linter.unusedSimpArgs false

variable {w w' W : World} {mb p how q n k : Nat} {F F' S : List Nat} {g g' : Gr}
def ArBad (x : Nat) (w : World) (e : Ending) (w' : World) : Prop := e = .returned (.tuple #[.slice none 0 0, .int .i64 (x : Nat)]) ∧ Kept [] w w'
def ArRow (r : Gr × List Nat) (n : Nat) (w : World) (p : Nat) (F : List Nat) (e : Ending) (w' : World) : Prop :=
  ∃ F' a c, e = .returned (.tuple #[.slice a n c, .int .i64 0]) ∧ GraphAt w' p F' r.1 ∧ Own w' 34 a n c (nats .u32 r.2) ∧ Stepped w w' F (F' ++ ft a)
theorem how_c (h : ArAt w mb p how F g) : Calls Try.prog 13 #[.pointer (some ⟨mb, 0, none⟩)] w fun e w' => e = .returned (.int .i64 (how : Int)) ∧ w = w' := by
  have c1 := h.c1
  clear h
  go_enter Try.func13, Try.ntmps13
  go_wp2_with fail
  go_ret
  exact ⟨rfl, rfl⟩
theorem how_nil (w : World) : Calls Try.prog 13 #[.pointer none] w fun e w' => e = .returned (.int .i64 0) ∧ w = w' := by
  go_enter Try.func13, Try.ntmps13
  go_wp2_with fail
  go_ret
  exact ⟨rfl, rfl⟩
def OnPost (g : Gr) (how p : Nat) (F : List Nat) (w : World) (e : Ending) (w' : World) : Prop := ∃ mb, e = .returned (.tuple #[.pointer (some ⟨mb, 0, none⟩), .int .i64 0]) ∧ ArAt w' mb p how F g ∧ Kept [] w w' ∧ w.heap.size ≤ mb
theorem on_c (hg : GraphAt w p F g) (hm : g.nodes.length ≤ 1000000) (hh : how = 1 ∨ how = 2) : Calls Try.prog 11 #[.pointer (some ⟨p, 0, none⟩), .int .i64 (how : Int)] w (OnPost g how p F w) := by
  have HN := Lib.hid (aig_nodes hg hm)
  have hp := hg.wf.pos
  have HG := Lib.hid hg
  obtain ⟨ng, hng⟩ : ∃ x, x = g.nodes.length := ⟨_, rfl⟩
  rw [← hng] at HN hp
  have h0 : ((ng : Int) == 0) = false := by simp; omega
  clear hng hg
  have hend : ∀ V, V = w.alloc (.cells #[.pointer (some ⟨p, 0, none⟩), .int .i64 (how : Int)] 53) → ArAt V w.heap.size p how F g ∧ Kept [] w V := fun V hV => by
    rw [hV]
    exact ⟨⟨HG.out.kept0 ((Kept.refl [] w).alloc _), heap_alloc_new w _⟩, (Kept.refl [] w).alloc _⟩
  have HE := Lib.hid hend
  clear hend
  rcases hh with rfl | rfl
  · go_enter Try.func11, Try.ntmps11
    go_wp2_with fail
    refine HN.out.mono ?_
    rintro e w1 ⟨rfl, rfl⟩
    go_wp2_with fail
    go_ret2
    have h := HE.out _ rfl
    exact ⟨_, rfl, h.1, h.2, Nat.le_refl _⟩
  · go_enter Try.func11, Try.ntmps11
    go_wp2_with fail
    refine HN.out.mono ?_
    rintro e w1 ⟨rfl, rfl⟩
    go_wp2_with fail
    go_ret2
    have h := HE.out _ rfl
    exact ⟨_, rfl, h.1, h.2, Nat.le_refl _⟩
def OnBad (x : Nat) (w : World) (e : Ending) (w' : World) : Prop := e = .returned (.tuple #[.pointer none, .int .i64 (x : Nat)]) ∧ Kept [] w w'
theorem on_arg (hg : GraphAt w p F g) (hm : g.nodes.length ≤ 1000000) (hw : Int) (h1 : hw ≠ 1) (h2 : hw ≠ 2) : Calls Try.prog 11 #[.pointer (some ⟨p, 0, none⟩), .int .i64 hw] w (OnBad 1 w) := by
  have HN := Lib.hid (aig_nodes hg hm)
  have hp := hg.wf.pos
  obtain ⟨ng, hng⟩ : ∃ x, x = g.nodes.length := ⟨_, rfl⟩
  rw [← hng] at HN hp
  have h0 : ((ng : Int) == 0) = false := by simp; omega
  have f1 : (hw != 1) = true := by simp [h1]
  have f2 : (hw != 2) = true := by simp [h2]
  clear hng hg
  go_enter Try.func11, Try.ntmps11
  go_wp2_with fail
  refine HN.out.mono ?_
  rintro e w1 ⟨rfl, rfl⟩
  go_wp2_with fail
  go_ret2
  exact ⟨rfl, .refl _ _⟩
theorem on_none (v : Value) (hw : Int) (HN : Calls Try.prog 36 #[v] w fun e w' => e = .returned (.int .i64 0) ∧ w = w') : Calls Try.prog 11 #[v, .int .i64 hw] w (OnBad 2 w) := by
  have HN := Lib.hid HN
  go_enter Try.func11, Try.ntmps11
  go_wp2_with fail
  refine HN.out.mono ?_
  rintro e w1 ⟨rfl, rfl⟩
  go_wp2_with fail
  go_ret2
  exact ⟨rfl, .refl _ _⟩
def ConstPost (ok : Bool) (x n : Nat) (w : World) (e : Ending) (w' : World) : Prop :=
  if ok then ∃ a c, e = .returned (.tuple #[.slice a n c, .int .i64 0]) ∧ Own w' 34 a n c (nats .u32 (constL x n)) ∧ Kept [] w w' ∧ ∀ b ∈ ft a, w.heap.size ≤ b else ArBad 1 w e w'
set_option maxHeartbeats 1600000 in
set_option maxRecDepth 100000 in
theorem const_c (h : ArAt w mb p how F g) (hm : g.nodes.length ≤ 1000000) (t : Ty) (x : Nat) (hx : x < 18446744073709551616) : Calls Try.prog 10 #[.pointer (some ⟨mb, 0, none⟩), tyV t, .int .u64 (x : Int)] w (ConstPost (isT t x) x (tyN t) w) := by
  have HBX := Lib.hid (fun V hV => box3 w (.bool t.b) (.bool t.s) (.int .i64 t.w) 24 V hV)
  have HA := Lib.hid (fun V (hV : Kept [] w V) => ar_asks (h.kept0 hV) hm t none 0 0 [] rfl (by omega) (fun i hi => absurd hi (by simp)) (by simp) (by simp))
  have HI := Lib.hid (fun V => is_c t x hx V)
  rw [show asksB g t (([] : List RR).map (·.l)) = mayT t from by simp [asksB]] at HA
  have HIT := Lib.hid (show isT t x = (mayT t && decide (x < 2 ^ tyN t)) from rfl)
  have HLC := Lib.hid (fun hmt V => c_const x (tyN t) (x : Int) t.w rfl V hx (by have := may_n (t := t) hmt; unfold tyN; omega))
  obtain ⟨it, hit⟩ : ∃ m, m = isT t x := ⟨_, rfl⟩
  rw [← hit] at HI HIT ⊢
  clear hit
  obtain ⟨mt, hmt⟩ : ∃ m, m = mayT t := ⟨_, rfl⟩
  rw [← hmt] at HA HIT HLC
  clear hmt h
  generalize tyN t = tn at *
  unfold tyV at *
  generalize t.b = b at *
  generalize t.s = s at *
  generalize t.w = tw at *
  have KA := Lib.hid (show Kept [] w (w.alloc (.cells #[.bool b, .bool s, .int .i64 tw] 24)) from (Kept.refl [] w).alloc _)
  unfold ConstPost
  cases mt with
  | false =>
    have hi : it = false := HIT.out
    subst hi
    simp only [Bool.false_eq_true, if_false]
    go_enter Try.func10, Try.ntmps10
    go_wp2_with fail
    refine (HA.out _ KA.out).mono ?_
    rintro e w1 ⟨rfl, k1⟩
    have K1 := Lib.hid k1
    clear k1
    go_wp2_with fail
    go_ret2
    exact ⟨rfl, KA.out.trans K1.out⟩
  | true =>
    have HLT := Lib.hid (fun V => HLC.out rfl V)
    clear HLC
    cases it with
    | false =>
      simp only [Bool.false_eq_true, if_false]
      go_enter Try.func10, Try.ntmps10
      go_wp2_with fail
      refine (HA.out _ KA.out).mono ?_
      rintro e w1 ⟨rfl, k1⟩
      have K1 := Lib.hid k1
      obtain ⟨c0, c1, c2⟩ := HBX.out _ k1
      clear k1
      go_wp2_with fail
      refine (HI.out _).mono ?_
      rintro e w2 ⟨rfl, k2⟩
      have K2 := Lib.hid (K1.out.trans k2)
      clear k2
      go_wp2_with fail
      go_ret2
      exact ⟨rfl, KA.out.trans K2.out⟩
    | true =>
      simp only [if_true]
      go_enter Try.func10, Try.ntmps10
      go_wp2_with fail
      refine (HA.out _ KA.out).mono ?_
      rintro e w1 ⟨rfl, k1⟩
      have K1 := Lib.hid k1
      obtain ⟨c0, c1, c2⟩ := HBX.out _ k1
      clear k1
      go_wp2_with fail
      refine (HI.out _).mono ?_
      rintro e w2 ⟨rfl, k2⟩
      have K2 := Lib.hid (K1.out.trans k2)
      clear k2 c0 c1 c2
      obtain ⟨c0, c1, c2⟩ := HBX.out _ K2.out
      go_wp2_with fail
      refine (HLT.out _).mono ?_
      rintro e w3 ⟨a, c, rfl, ho, hs⟩
      have K3 := Lib.hid (K2.out.trans hs.kept)
      have HO := Lib.hid ho
      have HF := Lib.hid (show ∀ b ∈ ft a, w.heap.size ≤ b from fun b hb => (hs.fresh b hb).elim (by simp) (fun h => Nat.le_trans (KA.out.trans K2.out).size h))
      clear ho hs c0 c1 c2
      go_wp2_with fail
      go_ret2
      exact ⟨a, c, rfl, HO.out, KA.out.trans K3.out, HF.out⟩
end Go.Proofs.Ytenhbhckhncamaa
