/-
  Package cone: what may not be (no graph, a literal that is not there, rows too short).
-/
import Derived.Test.YthjaihmjdnijnaaConeTell2
import Derived.Test.YthjaihmjdnijnaaAigCopy
namespace Go.Proofs.Ythjaihmjdnijnaa
open Go.ChangeShapes Go.WideShapes Go.ChangeAt Go.RowKit
open Go.Maps (Keyed)
open Go.WideMaps
set_option linter.unusedVariables false
set_option linter.unusedSimpArgs false

variable {w w' : World} {p r : Nat} {F R S : List Nat} {g g2 : Gr}
theorem none_nil' (w : World) : Calls Try.prog 37 #[.pointer none] w fun e w' => e = .returned (.bool true) ∧ w = w' := by
  go_enter Try.func37, Try.ntmps37
  go_wp2_with fail
  go_ret
  exact ⟨rfl, rfl⟩
theorem nodes_nil' (w : World) : Calls Try.prog 8 #[.pointer none] w fun e w' => e = .returned (.int .i64 0) ∧ w = w' := by
  go_enter Try.func8, Try.ntmps8
  go_wp2_with fail
  refine (none_nil' _).mono ?_
  rintro e w' ⟨rfl, rfl⟩
  go_wp2_with fail
  go_ret
  exact ⟨rfl, rfl⟩
def CErr (n : Int) (w : World) (e : Ending) (w' : World) : Prop := e = .returned (.int .i64 n) ∧ Kept [] w w'
def RowErr (n : Int) (w : World) (e : Ending) (w' : World) : Prop := e = .returned (.tuple #[.slice none 0 0, .int .i64 n]) ∧ Kept [] w w'
def NumErr (n : Int) (w : World) (e : Ending) (w' : World) : Prop := e = .returned (.tuple #[.int .i64 0, .int .i64 n]) ∧ Kept [] w w'
theorem c_asks_nil (a : Option Addr) (n c : Nat) (w : World) : Calls Try.prog 38 #[.pointer none, .slice a n c] w (CErr 2 w) := by
  go_enter Try.func38, Try.ntmps38
  go_wp2_with fail
  refine (nodes_nil' _).mono ?_
  rintro e w' ⟨rfl, rfl⟩
  go_wp2_with fail
  go_ret
  exact ⟨rfl, by (repeat (first | with_reducible exact Kept.refl _ _ | with_reducible apply Kept.drew | with_reducible apply Kept.drewN | with_reducible apply Kept.alloc))⟩
theorem c_asks_gone (hg : GraphAt w p F g) (hm : g.nodes.length ≤ 200000) (a : Option Addr) (c len : Nat) (l : List Nat) (hl : l.length = len) (hlm : len ≤ 140737488351232) (hs : SlN w .u32 a l) (hx : ∀ x ∈ l, x < 4294967296) (hb : (l.any fun x => decide (g.nodes.length ≤ x / 2)) = true) :
    Calls Try.prog 38 #[.pointer (some ⟨p, 0, none⟩), .slice a len c] w (CErr 1 w) := by
  have hp := hg.wf.pos
  have hne : ((g.nodes.length : Int) == 0) = false := by simp only [beq_eq_false_iff_ne, ne_eq]; omega
  have HG := Lib.hid (fun o => hg.kept0 ((Kept.refl [] w).alloc o))
  have HB := Lib.hid hb
  have HC := Lib.hid (contains_any 66 Try.call66 (.pointer (some ⟨w.heap.size, 0, none⟩)) (fun x => decide (g.nodes.length ≤ x / 2)) a c len l (w.alloc (.cells #[.pointer (some ⟨p, 0, none⟩)] 26)) hl hlm (hs.kept0 ((Kept.refl [] w).alloc _)) (fun x h k =>
    cone_asks1 x w.heap.size ((HG.out _).kept0 ((Kept.refl [] _).drewN k)) (by omega) (hx x h) (by simp [World.cell?_alloc_new])))
  clear hg hl hb hs hx
  go_enter Try.func38, Try.ntmps38
  go_wp2_with fail
  refine (aig_nodes (HG.out _) (by omega)).mono ?_
  rintro e w' ⟨rfl, rfl⟩
  go_wp2_with fail
  refine HC.out.mono ?_
  rw [HB.out]
  rintro e w' ⟨rfl, k, rfl⟩
  go_wp2_with fail
  go_ret
  exact ⟨rfl, by (repeat (first | with_reducible exact Kept.refl _ _ | with_reducible apply Kept.drew | with_reducible apply Kept.drewN | with_reducible apply Kept.alloc))⟩
section
variable {q : Option Addr} {a : Option Addr} {na c : Nat} {n : Int}
theorem c_nodes_err (f : Value) (h : Calls Try.prog 38 #[.pointer q, .slice a na c] w (CErr n w)) (hn : (n != 0) = true) : Calls Try.prog 46 #[.pointer q, .slice a na c, f] w (RowErr n w) := by
  have H := Lib.hid h; clear h
  go_enter Try.func46, Try.ntmps46
  go_wp2_with fail
  refine H.out.mono ?_
  rintro e w1 ⟨rfl, hk1⟩
  have HK := Lib.hid hk1; clear hk1
  go_wp2_with fail
  go_ret2
  exact ⟨rfl, HK.out⟩
theorem c_reach_err (h : Calls Try.prog 38 #[.pointer q, .slice a na c] w (CErr n w)) (hn : (n != 0) = true) : Calls Try.prog 19 #[.pointer q, .slice a na c] w (RowErr n w) := by
  have H := Lib.hid (fun f => c_nodes_err f h hn); clear h hn
  go_enter Try.func19, Try.ntmps19
  go_wp2_with fail
  refine (H.out _).mono ?_
  rintro e w1 ⟨rfl, hk1⟩
  have HK := Lib.hid hk1; clear hk1
  go_wp2_with fail
  go_ret2
  exact ⟨rfl, HK.out⟩
theorem c_support_nil (w : World) : Calls Try.prog 20 #[.pointer none, .slice a na c] w (RowErr 2 w) := by
  have H := Lib.hid (fun W f => c_nodes_err (w := W) f (c_asks_nil a na c W) rfl)
  go_enter Try.func20, Try.ntmps20
  go_wp2_with fail
  refine (H.out _ _).mono ?_
  rintro e w1 ⟨rfl, hk1⟩
  have HK := Lib.hid (((Kept.refl [] w).alloc _).trans hk1); clear hk1
  go_wp2_with fail
  go_ret2
  exact ⟨rfl, HK.out⟩
theorem c_depth_err (h : Calls Try.prog 38 #[.pointer q, .slice a na c] w (CErr n w)) (hn : (n != 0) = true) : Calls Try.prog 10 #[.pointer q, .slice a na c] w (NumErr n w) := by
  have H := Lib.hid h; clear h
  go_enter Try.func10, Try.ntmps10
  go_wp2_with fail
  refine H.out.mono ?_
  rintro e w1 ⟨rfl, hk1⟩
  have HK := Lib.hid hk1; clear hk1
  go_wp2_with fail
  go_ret2
  exact ⟨rfl, HK.out⟩
end
theorem c_eval_err (hg : GraphAt w p F g) (hm : g.nodes.length ≤ 1000000) (a : Option Addr) (c len : Nat) (hlen : len ≠ (ins g.nodes).length) :
    Calls Try.prog 50 #[.pointer (some ⟨p, 0, none⟩), .slice a len c] w (RowErr 1 w) := by
  obtain ⟨an, cn, ai, ci, m, f, rfl, hc⟩ := hg
  have c3 := hc.c3
  have c4 := hc.c4
  have hkl : ((len : Int) != ((ins g.nodes).length : Int)) = true := by simp; omega
  clear hc hlen
  go_enter Try.func50, Try.ntmps50
  go_wp2_with (go_at_call 37; refine (aig_none p m _ (by assumption)).mono ?_; rintro e w' ⟨rfl, rfl⟩)
  go_ret2
  exact ⟨rfl, .refl _ _⟩
theorem c_words_short (hg : GraphAt w p F g) (hm : g.nodes.length ≤ 200000) (ia : Option Addr) (ic il : Nat) (hil : il ≠ (ins g.nodes).length)
    (a : Option Addr) (c len : Nat) (l : List Nat) (hl : l.length = len) (hlm : len ≤ 1000000) (hs : SlN w .u32 a l) (hok : ∀ x ∈ l, g.ok x) :
    Calls Try.prog 24 #[.pointer (some ⟨p, 0, none⟩), .slice ia il ic, .slice a len c] w (RowErr 1 w) := by
  have HA := Lib.hid (cone_asks_ok hg hm a c len l hl (by omega) hs hok)
  have HE := Lib.hid (fun (w' : World) (hk : Kept [] w w') => c_eval_err (hg.kept0 hk) (by omega) ia ic il hil)
  clear hg hl hok hs hil
  go_enter Try.func24, Try.ntmps24
  go_wp2_with fail
  refine HA.out.mono ?_
  rintro e w1 ⟨rfl, hk1⟩
  have HK := Lib.hid hk1; clear hk1
  go_wp2_with fail
  refine (HE.out _ HK.out).mono ?_
  rintro e w2 ⟨rfl, hk2⟩
  have HK2 := Lib.hid (HK.out.trans hk2); clear hk2
  go_wp2_with fail
  go_ret2
  exact ⟨rfl, HK2.out⟩
/-- a copy that is refused for the row or the graph that it goes to -/
theorem c_copy_err (q : Option Addr) (hf : GraphAt w r R g2) (hm2 : g2.nodes.length ≤ 40000) (ab : Option Addr) (cb nb : Nat) (n : Int)
    (HB : ∀ W, Kept [] w W → Calls Try.prog 38 #[.pointer q, .slice ab nb cb] W (CErr n W)) (hn : n = 2 ∨ n = 1 ∨ (n = 0 ∧ nb ≠ (ins g2.nodes).length))
    (a : Option Addr) (c len : Nat) (l : List Nat) (hl : l.length = len) (hlm : len ≤ 1000000) (hs : SlN w .u32 a l) (hok : ∀ x ∈ l, g2.ok x) :
    Calls Try.prog 18 #[.pointer q, .pointer (some ⟨r, 0, none⟩), .slice ab nb cb, .slice a len c] w (RowErr (if n = 2 then 2 else 1) w) := by
  have HIN := Lib.hid (aig_inputs hf (show g2.nodes.length ≤ 1000000 by omega))
  have HA1 := Lib.hid (fun (W : World) (hk : Kept [] w W) => cone_asks_ok (hf.kept0 hk) (by omega) a c len l hl (by omega) (hs.kept0 hk) hok)
  have HA2 := Lib.hid HB
  clear HB hf hs hok hl
  rcases hn with rfl | rfl | ⟨rfl, hne⟩
  rotate_left 2
  have hnn : ((nb : Int) != ((ins g2.nodes).length : Int)) = true := by simp; omega
  clear hne
  all_goals
    go_enter Try.func18, Try.ntmps18; (try simp only [List.append])
    go_wp2_with fail
    refine HIN.out.mono ?_
    rintro e w1 ⟨ai, ci, rfl, hoi, hsi⟩
    have K1 := Lib.hid hsi.kept
    clear hoi hsi HIN
    go_wp2_with fail
    refine (HA1.out _ K1.out).mono ?_
    rintro e w2 ⟨rfl, hk2⟩
    have K2 := Lib.hid (K1.out.trans hk2)
    clear hk2 HA1 K1
    go_wp2_with fail
    refine (HA2.out _ K2.out).mono ?_
    rintro e w3 ⟨rfl, hk3⟩
    have K3 := Lib.hid (K2.out.trans hk3)
    clear hk3 HA2 K2
    go_wp2_with fail
    go_ret2
    exact ⟨rfl, K3.out⟩
end Go.Proofs.Ythjaihmjdnijnaa
