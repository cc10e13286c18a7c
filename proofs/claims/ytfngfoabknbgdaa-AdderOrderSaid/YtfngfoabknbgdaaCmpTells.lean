/-
  Law 14: the chapter's rows (tells).
-/
import Derived.Test.YtfngfoabknbgdaaCmpLess
import Derived.Test.YtfngfoabknbgdaaCmpVal
import Derived.Test.YtfngfoabknbgdaaFreshVal
import Derived.Test.YtfngfoabknbgdaaLitTells
namespace Go.Proofs.Ytfngfoabknbgdaa
open Go.ChangeShapes Go.WideShapes Go.ChangeAt Go.RowKit
open Go.Maps (Keyed)
open Go.WideMaps
set_option linter.unusedVariables false

variable {w w' w1 : World} {p : Nat} {F F1 S : List Nat} {g : Gr}

theorem Stepped.keep {a b c : World} {F F' : List Nat} (h : Stepped a b F F') (hk : Kept [] b c) : Stepped a c F F' :=
  ⟨h.kept.trans (hk.more (by simp)), h.fresh⟩
theorem Own.apart_g {e : TypeId} {a : Option Addr} {n c : Nat} {xs : List Value} (ho : Own w e a n c xs) (hg : GraphAt w p F g) (h1 : e ≠ 114) (h2 : e ≠ 125) (h3 : e ≠ 3) : ∀ b ∈ ft a, b ∉ F := hg.apart ho h1 h2 h3
def FixPost (g : Gr) (v : Nat) (w : World) (p : Nat) (F : List Nat) (e : Ending) (w' : World) : Prop :=
  ∃ F', e = .returned (.tuple #[.int .u32 (v : Int), .int .i64 0]) ∧ GraphAt w' p F' g ∧ Stepped w w' F F'
/-- rows compared, of a known graph that stays as it is -/
theorem less_known (hg : GraphAt w p F g) (sg : Bool) {n v ca cb : Nat} {a b : Option Addr} {la lb : List Nat} (hoa : Own w 24 a n ca (nats .u32 la)) (hob : Own w 24 b n cb (nats .u32 lb)) (h1 : 1 ≤ n) (hn : n ≤ 64) (hm : g.nodes.length ≤ 179000)
    (ka : ∀ x ∈ la, g.ok x) (kb : ∀ x ∈ lb, g.ok x) (hr : lessG sg g la lb = (g, v)) :
    Calls Try.prog 15 #[.pointer (some ⟨p, 0, none⟩), .bool sg, .slice a n ca, .slice b n cb] w (FixPost g v w p F) := by
  refine (less_c hg a b h1 hn (by have := hoa.len; rwa [nats_length] at this) (by have := hob.len; rwa [nats_length] at this) hm hoa.sln hob.sln (hoa.apart_g hg (by decide) (by decide) (by decide)) (hob.apart_g hg (by decide) (by decide) (by decide)) ka kb).mono ?_
  rw [hr]
  exact fun _ _ h => h
def g0 (o1 o2 : Bool) : Gr := { fold := o1, hash := o2, nodes := [(0, 0)] }

set_option maxHeartbeats 1600000 in
set_option maxRecDepth 100000 in
theorem cmp_tells (w : World) : Calls Try.prog 19 #[] w fun e w' => e = .returned (.bool true) ∧ Kept [] w w' := by
  have e1 := Lib.hid (show lessG false (g0 true false) (constL 5 3) (constL 6 3) = (g0 true false, 1) from by kernel_rfl)
  have e2 := Lib.hid (show lessG true (g0 true false) (constL 5 3) (constL 6 3) = (g0 true false, 1) from by kernel_rfl)
  have e3 := Lib.hid (show lessG false (g0 true false) (constL 3 3) (constL 4 3) = (g0 true false, 1) from by kernel_rfl)
  have e4 := Lib.hid (show lessG true (g0 true false) (constL 3 3) (constL 4 3) = (g0 true false, 0) from by kernel_rfl)
  have k5 := Lib.hid (show ∀ x ∈ constL 5 3, (g0 true false).ok x from by show ∀ x ∈ constL 5 3, x / 2 < 1; decide)
  have k6 := Lib.hid (show ∀ x ∈ constL 6 3, (g0 true false).ok x from by show ∀ x ∈ constL 6 3, x / 2 < 1; decide)
  have k3 := Lib.hid (show ∀ x ∈ constL 3 3, (g0 true false).ok x from by show ∀ x ∈ constL 3 3, x / 2 < 1; decide)
  have k4 := Lib.hid (show ∀ x ∈ constL 4 3, (g0 true false).ok x from by show ∀ x ∈ constL 4 3, x / 2 < 1; decide)
  go_enter Try.func19, Try.ntmps19; (try simp only [List.append])
  go_wp2_with fail
  refine (aig_new true false _).mono ?_
  rintro e v0 ⟨p, F, rfl, hg, hst⟩
  have hg : GraphAt v0 p F (g0 true false) := hg
  have hst : Stepped w v0 [] F := hst
  have HG := Lib.hid hg
  have HST := Lib.hid hst
  clear hg hst
  go_wp2_with fail
  refine (c_const 5 3 _ _ rfl _ (by omega) rfl).mono ?_
  rintro e v1 ⟨a1, c1, rfl, ho1, hs1⟩
  have HO1 := Lib.hid ho1
  have HS1 := Lib.hid hs1
  clear ho1 hs1
  go_wp2_with fail
  refine (c_const 6 3 _ _ rfl _ (by omega) rfl).mono ?_
  rintro e v2 ⟨a2, c2, rfl, ho2, hs2⟩
  have HO2 := Lib.hid ho2
  have HS2 := Lib.hid hs2
  clear ho2 hs2
  go_wp2_with fail
  refine (less_known ((HG.out.kept0 HS1.out.kept).kept0 HS2.out.kept) false (HO1.out.kept0 HS2.out.kept) HO2.out (by omega) (by omega) (by decide) k5.out k6.out e1.out).mono ?_
  rintro e v0 ⟨F, rfl, hg, hst3⟩
  have hst := ((HST.out.keep HS1.out.kept).keep HS2.out.kept).trans hst3
  clear HG HST HO1 HS1 HO2 HS2 hst3
  have HG := Lib.hid hg
  have HST := Lib.hid hst
  clear hg hst
  go_wp2_with fail
  refine (c_const 5 3 _ _ rfl _ (by omega) rfl).mono ?_
  rintro e v1 ⟨a1, c1, rfl, ho1, hs1⟩
  have HO1 := Lib.hid ho1
  have HS1 := Lib.hid hs1
  clear ho1 hs1
  go_wp2_with fail
  refine (c_const 6 3 _ _ rfl _ (by omega) rfl).mono ?_
  rintro e v2 ⟨a2, c2, rfl, ho2, hs2⟩
  have HO2 := Lib.hid ho2
  have HS2 := Lib.hid hs2
  clear ho2 hs2
  go_wp2_with fail
  refine (less_known ((HG.out.kept0 HS1.out.kept).kept0 HS2.out.kept) true (HO1.out.kept0 HS2.out.kept) HO2.out (by omega) (by omega) (by decide) k5.out k6.out e2.out).mono ?_
  rintro e v0 ⟨F, rfl, hg, hst3⟩
  have hst := ((HST.out.keep HS1.out.kept).keep HS2.out.kept).trans hst3
  clear HG HST HO1 HS1 HO2 HS2 hst3
  have HG := Lib.hid hg
  have HST := Lib.hid hst
  clear hg hst
  go_wp2_with fail
  refine (c_const 3 3 _ _ rfl _ (by omega) rfl).mono ?_
  rintro e v1 ⟨a1, c1, rfl, ho1, hs1⟩
  have HO1 := Lib.hid ho1
  have HS1 := Lib.hid hs1
  clear ho1 hs1
  go_wp2_with fail
  refine (c_const 4 3 _ _ rfl _ (by omega) rfl).mono ?_
  rintro e v2 ⟨a2, c2, rfl, ho2, hs2⟩
  have HO2 := Lib.hid ho2
  have HS2 := Lib.hid hs2
  clear ho2 hs2
  go_wp2_with fail
  refine (less_known ((HG.out.kept0 HS1.out.kept).kept0 HS2.out.kept) false (HO1.out.kept0 HS2.out.kept) HO2.out (by omega) (by omega) (by decide) k3.out k4.out e3.out).mono ?_
  rintro e v0 ⟨F, rfl, hg, hst3⟩
  have hst := ((HST.out.keep HS1.out.kept).keep HS2.out.kept).trans hst3
  clear HG HST HO1 HS1 HO2 HS2 hst3
  have HG := Lib.hid hg
  have HST := Lib.hid hst
  clear hg hst
  go_wp2_with fail
  refine (c_const 3 3 _ _ rfl _ (by omega) rfl).mono ?_
  rintro e v1 ⟨a1, c1, rfl, ho1, hs1⟩
  have HO1 := Lib.hid ho1
  have HS1 := Lib.hid hs1
  clear ho1 hs1
  go_wp2_with fail
  refine (c_const 4 3 _ _ rfl _ (by omega) rfl).mono ?_
  rintro e v2 ⟨a2, c2, rfl, ho2, hs2⟩
  have HO2 := Lib.hid ho2
  have HS2 := Lib.hid hs2
  clear ho2 hs2
  go_wp2_with fail
  refine (less_known ((HG.out.kept0 HS1.out.kept).kept0 HS2.out.kept) true (HO1.out.kept0 HS2.out.kept) HO2.out (by omega) (by omega) (by decide) k3.out k4.out e4.out).mono ?_
  rintro e v0 ⟨F, rfl, hg, hst3⟩
  have hst := ((HST.out.keep HS1.out.kept).keep HS2.out.kept).trans hst3
  clear HG HST HO1 HS1 HO2 HS2 hst3
  go_wp2_with fail
  refine (aig_gates hg (by decide)).mono ?_
  rintro e w' ⟨rfl, k, rfl⟩
  rw [show gatesN (g0 true false) = 0 from rfl]
  go_wp2_with fail
  go_ret
  exact ⟨rfl, hst.kept.drewN _⟩
end Go.Proofs.Ytfngfoabknbgdaa
