/-
  Law 14: a graph with two rows that stay; rows compared; a literal's depth.
-/
import Derived.Test.YtenhbhckhncamaaP27
namespace Go.Proofs.Ytenhbhckhncamaa
open Go.ChangeShapes Go.WideShapes Go.ChangeAt Go.RowKit
open Go.Maps (Keyed)
open Go.WideMaps
set_option linter.unusedVariables false

variable {w w' w1 : World} {p : Nat} {F F1 F' S : List Nat} {g g' : Gr} {a b : Option Addr} {n ca cb : Nat} {la lb : List Nat} {sg : Bool}

/-- a graph, and two rows of literals of one's own beside it -/
structure RowsAt (w : World) (p : Nat) (F : List Nat) (g : Gr) (n : Nat) (a : Option Addr) (ca : Nat) (la : List Nat) (b : Option Addr) (cb : Nat) (lb : List Nat) : Prop where
  graph : GraphAt w p F g
  oa : Own w 34 a n ca (nats .u32 la)
  ob : Own w 34 b n cb (nats .u32 lb)
  ka : ∀ x ∈ la, g.ok x
  kb : ∀ x ∈ lb, g.ok x
theorem RowsAt.lenA (h : RowsAt w p F g n a ca la b cb lb) : la.length = n := by have := h.oa.len; rwa [nats_length] at this
theorem RowsAt.lenB (h : RowsAt w p F g n a ca la b cb lb) : lb.length = n := by have := h.ob.len; rwa [nats_length] at this
theorem RowsAt.step {c : Nat} (h : RowsAt w p F g n a ca la b cb lb) (hst : Stepped w w' F F') (hg : GraphAt w' p F' g') (hx : Ext c g g') : RowsAt w' p F' g' n a ca la b cb lb :=
  ⟨hg, h.oa.kept hst.kept (h.oa.apart_g h.graph (by decide) (by decide) (by decide)), h.ob.kept hst.kept (h.ob.apart_g h.graph (by decide) (by decide) (by decide)), fun x hx' => hx.ok (h.ka x hx'), fun x hx' => hx.ok (h.kb x hx')⟩
theorem RowsAt.kept0 (h : RowsAt w p F g n a ca la b cb lb) (hk : Kept [] w w') : RowsAt w' p F g n a ca la b cb lb :=
  ⟨h.graph.kept0 hk, h.oa.kept0 hk, h.ob.kept0 hk, h.ka, h.kb⟩
theorem RowsAt.turn (h : RowsAt w p F g n a ca la b cb lb) : RowsAt w p F g n b cb lb a ca la := ⟨h.graph, h.ob, h.oa, h.kb, h.ka⟩
theorem RowsAt.one (h : RowsAt w p F g n a ca la b cb lb) : RowsAt w p F g n a ca la a ca la := ⟨h.graph, h.oa, h.oa, h.ka, h.ka⟩

/-! what is known of rows compared -/
theorem eqG_good (hw : WF g.nodes) (ka : ∀ x ∈ la, g.ok x) (kb : ∀ x ∈ lb, g.ok x) (h1 : 1 ≤ la.length) (hl : lb.length = la.length) : WF (eqG g la lb).1.nodes ∧ Ext (7 * la.length) g (eqG g la lb).1 ∧ (eqG g la lb).1.ok (eqG g la lb).2 := by
  obtain ⟨a1, b1, c1, e1⟩ := allTo_good (la := la) (lb := lb) true false la.length la.length g 0 la.length h1 (Nat.le_refl _) (by omega) (by omega) hw ka kb
  exact ⟨a1, b1.mono (by omega), c1⟩
theorem lessG_good (hw : WF g.nodes) (ka : ∀ x ∈ la, g.ok x) (kb : ∀ x ∈ lb, g.ok x) (h1 : 1 ≤ la.length) (hl : lb.length = la.length) : WF (lessG sg g la lb).1.nodes ∧ Ext (7 * la.length) g (lessG sg g la lb).1 ∧ (lessG sg g la lb).1.ok (lessG sg g la lb).2 := by
  obtain ⟨a1, b1, c1, e1⟩ := allTo_good (la := la) (lb := lb) false sg la.length la.length g 0 la.length h1 (Nat.le_refl _) (by omega) (by omega) hw ka kb
  exact ⟨a1, b1.mono (by omega), e1⟩
theorem eqG_deep {c r : Nat} {g0 : Gr} (hw : WF g.nodes) (hx : Ext c g0 g) (ka : ∀ x ∈ la, g0.ok x ∧ dp g0 x = 0) (kb : ∀ x ∈ lb, g0.ok x ∧ dp g0 x = 0) (h1 : 1 ≤ la.length) (hl : lb.length = la.length) (hr : la.length ≤ 2 ^ r) : dp (eqG g la lb).1 (eqG g la lb).2 ≤ 2 + r :=
  (allTo_deep true false la.length g0 ka kb la.length g c 0 la.length r h1 (Nat.le_refl _) hr (by omega) (by omega) hw hx).1
theorem lessG_deep {c r : Nat} {g0 : Gr} (hw : WF g.nodes) (hx : Ext c g0 g) (ka : ∀ x ∈ la, g0.ok x ∧ dp g0 x = 0) (kb : ∀ x ∈ lb, g0.ok x ∧ dp g0 x = 0) (h1 : 1 ≤ la.length) (hl : lb.length = la.length) (hr : la.length ≤ 2 ^ r) : dp (lessG sg g la lb).1 (lessG sg g la lb).2 ≤ 2 + 2 * r :=
  (allTo_deep false sg la.length g0 ka kb la.length g c 0 la.length r h1 (Nat.le_refl _) hr (by omega) (by omega) hw hx).2
theorem eqG_lane {inp : List Nat} {t c : Nat} {g0 : Gr} (hi : Words inp) (ht : t < 64) (hw : WF g.nodes) (hx : Ext c g0 g) (ka : ∀ x ∈ la, g0.ok x) (kb : ∀ x ∈ lb, g0.ok x) (h1 : 1 ≤ la.length) (hl : lb.length = la.length) :
    lane1 inp (eqG g la lb).1 t (eqG g la lb).2 = decide (bitN (fun i => lane1 inp g0 t (pickX false la.length la lb i)) 0 la.length = bitN (fun i => lane1 inp g0 t (pickX false la.length lb la i)) 0 la.length) :=
  (allTo_val hi ht true false la.length g0 ka kb la.length g c 0 la.length h1 (Nat.le_refl _) (by omega) (by omega) hw hx).1
theorem lessG_lane {inp : List Nat} {t c : Nat} {g0 : Gr} (hi : Words inp) (ht : t < 64) (hw : WF g.nodes) (hx : Ext c g0 g) (ka : ∀ x ∈ la, g0.ok x) (kb : ∀ x ∈ lb, g0.ok x) (h1 : 1 ≤ la.length) (hl : lb.length = la.length) :
    lane1 inp (lessG sg g la lb).1 t (lessG sg g la lb).2 = decide (bitN (fun i => lane1 inp g0 t (pickX sg la.length la lb i)) 0 la.length < bitN (fun i => lane1 inp g0 t (pickX sg la.length lb la i)) 0 la.length) :=
  (allTo_val hi ht false sg la.length g0 ka kb la.length g c 0 la.length h1 (Nat.le_refl _) (by omega) (by omega) hw hx).2 rfl

/-- what a call of two rows leaves -/
def RowsPost (r : Gr × Nat) (w : World) (p : Nat) (F : List Nat) (n : Nat) (a : Option Addr) (ca : Nat) (la : List Nat) (b : Option Addr) (cb : Nat) (lb : List Nat) (e : Ending) (w' : World) : Prop :=
  ∃ F', e = .returned (.tuple #[.int .u32 (r.2 : Nat), .int .i64 0]) ∧ RowsAt w' p F' r.1 n a ca la b cb lb ∧ Stepped w w' F F'
theorem mostD_one (g : Gr) (x : Nat) : mostD (dpL g.nodes) [x] = dp g x := by unfold mostD dp; simp
theorem dp_bound (g : Gr) (x : Nat) : dp g x ≤ g.nodes.length := dl_le g.nodes x
theorem fresh_rows {o1 o2 : Bool} (hg : GraphAt w p F (freshG o1 o2 (2 * n + 1))) (ho : Own w 34 a n ca (nats .u32 (rowL 1 n))) (ho' : Own w 34 b n cb (nats .u32 (rowL (1 + n) n))) : RowsAt w p F (freshG o1 o2 (2 * n + 1)) n a ca (rowL 1 n) b cb (rowL (1 + n) n) :=
  ⟨hg, ho, ho', fun x hx => by obtain ⟨i, h1, h2⟩ := rowL_mem hx; exact freshG_ok _ _ (by omega), fun x hx => by obtain ⟨i, h1, h2⟩ := rowL_mem hx; exact freshG_ok _ _ (by omega)⟩
theorem fresh_deep (o1 o2 : Bool) (n : Nat) : (∀ x ∈ rowL 1 n, (freshG o1 o2 (2 * n + 1)).ok x ∧ dp (freshG o1 o2 (2 * n + 1)) x = 0) ∧ ∀ x ∈ rowL (1 + n) n, (freshG o1 o2 (2 * n + 1)).ok x ∧ dp (freshG o1 o2 (2 * n + 1)) x = 0 := by
  constructor
  · intro x hx; obtain ⟨i, h1, h2⟩ := rowL_mem hx; subst h2; exact ⟨freshG_ok _ _ (by omega), freshG_dp _ _ _ _ (by omega)⟩
  · intro x hx; obtain ⟨i, h1, h2⟩ := rowL_mem hx; subst h2; exact ⟨freshG_ok _ _ (by omega), freshG_dp _ _ _ _ (by omega)⟩
end Go.Proofs.Ytenhbhckhncamaa
