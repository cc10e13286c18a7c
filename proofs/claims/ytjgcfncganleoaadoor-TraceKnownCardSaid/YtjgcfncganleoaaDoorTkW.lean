/-
  Law 09: TraceKnown: the walk.
-/
import Derived.Test.YtjgcfncganleoaaDoorKnA
import Derived.Test.YtjgcfncganleoaaDoorKnP
import Derived.Test.YtjgcfncganleoaaDoorTpB
import Derived.Test.YtjgcfncganleoaaDoorTrcWk
import Derived.Test.YtjgcfncganleoaaDoorTrcCard
import Derived.Test.YtjgcfncganleoaaDoorTrcN
import Derived.Deep.DeepCutAuto
import Derived.Deep.CutBlock
namespace Go.Proofs.YtjgcfncganleoaaDoor
open Go.ChangeShapes Go.WideShapes Go.ChangeAt Go.RowKit
set_option linter.unusedVariables false
set_option linter.unusedSimpArgs false

variable {w w' w1 W : World}
def BR (w : World) (v : Value) (bs : List (ByteArray × Int)) : Prop := ∃ a c, v = .slice a bs.length c ∧ SlBus w a bs ∧ bs.length ≤ c
def WR1 (w : World) (v : Value) (l : List Nat) : Prop := ∃ a c, v = .slice a l.length c ∧ SlN w .u64 a l ∧ l.length ≤ c
def RR (w : World) (v : Value) (rs : List (List Nat)) : Prop := ∃ a c wl, v = .slice a wl.length c ∧ SlW w a wl ∧ wl.map (·.l) = rs ∧ wl.length ≤ c ∧ ∀ r ∈ wl, r.l.length ≤ r.c
def BTab (w : World) (v : Value) (t : Tb) : Prop := ∃ ba bc ra rc wl, v = .agg #[.slice ba t.bs.length bc, .slice ra t.rs.length rc] ∧ TabV w ba t.bs.length bc ra t.rs.length rc t wl
theorem BR.kept {v : Value} {bs : List (ByteArray × Int)} (h : BR w v bs) (hk : Kept [] w w') : BR w' v bs := by
  obtain ⟨a, c, h1, h2, h3⟩ := h; exact ⟨a, c, h1, h2.kept0 hk, h3⟩
theorem WR1.kept {v : Value} {l : List Nat} (h : WR1 w v l) (hk : Kept [] w w') : WR1 w' v l := by
  obtain ⟨a, c, h1, h2, h3⟩ := h; exact ⟨a, c, h1, h2.kept0 hk, h3⟩
theorem RR.kept {v : Value} {rs : List (List Nat)} (h : RR w v rs) (hk : Kept [] w w') : RR w' v rs := by
  obtain ⟨a, c, wl, h1, h2, h3⟩ := h; exact ⟨a, c, wl, h1, h2.kept0 hk, h3⟩
theorem BTab.kept {v : Value} {t : Tb} (h : BTab w v t) (hk : Kept [] w w') : BTab w' v t := by
  obtain ⟨ba, bc, ra, rc, wl, h1, h2⟩ := h; exact ⟨ba, bc, ra, rc, wl, h1, h2.kept0 hk⟩
theorem BR.tab {v : Value} {bs : List (ByteArray × Int)} (h : BR w v bs) : BTab w (.agg #[v, .slice none 0 0]) ⟨bs, []⟩ := by
  obtain ⟨a, c, rfl, h2, h3⟩ := h
  exact ⟨a, c, none, 0, [], rfl, ⟨rfl, rfl, rfl, h2, fun k hk => absurd hk (by simp), h3, Nat.le_refl _, by simp⟩⟩
theorem BR.tabs {v u : Value} {bs : List (ByteArray × Int)} {rs : List (List Nat)} (h : BR w v bs) (k : RR w u rs) : BTab w (.agg #[v, u]) ⟨bs, rs⟩ := by
  obtain ⟨a, c, rfl, h2, h3⟩ := h
  obtain ⟨b, d, wl, rfl, k2, rfl, k4, k5⟩ := k
  exact ⟨a, c, b, d, wl, by simp, ⟨rfl, by simp, rfl, h2, k2, h3, by simpa using k4, k5⟩⟩
theorem br_one {g : Nat} {nm : ByteArray} {x : Int} {c : Nat} (h : w.heap[g]? = some (.cells #[.string nm, .int .i64 x] 35 (0, 0))) (hc : 1 ≤ c) : BR w (.slice (some ⟨g, 0, none⟩) 1 c) [(nm, x)] :=
  ⟨_, _, rfl, fun k hk => by
    obtain rfl : k = 0 := by simpa using hk
    exact ⟨g, 0, rfl, blk_cell h 0, blk_cell h 1⟩, hc⟩
theorem wr_one {g x c : Nat} (h : w.heap[g]? = some (.cells #[.int .u64 (x : Int)] 27 (0, 0))) (hc : 1 ≤ c) : WR1 w (.slice (some ⟨g, 0, none⟩) 1 c) [x] :=
  ⟨_, _, rfl, fun k hk => by
    obtain rfl : k = 0 := by simpa using hk
    exact ⟨_, rfl, by rw [add_at]; exact blk_cell h 0⟩, hc⟩
theorem rr_one {g c : Nat} {v : Value} {l : List Nat} (h : w.heap[g]? = some (.cells #[v] 33 (0, 0))) (hv : WR1 w v l) (hc : 1 ≤ c) : RR w (.slice (some ⟨g, 0, none⟩) 1 c) [l] := by
  obtain ⟨a, d, rfl, h2, h3⟩ := hv
  exact ⟨_, _, [⟨l, a, d⟩], rfl, fun k hk => by
    obtain rfl : k = 0 := by simpa using hk
    exact ⟨g, 0, rfl, blk_cell h 0, h2⟩, rfl, hc, by simpa using h3⟩
theorem wp_region_props2 {id n : Nat} {Q : Exit → Act → World → Prop} {a0 : Act} {w0 : World} {ops : Array Oper} (hn : a0.tmps.size = n) (hwf : wfOps ops n = true) (Pr : Nat → Value → World → Prop) (hstab : ∀ i v w w', Pr i v w → Kept [] w w' → Pr i v w')
    (hop : ∀ i o, ops[i]? = some o → ∀ (a : Act) (w : World), Kept [] w0 w → (∀ s, s ∉ (List.range ops.size).map (dstOf ops) → a.eval (.tmp s) = a0.eval (.tmp s)) → (∀ e ∈ o.after, Region.binds .any e = true → Pr e.on (a.eval (.tmp (dstOf ops e.on))) w) → ∀ K : Act → World → Prop, (∀ v w', Pr i v w' → Kept [] w w' → K (a.put o.dst v) w') → o.wp Tryd.prog a w K Q)
    (hend : ∀ (vs : Nat → Value) (w' : World), Kept [] w0 w' → (∀ i, i < ops.size → Pr i (vs i) w') → Q .normal (putAll ops vs (List.range ops.size) a0) w') :
    (Code.region id ops true).wp Tryd.prog Q a0 w0 := by
  subst hn; exact wp_region_props hwf Pr hstab hop hend
def TEN (w : World) (v : Value) : Prop := ∃ f g : Nat → Value, (∀ i (h : i < 10), BTab w (.agg #[f i, g i]) (badTs[i]'h)) ∧ v = .agg #[f 0, g 0, f 1, g 1, f 2, g 2, f 3, g 3, f 4, g 4, f 5, g 5, f 6, g 6, f 7, g 7, f 8, g 8, f 9, g 9]
def kp (t1 : Value) (i : Nat) (v : Value) (w : World) : Prop :=
  match i with
  | 0 => BTab w v ⟨[], []⟩
  | 1 => v = .agg #[.string ⟨#[]⟩, .int .i64 1]
  | 2 => BR w v [(⟨#[]⟩, 1)]
  | 3 => BTab w v ⟨[(⟨#[]⟩, 1)], []⟩
  | 4 => v = .agg #[.string ⟨#[97, 32, 98]⟩, .int .i64 1]
  | 5 => BR w v [(⟨#[97, 32, 98]⟩, 1)]
  | 6 => BTab w v ⟨[(⟨#[97, 32, 98]⟩, 1)], []⟩
  | 7 => v = .string nmA
  | 8 => v = .agg #[.string nmA, .int .i64 1]
  | 9 => BR w v [(nmA, 1)]
  | 10 => BTab w v ⟨[(nmA, 1)], []⟩
  | 11 => v = .agg #[.string ⟨#[120]⟩, .int .i64 65]
  | 12 => BR w v [(⟨#[120]⟩, 65)]
  | 13 => BTab w v ⟨[(⟨#[120]⟩, 65)], []⟩
  | 14 => v = .agg #[.string ⟨#[120]⟩, .int .i64 0]
  | 15 => BR w v [(⟨#[120]⟩, 0)]
  | 16 => BTab w v ⟨[(⟨#[120]⟩, 0)], []⟩
  | 17 => v = t1
  | 18 => v = t1
  | 19 => BR w v [(⟨#[120]⟩, 4), (⟨#[120]⟩, 4)]
  | 20 => BTab w v ⟨[(⟨#[120]⟩, 4), (⟨#[120]⟩, 4)], []⟩
  | 21 => v = t1
  | 22 => WR1 w v [16]
  | 23 => RR w v [[16]]
  | 24 => BTab w v ⟨[(⟨#[120]⟩, 4)], [[16]]⟩
  | 25 => v = t1
  | 26 => WR1 w v []
  | 27 => RR w v [[]]
  | 28 => BTab w v ⟨[(⟨#[120]⟩, 4)], [[]]⟩
  | 29 => v = t1
  | 30 => RR w v [[]]
  | 31 => BTab w v ⟨[(⟨#[120]⟩, 4)], [[]]⟩
  | 32 => TEN w v
  | 33 => v = .int .i64 0
  | _ => True
theorem kp_stab (t1 : Value) : ∀ i v w w', kp t1 i v w → Kept [] w w' → kp t1 i v w' := by
  intro i v w w' h hk
  match i with
  | 0 => exact BTab.kept h hk
  | 1 => exact h
  | 2 => exact BR.kept h hk
  | 3 => exact BTab.kept h hk
  | 4 => exact h
  | 5 => exact BR.kept h hk
  | 6 => exact BTab.kept h hk
  | 7 => exact h
  | 8 => exact h
  | 9 => exact BR.kept h hk
  | 10 => exact BTab.kept h hk
  | 11 => exact h
  | 12 => exact BR.kept h hk
  | 13 => exact BTab.kept h hk
  | 14 => exact h
  | 15 => exact BR.kept h hk
  | 16 => exact BTab.kept h hk
  | 17 => exact h
  | 18 => exact h
  | 19 => exact BR.kept h hk
  | 20 => exact BTab.kept h hk
  | 21 => exact h
  | 22 => exact WR1.kept h hk
  | 23 => exact RR.kept h hk
  | 24 => exact BTab.kept h hk
  | 25 => exact h
  | 26 => exact WR1.kept h hk
  | 27 => exact RR.kept h hk
  | 28 => exact BTab.kept h hk
  | 29 => exact h
  | 30 => exact RR.kept h hk
  | 31 => exact BTab.kept h hk
  | 32 =>
    obtain ⟨f, g, h1, hv⟩ := h
    exact ⟨f, g, fun i hi => (h1 i hi).kept hk, hv⟩
  | 33 => exact h
  | _ + 34 => trivial
theorem TEN.of {f0 g0 : Value} {f1 g1 : Value} {f2 g2 : Value} {f3 g3 : Value} {f4 g4 : Value} {f5 g5 : Value} {f6 g6 : Value} {f7 g7 : Value} {f8 g8 : Value} {f9 g9 : Value} (h0 : BTab w (.agg #[f0, g0]) ⟨[], []⟩) (h1 : BTab w (.agg #[f1, g1]) ⟨[(⟨#[]⟩, 1)], []⟩) (h2 : BTab w (.agg #[f2, g2]) ⟨[(⟨#[97, 32, 98]⟩, 1)], []⟩) (h3 : BTab w (.agg #[f3, g3]) ⟨[(nmA, 1)], []⟩) (h4 : BTab w (.agg #[f4, g4]) ⟨[(⟨#[120]⟩, 65)], []⟩) (h5 : BTab w (.agg #[f5, g5]) ⟨[(⟨#[120]⟩, 0)], []⟩) (h6 : BTab w (.agg #[f6, g6]) ⟨[(⟨#[120]⟩, 4), (⟨#[120]⟩, 4)], []⟩) (h7 : BTab w (.agg #[f7, g7]) ⟨[(⟨#[120]⟩, 4)], [[16]]⟩) (h8 : BTab w (.agg #[f8, g8]) ⟨[(⟨#[120]⟩, 4)], [[]]⟩) (h9 : BTab w (.agg #[f9, g9]) ⟨[(⟨#[120]⟩, 4)], [[]]⟩) : TEN w (.agg #[f0, g0, f1, g1, f2, g2, f3, g3, f4, g4, f5, g5, f6, g6, f7, g7, f8, g8, f9, g9])  :=
  ⟨fun i => [f0, f1, f2, f3, f4, f5, f6, f7, f8, f9].getD i undef, fun i => [g0, g1, g2, g3, g4, g5, g6, g7, g8, g9].getD i undef, fun i hi => by
    match i, hi with
    | 0, _ => exact h0
    | 1, _ => exact h1
    | 2, _ => exact h2
    | 3, _ => exact h3
    | 4, _ => exact h4
    | 5, _ => exact h5
    | 6, _ => exact h6
    | 7, _ => exact h7
    | 8, _ => exact h8
    | 9, _ => exact h9
    | i + 10, hi => exact absurd hi (by omega), rfl⟩
theorem BTab.parts {v : Value} {t : Tb} (h : BTab w v t) : ∃ ba bc ra rc, v = .agg #[.slice ba t.bs.length bc, .slice ra t.rs.length rc] := by
  obtain ⟨ba, bc, ra, rc, wl, h1, h2⟩ := h
  exact ⟨ba, bc, ra, rc, h1⟩
set_option maxHeartbeats 6400000 in
set_option maxRecDepth 100000 in
theorem tk_c (W : World) (hg : W.cell? ⟨3, 15, none⟩ = some (.int .u8 4)) : Calls Tryd.prog 8 #[] W (BoolIs true W) := by
  have HG := Lib.hid hg
  clear hg
  go_enter Tryd.func8, Tryd.ntmps8; (try simp only [List.append])
  go_upto_region 2 with (fail)
  obtain ⟨w1, hw1⟩ : ∃ V, V = W.alloc (.cells #[.string ⟨#[120]⟩, .int .i64 4] 35) := ⟨_, rfl⟩
  obtain ⟨g, hgp⟩ : ∃ q, q = W.heap.size := ⟨_, rfl⟩
  have K1 := Lib.hid (show Kept [] W w1 from by rw [hw1]; exact (Kept.refl [] W).alloc _)
  have B1 := Lib.hid (show BR w1 (.slice (some ⟨g, 0, none⟩) 1 1) [(⟨#[120]⟩, 4)] from by
    rw [hw1, hgp]
    exact br_one (heap_alloc_new W _) (Nat.le_refl _))
  try rw [← hgp]
  try rw [← hw1]
  clear hw1 hgp
  go_wp2_with fail
  refine wp_region_props2 (n := 196) (by rfl) (by kernel_rfl) (kp (.slice (some ⟨g, 0, none⟩) 1 1)) (kp_stab _) ?_ ?_
  · intro i o ho a w hk hot hdep K hK
    have e1 : a.eval (.tmp 1) = .slice (some ⟨g, 0, none⟩) 1 1 := (hot 1 (by decide)).trans (by rfl)
    have b1 : BR w (.slice (some ⟨g, 0, none⟩) 1 1) [(⟨#[120]⟩, 4)] := B1.out.kept hk
    clear hot
    match i, ho with
    | 0, ho =>
      simp only [List.getElem?_toArray, List.getElem?_cons_zero, List.getElem?_cons_succ, Option.some.injEq] at ho
      subst ho
      clear hdep
      exact ko_tab0 (hK _ _ (show BTab w _ _ from BR.tab ⟨none, 0, rfl, fun k hk => absurd hk (by simp), Nat.le_refl _⟩) (Kept.refl [] w))
    | 1, ho =>
      simp only [List.getElem?_toArray, List.getElem?_cons_zero, List.getElem?_cons_succ, Option.some.injEq] at ho
      subst ho
      clear hdep
      exact ko_bus (hK _ _ rfl (Kept.refl [] w))
    | 2, ho =>
      simp only [List.getElem?_toArray, List.getElem?_cons_zero, List.getElem?_cons_succ, Option.some.injEq] at ho
      subst ho
      have d1 : a.eval (.tmp 31) = .agg #[.string ⟨#[]⟩, .int .i64 1] := hdep ⟨1, .data⟩ (by simp) (by rfl)
      clear hdep
      exact ko_bs d1 (hK _ _ (br_one (heap_alloc_new w _) (Nat.le_refl _)) ((Kept.refl [] w).alloc _))
    | 3, ho =>
      simp only [List.getElem?_toArray, List.getElem?_cons_zero, List.getElem?_cons_succ, Option.some.injEq] at ho
      subst ho
      have d2 : BR w (a.eval (.tmp 32)) [(⟨#[]⟩, 1)] := hdep ⟨2, .data⟩ (by simp) (by rfl)
      clear hdep
      obtain ⟨p, c, e, hb, hc⟩ := d2
      exact ko_tab1 e (hK _ _ (BR.tab ⟨p, c, rfl, hb, hc⟩) (Kept.refl [] w))
    | 4, ho =>
      simp only [List.getElem?_toArray, List.getElem?_cons_zero, List.getElem?_cons_succ, Option.some.injEq] at ho
      subst ho
      clear hdep
      exact ko_bus (hK _ _ rfl (Kept.refl [] w))
    | 5, ho =>
      simp only [List.getElem?_toArray, List.getElem?_cons_zero, List.getElem?_cons_succ, Option.some.injEq] at ho
      subst ho
      have d4 : a.eval (.tmp 34) = .agg #[.string ⟨#[97, 32, 98]⟩, .int .i64 1] := hdep ⟨4, .data⟩ (by simp) (by rfl)
      clear hdep
      exact ko_bs d4 (hK _ _ (br_one (heap_alloc_new w _) (Nat.le_refl _)) ((Kept.refl [] w).alloc _))
    | 6, ho =>
      simp only [List.getElem?_toArray, List.getElem?_cons_zero, List.getElem?_cons_succ, Option.some.injEq] at ho
      subst ho
      have d5 : BR w (a.eval (.tmp 35)) [(⟨#[97, 32, 98]⟩, 1)] := hdep ⟨5, .data⟩ (by simp) (by rfl)
      clear hdep
      obtain ⟨p, c, e, hb, hc⟩ := d5
      exact ko_tab1 e (hK _ _ (BR.tab ⟨p, c, rfl, hb, hc⟩) (Kept.refl [] w))
    | 7, ho =>
      simp only [List.getElem?_toArray, List.getElem?_cons_zero, List.getElem?_cons_succ, Option.some.injEq] at ho
      subst ho
      clear hdep
      exact ko_rep fun w' hb => hK _ _ rfl (Kept.of_below hb)
    | 8, ho =>
      simp only [List.getElem?_toArray, List.getElem?_cons_zero, List.getElem?_cons_succ, Option.some.injEq] at ho
      subst ho
      have d7 : a.eval (.tmp 37) = .string nmA := hdep ⟨7, .data⟩ (by simp) (by rfl)
      clear hdep
      exact ko_busT d7 (hK _ _ rfl (Kept.refl [] w))
    | 9, ho =>
      simp only [List.getElem?_toArray, List.getElem?_cons_zero, List.getElem?_cons_succ, Option.some.injEq] at ho
      subst ho
      have d8 : a.eval (.tmp 38) = .agg #[.string nmA, .int .i64 1] := hdep ⟨8, .data⟩ (by simp) (by rfl)
      clear hdep
      exact ko_bs d8 (hK _ _ (br_one (heap_alloc_new w _) (Nat.le_refl _)) ((Kept.refl [] w).alloc _))
    | 10, ho =>
      simp only [List.getElem?_toArray, List.getElem?_cons_zero, List.getElem?_cons_succ, Option.some.injEq] at ho
      subst ho
      have d9 : BR w (a.eval (.tmp 39)) [(nmA, 1)] := hdep ⟨9, .data⟩ (by simp) (by rfl)
      clear hdep
      obtain ⟨p, c, e, hb, hc⟩ := d9
      exact ko_tab1 e (hK _ _ (BR.tab ⟨p, c, rfl, hb, hc⟩) (Kept.refl [] w))
    | 11, ho =>
      simp only [List.getElem?_toArray, List.getElem?_cons_zero, List.getElem?_cons_succ, Option.some.injEq] at ho
      subst ho
      clear hdep
      exact ko_bus (hK _ _ rfl (Kept.refl [] w))
    | 12, ho =>
      simp only [List.getElem?_toArray, List.getElem?_cons_zero, List.getElem?_cons_succ, Option.some.injEq] at ho
      subst ho
      have d11 : a.eval (.tmp 41) = .agg #[.string ⟨#[120]⟩, .int .i64 65] := hdep ⟨11, .data⟩ (by simp) (by rfl)
      clear hdep
      exact ko_bs d11 (hK _ _ (br_one (heap_alloc_new w _) (Nat.le_refl _)) ((Kept.refl [] w).alloc _))
    | 13, ho =>
      simp only [List.getElem?_toArray, List.getElem?_cons_zero, List.getElem?_cons_succ, Option.some.injEq] at ho
      subst ho
      have d12 : BR w (a.eval (.tmp 42)) [(⟨#[120]⟩, 65)] := hdep ⟨12, .data⟩ (by simp) (by rfl)
      clear hdep
      obtain ⟨p, c, e, hb, hc⟩ := d12
      exact ko_tab1 e (hK _ _ (BR.tab ⟨p, c, rfl, hb, hc⟩) (Kept.refl [] w))
    | 14, ho =>
      simp only [List.getElem?_toArray, List.getElem?_cons_zero, List.getElem?_cons_succ, Option.some.injEq] at ho
      subst ho
      clear hdep
      exact ko_bus0 (hK _ _ rfl (Kept.refl [] w))
    | 15, ho =>
      simp only [List.getElem?_toArray, List.getElem?_cons_zero, List.getElem?_cons_succ, Option.some.injEq] at ho
      subst ho
      have d14 : a.eval (.tmp 44) = .agg #[.string ⟨#[120]⟩, .int .i64 0] := hdep ⟨14, .data⟩ (by simp) (by rfl)
      clear hdep
      exact ko_bs d14 (hK _ _ (br_one (heap_alloc_new w _) (Nat.le_refl _)) ((Kept.refl [] w).alloc _))
    | 16, ho =>
      simp only [List.getElem?_toArray, List.getElem?_cons_zero, List.getElem?_cons_succ, Option.some.injEq] at ho
      subst ho
      have d15 : BR w (a.eval (.tmp 45)) [(⟨#[120]⟩, 0)] := hdep ⟨15, .data⟩ (by simp) (by rfl)
      clear hdep
      obtain ⟨p, c, e, hb, hc⟩ := d15
      exact ko_tab1 e (hK _ _ (BR.tab ⟨p, c, rfl, hb, hc⟩) (Kept.refl [] w))
    | 17, ho =>
      simp only [List.getElem?_toArray, List.getElem?_cons_zero, List.getElem?_cons_succ, Option.some.injEq] at ho
      subst ho
      clear hdep
      exact ko_mv e1 (hK _ _ rfl (Kept.refl [] w))
    | 18, ho =>
      simp only [List.getElem?_toArray, List.getElem?_cons_zero, List.getElem?_cons_succ, Option.some.injEq] at ho
      subst ho
      clear hdep
      exact ko_mv e1 (hK _ _ rfl (Kept.refl [] w))
    | 19, ho =>
      simp only [List.getElem?_toArray, List.getElem?_cons_zero, List.getElem?_cons_succ, Option.some.injEq] at ho
      subst ho
      have d17 : a.eval (.tmp 47) = .slice (some ⟨g, 0, none⟩) 1 1 := hdep ⟨17, .data⟩ (by simp) (by rfl)
      have d18 : a.eval (.tmp 48) = .slice (some ⟨g, 0, none⟩) 1 1 := hdep ⟨18, .data⟩ (by simp) (by rfl)
      clear hdep
      obtain ⟨p, c, e, hb, hc⟩ := b1
      injection e with e
      subst e
      exact ko_app d17 d18 hb fun p c w' h1 h2 h3 => hK _ _ ⟨p, c, rfl, h1, h2⟩ h3
    | 20, ho =>
      simp only [List.getElem?_toArray, List.getElem?_cons_zero, List.getElem?_cons_succ, Option.some.injEq] at ho
      subst ho
      have d19 : BR w (a.eval (.tmp 49)) [(⟨#[120]⟩, 4), (⟨#[120]⟩, 4)] := hdep ⟨19, .data⟩ (by simp) (by rfl)
      clear hdep
      obtain ⟨p, c, e, hb, hc⟩ := d19
      exact ko_tab1 e (hK _ _ (BR.tab ⟨p, c, rfl, hb, hc⟩) (Kept.refl [] w))
    | 21, ho =>
      simp only [List.getElem?_toArray, List.getElem?_cons_zero, List.getElem?_cons_succ, Option.some.injEq] at ho
      subst ho
      clear hdep
      exact ko_mv e1 (hK _ _ rfl (Kept.refl [] w))
    | 22, ho =>
      simp only [List.getElem?_toArray, List.getElem?_cons_zero, List.getElem?_cons_succ, Option.some.injEq] at ho
      subst ho
      clear hdep
      exact ko_ws (hK _ _ (wr_one (x := 16) (heap_alloc_new w _) (Nat.le_refl _)) ((Kept.refl [] w).alloc _))
    | 23, ho =>
      simp only [List.getElem?_toArray, List.getElem?_cons_zero, List.getElem?_cons_succ, Option.some.injEq] at ho
      subst ho
      have d22 : WR1 w (a.eval (.tmp 52)) [16] := hdep ⟨22, .data⟩ (by simp) (by rfl)
      clear hdep
      obtain ⟨p, c, e, hb, hc⟩ := d22
      exact ko_rs e (hK _ _ (rr_one (heap_alloc_new w _) (WR1.kept ⟨p, c, rfl, hb, hc⟩ ((Kept.refl [] w).alloc _)) (Nat.le_refl _)) ((Kept.refl [] w).alloc _))
    | 24, ho =>
      simp only [List.getElem?_toArray, List.getElem?_cons_zero, List.getElem?_cons_succ, Option.some.injEq] at ho
      subst ho
      have d21 : a.eval (.tmp 51) = .slice (some ⟨g, 0, none⟩) 1 1 := hdep ⟨21, .data⟩ (by simp) (by rfl)
      have d23 : RR w (a.eval (.tmp 53)) [[16]] := hdep ⟨23, .data⟩ (by simp) (by rfl)
      clear hdep
      obtain ⟨p, c, wl, e, hb, hm, hc, hr⟩ := d23
      exact ko_tab2 d21 e (hK _ _ (BR.tabs b1 ⟨p, c, wl, rfl, hb, hm, hc, hr⟩) (Kept.refl [] w))
    | 25, ho =>
      simp only [List.getElem?_toArray, List.getElem?_cons_zero, List.getElem?_cons_succ, Option.some.injEq] at ho
      subst ho
      clear hdep
      exact ko_mv e1 (hK _ _ rfl (Kept.refl [] w))
    | 26, ho =>
      simp only [List.getElem?_toArray, List.getElem?_cons_zero, List.getElem?_cons_succ, Option.some.injEq] at ho
      subst ho
      clear hdep
      exact ko_ws0 (hK _ _ ⟨_, _, rfl, fun k hk => absurd hk (by simp), Nat.le_refl _⟩ ((Kept.refl [] w).alloc _))
    | 27, ho =>
      simp only [List.getElem?_toArray, List.getElem?_cons_zero, List.getElem?_cons_succ, Option.some.injEq] at ho
      subst ho
      have d26 : WR1 w (a.eval (.tmp 56)) [] := hdep ⟨26, .data⟩ (by simp) (by rfl)
      clear hdep
      obtain ⟨p, c, e, hb, hc⟩ := d26
      exact ko_rs e (hK _ _ (rr_one (heap_alloc_new w _) (WR1.kept ⟨p, c, rfl, hb, hc⟩ ((Kept.refl [] w).alloc _)) (Nat.le_refl _)) ((Kept.refl [] w).alloc _))
    | 28, ho =>
      simp only [List.getElem?_toArray, List.getElem?_cons_zero, List.getElem?_cons_succ, Option.some.injEq] at ho
      subst ho
      have d25 : a.eval (.tmp 55) = .slice (some ⟨g, 0, none⟩) 1 1 := hdep ⟨25, .data⟩ (by simp) (by rfl)
      have d27 : RR w (a.eval (.tmp 57)) [[]] := hdep ⟨27, .data⟩ (by simp) (by rfl)
      clear hdep
      obtain ⟨p, c, wl, e, hb, hm, hc, hr⟩ := d27
      exact ko_tab2 d25 e (hK _ _ (BR.tabs b1 ⟨p, c, wl, rfl, hb, hm, hc, hr⟩) (Kept.refl [] w))
    | 29, ho =>
      simp only [List.getElem?_toArray, List.getElem?_cons_zero, List.getElem?_cons_succ, Option.some.injEq] at ho
      subst ho
      clear hdep
      exact ko_mv e1 (hK _ _ rfl (Kept.refl [] w))
    | 30, ho =>
      simp only [List.getElem?_toArray, List.getElem?_cons_zero, List.getElem?_cons_succ, Option.some.injEq] at ho
      subst ho
      clear hdep
      exact ko_mk (hK _ _ (rr_one (heap_alloc_new w _) ⟨none, 0, rfl, fun k hk => absurd hk (by simp), Nat.le_refl _⟩ (Nat.le_refl _)) ((Kept.refl [] w).alloc _))
    | 31, ho =>
      simp only [List.getElem?_toArray, List.getElem?_cons_zero, List.getElem?_cons_succ, Option.some.injEq] at ho
      subst ho
      have d29 : a.eval (.tmp 59) = .slice (some ⟨g, 0, none⟩) 1 1 := hdep ⟨29, .data⟩ (by simp) (by rfl)
      have d30 : RR w (a.eval (.tmp 60)) [[]] := hdep ⟨30, .data⟩ (by simp) (by rfl)
      clear hdep
      obtain ⟨p, c, wl, e, hb, hm, hc, hr⟩ := d30
      exact ko_tab2 d29 e (hK _ _ (BR.tabs b1 ⟨p, c, wl, rfl, hb, hm, hc, hr⟩) (Kept.refl [] w))
    | 32, ho =>
      simp only [List.getElem?_toArray, List.getElem?_cons_zero, List.getElem?_cons_succ, Option.some.injEq] at ho
      subst ho
      have d0 : BTab w (a.eval (.tmp 30)) ⟨[], []⟩ := hdep ⟨0, .data⟩ (by simp) (by rfl)
      have d3 : BTab w (a.eval (.tmp 33)) ⟨[(⟨#[]⟩, 1)], []⟩ := hdep ⟨3, .data⟩ (by simp) (by rfl)
      have d6 : BTab w (a.eval (.tmp 36)) ⟨[(⟨#[97, 32, 98]⟩, 1)], []⟩ := hdep ⟨6, .data⟩ (by simp) (by rfl)
      have d10 : BTab w (a.eval (.tmp 40)) ⟨[(nmA, 1)], []⟩ := hdep ⟨10, .data⟩ (by simp) (by rfl)
      have d13 : BTab w (a.eval (.tmp 43)) ⟨[(⟨#[120]⟩, 65)], []⟩ := hdep ⟨13, .data⟩ (by simp) (by rfl)
      have d16 : BTab w (a.eval (.tmp 46)) ⟨[(⟨#[120]⟩, 0)], []⟩ := hdep ⟨16, .data⟩ (by simp) (by rfl)
      have d20 : BTab w (a.eval (.tmp 50)) ⟨[(⟨#[120]⟩, 4), (⟨#[120]⟩, 4)], []⟩ := hdep ⟨20, .data⟩ (by simp) (by rfl)
      have d24 : BTab w (a.eval (.tmp 54)) ⟨[(⟨#[120]⟩, 4)], [[16]]⟩ := hdep ⟨24, .data⟩ (by simp) (by rfl)
      have d28 : BTab w (a.eval (.tmp 58)) ⟨[(⟨#[120]⟩, 4)], [[]]⟩ := hdep ⟨28, .data⟩ (by simp) (by rfl)
      have d31 : BTab w (a.eval (.tmp 61)) ⟨[(⟨#[120]⟩, 4)], [[]]⟩ := hdep ⟨31, .data⟩ (by simp) (by rfl)
      clear hdep
      obtain ⟨p0, c0, q0, e0, x0⟩ := d0.parts
      rw [x0] at d0
      obtain ⟨p1, c1, q1, e1, x1⟩ := d3.parts
      rw [x1] at d3
      obtain ⟨p2, c2, q2, e2, x2⟩ := d6.parts
      rw [x2] at d6
      obtain ⟨p3, c3, q3, e3, x3⟩ := d10.parts
      rw [x3] at d10
      obtain ⟨p4, c4, q4, e4, x4⟩ := d13.parts
      rw [x4] at d13
      obtain ⟨p5, c5, q5, e5, x5⟩ := d16.parts
      rw [x5] at d16
      obtain ⟨p6, c6, q6, e6, x6⟩ := d20.parts
      rw [x6] at d20
      obtain ⟨p7, c7, q7, e7, x7⟩ := d24.parts
      rw [x7] at d24
      obtain ⟨p8, c8, q8, e8, x8⟩ := d28.parts
      rw [x8] at d28
      obtain ⟨p9, c9, q9, e9, x9⟩ := d31.parts
      rw [x9] at d31
      exact ko_ten x0 x1 x2 x3 x4 x5 x6 x7 x8 x9 (hK _ _ (TEN.of d0 d3 d6 d10 d13 d16 d20 d24 d28 d31) (Kept.refl [] w))
    | 33, ho =>
      simp only [List.getElem?_toArray, List.getElem?_cons_zero, List.getElem?_cons_succ, Option.some.injEq] at ho
      subst ho
      clear hdep
      exact ko_mvc (hK _ _ rfl (Kept.refl [] w))
    | i + 34, ho => simp at ho
  · intro vs w2 hk2 hp
    obtain ⟨ff, gg, hten, htv⟩ := hp 32 (by decide)
    have hzv := hp 33 (by decide)
    simp only [kp] at hzv
    have K2 := Lib.hid hk2
    have HT := Lib.hid hten
    have HTV := Lib.hid htv
    clear hten htv hk2
    simp only [putAll, List.size_toArray, List.length_cons, List.length_nil, Nat.zero_add, Nat.reduceAdd, List.range, List.range.loop, List.foldl_cons, List.foldl_nil, dstOf, List.getElem?_toArray, List.getElem?_cons_zero, List.getElem?_cons_succ, Option.bind_some, Option.getD_some]
    go_simp
    clear hzv hp
    have HGG := Lib.hid (fun (V : World) (hV : Kept [] w2 V) => show V.cell? ⟨3, 15, none⟩ = some (.int .u8 4) from (K1.out.trans (K2.out.trans hV)).cell HG.out (by simp))
    go_wp2_with fail
    go_loopw [63] (fun i wr => ∃ k : Nat, k ≤ 10 ∧ i = .int .i64 k ∧ Kept [] w2 wr) (fun i _ => 10 - (intOf i).toNat)
    case atStart => exact ⟨0, by omega, rfl, Kept.refl _ _⟩
    case round =>
      obtain ⟨k, hk, rfl, hkr⟩ := hrel
      have KR := Lib.hid hkr
      clear hkr
      by_cases hlt : k < 10
      · obtain ⟨ba, bc, ra, rc, wl, hv, htab⟩ := (HT.out k hlt).kept KR.out
        injection hv with hv
        injection hv with hv
        injection hv with hv1 hv
        injection hv with hv2 hv
        have HIX := Lib.hid (show ∀ w, (Instr.index 75 (vs 32) (.int .i64 (k : Int))).run Tryd.prog w = .ok (.agg #[ff k, gg k]) w from fun w => by
          rw [HTV.out]
          exact ix10 k hlt w)
        rw [hv1, hv2] at HIX
        have HMAY := Lib.hid (bad_may k hlt)
        have HOK := Lib.hid (bad_ok k hlt)
        generalize badTs[k] = T at *
        have HTB := Lib.hid htab
        clear htab hv1 hv2 hv
        have hix := HIX.out
        go_wp2_with fail
        refine (put_c _ (HTB.out.kept0 ((Kept.refl [] _).alloc _)) HOK.out (HGG.out _ (KR.out.alloc _))).mono ?_
        rintro e u1 (⟨_, rfl, k1⟩ | ⟨h, _⟩)
        case inr => rw [HMAY.out] at h; exact absurd h (by simp)
        have c0 : u1.cell? ⟨wr.heap.size, 0, none⟩ = some (.slice ba T.bs.length bc) := k1.cell (blk_cell (heap_alloc_new wr _) 0) (by simp)
        have c1 : u1.cell? ⟨wr.heap.size, 1, none⟩ = some (.slice ra T.rs.length rc) := k1.cell (blk_cell (heap_alloc_new wr _) 1) (by simp)
        have KU := Lib.hid (KR.out.trans (((Kept.refl [] wr).alloc _).trans k1))
        have HTU := Lib.hid (HTB.out.kept0 (((Kept.refl [] wr).alloc _).trans k1))
        clear k1
        go_wp2_with fail
        have hm := may_c HTU.out HOK.out
        rw [HMAY.out] at hm
        refine hm.mono ?_
        clear hm
        rintro e u2 ⟨rfl, k2⟩
        have KV := Lib.hid (KU.out.trans k2)
        clear k2
        go_wp2_with fail
        go_roundw
        case rel => exact ⟨k + 1, by omega, by go_num, KV.out⟩
        case measure => simp [intOf]; omega
      · obtain rfl : k = 10 := by omega
        rw [show ((10 : Nat) : Int) = 10 from rfl]
        clear hk hlt
        obtain ⟨w3, rfl⟩ : ∃ v : World, v = wr := ⟨_, rfl⟩
        have K3 := KR
        clear KR
        go_wp2_with fail
        obtain ⟨s8, hs8⟩ : ∃ v, v = Value.agg #[.string ⟨#[]⟩, .string ⟨#[120]⟩, .string ⟨#[120, 58]⟩, .string ⟨#[120, 58, 54]⟩, .string ⟨#[120, 58, 56, 32]⟩, .string ⟨#[120, 58, 56, 10, 49]⟩, .string ⟨#[120, 58, 56, 32, 121, 58, 49, 10, 49, 32]⟩, .string ⟨#[120, 58, 56, 32, 120]⟩] := ⟨_, rfl⟩
        rw [← hs8]
        have Hs8 := Lib.hid hs8
        clear hs8
        go_loopw [79] (fun i wr => ∃ k : Nat, k ≤ 8 ∧ i = .int .i64 k ∧ Kept [] w3 wr) (fun i _ => 8 - (intOf i).toNat)
        case atStart => exact ⟨0, by omega, rfl, Kept.refl _ _⟩
        case round =>
          obtain ⟨k, hk, rfl, hkr⟩ := hrel
          have KR := Lib.hid hkr
          clear hkr
          by_cases hlt : k < 8
          · have HIX := Lib.hid (show ∀ w, (Instr.index 76 s8 (.int .i64 (k : Int))).run Tryd.prog w = .ok (.string (shortS[k]'hlt)) w from fun w => by
              rw [Hs8.out]
              exact ix8 k hlt w)
            have HGT := Lib.hid (shortS_get k hlt)
            generalize shortS[k] = s at *
            have hix := HIX.out
            obtain ⟨cc, V, hcv, htx, hkv, hsz⟩ := conv_txt wr s
            have HTX := Lib.hid htx
            have KV := Lib.hid (KR.out.trans hkv)
            have hgc := get_c V htx
            rw [HGT.out] at hgc
            have HGC := Lib.hid (show Calls Tryd.prog 29 #[.slice (some ⟨wr.heap.size, 0, none⟩) s.size cc] V (GetPost (.error 4) V) from hgc)
            clear hgc htx hkv hsz
            go_wp2_with fail
            refine HGC.out.mono ?_
            rintro e u1 ⟨rfl, k1⟩
            have KU := Lib.hid (KV.out.trans k1)
            clear k1
            go_wp2_with fail
            go_roundw
            case rel => exact ⟨k + 1, by omega, by go_num, KU.out.alloc _⟩
            case measure => simp [intOf]; omega
          · obtain rfl : k = 8 := by omega
            rw [show ((8 : Nat) : Int) = 8 from rfl]
            have Ks8 := KR
            clear hk hlt
            obtain ⟨ws8, rfl⟩ : ∃ v : World, v = wr := ⟨_, rfl⟩
            go_wp2_with fail
            obtain ⟨s14, hs14⟩ : ∃ v, v = Value.agg #[.string ⟨#[10]⟩, .string ⟨#[58, 49]⟩, .string ⟨#[120, 58, 48]⟩, .string ⟨#[120, 58, 54, 53]⟩, .string ⟨#[120, 58, 48, 56]⟩, .string ⟨#[120, 32, 56]⟩, .string ⟨#[120, 58, 56, 32, 32]⟩, .string ⟨#[120, 58, 56, 10, 10]⟩, .string ⟨#[120, 58, 56, 10, 49, 48, 48]⟩, .string ⟨#[120, 58, 56, 10, 49, 32]⟩, .string ⟨#[120, 58, 56, 32, 121, 58, 49, 10, 49, 10]⟩, .string ⟨#[120, 58, 56, 32, 120, 58]⟩, .string ⟨#[120, 58, 56, 10, 65]⟩, .string ⟨#[120, 58, 56, 13]⟩] := ⟨_, rfl⟩
            rw [← hs14]
            have Hs14 := Lib.hid hs14
            clear hs14
            go_loopw [92] (fun i wr => ∃ k : Nat, k ≤ 14 ∧ i = .int .i64 k ∧ Kept [] ws8 wr) (fun i _ => 14 - (intOf i).toNat)
            case atStart => exact ⟨0, by omega, rfl, Kept.refl _ _⟩
            case round =>
              obtain ⟨k, hk, rfl, hkr⟩ := hrel
              have KR := Lib.hid hkr
              clear hkr
              by_cases hlt : k < 14
              · have HIX := Lib.hid (show ∀ w, (Instr.index 77 s14 (.int .i64 (k : Int))).run Tryd.prog w = .ok (.string (formS[k]'hlt)) w from fun w => by
                  rw [Hs14.out]
                  exact ix14 k hlt w)
                have HGT := Lib.hid (formS_get k hlt)
                generalize formS[k] = s at *
                have hix := HIX.out
                obtain ⟨cc, V, hcv, htx, hkv, hsz⟩ := conv_txt wr s
                have HTX := Lib.hid htx
                have KV := Lib.hid (KR.out.trans hkv)
                have hgc := get_c V htx
                rw [HGT.out] at hgc
                have HGC := Lib.hid (show Calls Tryd.prog 29 #[.slice (some ⟨wr.heap.size, 0, none⟩) s.size cc] V (GetPost (.error 5) V) from hgc)
                clear hgc htx hkv hsz
                go_wp2_with fail
                refine HGC.out.mono ?_
                rintro e u1 ⟨rfl, k1⟩
                have KU := Lib.hid (KV.out.trans k1)
                clear k1
                go_wp2_with fail
                go_roundw
                case rel => exact ⟨k + 1, by omega, by go_num, KU.out.alloc _⟩
                case measure => simp [intOf]; omega
              · obtain rfl : k = 14 := by omega
                rw [show ((14 : Nat) : Int) = 14 from rfl]
                have Ks14 := KR
                clear hk hlt
                obtain ⟨ws14, rfl⟩ : ∃ v : World, v = wr := ⟨_, rfl⟩
                have hcvb := cv_bytes ws14
                go_wp2_with fail
                have hgx := get_c _ (txt_four ws14)
                rw [getX] at hgx
                refine hgx.mono ?_
                rintro e u1 ⟨ba, bc, ra, rn, rc, wl, rfl, htn, k1, -⟩
                clear hgx hcvb
                obtain rfl : wl = [] := List.map_eq_nil_iff.1 htn.rm
                obtain rfl : rn = 0 := htn.tabV.rl.symm
                rw [show tX.bs.length = 1 from rfl] at htn ⊢
                obtain ⟨p, hp⟩ : ∃ p, p = u1.heap.size := ⟨_, rfl⟩
                obtain ⟨u2, hu2⟩ : ∃ V, V = u1.alloc (.cells #[.slice ba 1 bc, .slice ra 0 rc] 25) := ⟨_, rfl⟩
                have KA := Lib.hid (show Kept [] w2 u2 from by rw [hu2]; exact (K3.out.trans (Ks8.out.trans (Ks14.out.trans (((Kept.refl [] ws14).alloc _).trans k1)))).alloc _)
                have HP := Lib.hid (fun (V : World) (hV : Kept [] u2 V) => show V.cell? ⟨p, 0, none⟩ = some (.slice ba 1 bc) ∧ V.cell? ⟨p, 1, none⟩ = some (.slice ra 0 rc) from by
                  have hb := heap_alloc_new u1 (.cells #[.slice ba 1 bc, .slice ra 0 rc] 25)
                  rw [← hu2, ← hp] at hb
                  exact ⟨hV.cell (blk_cell hb 0) (by simp), hV.cell (blk_cell hb 1) (by simp)⟩)
                have HX := Lib.hid (fun (V : World) (hV : Kept [] u2 V) => show TabV V ba 1 bc ra 0 rc tX [] from by
                  refine (htn.tabV.kept0 (Kept.trans ?_ hV))
                  rw [hu2]
                  exact (Kept.refl [] u1).alloc _)
                have HGX := Lib.hid (fun (V : World) (hV : Kept [] u2 V) => HGG.out V (KA.out.trans hV))
                have HBX := Lib.hid (fun (V : World) (hV : Kept [] u2 V) => show SlBus V (some ⟨g, 0, none⟩) [(⟨#[120]⟩, 4)] from by obtain ⟨a, c, e, h2, _⟩ := B1.out.kept (K2.out.trans (KA.out.trans hV)); injection e with e; subst e; exact h2)
                clear htn k1 KR Ks8 Ks14 K3
                go_wp2_with fail
                rw [← hu2]
                try rw [← hp]
                clear hu2 hp
                refine (packs_c 0 none 0 0 [] u2 rfl (by omega) (fun k hk => absurd hk (by simp)) (by omega)).mono ?_
                rintro e u3 (⟨_, rfl, k3⟩ | ⟨h, _⟩ | ⟨h, _⟩)
                rotate_left
                · exact absurd (show packBad [] = false from h) (by rw [pk0]; simp)
                · exact absurd (show packBad [] = false from h) (by rw [pk0]; simp)
                obtain ⟨c0, c1⟩ := HP.out u3 k3
                have K3 := Lib.hid k3
                clear k3
                go_wp2_with fail
                refine (packs_c 0 _ 1 1 [⟨tX, ba, bc, ra, rc, []⟩] _ rfl (by omega) (sltab_one (heap_alloc_new u3 _) (HX.out _ (K3.out.alloc _)) okX) (by omega)).mono ?_
                rintro e u4 (⟨h, _⟩ | ⟨_, _, rfl, k4⟩ | ⟨_, h, _⟩)
                case inl => exact absurd (show packBad [tX] = true from h) (by rw [pk1]; simp)
                case inr.inr => exact absurd (show packNone 0 [tX] = false from h) (by rw [pn1]; simp)
                have K4 := Lib.hid ((K3.out.alloc _).trans k4)
                clear k4 c0 c1
                go_wp2_with fail
                refine (packs_c (-1) _ 1 1 _ _ rfl (by omega) (sl_m1 u4 (HBX.out u4 K4.out)) (by omega)).mono ?_
                rintro e u5 (⟨h, _⟩ | ⟨_, _, rfl, k5⟩ | ⟨_, h, _⟩)
                case inl => exact absurd (show packBad [tX3] = true from h) (by rw [pk2]; simp)
                case inr.inr => exact absurd (show packNone (-1) [tX3] = false from h) (by rw [pn2]; simp)
                have K5 := Lib.hid ((((K4.out.alloc _).alloc _).alloc _).trans k5)
                clear k5
                obtain ⟨c0, c1⟩ := HP.out u5 K5.out
                go_wp2_with fail
                refine (packs_c 0 _ 2 2 _ _ rfl (by omega) (sl_two u5 (HX.out u5 K5.out)) (by omega)).mono ?_
                rintro e u6 (⟨_, rfl, k6⟩ | ⟨h, _⟩ | ⟨h, _⟩)
                rotate_left
                · exact absurd (show packBad [tX, tY] = false from h) (by rw [pk3]; simp)
                · exact absurd (show packBad [tX, tY] = false from h) (by rw [pk3]; simp)
                have K6 := Lib.hid (((K5.out.alloc _).alloc _).trans k6)
                clear k6 c0 c1
                go_wp2_with fail
                refine (put_c _ (tab_F u6) okF (HGX.out _ (((K6.out.alloc _).alloc _).alloc _))).mono ?_
                rintro e u7 (⟨h, _⟩ | ⟨_, v, rfl, hown, hbel⟩)
                · exact absurd h (by rw [mayF]; simp)
                have K7 := Lib.hid ((((K6.out.alloc _).alloc _).alloc _).trans (Kept.of_below hbel))
                rw [putF] at hown
                obtain ⟨gv, cv, rfl, _⟩ := own_txt hown rfl (by decide)
                have HOW := Lib.hid hown
                clear hown hbel
                obtain ⟨c0, c1⟩ := HP.out u7 K7.out
                go_wp2_with fail
                have hcol := column_c ⟨#[121]⟩ (HX.out u7 K7.out) okX
                rw [show columnT tX ⟨#[121]⟩ = ([], false) from by kernel_rfl] at hcol
                refine hcol.mono ?_
                rintro e u8 ⟨ca, cn, cc, rfl, -, k8, -⟩
                clear hcol
                have K8 := Lib.hid (K7.out.trans k8)
                have HOW8 := Lib.hid (own_keptB HOW.out k8 (by simp))
                clear k8 c0 c1
                obtain ⟨c0, c1⟩ := HP.out u8 K8.out
                go_wp2_with fail
                have hsm := tsame_c (HX.out u8 K8.out) okX (ba' := some ⟨g, 0, none⟩) (bn' := 1) (bc' := 1) (ra' := none) (rn' := 0) (rc' := 0) (t' := tX) (wl' := []) ⟨rfl, rfl, rfl, HBX.out u8 K8.out, fun k hk => absurd hk (by simp), Nat.le_refl _, Nat.le_refl _, by simp⟩ okX
                rw [show sameT tX tX = true from by kernel_rfl] at hsm
                refine hsm.mono ?_
                clear hsm
                rintro e u9 ⟨rfl, k9⟩
                have K9 := Lib.hid (K8.out.trans k9)
                have hcb : (convert 44 9 (.slice (some ⟨gv, 0, none⟩) 27 cv)).run Tryd.prog u9 = .ok (.string ⟨#[97, 95, 64, 63, 90, 57, 58, 54, 52, 10, 102, 102, 102, 102, 102, 102, 102, 102, 102, 102, 102, 102, 102, 102, 102, 102, 10]⟩) u9 := own_str (own_keptB HOW8.out k9 (by simp)) rfl
                clear k9 c0 c1
                go_wp2_with fail
                refine (wakes_c u9 (HGX.out u9 K9.out)).mono ?_
                rintro e u10 ⟨rfl, k10⟩
                have K10 := Lib.hid (K1.out.trans (K2.out.trans (KA.out.trans (K9.out.trans k10))))
                clear k10
                go_wp2_with fail
                go_ret
                exact ⟨rfl, K10.out⟩
end Go.Proofs.YtjgcfncganleoaaDoor
