/-
  Package trace: Pack: its tables, its two closures.
-/
import Derived.Test.YtjgcfncganleoaaDoorLnQ
import Derived.Deep.RegionHeld3
import Derived.BigRegion
import Derived.BigQuiet
namespace Go.Proofs.YtjgcfncganleoaaDoor
open Go.ChangeShapes Go.WideShapes Go.ChangeAt Go.RowKit
open Go.Maps (Keyed)
open Go.WideMaps
set_option linter.unusedVariables false
set_option linter.unusedSimpArgs false

variable {w w' w1 W : World}
/-- a table, and where its parts lie -/
structure TV where
  t : Tb
  ba : Option Addr
  bc : Nat
  ra : Option Addr
  rc : Nat
  wl : List WR
def TV.at_ (w : World) (x : TV) : Prop := TabV w x.ba x.t.bs.length x.bc x.ra x.t.rs.length x.rc x.t x.wl
/-- tables where they lie -/
def SlTab (w : World) (a : Option Addr) (l : List TV) : Prop :=
  ∀ k (h : k < l.length), ∃ b o, a = some ⟨b, o, none⟩ ∧ w.cell? ⟨b, o + k * 2, none⟩ = some (.slice l[k].ba l[k].t.bs.length l[k].bc) ∧ w.cell? ⟨b, o + k * 2 + 1, none⟩ = some (.slice l[k].ra l[k].t.rs.length l[k].rc) ∧ l[k].at_ w ∧ l[k].t.ok
theorem TV.at_.kept0 {x : TV} (h : x.at_ w) (hk : Kept [] w w') : x.at_ w' := TabV.kept0 h hk
theorem SlTab.kept0 {a : Option Addr} {l : List TV} (h : SlTab w a l) (hk : Kept [] w w') : SlTab w' a l := by
  intro k hkl
  obtain ⟨b, o, rfl, h1, h2, h3, h4⟩ := h k hkl
  exact ⟨b, o, rfl, hk.cell h1 (by simp), hk.cell h2 (by simp), h3.kept0 hk, h4⟩
set_option maxHeartbeats 800000 in
set_option maxRecDepth 100000 in
theorem index_tab (fid : FuncId) (hF : ∀ xs w, (callFunc fid xs).run Tryd.prog w = .ok (Next.enter fid xs) w) (cap : Value) (P : Tb → Bool) (a : Option Addr) (c len : Nat) (l : List TV) (w : World) (hl : l.length = len) (hlm : len ≤ 70368744177664) (hs : SlTab w a l)
    (HC : ∀ x ∈ l, ∀ W, Kept [] w W → Calls Tryd.prog fid #[.agg #[.slice x.ba x.t.bs.length x.bc, .slice x.ra x.t.rs.length x.rc], cap] W (BoolIs (P x.t) W)) :
    Calls Tryd.prog 72 #[.slice a len c, .func (.func fid) #[] #[cap]] w (IdxPost (l.findIdx? fun x => P x.t) w) := by
  have HL := Lib.hid hl; clear hl
  have HF := Lib.hid HC; clear HC
  have HS := Lib.hid hs
  clear hs
  go_enter Tryd.func72, Tryd.ntmps72
  go_wp2_with fail
  go_loopw [8] (fun i wr => ∃ k : Nat, k ≤ len ∧ i = .int .i64 k ∧ Kept [] w wr ∧ ∀ j, j < k → ∃ h : j < l.length, P l[j].t = false) (fun i _ => len - (intOf i).toNat)
  case atStart => exact ⟨0, Nat.zero_le _, rfl, .refl _ _, fun j hj => by omega⟩
  case round =>
    obtain ⟨k, hk, rfl, hkr, hall⟩ := hrel
    have HA := Lib.hid hall
    have KR := Lib.hid hkr
    clear hall hkr
    by_cases hlt : k < len
    · have hkl : k < l.length := by have := HL.out; omega
      obtain ⟨gb, go_, rfl, x0, x1, xx, xy⟩ := (HS.out.kept0 KR.out) k hkl
      clear xx xy
      have HX := Lib.hid (HF.out _ (List.getElem_mem hkl) wr KR.out)
      cases hp : P l[k].t with
      | true =>
        rw [hp] at HX
        have HB := Lib.hid (findIdx_some (p := fun x : TV => P x.t) hkl hp HA.out)
        clear hp
        generalize l[k] = x at *
        obtain ⟨t, ba, bc, ra, rc, wl⟩ := x
        simp only at x0 x1 HX
        generalize t.bs.length = bl at *
        generalize t.rs.length = rl at *
        go_wp2_with fail
        refine HX.out.mono ?_
        rintro e w1 ⟨rfl, k1⟩
        have K1 := Lib.hid k1
        clear k1
        go_wp2_with fail
        go_ret
        exact ⟨by rw [HB.out]; rfl, KR.out.trans K1.out⟩
      | false =>
        rw [hp] at HX
        have HB := Lib.hid (show ∀ j, j < k + 1 → ∃ h : j < l.length, P l[j].t = false from fun j hj => by
          by_cases h : j < k
          · exact HA.out j h
          · obtain rfl : j = k := by omega
            exact ⟨hkl, hp⟩)
        clear hp
        generalize l[k] = x at *
        obtain ⟨t, ba, bc, ra, rc, wl⟩ := x
        simp only at x0 x1 HX
        generalize t.bs.length = bl at *
        generalize t.rs.length = rl at *
        go_wp2_with fail
        refine HX.out.mono ?_
        rintro e w1 ⟨rfl, k1⟩
        have K1 := Lib.hid k1
        clear k1
        go_wp2_with fail
        go_roundw
        case rel => exact ⟨k + 1, by omega, by go_num, KR.out.trans K1.out, HB.out⟩
        case measure => simp [intOf]; omega
    · obtain rfl : len = k := by omega
      have HB := Lib.hid (findIdx_none (l := l) (p := fun x : TV => P x.t) (fun j hj => HA.out j (by rw [← HL.out]; exact hj)))
      go_wp2_with fail
      go_ret
      exact ⟨by rw [HB.out]; rfl, KR.out⟩
theorem contains_tab (fid : FuncId) (hF : ∀ xs w, (callFunc fid xs).run Tryd.prog w = .ok (Next.enter fid xs) w) (cap : Value) (P : Tb → Bool) (a : Option Addr) (c len : Nat) (l : List TV) (w : World) (hl : l.length = len) (hlm : len ≤ 70368744177664) (hs : SlTab w a l)
    (HC : ∀ x ∈ l, ∀ W, Kept [] w W → Calls Tryd.prog fid #[.agg #[.slice x.ba x.t.bs.length x.bc, .slice x.ra x.t.rs.length x.rc], cap] W (BoolIs (P x.t) W)) :
    Calls Tryd.prog 50 #[.slice a len c, .func (.func fid) #[] #[cap]] w (BoolIs ((l.map (·.t)).any P) w) := by
  have HX := Lib.hid (index_tab fid hF cap P a c len l w hl hlm hs HC)
  have HA := Lib.hid (idx_any l fun x => P x.t)
  have HM := Lib.hid (show (l.map (·.t)).any P = l.any fun x => P x.t from List.any_map ..)
  clear hs HC
  unfold IdxPost at HX
  generalize idxV (l.findIdx? fun x => P x.t) = ix at *
  go_enter Tryd.func50, Tryd.ntmps50
  go_wp2_with fail
  refine HX.out.mono ?_
  rintro e w1 ⟨rfl, k1⟩
  have K1 := Lib.hid k1
  clear k1
  go_wp2_with fail
  go_ret
  exact ⟨by rw [HM.out, ← HA.out]; rfl, K1.out⟩
theorem keep5 {w w' : World} {a0 a1 a2 a3 : Addr} {v0 v1 v2 v3 : Value} (hk : Kept [] w w') (h0 : w.cell? a0 = some v0) (h1 : w.cell? a1 = some v1) (h2 : w.cell? a2 = some v2) (h3 : w.cell? a3 = some v3) :
    w'.cell? a0 = some v0 ∧ w'.cell? a1 = some v1 ∧ w'.cell? a2 = some v2 ∧ w'.cell? a3 = some v3 :=
  ⟨hk.cell h0 (by simp), hk.cell h1 (by simp), hk.cell h2 (by simp), hk.cell h3 (by simp)⟩
/-- a drawn region whose operations read and whose callees make new memory alone -/
theorem wp_region_kept {id : Nat} {Q : Exit → Act → World → Prop} {a : Act} {w : World} {l : List Oper} (hB : Region.lexB .any l.toArray = true)
    (h : wpQuiet Tryd.prog l.toArray (fun V => Kept [] w V) (fun a' => ∀ w', Kept [] w w' → Q .normal a' w') l a) : (Code.region id l.toArray true).wp Tryd.prog Q a w :=
  wp_region_quiet (C := fun V => Kept [] w V) (by kernel_rfl) hB (Kept.refl [] w).drew (by simpa using h)
set_option maxHeartbeats 6400000 in
set_option maxRecDepth 100000 in
/-- a table that may not be, or is of other buses -/
theorem pack1_c (ba : Option Addr) (bc : Nat) (ra : Option Addr) (rc : Nat) (t : Tb) (wl : List WR) (s tb to_ len c : Nat) (a0 : Option Addr) (c0 : Nat) (bs0 : List (ByteArray × Int)) (w : World) (h : TabV w ba t.bs.length bc ra t.rs.length rc t wl) (hok : t.ok)
    (hs : w.cell? ⟨s, 0, none⟩ = some (.slice (some ⟨tb, to_, none⟩) len c)) (hlen : 0 < len) (hx : w.cell? ⟨tb, to_, none⟩ = some (.slice a0 bs0.length c0)) (hb : SlBus w a0 bs0) (hbl : bs0.length ≤ 140737488351232) :
    Calls Tryd.prog 51 #[.agg #[.slice ba t.bs.length bc, .slice ra t.rs.length rc], .pointer (some ⟨s, 0, none⟩)] w (BoolIs (!(mayT t && decide (t.bs = bs0))) w) := by
  have HM := Lib.hid (fun (W : World) (hW : Kept [] w W) => may_c (h.kept0 hW) hok)
  have HE := Lib.hid (fun (W : World) (hW : Kept [] w W) => eq_buses ba a0 t.bs.length bs0.length bc c0 t.bs bs0 W rfl rfl hok.bl hbl (h.bs.kept0 hW) (hb.kept0 hW))
  have HC := Lib.hid (And.intro hs hx)
  clear h hok hb
  generalize t.bs.length = bn at *
  generalize t.rs.length = rn at *
  generalize bs0.length = b0 at *
  go_enter Tryd.func51, Tryd.ntmps51
  go_upto_region 1 with (fail)
  obtain ⟨w2, hw2⟩ : ∃ W, W = w.alloc (.cells #[.slice ba bn bc, .slice ra rn rc] 25) := ⟨_, rfl⟩
  obtain ⟨p, hp⟩ : ∃ q, q = w.heap.size := ⟨_, rfl⟩
  have K2 := Lib.hid (show Kept [] w w2 from by rw [hw2]; exact (Kept.refl [] w).alloc _)
  have C := Lib.hid (show w2.cell? ⟨p, 0, none⟩ = some (.slice ba bn bc) ∧ w2.cell? ⟨p, 1, none⟩ = some (.slice ra rn rc) from by
    rw [hw2, hp]
    exact ⟨blk_cell (heap_alloc_new w _) 0, blk_cell (heap_alloc_new w _) 1⟩)
  try rw [← hp]
  try rw [← hw2]
  clear hw2 hp hs hx
  have c0' := C.out.1
  have c1' := C.out.2
  have c2' := K2.out.cell HC.out.1 (by simp)
  have c3' := K2.out.cell HC.out.2 (by simp)
  have hl0 : (0 : Int) < (len : Int) := by omega
  have KB := Kept.refl [] w2
  cases hm : mayT t with
  | false =>
    rw [hm] at HM
    have HR := Lib.hid (show (!(false && decide (t.bs = bs0))) = true from rfl)
    go_wp2_with fail
    refine wp_region_kept (by kernel_rfl) ?_
    have HCL := Lib.hid (fun (V : World) (hV : Kept [] w2 V) => keep5 (w := w2) hV c0' c1' c2' c3')
    (go_big_quiet_want; apply Exists.intro; refine ⟨fun V hV => ?_, ?_⟩; rotate_left; go_big_quiet_on; (try simp only [Act.put, List.setIfInBounds_toArray, List.set_cons_zero, List.set_cons_succ]); rotate_right)
    · obtain ⟨g0, g1, g2, g3⟩ := HCL.out V hV
      go_simp
      exact rfl
    (go_big_quiet_want; apply Exists.intro; refine ⟨fun V hV => ?_, ?_⟩; rotate_left; go_big_quiet_on; (try simp only [Act.put, List.setIfInBounds_toArray, List.set_cons_zero, List.set_cons_succ]); rotate_right)
    · go_simp
      exact (HM.out V (K2.out.trans hV)).mono fun e V' h => ⟨h.1, hV.trans h.2⟩
    (go_big_quiet_want; apply Exists.intro; refine ⟨fun V hV => ?_, ?_⟩; rotate_left; go_big_quiet_on; (try simp only [Act.put, List.setIfInBounds_toArray, List.set_cons_zero, List.set_cons_succ]); rotate_right)
    · go_simp
      exact rfl
    (go_big_quiet_want; apply Exists.intro; refine ⟨fun V hV => ?_, ?_⟩; rotate_left; go_big_quiet_on; (try simp only [Act.put, List.setIfInBounds_toArray, List.set_cons_zero, List.set_cons_succ]); rotate_right)
    · go_simp
      exact rfl
    go_big_quiet_skip
    go_big_quiet_skip
    go_big_quiet_skip
    go_big_quiet_skip
    go_big_quiet_skip
    go_big_quiet_skip
    go_big_quiet_skip
    go_big_quiet_skip
    (go_big_quiet_want; apply Exists.intro; refine ⟨fun V hV => ?_, ?_⟩; rotate_left; go_big_quiet_on; (try simp only [Act.put, List.setIfInBounds_toArray, List.set_cons_zero, List.set_cons_succ]); rotate_right)
    · go_simp
      exact rfl
    (go_big_quiet_want; apply Exists.intro; refine ⟨fun V hV => ?_, ?_⟩; rotate_left; go_big_quiet_on; (try simp only [Act.put, List.setIfInBounds_toArray, List.set_cons_zero, List.set_cons_succ]); rotate_right)
    · go_simp
      exact rfl
    refine wpQuiet_nil ?_
    intro w3 k3
    have K3 := Lib.hid k3
    clear k3
    go_wp2_with fail
    go_ret
    exact ⟨by simp [hm, Act.put], K2.out.trans K3.out⟩
  | true =>
    rw [hm] at HM
    cases hb : decide (t.bs = bs0) with
    | false =>
      rw [hb] at HE
      have hb2 := of_decide_eq_false hb
      go_wp2_with fail
      go_region_held3 (fun V => V.cell? ⟨p, 0, none⟩ = some (.slice ba bn bc) ∧ V.cell? ⟨p, 1, none⟩ = some (.slice ra rn rc) ∧ V.cell? ⟨s, 0, none⟩ = some (.slice (some ⟨tb, to_, none⟩) len c) ∧ V.cell? ⟨tb, to_, none⟩ = some (.slice a0 b0 c0))
        (first | exact keep5 (w := w2) (by (repeat (first | with_reducible exact KB | with_reducible apply Kept.drew | with_reducible apply Kept.drewN | with_reducible apply Kept.alloc))) c0' c1' c2' c3' | go_keep)
        (first
          | (go_at_call 10; (with_reducible refine (HM.out _ (K2.out.trans ?kk)).mono ?_); (case kk => (repeat (first | with_reducible exact KB | with_reducible apply Kept.drew | with_reducible apply Kept.drewN | with_reducible apply Kept.alloc))); rintro e u7 ⟨rfl, hk7⟩; have KB := (show Kept [] w2 _ from (by (repeat (first | with_reducible exact KB | with_reducible apply Kept.drew | with_reducible apply Kept.drewN | with_reducible apply Kept.alloc)))).trans hk7)
          | (go_at_call 36; (with_reducible refine (HE.out _ (K2.out.trans ?kk)).mono ?_); (case kk => (repeat (first | with_reducible exact KB | with_reducible apply Kept.drew | with_reducible apply Kept.drewN | with_reducible apply Kept.alloc))); rintro e u8 ⟨rfl, q8, rfl⟩))
      all_goals
        go_wp2_with fail
        go_ret
        exact ⟨by simp [hm, hb2], K2.out.trans (by (repeat (first | with_reducible exact KB | with_reducible apply Kept.drew | with_reducible apply Kept.drewN | with_reducible apply Kept.alloc)))⟩
    | true =>
      rw [hb] at HE
      have hb2 := of_decide_eq_true hb
      go_wp2_with fail
      go_region_held3 (fun V => V.cell? ⟨p, 0, none⟩ = some (.slice ba bn bc) ∧ V.cell? ⟨p, 1, none⟩ = some (.slice ra rn rc) ∧ V.cell? ⟨s, 0, none⟩ = some (.slice (some ⟨tb, to_, none⟩) len c) ∧ V.cell? ⟨tb, to_, none⟩ = some (.slice a0 b0 c0))
        (first | exact keep5 (w := w2) (by (repeat (first | with_reducible exact KB | with_reducible apply Kept.drew | with_reducible apply Kept.drewN | with_reducible apply Kept.alloc))) c0' c1' c2' c3' | go_keep)
        (first
          | (go_at_call 10; (with_reducible refine (HM.out _ (K2.out.trans ?kk)).mono ?_); (case kk => (repeat (first | with_reducible exact KB | with_reducible apply Kept.drew | with_reducible apply Kept.drewN | with_reducible apply Kept.alloc))); rintro e u7 ⟨rfl, hk7⟩; have KB := (show Kept [] w2 _ from (by (repeat (first | with_reducible exact KB | with_reducible apply Kept.drew | with_reducible apply Kept.drewN | with_reducible apply Kept.alloc)))).trans hk7)
          | (go_at_call 36; (with_reducible refine (HE.out _ (K2.out.trans ?kk)).mono ?_); (case kk => (repeat (first | with_reducible exact KB | with_reducible apply Kept.drew | with_reducible apply Kept.drewN | with_reducible apply Kept.alloc))); rintro e u8 ⟨rfl, q8, rfl⟩))
      all_goals
        go_wp2_with fail
        go_ret
        exact ⟨by simp [hm, hb2], K2.out.trans (by (repeat (first | with_reducible exact KB | with_reducible apply Kept.drew | with_reducible apply Kept.drewN | with_reducible apply Kept.alloc)))⟩
/-- is there such a row? -/
theorem pack2_c (ba : Option Addr) (bc : Nat) (ra : Option Addr) (rc : Nat) (t : Tb) (at_ : Int) (q : Nat) (w : World) (hat : -9223372036854775808 ≤ at_ ∧ at_ ≤ 9223372036854775807) (hq : w.cell? ⟨q, 0, none⟩ = some (.int .i64 at_)) :
    Calls Tryd.prog 52 #[.agg #[.slice ba t.bs.length bc, .slice ra t.rs.length rc], .pointer (some ⟨q, 0, none⟩)] w (BoolIs (decide (at_ < (t.rs.length : Int))) w) := by
  generalize t.bs.length = bn at *
  generalize t.rs.length = rn at *
  have hq2 := cell_alloc hq (.cells #[.slice ba bn bc, .slice ra rn rc] 25)
  go_enter Tryd.func52, Tryd.ntmps52
  go_wp2_with fail
  go_ret
  exact ⟨rfl, (Kept.refl [] w).alloc _⟩
end Go.Proofs.YtjgcfncganleoaaDoor
