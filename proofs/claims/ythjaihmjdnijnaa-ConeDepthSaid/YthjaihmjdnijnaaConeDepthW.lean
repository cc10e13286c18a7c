/-
  ConeDepth: depths of gates, of several literals, of a copy; how many gates a copy has. For any options, steps and literals. No condition.
-/
import Derived.Test.YthjaihmjdnijnaaConeTell2
import Derived.Test.YthjaihmjdnijnaaCopyLaws
import Derived.Test.YthjaihmjdnijnaaLawIn
import Derived.Test.YthjaihmjdnijnaaStepOpen
namespace Go.Proofs.Ythjaihmjdnijnaa
open Go.ChangeShapes Go.WideShapes Go.ChangeAt Go.RowKit
open Go.Maps (Keyed)
open Go.WideMaps
set_option linter.unusedVariables false
set_option linter.unusedSimpArgs false

section
variable {w w' : World} {p q : Nat} {F R S : List Nat} {g g2 : Gr}
theorem depth_of (hg : GraphAt w p F g) (hm : g.nodes.length ≤ 200000) (b : Nat) (hb : w.cell? ⟨b, 0, none⟩ = some (.pointer (some ⟨p, 0, none⟩))) (a : Option Addr) (c len : Nat) (l : List Nat) (hl : l.length = len) (hlm : len ≤ 1000000) (hs : SlN w .u32 a l) (hok : ∀ x ∈ l, g.ok x) :
    Calls Try.prog 9 #[.slice a len c, .pointer (some ⟨b, 0, none⟩)] w fun e w' => e = .returned (.int .i64 (mostD (dpL g.nodes) l : Nat)) ∧ Kept [] w w' := by
  have H := Lib.hid (cone_depth hg hm a c len l hl hlm hs hok)
  clear hg hs hok hl
  go_enter Try.func9, Try.ntmps9
  go_wp2_with fail
  refine H.out.mono ?_
  rintro e w1 ⟨rfl, hk⟩
  have HK := Lib.hid hk
  clear hk
  go_wp2_with fail
  go_ret
  exact ⟨rfl, HK.out⟩
theorem depth_of1 (hg : GraphAt w p F g) (hm : g.nodes.length ≤ 200000) (b : Nat) (hb : w.cell? ⟨b, 0, none⟩ = some (.pointer (some ⟨p, 0, none⟩))) (x : Nat) (hx : g.ok x) :
    Calls Try.prog 9 #[.slice (some ⟨w.heap.size, 0, none⟩) 1 1, .pointer (some ⟨b, 0, none⟩)] (w.alloc (.cells #[.int .u32 (x : Int)] 37)) fun e w' => e = .returned (.int .i64 (dl (dpL g.nodes) x : Nat)) ∧ Kept [] w w' := by
  have hk := (Kept.refl [] w).alloc (.cells #[.int .u32 (x : Int)] 37)
  have h := depth_of (hg.kept0 hk) hm b (hk.cell hb (by simp)) (some ⟨w.heap.size, 0, none⟩) 1 1 [x] rfl (by omega) (one_lit w x) (by simpa using hx)
  have e : mostD (dpL g.nodes) [x] = dl (dpL g.nodes) x := by simp [mostD]
  rw [e] at h
  exact h.mono fun _ _ ⟨h1, h2⟩ => ⟨h1, hk.trans h2⟩
theorem depth_of2 (hg : GraphAt w p F g) (hm : g.nodes.length ≤ 200000) (b : Nat) (hb : w.cell? ⟨b, 0, none⟩ = some (.pointer (some ⟨p, 0, none⟩))) (x y : Nat) (hx : g.ok x) (hy : g.ok y) :
    Calls Try.prog 9 #[.slice (some ⟨w.heap.size, 0, none⟩) 2 2, .pointer (some ⟨b, 0, none⟩)] (w.alloc (.cells #[.int .u32 (x : Int), .int .u32 (y : Int)] 37)) fun e w' => e = .returned (.int .i64 (max (dl (dpL g.nodes) x) (dl (dpL g.nodes) y) : Nat)) ∧ Kept [] w w' := by
  have hk := (Kept.refl [] w).alloc (.cells #[.int .u32 (x : Int), .int .u32 (y : Int)] 37)
  have h := depth_of (hg.kept0 hk) hm b (hk.cell hb (by simp)) (some ⟨w.heap.size, 0, none⟩) 2 2 [x, y] rfl (by omega) (by have := sln_new w .u32 [x, y] 37; exact this) (by simp [hx, hy])
  have e : mostD (dpL g.nodes) [x, y] = max (dl (dpL g.nodes) x) (dl (dpL g.nodes) y) := by simp [mostD]
  rw [e] at h
  exact h.mono fun _ _ ⟨h1, h2⟩ => ⟨h1, hk.trans h2⟩
end
/-- an empty graph with so many inputs, and their literals -/
def inE : Nat → Gr
  | 0 => { fold := false, hash := false, nodes := [(0, 0)] }
  | k + 1 => (inputG (inE k)).1
def rowE : Nat → List Nat
  | 0 => []
  | k + 1 => rowE k ++ [(inputG (inE k)).2]
structure InE (k : Nat) : Prop where
  fold : (inE k).fold = false
  hash : (inE k).hash = false
  wf : WF (inE k).nodes
  len : (inE k).nodes.length = k + 1
  ins : (ins (inE k).nodes).length = k
  row : (rowE k).length = k
  ok : ∀ x ∈ rowE k, (inE k).ok x
  deep : ∀ x ∈ rowE k, dl (dpL (inE k).nodes) x = 0
theorem inE_is (k : Nat) : InE k := by
  induction k with
  | zero => exact ⟨rfl, rfl, ⟨rfl, fun i a b h => by cases i with | zero => simp [inE] at h; omega | succ i => simp [inE] at h⟩, rfl, rfl, rfl, by simp [rowE], by simp [rowE]⟩
  | succ k ih =>
    have hs := inputG_spec ih.wf
    have hok : ∀ x, (inE k).ok x → (inE (k + 1)).ok x := fun x hx => by
      unfold Gr.ok at *
      show x / 2 < ((inE k).nodes ++ [_]).length
      rw [List.length_append]; omega
    refine ⟨ih.fold, ih.hash, hs.1, ?_, ?_, ?_, fun x hx => ?_, fun x hx => ?_⟩
    · show ((inE k).nodes ++ [_]).length = _
      rw [List.length_append, ih.len]; rfl
    · have h3 := hs.2.2
      rw [show (inE (k + 1)).nodes = (inputG (inE k)).1.nodes from rfl, h3, List.length_append, ih.ins]; rfl
    · show (rowE k ++ [_]).length = _
      rw [List.length_append, ih.row]; rfl
    · rcases List.mem_append.1 hx with h | h
      · exact hok x (ih.ok x h)
      · rw [List.mem_singleton] at h
        subst h
        unfold Gr.ok
        show 2 * (inE k).nodes.length / 2 < ((inE k).nodes ++ [_]).length
        rw [List.length_append]; simp
    · rcases List.mem_append.1 hx with h | h
      · obtain ⟨t, ht⟩ := dpL_append (inE k).nodes [(2 * (inE k).nodes.length, 2 * (inE k).nodes.length)]
        show dl (dpL ((inE k).nodes ++ [(2 * (inE k).nodes.length, 2 * (inE k).nodes.length)])) x = 0
        rw [ht, dl_append t (by rw [dpL_length]; exact ih.ok x h)]
        exact ih.deep x h
      · rw [List.mem_singleton] at h
        subst h
        show dl (dpL ((inE k).nodes ++ [(2 * (inE k).nodes.length, 2 * (inE k).nodes.length)])) (2 * (inE k).nodes.length) = 0
        exact dl_node (dp_none (a := 2 * (inE k).nodes.length) (b := 2 * (inE k).nodes.length) (by simp) (.inl (by omega)))
/-- all that a copy into it tells -/
theorem copyE {g : Gr} (hw : WF g.nodes) {l : List Nat} (hl : ∀ x ∈ l, g.ok x) : mostD (dpL (copyG (inE (ins g.nodes).length) g (rowE (ins g.nodes).length) l).1.nodes) (l.map (overL (copyG (inE (ins g.nodes).length) g (rowE (ins g.nodes).length) l).2)) = mostD (dpL g.nodes) l ∧
    gatesN (copyG (inE (ins g.nodes).length) g (rowE (ins g.nodes).length) l).1 = ((reachL g.nodes l).length : Int) - ((supportL g.nodes l).length : Int) ∧
    (∀ x ∈ l.map (overL (copyG (inE (ins g.nodes).length) g (rowE (ins g.nodes).length) l).2), (copyG (inE (ins g.nodes).length) g (rowE (ins g.nodes).length) l).1.ok x) ∧ (copyG (inE (ins g.nodes).length) g (rowE (ins g.nodes).length) l).1.nodes.length ≤ 2 * g.nodes.length + 1 := by
  have h := inE_is (ins g.nodes).length
  have hc := copyG_ok (from_ := g) (l := l) h.wf h.ok
  have hile : (ins g.nodes).length ≤ g.nodes.length := insFrom_length 0 g.nodes
  have hlen := h.len
  refine ⟨copy_depth h.fold h.hash h.wf hw h.ok h.row h.deep hl, ?_, ?_, ?_⟩
  · have hcnt := copyTo_count (ns := g.nodes) (M := marksL g.nodes l) (s0 := (inE (ins g.nodes).length, byTo g.nodes.length (ins g.nodes) (rowE (ins g.nodes).length) (ins g.nodes).length)) h.fold h.hash g.nodes.length
    have h3 := hcnt.2.2
    have hrs := reach_split g.nodes l
    have hi := hc.ext.ins
    unfold gatesN
    rw [hi, h.ins]
    have h4 : (copyG (inE (ins g.nodes).length) g (rowE (ins g.nodes).length) l).1.nodes.length = (inE (ins g.nodes).length).nodes.length + (pick g.nodes.length (fun j => gAt g.nodes j && (marksL g.nodes l).getD j false)).length := h3
    rw [h4, h.len, hrs]
    omega
  · intro x hx
    obtain ⟨y, _, rfl⟩ := List.mem_map.1 hx
    exact overL_ok hc.wf hc.ok y
  · have := hc.ext.le
    omega
set_option maxHeartbeats 6400000 in
set_option maxRecDepth 100000 in
theorem conedepth_walk (o1 o2 : Bool) (sa : Option Addr) (l : List Stp) (sc : Nat) (ax : Option Addr) (cx : Nat) (xs : List Nat) (w : World) (hl : l.length ≤ 140737488351232) (hs : SlSteps w sa l) (hok : ∀ s ∈ l, Stp.ok s)
    (hcx : xs.length ≤ cx) (zx : cx * 4 ≤ 140737488351232) (sx : SlN w .u32 ax xs) (mx : ∀ n ∈ xs, n < 4294967296) :
    Calls Try.prog 3 #[.agg #[.bool o1, .bool o2], .slice sa l.length sc, .slice ax xs.length cx] w fun e w' => e = .returned (.bool true) ∧ Below w.heap.size w w' := by
  obtain ⟨ln, hln⟩ : ∃ ln, ln = l.length := ⟨_, rfl⟩
  obtain ⟨lx, hlx⟩ : ∃ lx, lx = xs.length := ⟨_, rfl⟩
  rw [← hln] at hl ⊢
  rw [← hlx] at hcx ⊢
  have HB := Lib.hid (fun (W : World) (hk : Kept [] w W) => build_c o1 o2 sa sc ln l (w := W) hln.symm hl (hs.kept0 hk) hok)
  have SX := Lib.hid sx
  have MX := Lib.hid mx
  have HLX := Lib.hid hlx.symm
  have blx : lx ≤ 140737488351232 := by omega
  clear hln hlx hl hs hok sx mx hcx zx
  obtain ⟨G, hG⟩ : ∃ G, G = buildTo o1 o2 l 60 := ⟨_, rfl⟩
  have hgood := buildTo_good o1 o2 l 60
  rw [← hG] at hgood
  have HBP := Lib.hid (show ∀ e w', BuildPost o1 o2 l w e w' → True from fun _ _ _ => trivial)
  have HGE := Lib.hid hG.symm
  have HWF := Lib.hid hgood.1
  have hgl : G.nodes.length ≤ 541 := by omega
  have hgp := hgood.1.pos
  clear hG hgood HBP
  go_enter Try.func3, Try.ntmps3; (try simp only [List.append])
  go_wp2_with fail
  refine (HB.out _ ((Kept.refl [] w).alloc _)).mono ?_
  rintro e w1 ⟨p, F, q, R, rfl, hb⟩
  rw [HGE.out] at hb
  have K1 := Lib.hid (((Kept.refl [] w).alloc (.cells #[.bool o1, .bool o2] 23)).trans hb.kept)
  have G1 := Lib.hid hb.graph
  clear hb HB HGE
  go_wp2_with fail
  obtain ⟨w2, hw2⟩ : ∃ w2, w2 = w1.alloc (.cells #[.pointer (some ⟨p, 0, none⟩)] 26) := ⟨_, rfl⟩
  obtain ⟨b7, hb7⟩ : ∃ b, b = w1.heap.size := ⟨_, rfl⟩
  have hk12 : Kept [] w1 w2 := by rw [hw2]; exact (Kept.refl [] w1).alloc _
  have B7 := Lib.hid (show w2.cell? ⟨b7, 0, none⟩ = some (.pointer (some ⟨p, 0, none⟩)) from by rw [hw2]; exact blk_cell (Mine.new (F := []) hb7 (by simp)).heap 0)
  have G2 := Lib.hid (G1.out.kept0 hk12)
  have K2 := Lib.hid (K1.out.trans hk12)
  rw [← hw2, ← hb7]
  clear hw2 hb7 hk12 G1 K1
  have hne : ((G.nodes.length : Int) == 0) = false := by simp only [beq_eq_false_iff_ne, ne_eq]; omega
  refine (aig_nodes G2.out (by omega)).mono ?_
  rintro e w' ⟨rfl, rfl⟩
  go_wp2_with fail
  clear hne
  go_loopw [10] (fun v wr => ∃ k : Nat, v = .int .i64 k ∧ k ≤ G.nodes.length ∧ Kept [] w2 wr) (fun v _ => G.nodes.length - (intOf v).toNat)
  case atStart => exact ⟨0, rfl, Nat.zero_le _, Kept.refl _ _⟩
  case round =>
    obtain ⟨k, rfl, hk, hkr⟩ := hrel
    have HK := Lib.hid hkr
    have c7 : wr.cell? ⟨b7, 0, none⟩ = some (.pointer (some ⟨p, 0, none⟩)) := hkr.cell B7.out (by simp)
    have GR := Lib.hid (G2.out.kept0 hkr)
    clear hkr
    by_cases hlt : k < G.nodes.length
    · have HGT := Lib.hid (fun (W : World) (hk : Kept [] w2 W) => aig_gateOf (G2.out.kept0 hk) (show G.nodes.length ≤ 1000000 by omega) (k : Int) (by omega) (by omega))
      rw [gateA_nat] at HGT
      obtain ⟨tb, htb⟩ : ∃ b, b = decide (k % 2 = 1) := ⟨_, rfl⟩
      have htb2 : (((k : Int) % 2) == 1) = tb := by rw [htb, Bool.eq_iff_iff]; simp; omega
      have HOF := Lib.hid (show ofV (k : Int) tb = ifL (2 * k) tb ∧ ofE (k : Int) = 0 from ⟨by unfold ofV; rw [if_pos (by omega)]; simp, by unfold ofE; rw [if_pos (by omega)]⟩)
      have HX := Lib.hid (show G.ok (ifL (2 * k) tb) from by
        have h : G.ok (2 * k) := by unfold Gr.ok; omega
        unfold ifL; split; exact ok_nt h; exact h)
      have HDX := Lib.hid (dl_ifL (dpL G.nodes) (2 * k) tb)
      obtain ⟨gk, hgk⟩ : ∃ b, b = gAt G.nodes k := ⟨_, rfl⟩
      rw [← hgk] at HGT
      have HGA := Lib.hid hgk.symm
      clear htb hgk
      generalize ifL (2 * k) tb = x at *
      have D1 := Lib.hid (fun (W : World) (hk : Kept [] w2 W) (y : Nat) (hy : G.ok y) => depth_of1 (G2.out.kept0 hk) (by omega) b7 (hk.cell B7.out (by simp)) y hy)
      have D2 := Lib.hid (fun (W : World) (hk : Kept [] w2 W) (y z : Nat) (hy : G.ok y) (hz : G.ok z) => depth_of2 (G2.out.kept0 hk) (by omega) b7 (hk.cell B7.out (by simp)) y z hy hz)
      have DB := Lib.hid (dl_le G.nodes)
      go_wp2_with fail
      refine (aig_nodes GR.out (by omega)).mono ?_
      rintro e w' ⟨rfl, rfl⟩
      go_wp2_with fail
      refine (lit_of _ _ _).mono ?_
      rw [HOF.out.1, HOF.out.2]
      rintro e w' ⟨rfl, rfl⟩
      go_wp2_with fail
      refine (HGT.out _ HK.out).mono ?_
      cases gk
      · have HD0 := Lib.hid (dl_free hlt HGA.out)
        have HD00 := Lib.hid (show dl (dpL G.nodes) 0 = 0 from dl_node (j := 0) (dp_none HWF.out.zero (.inr rfl)))
        have H0 := Lib.hid (show G.ok 0 from by unfold Gr.ok; omega)
        simp only [Bool.false_eq_true, if_false]
        rintro e v1 ⟨rfl, hk1⟩
        have V1 := Lib.hid (HK.out.trans hk1)
        clear hk1 HGT
        go_wp2_with fail
        refine (D1.out _ V1.out x HX.out).mono ?_
        rw [HDX.out, HD0.out]
        rintro e v2 ⟨rfl, hk2⟩
        have V2 := Lib.hid (V1.out.trans hk2)
        clear hk2
        go_wp2_with fail
        refine (D2.out _ V2.out 0 0 H0.out H0.out).mono ?_
        rw [HD00.out]
        rintro e v3 ⟨rfl, hk3⟩
        have V3 := Lib.hid (V2.out.trans hk3)
        clear hk3
        go_wp2_with fail
        refine (D1.out _ V3.out 0 H0.out).mono ?_
        rw [HD00.out]
        rintro e v4 ⟨rfl, hk4⟩
        have V4 := Lib.hid (V3.out.trans hk4)
        clear hk4
        go_wp2_with fail
        refine (D1.out _ V4.out 0 H0.out).mono ?_
        rw [HD00.out]
        rintro e v5 ⟨rfl, hk5⟩
        have KE := Lib.hid (V4.out.trans hk5)
        clear hk5
        go_wp2_with fail
        go_roundw
        case rel => exact ⟨k + 1, by go_num, by omega, KE.out⟩
        case measure => simp [intOf]; omega
      · have HD0 := Lib.hid (dl_gate HWF.out HGA.out)
        obtain ⟨ha, hb, _, _⟩ := gAt_lt HWF.out HGA.out
        have HA := Lib.hid (show G.ok (gA G.nodes k) from by unfold Gr.ok; omega)
        have HBB := Lib.hid (show G.ok (gB G.nodes k) from by unfold Gr.ok; omega)
        have bda := DB.out (gA G.nodes k)
        have bdb := DB.out (gB G.nodes k)
        have EA := Lib.hid (show ∃ da, dl (dpL G.nodes) (gA G.nodes k) = da from ⟨_, rfl⟩)
        simp only [if_true] at HGT ⊢
        generalize gA G.nodes k = ya at *
        generalize gB G.nodes k = yb at *
        have D1A := Lib.hid (fun (W : World) (hk : Kept [] w2 W) => D1.out W hk ya HA.out)
        have D1B := Lib.hid (fun (W : World) (hk : Kept [] w2 W) => D1.out W hk yb HBB.out)
        have D2AB := Lib.hid (fun (W : World) (hk : Kept [] w2 W) => D2.out W hk ya yb HA.out HBB.out)
        have D1X := Lib.hid (fun (W : World) (hk : Kept [] w2 W) => D1.out W hk x HX.out)
        rw [HDX.out, HD0.out] at D1X
        clear HD0 EA D1 D2 HA HBB ha hb
        generalize dl (dpL G.nodes) ya = da at *
        generalize dl (dpL G.nodes) yb = db at *
        rintro e v1 ⟨rfl, hk1⟩
        have V1 := Lib.hid (HK.out.trans hk1)
        clear hk1 HGT
        have hmax : max da db = db ∧ da < db ∨ max da db = da ∧ ¬ da < db := by omega
        rcases hmax with ⟨hm, hd⟩ | ⟨hm, hd⟩
        all_goals
          rw [hm] at D2AB D1X
          clear hm
          go_wp2_with fail
          refine (D1X.out _ V1.out).mono ?_
          rintro e v2 ⟨rfl, hk2⟩
          have V2 := Lib.hid (V1.out.trans hk2)
          clear hk2
          go_wp2_with fail
          refine (D2AB.out _ V2.out).mono ?_
          rintro e v3 ⟨rfl, hk3⟩
          have V3 := Lib.hid (V2.out.trans hk3)
          clear hk3
          go_wp2_with fail
          refine (D2AB.out _ V3.out).mono ?_
          rintro e v4 ⟨rfl, hk4⟩
          have V4 := Lib.hid (V3.out.trans hk4)
          clear hk4
          go_wp2_with fail
          refine (D1A.out _ V4.out).mono ?_
          rintro e v5 ⟨rfl, hk5⟩
          have V5 := Lib.hid (V4.out.trans hk5)
          clear hk5
          go_wp2_with fail
          refine (D1B.out _ V5.out).mono ?_
          rintro e v6 ⟨rfl, hk6⟩
          have KE := Lib.hid (V5.out.trans hk6)
          clear hk6
          go_wp2_with fail
          go_roundw
          case rel => exact ⟨k + 1, by go_num, by omega, KE.out⟩
          case measure => simp [intOf]; omega
    · go_wp2_with fail
      refine (aig_nodes GR.out (by omega)).mono ?_
      rintro e w' ⟨rfl, rfl⟩
      go_wp2_with fail
      refine (aig_nodes GR.out (by omega)).mono ?_
      rintro e w' ⟨rfl, rfl⟩
      go_wp2_with fail
      refine (inside_c ax cx lx G.nodes.length xs _ HLX.out blx (by omega) hgp (SX.out.kept0 (K2.out.trans HK.out)) MX.out).mono ?_
      rintro e v1 ⟨a1, c1, n1, rfl, ho1, hs1⟩
      have V1 := Lib.hid (HK.out.trans hs1.kept)
      have O1 := Lib.hid ho1.sln
      have hn1 := ho1.len
      rw [nats_length] at hn1
      have HN1 := Lib.hid hn1
      have hn40 : n1 ≤ 40 := by have := inside_len xs G.nodes.length; omega
      clear ho1 hs1 hn1
      go_wp2_with fail
      refine (lits_c a1 c1 n1 (insideL xs G.nodes.length) _ HN1.out (by omega) O1.out).mono ?_
      rintro e v2 ⟨a2, c2, n2, rfl, ho2, hs2⟩
      rw [inside_take] at ho2
      have V2 := Lib.hid (V1.out.trans hs2.kept)
      have O2 := Lib.hid ho2
      have hn2 := ho2.len
      rw [nats_length] at hn2
      have HN2 := Lib.hid hn2
      have hn240 : n2 ≤ 40 := by have := inside_len xs G.nodes.length; omega
      have XOK := Lib.hid (inside_ok HWF.out xs)
      clear ho2 hs2 hn2 O1 V1 HN1 hn40
      generalize insideL xs G.nodes.length = X at *
      go_wp2_with fail
      refine (aig_new false false _).mono ?_
      rintro e v3 ⟨r, E, rfl, hg3, hs3⟩
      have E3 := Lib.hid (show GraphAt v3 r E (inE 0) from hg3)
      have V3 := Lib.hid (V2.out.trans hs3.kept)
      have S3 := Lib.hid hs3
      clear hg3 hs3
      have c73 : v3.cell? ⟨b7, 0, none⟩ = some (.pointer (some ⟨p, 0, none⟩)) := V3.out.cell B7.out (by simp)
      have HIN := Lib.hid (aig_inputs (G2.out.kept0 V3.out) (show G.nodes.length ≤ 1000000 by omega))
      have hile : (ins G.nodes).length ≤ G.nodes.length := insFrom_length 0 G.nodes
      have CE := Lib.hid (copyE HWF.out XOK.out)
      have HIE := Lib.hid (show (ins G.nodes).length = (ins G.nodes).length from rfl)
      obtain ⟨m, hm⟩ : ∃ m, m = (ins G.nodes).length := ⟨_, rfl⟩
      rw [← hm] at HIN hile CE
      have HM := Lib.hid hm
      clear hm HIE c7
      go_wp2_with fail
      refine HIN.out.mono ?_
      rintro e v4 ⟨ai, ci, rfl, hoi, hsi⟩
      have V4 := Lib.hid (V3.out.trans hsi.kept)
      have E4 := Lib.hid (E3.out.kept0 hsi.kept)
      have S4 := Lib.hid (S3.out.keep0' hsi.kept)
      clear hoi hsi HIN E3 S3 V3 c73
      go_wp2_with fail
      go_loopw [18, 112] (fun v i wr => ∃ (j : Nat) (E' : List Nat) (a' : Option Addr) (c' : Nat), j ≤ m ∧ i = .int .i64 j ∧ v = .slice a' j c' ∧ GraphAt wr r E' (inE j) ∧ Own wr 37 a' j c' (nats .u32 (rowE j)) ∧ Stepped v2 wr [] E' ∧ (∀ b ∈ ft a', v2.heap.size ≤ b)) (fun _ i _ => m - (intOf i).toNat)
      case atStart => exact ⟨0, E, none, 0, Nat.zero_le _, rfl, rfl, E4.out, Own.nil _ _, S4.out, by simp [ft]⟩
      case round =>
        clear E4 S4
        obtain ⟨j, E', a', c', hj, rfl, rfl, hge, how, hse, hfa⟩ := hrel
        have hie := inE_is j
        have GE := Lib.hid hge
        have OW := Lib.hid how
        have SE := Lib.hid hse
        have FA := Lib.hid hfa
        have hlen := hie.len
        have IE := Lib.hid hie
        clear hge how hse hfa hie
        by_cases hjm : j < m
        · go_wp2_with fail
          refine (aig_input GE.out (by omega)).mono ?_
          rintro e u1 ⟨E1, rfl, hg1, hs1⟩
          have GE1 := Lib.hid (show GraphAt u1 r E1 (inE (j + 1)) from hg1)
          have OW1 := Lib.hid (OW.out.kept hs1.kept (GE.out.apart OW.out (by decide) (by decide) (by decide)))
          have SE1 := Lib.hid (SE.out.trans hs1)
          clear hg1 hs1
          have HX := Lib.hid (show ∃ x, (inputG (inE j)).2 = x from ⟨_, rfl⟩)
          obtain ⟨x, hx⟩ := HX.out
          have HRW := Lib.hid (show rowE (j + 1) = rowE j ++ [x] from by rw [← hx]; rfl)
          rw [hx]
          clear HX hx
          go_wp2_with (at_builtin; refine wpList_push rfl rfl Try.underlying31 lit_info rfl rfl rfl OW1.out rfl (by unfold maxLen; omega) (by omega) ?_; intro a5 c5 w5 hown5 hst5)
          have GE2 := Lib.hid (GE1.out.kept hst5.kept (fun b hb hx => (GE1.out.apart OW1.out (by decide) (by decide) (by decide)) b hx hb))
          have KU := Lib.hid (kept_up SE1.out.kept hst5.kept FA.out)
          go_roundw
          case rel =>
            refine ⟨j + 1, E1, a5, c5, by omega, by go_num, rfl, GE2.out, by rw [HRW.out, ← nats_append]; exact hown5, ⟨KU.out, SE1.out.fresh⟩, fun b hb => ?_⟩
            rcases hst5.fresh b hb with h | h
            · exact FA.out b h
            · exact Nat.le_trans SE1.out.kept.size h
          case measure => simp [intOf]; omega
        · obtain rfl : j = m := by omega
          obtain ⟨u0, rfl⟩ : ∃ u0 : World, u0 = wr := ⟨_, rfl⟩
          have V5 := Lib.hid (V2.out.trans SE.out.kept)
          have AP := Lib.hid (show ∀ x ∈ F, x ∉ E' from fun x hx hx' => by
            rcases SE.out.fresh x hx' with h | h
            · simp at h
            · have h1 := G2.out.lt x hx
              have h2 := V2.out.size
              omega)
          have HCP := Lib.hid (cone_copy GE.out (G2.out.kept0 V5.out) AP.out (by omega) (by omega) a' c' j (rowE j) IE.out.row HM.out OW.out.sln IE.out.ok (GE.out.apart OW.out (by decide) (by decide) (by decide)) a2 c2 n2 X HN2.out (by omega) (O2.out.sln.kept0 SE.out.kept) XOK.out (fun x hx hx' => by
            have h1 := O2.out.lt x hx
            rcases SE.out.fresh x hx' with h | h
            · simp at h
            · omega))
          have c75 : u0.cell? ⟨b7, 0, none⟩ = some (.pointer (some ⟨p, 0, none⟩)) := V5.out.cell B7.out (by simp)
          have HN2c := Lib.hid HN2.out
          go_wp2_with fail
          refine HCP.out.mono ?_
          rintro e u1 ⟨E1, a6, c6, he, hg6, ho6, hs6⟩
          rw [HN2.out] at he ho6
          subst he
          obtain ⟨⟨gc, st⟩, hcg⟩ : ∃ s, s = copyG (inE j) G (rowE j) X := ⟨_, rfl⟩
          rw [← hcg] at CE hg6 ho6
          clear hcg
          obtain ⟨ce1, ce2, ce3, ce4⟩ := CE.out
          dsimp only at ce1 ce2 ce3 ce4 hg6 ho6
          have C1 := Lib.hid ce1
          have C2 := Lib.hid ce2
          have C3 := Lib.hid ce3
          have G6 := Lib.hid hg6
          have O6 := Lib.hid ho6
          have KU := Lib.hid (kept_up SE.out.kept hs6.kept (fun b hb => by
            rcases SE.out.fresh b hb with h | h
            · simp at h
            · exact h))
          have V6 := Lib.hid (V2.out.trans KU.out)
          have O26 := Lib.hid (O2.out.kept0 KU.out)
          clear ce1 ce2 ce3 hg6 ho6 hs6 HCP CE c75 GE OW SE FA IE AP V5
          go_wp2_with fail
          refine (cone_depth G6.out (by omega) a6 c6 n2 (X.map (overL st)) (by rw [List.length_map]; exact HN2.out) (by omega) O6.out.sln C3.out).mono ?_
          rw [C1.out]
          rintro e u2 ⟨rfl, hk2⟩
          have V7 := Lib.hid (V6.out.trans hk2)
          have G7 := Lib.hid (G6.out.kept0 hk2)
          have O27 := Lib.hid (O26.out.kept0 hk2)
          have c77 : u2.cell? ⟨b7, 0, none⟩ = some (.pointer (some ⟨p, 0, none⟩)) := V7.out.cell B7.out (by simp)
          clear hk2 G6 O6 O26 V6
          go_wp2_with fail
          clear c77
          refine (cone_reach (G2.out.kept0 V7.out) (by omega) a2 c2 n2 X HN2.out (by omega) O27.out.sln XOK.out).mono ?_
          intro e u3 hx
          obtain ⟨a8, c8, n8, rfl, o8, k8⟩ := hx
          have hn8 := o8.len
          rw [nats_length] at hn8
          rw [hn8] at C2
          have V8 := Lib.hid (V7.out.trans k8)
          have G8 := Lib.hid (G7.out.kept0 k8)
          have O28 := Lib.hid (O27.out.kept0 k8)
          have b8 : n8 ≤ G.nodes.length := by rw [← hn8]; exact pick_length _ _
          have c78 : u3.cell? ⟨b7, 0, none⟩ = some (.pointer (some ⟨p, 0, none⟩)) := V8.out.cell B7.out (by simp)
          clear o8 k8 hn8 G7 O27 V7
          go_wp2_with fail
          clear c78
          refine (cone_support (G2.out.kept0 V8.out) (by omega) a2 c2 n2 X HN2.out (by omega) O28.out.sln XOK.out).mono ?_
          intro e u4 hx
          obtain ⟨a9, c9, n9, rfl, o9, k9⟩ := hx
          have hn9 := o9.len
          rw [nats_length] at hn9
          rw [hn9] at C2
          have V9 := Lib.hid (V8.out.trans k9)
          have G9 := Lib.hid (G8.out.kept0 k9)
          have O29 := Lib.hid (O28.out.kept0 k9)
          have b9 : n9 ≤ G.nodes.length := by rw [← hn9]; exact pick_length _ _
          clear o9 k9 hn9 G8 O28 V8
          go_wp2_with fail
          refine (depth_of (G2.out.kept0 V9.out) (by omega) b7 (V9.out.cell B7.out (by simp)) a2 c2 n2 X HN2.out (by omega) O29.out.sln XOK.out).mono ?_
          rintro e u5 ⟨rfl, hk5⟩
          have V10 := Lib.hid (V9.out.trans hk5)
          have G10 := Lib.hid (G9.out.kept0 hk5)
          clear hk5
          generalize mostD (dpL G.nodes) X = dd at *
          go_wp2_with fail
          refine (aig_gates G10.out (by omega)).mono ?_
          rw [C2.out]
          rintro e u6 ⟨rfl, k6, rfl⟩
          go_wp2_with fail
          refine (cone_tells _).mono ?_
          rintro e u7 ⟨rfl, hk7⟩
          have KE := Lib.hid (((K2.out.trans V10.out).drewN k6).trans hk7)
          clear hk7
          go_wp2_with fail
          go_ret
          exact ⟨rfl, KE.out.below⟩

set_option maxRecDepth 100000 in
theorem conedepth_lifted (os : Os) (started : os.Started) (H : Type) (enc : TypeId × Value → H) :
    ReturnsInHanded {} Try.checked os 3 .any (Rows.coneDepthSpec.pre6 enc Try.prog Try.f3 Rows.coneDepthRow.domain false) (Rows.coneDepthSpec.post enc Try.prog Try.f3 false true false false) := by
  refine returnsInHanded_of_change_sized (C := Try.checked) own started (by kernel_rfl) Try.func3
    (ChangeSpec.witness6 (enc := enc) (C := Try.checked) false ⟨#[], #[.agg #[.bool false, .bool false], .slice none 0 0, .slice none 0 0], []⟩ 8 (by kernel_rfl) (by kernel_rfl) (by kernel_rfl) (by kernel_rfl)) ?_
  intro W base args ds gs before hval0 hW _ hsz0 _
  have hval : ∀ (j : Nat) t v, Try.f3.params[j]? = some t → args[j]? = some v → Value.okWide Try.prog W .any base t v := hval0
  have hend := fun W' (hb : Below W.heap.size W W') => law_post (s := Rows.coneDepthSpec) (fn := Try.f3) laidOut (by kernel_rfl) rfl ⟨4, rfl, Try.underlying4⟩ (fun l hl => by match l, hl with | [_, _, _], _ => rfl) hW hb
  obtain ⟨p, q, hA0, hV, rfl, hfz, hnd⟩ := hW
  have hA : DataW.TrodAll enc Try.prog W 0 (fun _ => true) true Try.f3.params.toList args.toList ds p := hA0
  have hsz : (DataW.weightsEach Try.prog (Try.f3.params.toList ++ Rows.coneDepthSpec.plain.varTypes Try.prog) (ds ++ gs)).all (· ≤ reachBytes) = true := hsz0
  rw [Try.params3] at hA hval hsz
  obtain ⟨v0, vs0, d0, ds0, p0, q0, hargs, rfl, rfl, h0, r0⟩ := trodAll_cons hA
  obtain ⟨v1, vs1, d1, ds1, p1, q1, rfl, rfl, rfl, h1, r1⟩ := trodAll_cons r0
  obtain ⟨v2, vs2, d2, ds2, p2, q2, rfl, rfl, rfl, h2, r2⟩ := trodAll_cons r1
  obtain ⟨rfl, rfl, rfl⟩ := trodAll_nil r2
  obtain rfl : args = #[v0, v1, v2] := by cases args; simp_all
  obtain ⟨rfl, rfl⟩ := trodVars_none hV
  obtain ⟨oa0, ob0, rfl⟩ := open_opts (hval 0 23 v0 rfl rfl) h0 (Sized.arg (j := 0) hsz rfl rfl)
  obtain ⟨sa1, sl1, sc1, rfl, sm1, ss1, so1⟩ := open_steps (hval 1 24 v1 rfl rfl) h1 (Sized.arg (j := 1) hsz rfl rfl)
  obtain ⟨a2, cap2, l2, rfl, hc2, hs2, hm2, hd2⟩ := open_nats (m := 4294967296) Try.underlying25 Try.underlying36 (by kernel_rfl) rfl rfl (hval 2 25 v2 rfl rfl) h2
  have z2 := cap_reach (bytes := 4) (j := 2) hsz rfl rfl Try.underlying25 (by kernel_rfl) hd2
  refine (conedepth_walk oa0 ob0 sa1 sl1 sc1 a2 cap2 l2 W sm1 ss1 so1 hc2 z2 hs2 hm2).mono fun e W' ⟨he, hb⟩ => ?_
  subst he
  exact hend W' hb

theorem conedepth_over : Rows.coneDepthRow.holds Try.pinned (OpenSpec.ofChange Rows.coneDepthSpec) :=
  OpenClaim.holds_of_wide 3 Try.f3 rfl rfl rfl rfl rfl rfl rfl ⟨rfl, rfl, rfl, rfl, rfl⟩ rfl rfl rfl rfl rfl (by kernel_rfl) Try.func3 (by kernel_rfl)
    (of_decide_eq_true (by kernel_rfl)) (by unfold Func.isWrapper; first | (rw [if_pos (by decide +kernel)]; kernel_rfl) | (rw [if_neg (by decide +kernel)]; exact ⟨rfl, rfl⟩))
    (fun os started H enc _ => conedepth_lifted os started H enc)

theorem coneDepth_holds : Rows.ConeDepthSaid := conedepth_over
end Go.Proofs.Ythjaihmjdnijnaa
