/-
  Law 03, AigOnce: the walk.
-/
import Derived.Test.YteikngjanfjmfaaAigOnceMath
import Derived.Test.YteikngjanfjmfaaAigActs
import Derived.Outline
namespace Go.Proofs.Yteikngjanfjmfaa
open Go.ChangeShapes Go.WideShapes Go.ChangeAt Go.RowKit
open Go.Maps (Keyed)
open Go.WideMaps
set_option linter.unusedVariables false

/-- the calls that are taken: the first 30, those of gates -/
def isSel (a : Int × List Nat) : Bool := decide (1 ≤ a.1) && decide (a.1 ≤ 4)
def sel (l : List (Int × List Nat)) (k : Nat) : List (Int × List Nat) := ((l.take k).take 30).filter isSel
theorem sel_succ (l : List (Int × List Nat)) (k : Nat) (h : k < l.length) : sel l (k + 1) = sel l k ++ (if k < 30 ∧ isSel l[k] = true then [l[k]] else []) := by
  unfold sel
  by_cases hk : k < 30
  · rw [List.take_take, List.take_take, Nat.min_eq_right (by omega), Nat.min_eq_right (by omega), take_snoc l k h, List.filter_append]
    by_cases hs : isSel l[k] = true <;> simp [hk, hs]
  · rw [List.take_take, List.take_take, Nat.min_eq_left (by omega), Nat.min_eq_left (by omega)]
    simp [hk]
theorem sel_length (l : List (Int × List Nat)) (k : Nat) : (sel l k).length ≤ 30 := by
  have h1 := List.length_filter_le isSel ((l.take k).take 30)
  have h2 := List.length_take_le 30 (l.take k)
  unfold sel
  omega
theorem grown_nice (acts : List (Int × List Nat)) (k : Nat) : Nice (grownTo false (startG true true) acts k).1 := by
  unfold grownTo
  generalize acts.take k = l
  have start : Nice (startG true true).1 := ⟨(start_ok true true).wf, rfl, rfl, fun k a b h => by
      have := h.lt; simp [startG] at this; have := h.2.2; omega, fun j k a b h _ => by have := h.lt; simp [startG] at this; have := h.2.2; omega⟩
  have main : ∀ (l : List (Int × List Nat)) (s : Gr × List Nat), Nice s.1 → Nice (l.foldl (actS false) s).1 := by
    intro l
    induction l with
    | nil => intro s h; exact h
    | cons x l ih =>
      intro s h
      refine ih _ ?_
      have hb := bring_ok h.wf (x.2.take 8 ++ [0, 0, 0])
      have h3 := bring3 s.1 x.2
      unfold actS
      cases hr : actG s.1 false x with
      | none => exact h
      | some r =>
        show Nice r.1
        unfold actG at hr
        split at hr
        · injection hr with hr; subst hr; exact nice_input h
        split at hr
        · injection hr with hr; subst hr; exact nice_many andG two_and (fun g a b h ha hb => nice_and h ha hb) h 1 _ hb
        split at hr
        · injection hr with hr; subst hr; exact nice_many orG two_or (fun g a b h ha hb => nice_or h ha hb) h 0 _ hb
        split at hr
        · injection hr with hr; subst hr; exact nice_many xorG two_xor (fun g a b h ha hb => nice_xor h ha hb) h 0 _ hb
        split at hr
        · injection hr with hr; subst hr; exact nice_mux h (hb _ (getD_mem (by omega))) (hb _ (getD_mem (by omega))) (hb _ (getD_mem (by omega)))
        split at hr
        · rename_i h5; exact absurd h5.2 (by simp)
        · cases hr
  exact main l _ start

theorem cnt_all {g : Gr} (hw : WF g.nodes) : cnt g.nodes g.nodes.length = gatesN g := by
  have h0 := hw.pos
  unfold cnt gatesN
  rw [List.take_length, if_neg (by omega)]
def OncePost (w : World) (e : Ending) (w' : World) : Prop := e = .returned (.bool true) ∧ Below w.heap.size w w'

set_option maxHeartbeats 8000000 in
set_option maxRecDepth 100000 in
theorem once_walk (a : Option Addr) (c n x : Nat) (l : List (Int × List Nat)) (w : World) (hn : l.length = n) (hm : n ≤ 140737488351232) (hx : x < 256) (hs : SlActs w a l) :
    Calls Try.prog 7 #[.slice a n c, .int .u8 x] w (OncePost w) := by
  have HN := Lib.hid hn; clear hn
  have hmm := @run_makeMap Try.prog
  obtain ⟨m, hmx⟩ : ∃ m, m = 1 + x % 6 := ⟨_, rfl⟩
  have hm6 : 1 ≤ m ∧ m ≤ 6 := by omega
  obtain ⟨hm1, hm6⟩ := hm6
  have hmi : (1 : Int) + (x : Int) % 6 = (m : Int) := by omega
  clear hmx
  go_enter Try.func7, Try.ntmps7; (try simp only [List.append])
  go_wp2
  go_loopw [5, 31] (fun v i wr => ∃ (k : Nat) (a' : Option Addr) (c' : Nat), k ≤ m ∧ i = .int .u8 k ∧ v = .slice a' k c' ∧ ActsAt w wr a' k c' (List.replicate k (0, [])) ∧ Stepped w wr [] (ft a')) (fun _ i _ => m - (intOf i).toNat)
  case atStart => exact ⟨0, none, 0, Nat.zero_le _, rfl, rfl, ActsAt.nil _ _, .refl _ _⟩
  case round =>
    obtain ⟨k, a', c', hk, rfl, rfl, hac, hst⟩ := hrel
    by_cases hlt : k < m
    · obtain ⟨R, hR1, hR2, hR3, hown⟩ := hac
      have HR := Lib.hid (And.intro hR1 (And.intro hR2 hR3)); clear hR1 hR2 hR3
      go_wp2_with (at_builtin; refine wpList_push2 rfl rfl Try.underlying58 act_info rfl (by omega) rfl rfl rfl hown (news := [.int .i64 0, .slice none 0 0]) rfl (by simp [Value.oneCell']) (by unfold maxLen; omega) (by omega) rfl ?_; intro a1 c1 w1 hown1 hst1)
      go_roundw
      case rel => exact ⟨k + 1, a1, c1, by omega, by go_num, rfl, by rw [List.replicate_succ']; exact ActsAt.push HR.out.1 HR.out.2.1 HR.out.2.2 (r := (0, none, 0, 0)) (zero_row _) hown1, hst.trans hst1⟩
      case measure => simp [intOf]; omega
    · obtain rfl : m = k := by omega
      obtain ⟨w1, rfl⟩ : ∃ w1 : World, w1 = wr := ⟨_, rfl⟩
      have hac0 := hac
      have hst0 := hst
      clear hac hst hk hlt hmi hm1
      go_wp2
      go_loopw [5, 40] (fun v i wr => ∃ (k q : Nat) (a' : Option Addr) (c' : Nat), k ≤ n ∧ q ≤ 36 ∧ i = .int .i64 k ∧ v = .slice a' q c' ∧ ActsAt w wr a' q c' (List.replicate m (0, []) ++ sel l k) ∧ Stepped w wr [] (ft a')) (fun _ i _ => n - (intOf i).toNat)
      case atStart => exact ⟨0, m, a', c', Nat.zero_le _, by omega, rfl, rfl, by have : sel l 0 = [] := rfl; rw [this, List.append_nil]; exact hac0, hst0⟩
      case round =>
        clear hac0 hst0
        obtain ⟨k, q, a2, c2, hk, hq, rfl, rfl, hac, hst⟩ := hrel
        by_cases hlt : k < n
        · have hkl : k < l.length := by rw [HN.out]; exact hlt
          obtain ⟨bb, oo, al, cl, rfl, hc1, hc2, hlc, hcb, hnil0, hsl⟩ := hs k hkl
          have hc1 := hst.kept.cell hc1 (by simp)
          have hc2 := hst.kept.cell hc2 (by simp)
          have HSU := Lib.hid (sel_succ l k hkl)
          have HSL := Lib.hid (sel_length l k)
          have HRO := Lib.hid (show RowOk w (l[k].1, al, l[k].2.length, cl) l[k] from ⟨rfl, rfl, hlc, hcb, hnil0, hsl⟩)
          clear hsl hnil0
          generalize l[k] = act at *
          obtain ⟨wh, L⟩ := act
          simp only at hc1 hc2 hlc
          obtain ⟨R, hR1, hR2, hR3, hown⟩ := hac
          have hq36 : q ≤ m + (sel l k).length := by rw [← hR2, List.length_append, List.length_replicate]; omega
          have HR := Lib.hid (And.intro hR1 (And.intro hR2 hR3)); clear hR1 hR2 hR3
          have hsl30 : (sel l k).length ≤ 30 := HSL.out
          by_cases k30 : k < 30
          · have d1 : decide ((k : Int) < 30) = true := by simp; omega
            by_cases h1 : 1 ≤ wh
            · have d2 : decide (1 ≤ wh) = true := by simpa using h1
              by_cases h4 : wh ≤ 4
              · have d3 : decide (wh ≤ 4) = true := by simpa using h4
                have HSS := Lib.hid (show (if k < 30 ∧ isSel (wh, L) = true then [(wh, L)] else []) = [(wh, L)] from if_pos ⟨k30, by simp [isSel, h1, h4]⟩)
                have hq36' : q + 1 ≤ 36 := by
                  have h2 : (sel l (k + 1)).length ≤ 30 := sel_length l (k + 1)
                  rw [HSU.out, HSS.out, List.length_append] at h2
                  simp at h2
                  omega
                go_wp2_with (at_builtin; refine wpList_push2 rfl rfl Try.underlying58 act_info rfl (by omega) rfl (by simp) rfl (own_kept (w := wr) hown ((Kept.refl [] wr).alloc _) (by simp)) (news := [.int .i64 wh, .slice al L.length cl]) rfl (by simp [Value.oneCell']) (by unfold maxLen; omega) (by omega) rfl ?_; intro a3 c3 w3 hown3 hst3)
                go_roundw
                case rel => exact ⟨k + 1, q + 1, a3, c3, by omega, by omega, by go_num, rfl, by rw [HSU.out, HSS.out, ← List.append_assoc]; exact ActsAt.push HR.out.1 HR.out.2.1 HR.out.2.2 (r := (wh, al, L.length, cl)) HRO.out hown3, (hst.alloc _).trans hst3⟩
                case measure => simp [intOf]; omega
              · have d3 : decide (wh ≤ 4) = false := by simpa using h4
                have HSS := Lib.hid (show (if k < 30 ∧ isSel (wh, L) = true then [(wh, L)] else []) = [] from if_neg (by simp [isSel, h4]))
                go_wp2_with fail
                go_roundw
                case rel => exact ⟨k + 1, q, a2, c2, by omega, by omega, by go_num, rfl, by rw [HSU.out, HSS.out, List.append_nil]; exact (show ActsAt w wr a2 q c2 _ from ⟨R, HR.out.1, HR.out.2.1, HR.out.2.2, hown⟩).kept0 ((Kept.refl [] wr).alloc _), hst.alloc _⟩
                case measure => simp [intOf]; omega
            · have d2 : decide (1 ≤ wh) = false := by simpa using h1
              have HSS := Lib.hid (show (if k < 30 ∧ isSel (wh, L) = true then [(wh, L)] else []) = [] from if_neg (by simp [isSel, h1]))
              go_wp2_with fail
              go_roundw
              case rel => exact ⟨k + 1, q, a2, c2, by omega, by omega, by go_num, rfl, by rw [HSU.out, HSS.out, List.append_nil]; exact (show ActsAt w wr a2 q c2 _ from ⟨R, HR.out.1, HR.out.2.1, HR.out.2.2, hown⟩).kept0 ((Kept.refl [] wr).alloc _), hst.alloc _⟩
              case measure => simp [intOf]; omega
          · have d1 : decide ((k : Int) < 30) = false := by simp; omega
            have HSS := Lib.hid (show (if k < 30 ∧ isSel (wh, L) = true then [(wh, L)] else []) = [] from if_neg (by simp [k30]))
            go_wp2_with fail
            go_roundw
            case rel => exact ⟨k + 1, q, a2, c2, by omega, by omega, by go_num, rfl, by rw [HSU.out, HSS.out, List.append_nil]; exact (show ActsAt w wr a2 q c2 _ from ⟨R, HR.out.1, HR.out.2.1, HR.out.2.2, hown⟩).kept0 ((Kept.refl [] wr).alloc _), hst.alloc _⟩
            case measure => simp [intOf]; omega
        · obtain rfl : n = k := by omega
          obtain ⟨w2, rfl⟩ : ∃ w2 : World, w2 = wr := ⟨_, rfl⟩
          generalize List.replicate m (0, []) ++ sel l n = acts at *
          have hsl2 := hac.sl hst.kept
          have HQ := Lib.hid (show acts.length = q from by obtain ⟨_, _, h2, _⟩ := hac; exact h2)
          have HK0 := Lib.hid hst.kept
          have HNI := Lib.hid (grown_nice acts 40)
          have HOK := Lib.hid (grownTo_ok true true false acts 40)
          clear hac hst hs hk hlt
          go_wp2_with fail
          refine (grown_c true true false a2 c2 q acts _ HQ.out (by omega) hsl2).mono ?_
          generalize grownTo false (startG true true) acts 40 = s at *
          obtain ⟨g, told⟩ := s
          have hsz : g.nodes.length ≤ 1000 := by have h2 := HOK.out.size; have := List.length_take_le 40 acts; simp only at h2; omega
          have htl : told.length ≤ 40 := by have h2 := HOK.out.many; have := List.length_take_le 40 acts; simp only at h2; omega
          rintro e w3 ⟨p, F, ta, tc, rfl, hg3, hto3, hst3⟩
          have hg3 : GraphAt w3 p F g := hg3
          have hto3 : Own w3 24 ta told.length tc (nats .u32 told) := hto3
          have hK3 : Kept [] w w3 := HK0.out.trans hst3.kept
          have hfr3 : ∀ b ∈ F, w.heap.size ≤ b := fun b hb => (hst3.fresh b (List.mem_append_left _ hb)).elim (fun h => absurd h (by simp)) (fun h => Nat.le_trans HK0.out.size h)
          clear hst3 hsl2
          go_wp2_with fail
          refine (wakes_c _).mono ?_
          rintro e w4 ⟨rfl, hk4⟩
          have hg4 := hg3.kept0 hk4
          have hto4 := hto3.kept0 hk4
          have hK4 := hK3.trans hk4
          clear hg3 hto3 hK3 hk4
          go_wp2_with fail
          refine (aig_nodes (hg4.kept0 ((Kept.refl [] w4).alloc _)) (by omega)).mono ?_
          rintro e w' ⟨rfl, rfl⟩
          have hmv0 : MapV (w4.alloc (.map #[] 0)) Try.prog 69 w4.heap.size (fun _ => none) := MapV.new _ _ _
          have hg5 := hg4.kept0 ((Kept.refl [] w4).alloc (.map #[] 0))
          have hto5 := hto4.kept0 ((Kept.refl [] w4).alloc (.map #[] 0))
          have hK5 := hK4.trans ((Kept.refl [] w4).alloc (.map #[] 0))
          have hmF : w4.heap.size ∉ F := fun h => Nat.lt_irrefl _ (hg4.lt _ h)
          have hmT : w4.heap.size ∉ ft ta := fun h => Nat.lt_irrefl _ (hto4.lt _ h)
          have hmw : w.heap.size ≤ w4.heap.size := hK4.size
          obtain ⟨mm, hmme⟩ : ∃ mm, w4.heap.size = mm := ⟨_, rfl⟩
          rw [hmme] at hmv0 hmF hmT hmw ⊢
          clear hg4 hto4 hK4 hmme
          generalize w4.alloc (.map #[] 0) = w5 at *
          have HG5 := Lib.hid hg5; clear hg5
          have HTO5 := Lib.hid hto5; clear hto5
          have HK5 := Lib.hid hK5; clear hK5
          have HFR := Lib.hid hfr3; clear hfr3
          have HM0 := Lib.hid hmv0; clear hmv0
          have HMF := Lib.hid hmF; clear hmF
          have HMT := Lib.hid hmT; clear hmT
          go_wp2_with fail
          go_loopw [12, 78] (fun v i wr => ∃ (k : Nat) (f : Value → Option Value), k ≤ g.nodes.length ∧ i = .int .i64 k ∧ v = .int .i64 (cnt g.nodes k) ∧ MapV wr Try.prog 69 mm f ∧ (∀ x y, f (pairV x y) ≠ none → ∃ j, j < k ∧ GateAt g.nodes j x y) ∧ Kept [mm] w5 wr) (fun _ i _ => g.nodes.length - (intOf i).toNat)
          case atStart => exact ⟨0, _, Nat.zero_le _, rfl, rfl, HM0.out, fun x y h => absurd rfl h, .refl _ _⟩
          case round =>
            obtain ⟨k, f, hk, rfl, rfl, hmv, hseen, hkm⟩ := hrel
            have HSE := Lib.hid hseen; clear hseen
            by_cases hlt : k < g.nodes.length
            · obtain ⟨⟨x, y⟩, hxy⟩ : ∃ q, g.nodes[k]? = some q := ⟨_, List.getElem?_eq_getElem hlt⟩
              have hgr := HG5.out.kept hkm (fun b hb h => HMF.out (by simp at h; exact h ▸ hb))
              have HCB := Lib.hid (cnt_bound g.nodes k hk)
              have hcb1 := HCB.out.1
              have hcb2 := HCB.out.2
              have HGO := Lib.hid (aig_gateOf hgr (by omega) k (by omega) (by omega))
              by_cases hin : x / 2 = k ∨ k = 0
              · have HCN := Lib.hid (cnt_none hxy hin)
                have HGA := Lib.hid (gateA_none hxy hin)
                clear hin hxy
                go_wp2_with fail
                refine HGO.out.mono ?_
                rw [HGA.out]
                rintro e w6 ⟨rfl, hk6⟩
                go_wp2_with fail
                go_roundw
                case rel => exact ⟨k + 1, f, by omega, by go_num, by rw [HCN.out], hmv.kept hk6 (by simp), fun x y h => by obtain ⟨j, h1, h2⟩ := HSE.out x y h; exact ⟨j, by omega, h2⟩, hkm.trans (hk6.more (by simp))⟩
                case measure => simp [intOf]; omega
              · have HGT := Lib.hid (show GateAt g.nodes k x y from ⟨hxy, fun h => hin (.inl h), by omega⟩)
                obtain ⟨e1, e2, e3, e4⟩ := HNI.out.each k x y HGT.out
                have HCN := Lib.hid (cnt_gate HGT.out)
                have HGA := Lib.hid (show gateA g k = (x, y, true) from by
                  unfold gateA
                  rw [if_pos (by omega)]
                  simp only [Int.toNat_natCast, hxy]
                  rw [if_neg (by omega)])
                have HN0 := Lib.hid (show f (pairV x y) = none from by
                  cases hf : f (pairV x y) with
                  | none => rfl
                  | some v =>
                    obtain ⟨j, h1, h2⟩ := HSE.out x y (by rw [hf]; simp)
                    have := HNI.out.one j k x y h2 HGT.out
                    omega)
                have hx32 : x < 4294967296 := by omega
                have hy32 : y < 4294967296 := by omega
                have HKY := Lib.hid (two_key hx32 hy32)
                have t1 : decide (x ≤ y) = false := by simp; omega
                have t2 : ¬ ((k : Int) ≤ (x : Int) / 2) := by omega
                have t3 : ((y : Int) / 2 == 0) = false := by simp; omega
                have t4 : ((x : Int) / 2 == (y : Int) / 2) = false := by simp; omega
                clear hin hxy
                go_wp2_with fail
                refine HGO.out.mono ?_
                rw [HGA.out]
                rintro e w6 ⟨rfl, hk6⟩
                have hmv6 := hmv.kept hk6 (by simp)
                have hlk : (Instr.lookup 66 (.map (some mm)) (.agg #[.int .u32 (x : Int), .int .u32 (y : Int)]) false).run Try.prog w6 = .ok (.bool false) w6 := by
                  obtain ⟨kl, hkl⟩ := HKY.out
                  have h := hmv6.look false two_law Try.underlying66 (bool_zero _) hkl
                  rw [HN0.out] at h
                  exact h
                go_wp2_with fail
                refine (lit_node x _ hx32).mono ?_
                rintro e w' ⟨rfl, rfl⟩
                go_wp2_with fail
                refine (lit_node y _ hy32).mono ?_
                rintro e w' ⟨rfl, rfl⟩
                go_wp2_with fail
                refine (lit_node x _ hx32).mono ?_
                rintro e w' ⟨rfl, rfl⟩
                go_wp2_with fail
                refine (lit_node y _ hy32).mono ?_
                rintro e w' ⟨rfl, rfl⟩
                go_wp2_with (at_mapUpdate; refine wpList_upd rfl rfl two_law Try.underlying66 rfl rfl rfl hmv6 HKY.out ?_; intro w7 hm7 hk7)
                go_roundw
                case rel => exact ⟨k + 1, _, by omega, by go_num, by rw [HCN.out], hm7, fun x' y' h => by
                  by_cases he : (x, y) = (x', y')
                  · simp only [Prod.mk.injEq] at he
                    obtain ⟨rfl, rfl⟩ := he
                    exact ⟨k, by omega, HGT.out⟩
                  · have : upd f (pairV x y) (.bool true) (pairV x' y') = f (pairV x' y') := upd_other _ (fun h => he (pairV_inj h).symm)
                    have h' : upd f (pairV x y) (.bool true) (pairV x' y') ≠ none := h
                    rw [this] at h'
                    obtain ⟨j, h1, h2⟩ := HSE.out x' y' h'
                    exact ⟨j, by omega, h2⟩, (hkm.trans (hk6.more (by simp))).trans hk7⟩
                case measure => simp [intOf]; omega
            · obtain rfl : k = g.nodes.length := by omega
              have hg6 := HG5.out.kept hkm (fun b hb h => HMF.out (by simp at h; exact h ▸ hb))
              have hto6 := HTO5.out.kept hkm (fun b hb h => HMT.out (by simp at h; exact h ▸ hb))
              have hK6 : Kept [] w wr := ⟨hkm.os.trans HK5.out.os, hkm.tape.trans HK5.out.tape, hkm.output.trans HK5.out.output, Nat.le_trans HK5.out.size hkm.size, fun b hb _ => (hkm.block b (Nat.lt_of_lt_of_le hb HK5.out.size) (by simp; omega)).trans (HK5.out.block b hb (by simp))⟩
              have HCA := Lib.hid (cnt_all HNI.out.wf)
              rw [HCA.out]
              obtain ⟨w6, rfl⟩ : ∃ w6 : World, w6 = wr := ⟨_, rfl⟩
              clear hmv hkm hk hlt
              go_wp2_with fail
              refine (aig_gates hg6 (by omega)).mono ?_
              rintro e w' ⟨rfl, dr, rfl⟩
              have hg7 : GraphAt (w6.drewN dr) p F g := hg6.kept0 ((Kept.refl [] w6).drewN dr)
              have hto7 := hto6.drewN dr
              have hK7 := hK6.drewN dr
              clear hg6 hto6 hK6
              generalize w6.drewN dr = w7 at *
              have HG7 := Lib.hid hg7; clear hg7
              have HTO7 := Lib.hid hto7; clear hto7
              have HK7 := Lib.hid hK7; clear hK7
              have HTK := Lib.hid (show ∀ x ∈ told, g.ok x from HOK.out.told)
              go_wp2_with fail
              go_loopw [131] (fun i wr => ∃ (k : Nat) (F' : List Nat) (g' : Gr), k ≤ told.length ∧ i = .int .i64 k ∧ GraphAt wr p F' g' ∧ Nice g' ∧ (∃ more, g'.nodes = g.nodes ++ more ∧ more.length ≤ 40 * k) ∧ Own wr 24 ta told.length tc (nats .u32 told) ∧ Stepped w wr [] F') (fun i _ => told.length - (intOf i).toNat)
              case atStart => exact ⟨0, F, g, Nat.zero_le _, rfl, HG7.out, HNI.out, ⟨[], by simp, by simp⟩, HTO7.out, ⟨HK7.out, fun b hb => .inr (HFR.out b hb)⟩⟩
              case round =>
                obtain ⟨k, F1, g1, hk, rfl, hg1, hn1, hmore1, hto1, hst1⟩ := hrel
                obtain ⟨w8, rfl⟩ : ∃ w8 : World, w8 = wr := ⟨_, rfl⟩
                by_cases hlt : k < told.length
                · obtain ⟨ad, rfl, hca⟩ := hto1.sln k hlt
                  have hx := HTK.out _ (List.getElem_mem hlt)
                  generalize told[k] = x at *
                  have HG1 := Lib.hid hg1; clear hg1
                  have HTO1 := Lib.hid hto1; clear hto1
                  have HN1 := Lib.hid hn1; clear hn1
                  have HM1 := Lib.hid hmore1; clear hmore1
                  have HS1 := Lib.hid hst1; clear hst1
                  have HX := Lib.hid hx; clear hx
                  have ikt : (k : Int) < (told.length : Int) := by omega
                  go_wp2_with fail
                  go_loopw [137] (fun i wr => ∃ (j : Nat) (F' : List Nat) (g' : Gr), j ≤ told.length ∧ i = .int .i64 j ∧ GraphAt wr p F' g' ∧ Nice g' ∧ (∃ more, g'.nodes = g.nodes ++ more ∧ more.length ≤ 40 * k + j) ∧ Own wr 24 (some ad) told.length tc (nats .u32 told) ∧ Stepped w wr [] F') (fun i _ => told.length - (intOf i).toNat)
                  case atStart => exact ⟨0, F1, g1, Nat.zero_le _, rfl, HG1.out, HN1.out, by obtain ⟨m, h1, h2⟩ := HM1.out; exact ⟨m, h1, by omega⟩, HTO1.out, HS1.out⟩
                  case round =>
                    obtain ⟨j, F2, g2, hj, rfl, hg2, hn2, hmore2, hto2, hst2⟩ := hrel
                    by_cases hjt : j < told.length
                    · obtain ⟨ad', e0, hcb⟩ := hto2.sln j hjt
                      injection e0 with e0
                      subst e0
                      have hy0 := HTK.out _ (List.getElem_mem hjt)
                      have hsz2 : g2.nodes.length ≤ 2700 := by obtain ⟨m, h1, h2⟩ := hmore2; rw [h1, List.length_append]; omega
                      have hx2 : g2.ok x := by obtain ⟨m, h1, _⟩ := hmore2; have := HX.out; unfold Gr.ok at *; rw [h1, List.length_append]; omega
                      have hy2 : g2.ok told[j] := by obtain ⟨m, h1, _⟩ := hmore2; unfold Gr.ok at *; rw [h1, List.length_append]; omega
                      generalize told[j] = y at *
                      clear hy0
                      have HSP := Lib.hid (andG_spec hn2.wf hx2 hy2)
                      have HAG := Lib.hid (and_again hn2 hx2 hy2)
                      have HNN := Lib.hid (nice_and hn2 hx2 hy2)
                      obtain ⟨⟨g3, v⟩, E3⟩ : ∃ r, andG g2 x y = r := ⟨_, rfl⟩
                      have hsp := HSP.out
                      have hag := HAG.out
                      have hnn := HNN.out
                      rw [E3] at hsp hag hnn
                      simp only at hsp hag hnn
                      have HE3 := Lib.hid E3; clear E3 HSP HAG HNN
                      have hle3 := hsp.2.1.le
                      have hx3 := hsp.2.1.ok hx2
                      have hy3 := hsp.2.1.ok hy2
                      have HX3 := Lib.hid (And.intro hx3 hy3); clear hx3 hy3
                      have HA1 := Lib.hid hag.1
                      have HA2 := Lib.hid hag.2
                      have HNN := Lib.hid hnn; clear hnn hag
                      have HMO := Lib.hid (show ∃ more, g3.nodes = g.nodes ++ more ∧ more.length ≤ 40 * k + (j + 1) from by
                        obtain ⟨m, h1, h2⟩ := hmore2
                        obtain ⟨m', h3, h4⟩ := hsp.2.1.pre
                        exact ⟨m ++ m', by rw [h3, h1, List.append_assoc], by rw [List.length_append]; omega⟩)
                      have hsz3 : g3.nodes.length ≤ 2701 := by omega
                      clear hsp hmore2
                      have h := and2_c hg2 (by omega) hx2 hy2
                      rw [HE3.out] at h
                      have ijt : (j : Int) < (told.length : Int) := by omega
                      go_wp2_with fail
                      refine h.mono ?_
                      clear h
                      rintro e w9 ⟨F3, rfl, hg3, hst3⟩
                      have hg3 : GraphAt w9 p F3 g3 := hg3
                      have hto3 := hto2.kept hst3.kept (hg2.apart hto2 (by decide) (by decide) (by decide))
                      have hs3 := hst2.trans hst3
                      clear hg2 hto2 hst2 hst3
                      go_wp2_with fail
                      refine (aig_nodes hg3 (by omega)).mono ?_
                      rintro e w' ⟨rfl, rfl⟩
                      have h := and2_c hg3 (by omega) HX3.out.2 HX3.out.1
                      rw [HA2.out] at h
                      go_wp2_with fail
                      refine h.mono ?_
                      clear h
                      rintro e w10 ⟨F4, rfl, hg4, hst4⟩
                      have hg4 : GraphAt w10 p F4 g3 := hg4
                      have hto4 := hto3.kept hst4.kept (hg3.apart hto3 (by decide) (by decide) (by decide))
                      have hs4 := hs3.trans hst4
                      clear hg3 hto3 hs3 hst4
                      have h := and2_c hg4 (by omega) HX3.out.1 HX3.out.2
                      rw [HA1.out] at h
                      go_wp2_with fail
                      refine h.mono ?_
                      clear h
                      rintro e w11 ⟨F5, rfl, hg5, hst5⟩
                      have hg5 : GraphAt w11 p F5 g3 := hg5
                      have hto5 := hto4.kept hst5.kept (hg4.apart hto4 (by decide) (by decide) (by decide))
                      have hs5 := hs4.trans hst5
                      clear hg4 hto4 hs4 hst5
                      go_wp2_with fail
                      refine (aig_nodes hg5 (by omega)).mono ?_
                      rintro e w' ⟨rfl, rfl⟩
                      go_wp2_with fail
                      go_roundw
                      case rel => exact ⟨j + 1, F5, g3, by omega, by go_num, hg5, HNN.out, HMO.out, hto5, hs5⟩
                      case measure => simp [intOf]; omega
                    · obtain rfl : j = told.length := by omega
                      go_wp2_with fail
                      go_roundw
                      case rel => exact ⟨k + 1, F2, g2, by omega, by go_num, hg2, hn2, by obtain ⟨m, h1, h2⟩ := hmore2; exact ⟨m, h1, by omega⟩, hto2, hst2⟩
                      case measure => simp [intOf]; omega
                · go_wp2_with fail
                  go_ret
                  exact ⟨rfl, hst1.kept.below⟩
end Go.Proofs.Yteikngjanfjmfaa
