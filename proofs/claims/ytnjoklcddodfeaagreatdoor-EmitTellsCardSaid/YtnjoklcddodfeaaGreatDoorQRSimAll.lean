/-
  The document's Check, of any netlist that steps make. The document's Check says 0 of a netlist whose inputs are all driven. The document's netlist: an input is told, buses may be, Check says 0 of a netlist that is driven whole. The document's netlist: how often a literal is driven; what an input is.
-/
import Derived.Test.YtnjoklcddodfeaaGreatDoorP36
import Derived.Test.YtnjoklcddodfeaaGreatDoorP33
import Derived.Test.YtnjoklcddodfeaaGreatDoorQInsOf
import Derived.Test.YtnjoklcddodfeaaGreatDoorP35
import Derived.BigQuiet
import Derived.Deep.RegionHeld3
namespace Go.Proofs.YtnjoklcddodfeaaGreatDoor
open Go.ChangeShapes Go.WideShapes Go.ChangeAt Go.RowKit
open Go.Maps (Keyed)
open Go.WideMaps
set_option linter.unusedVariables false
set_option linter.unusedSimpArgs false

variable {w w' : World} {p n k : Nat} {F R S : List Nat} {g : Gr} {N : Nt}
theorem owns_cap {e : TypeId} {size m cap : Nat} {a : Option Addr} {xs : List Value} (h : w.ownsRow 0 e size (.slice a m cap) m xs) : m ≤ cap := by
  rcases h.2 with ⟨hv, h0⟩ | ⟨g, cap', cur, hv, hb, hg, hc, rest⟩
  · omega
  · injection hv with _ _ hv; subst hv; exact hc
/-- the document's netlist's parts, where they lie -/
structure RNetP (w : World) (n : Nat) (N : Nt) (p : Nat) (ia : Option Addr) (ic : Nat) (ra : Option Addr) (rc : Nat) (oa : Option Addr) (oc : Nat) (ri ro : List BR) : Prop where
  c0 : w.cell? ⟨n, 0, none⟩ = some (.pointer (some ⟨p, 0, none⟩))
  c1 : w.cell? ⟨n, 1, none⟩ = some (.string N.name)
  c2 : w.cell? ⟨n, 2, none⟩ = some (.slice ia N.inb.length ic)
  c3 : w.cell? ⟨n, 3, none⟩ = some (.slice ra N.regs.length rc)
  c4 : w.cell? ⟨n, 4, none⟩ = some (.slice oa N.outb.length oc)
  gr : ∃ G, RefAt w p G N.g
  ib : SlB w ia ri
  im : ri.map (·.b) = N.inb
  ir : ∀ r ∈ ri, SlN w .u32 r.a r.b.lits
  rb : SlR w ra N.regs
  ob : SlB w oa ro
  om : ro.map (·.b) = N.outb
  or : ∀ r ∈ ro, SlN w .u32 r.a r.b.lits
  ik : N.inb.length ≤ ic
  ok : N.outb.length ≤ oc
theorem rnet_parts (h : RNetAt w n F R N) : ∃ p ia ic ra rc oa oc ri ro, RNetP w n N p ia ic ra rc oa oc ri ro := by
  obtain ⟨p, G, ia, ic, ra, rc, oa, oc, ri, ro, rfl, rfl, hn⟩ := h
  exact ⟨p, ia, ic, ra, rc, oa, oc, ri, ro, hn.c0, hn.c1, hn.c2, hn.c3, hn.c4, ⟨G, hn.gr⟩, hn.ib.slb, hn.ib.is, fun r hr => (hn.ib.rows r hr).1, rregs_sl rfl hn.rb, hn.ob.slb, hn.ob.is, fun r hr => (hn.ob.rows r hr).1, owns_cap hn.ib.own, owns_cap hn.ob.own⟩
theorem RNetP.kept0 {ia ra oa : Option Addr} {ic rc oc : Nat} {ri ro : List BR} (h : RNetP w n N p ia ic ra rc oa oc ri ro) (hk : Kept [] w w') : RNetP w' n N p ia ic ra rc oa oc ri ro := by
  obtain ⟨G, hg⟩ := h.gr
  exact ⟨hk.cell h.c0 (by simp), hk.cell h.c1 (by simp), hk.cell h.c2 (by simp), hk.cell h.c3 (by simp), hk.cell h.c4 (by simp), ⟨G, hg.kept0 hk⟩, h.ib.kept0 hk, h.im, fun r hr => (h.ir r hr).kept0 hk, h.rb.kept0 hk, h.ob.kept0 hk, h.om, fun r hr => (h.or r hr).kept0 hk, h.ik, h.ok⟩
/-- how often x is driven by the first k buses -/
def cntB (l : List Bus) (x k : Nat) : Nat := ((l.take k).flatMap (·.lits)).count x
theorem cntB_succ {l : List Bus} {x k : Nat} (h : k < l.length) : cntB l x (k + 1) = cntB l x k + l[k].lits.count x := by
  unfold cntB
  rw [List.take_succ_eq_append_getElem h, List.flatMap_append, List.count_append]
  simp
theorem cntB_le {l : List Bus} {x : Nat} (hl : ∀ b ∈ l, b.lits.length ≤ 64) (k : Nat) : cntB l x k ≤ 64 * k := by
  induction k with
  | zero => simp [cntB]
  | succ k ih =>
    by_cases h : k < l.length
    · rw [cntB_succ h]
      have h1 := hl _ (List.getElem_mem h)
      have h2 : l[k].lits.count x ≤ l[k].lits.length := List.count_le_length
      omega
    · have : cntB l x (k + 1) = cntB l x k := by unfold cntB; rw [List.take_of_length_le (by omega), List.take_of_length_le (by omega)]
      omega
theorem take_count {l : List Nat} {x j : Nat} (h : j < l.length) : (l.take (j + 1)).count x = (l.take j).count x + (if l[j] = x then 1 else 0) := by
  rw [List.take_succ_eq_append_getElem h, List.count_append]
  by_cases he : l[j] = x
  · simp [he]
  · simp [he]
def cntR (l : List Rg) (x k : Nat) : Nat := ((l.take k).map (·.q)).count x
theorem cntR_succ {l : List Rg} {x k : Nat} (h : k < l.length) : cntR l x (k + 1) = cntR l x k + (if l[k].q = x then 1 else 0) := by
  unfold cntR
  rw [List.take_succ_eq_append_getElem h, List.map_append, List.count_append]
  by_cases he : l[k].q = x
  · simp [he]
  · simp [he]
theorem cnt_all (N : Nt) (x : Nat) : cntB N.inb x N.inb.length + cntR N.regs x N.regs.length = (drivenN N).count x := by
  unfold cntB cntR drivenN
  rw [List.take_length, List.take_length, List.count_append]
set_option maxHeartbeats 3200000 in
set_option maxRecDepth 100000 in
theorem driven06 (x : Nat) (h : RNetAt w n F R N) (hx : x < 4294967296) (hi : N.inb.length ≤ 1000) (hr : N.regs.length ≤ 1000) (hl : ∀ b ∈ N.inb, b.lits.length ≤ 64) :
    Calls Tryz.prog 87 #[.pointer (some ⟨n, 0, none⟩), .int .u32 (x : Int)] w fun e w' => e = .returned (.int .i64 (((drivenN N).count x : Nat) : Int)) ∧ w = w' := by
  obtain ⟨p, ia, ic, ra, rc, oa, oc, ri, ro, hp⟩ := rnet_parts h
  have HP := Lib.hid hp
  have c2 := hp.c2
  have c3 := hp.c3
  have HL := Lib.hid hl
  have HC := Lib.hid (cnt_all N x)
  clear hp h hl
  go_enter Tryz.func87, Tryz.ntmps87
  go_wp2_with fail
  go_loop [5, 6, 7] (fun v i _ => ∃ k : Nat, k ≤ N.inb.length ∧ i = .int .i64 k ∧ v = .int .i64 ((cntB N.inb x k : Nat) : Int)) (fun _ i _ => N.inb.length - (intOf i).toNat)
  case atStart => exact ⟨0, Nat.zero_le _, rfl, by simp [cntB]⟩
  case round =>
    obtain ⟨k, hk, rfl, rfl⟩ := hrel
    have hcb := cntB_le (x := x) HL.out k
    by_cases hlt : k < N.inb.length
    · have hkr : k < ri.length := by have := congrArg List.length HP.out.im; simp at this; omega
      obtain ⟨bb, rfl, b0, b1⟩ := HP.out.ib k hkr
      have HS := Lib.hid (HP.out.ir _ (List.getElem_mem hkr))
      have hbk : N.inb[k] = ri[k].b := by
        have := List.getElem_of_eq HP.out.im.symm (i := k) hlt
        rw [this]; simp
      have HCS := Lib.hid (cntB_succ (x := x) hlt)
      have hl64 := HL.out _ (List.getElem_mem hlt)
      rw [hbk] at HCS hl64
      clear hbk b0
      generalize ri[k].a = ba at *
      generalize ri[k].c = bc at *
      generalize ri[k].b.lits = L at *
      obtain ⟨ln, hln⟩ : ∃ ln, ln = L.length := ⟨_, rfl⟩
      rw [← hln] at b1 hl64
      have HLN := Lib.hid hln
      clear hln
      generalize cntB N.inb x k = m at *
      go_wp2_with fail
      go_loop [5, 7] (fun v i => ∃ j : Nat, j ≤ ln ∧ i = .int .i64 j ∧ v = .int .i64 ((m + (L.take j).count x : Nat) : Int)) (fun _ i => ln - (intOf i).toNat)
      case atStart => exact ⟨0, Nat.zero_le _, rfl, by simp⟩
      case round =>
        obtain ⟨j, hj, rfl, rfl⟩ := hrel
        have hcj : (L.take j).count x ≤ j := Nat.le_trans List.count_le_length (by simp; omega)
        by_cases hjl : j < ln
        · have hj1 : j < L.length := by rw [← HLN.out]; exact hjl
          obtain ⟨ad, rfl, lx⟩ := HS.out j hj1
          have HT := Lib.hid (take_count (x := x) hj1)
          generalize (L.take j).count x = cj at *
          generalize L[j] = y at *
          by_cases hy : y = x
          · have e1 : ((y : Int) == (x : Int)) = true := by simp; omega
            rw [if_pos hy] at HT
            clear hy
            go_wp2_with fail
            go_round
            case rel => exact ⟨j + 1, by omega, by go_num, by rw [HT.out]; go_num⟩
            case measure => simp [intOf]; omega
          · have e1 : ((y : Int) == (x : Int)) = false := by simp; omega
            rw [if_neg hy] at HT
            clear hy
            go_wp2_with fail
            go_round
            case rel => exact ⟨j + 1, by omega, by go_num, by rw [HT.out, Nat.add_zero]⟩
            case measure => simp [intOf]; omega
        · obtain rfl : j = ln := by omega
          have hall : L.take j = L := List.take_of_length_le (by rw [← HLN.out]; exact Nat.le_refl _)
          rw [hall]
          go_wp2_with fail
          go_round
          case rel => exact ⟨k + 1, by omega, by go_num, by rw [HCS.out]⟩
          case measure => simp [intOf]; omega
    · obtain rfl : k = N.inb.length := by omega
      generalize hcB : cntB N.inb x N.inb.length = m at *
      have HCB := Lib.hid hcB
      clear hcB
      go_wp2_with fail
      go_loop [5, 8] (fun v i => ∃ q : Nat, q ≤ N.regs.length ∧ i = .int .i64 q ∧ v = .int .i64 ((m + cntR N.regs x q : Nat) : Int)) (fun _ i => N.regs.length - (intOf i).toNat)
      case atStart => exact ⟨0, Nat.zero_le _, rfl, by simp [cntR]⟩
      case round =>
        obtain ⟨q, hq, rfl, rfl⟩ := hrel
        have hcq : cntR N.regs x q ≤ q := Nat.le_trans List.count_le_length (by simp; omega)
        by_cases hql : q < N.regs.length
        · obtain ⟨rb, rfl, r0, r1, r2, r3⟩ := HP.out.rb q hql
          have HT := Lib.hid (cntR_succ (x := x) hql)
          clear r1 r2 r3
          generalize cntR N.regs x q = cj at *
          generalize N.regs[q].q = y at *
          by_cases hy : y = x
          · have e1 : ((y : Int) == (x : Int)) = true := by simp; omega
            rw [if_pos hy] at HT
            clear hy
            go_wp2_with fail
            go_round
            case rel => exact ⟨q + 1, by omega, by go_num, by rw [HT.out]; go_num⟩
            case measure => simp [intOf]; omega
          · have e1 : ((y : Int) == (x : Int)) = false := by simp; omega
            rw [if_neg hy] at HT
            clear hy
            go_wp2_with fail
            go_round
            case rel => exact ⟨q + 1, by omega, by go_num, by rw [HT.out, Nat.add_zero]⟩
            case measure => simp [intOf]; omega
        · obtain rfl : q = N.regs.length := by omega
          go_wp2_with fail
          go_ret
          exact ⟨by rw [← HC.out]; rfl, rfl⟩
end Go.Proofs.YtnjoklcddodfeaaGreatDoor

namespace Go.Proofs.YtnjoklcddodfeaaGreatDoor
open Go.ChangeShapes Go.WideShapes Go.ChangeAt Go.RowKit
open Go.Maps (Keyed)
open Go.WideMaps
set_option linter.unusedVariables false
set_option linter.unusedSimpArgs false

variable {w w' : World} {p n k q : Nat} {F R S : List Nat} {g : Gr} {N : Nt}
theorem ref_at (hg : RefAt w q R g) : ∃ gb cn, w.cell? ⟨q, 2, none⟩ = some (.slice (some ⟨gb, 0, none⟩) g.nodes.length cn) ∧ ∀ (k : Nat) (p : Nat × Nat), g.nodes[k]? = some p →
    w.cell? ⟨gb, k * 3, none⟩ = some (.bool (decide (p.1 / 2 = k) && decide (k ≠ 0))) ∧ (p.1 / 2 ≠ k → w.cell? ⟨gb, k * 3 + 1, none⟩ = some (.int .u32 (p.1 : Int)) ∧ w.cell? ⟨gb, k * 3 + 2, none⟩ = some (.int .u32 (p.2 : Int))) := by
  have hp := hg.wf.pos
  obtain ⟨an, cn, rfl, hc⟩ := hg
  have c2 := hc.c2
  obtain ⟨gb, rfl, hcell⟩ := own3_form hc.nodes (by omega)
  exact ⟨gb, cn, c2, fun k p hk => rnode_cells hcell hk⟩
set_option maxRecDepth 100000 in
theorem isInput06 (x : Nat) (h : RNetAt w n F R N) (hx : x < 4294967296) (hi : ∃ i ∈ ins N.g.nodes, x = 2 * i) :
    Calls Tryz.prog 85 #[.pointer (some ⟨n, 0, none⟩), .int .u32 (x : Int)] w fun e w' => e = .returned (.bool true) ∧ w = w' := by
  obtain ⟨pp, ia, ic, ra, rc, oa, oc, ri, ro, hp⟩ := rnet_parts h
  obtain ⟨i, hin, rfl⟩ := hi
  obtain ⟨G, hg⟩ := hp.gr
  obtain ⟨gb, cn, g2, gn⟩ := ref_at hg
  obtain ⟨h0, a, b, hab, hai⟩ := ins_of hin
  have hil := ins_lt _ _ hin
  have gi := (gn i (a, b) hab).1
  have hb : (decide ((a, b).1 / 2 = i) && decide (i ≠ 0)) = true := by simp [hai, h0]
  rw [hb] at gi
  have c0 := hp.c0
  clear gn hb hab hai hg hp h hin
  obtain ⟨x, hxe⟩ : ∃ x, x = 2 * i := ⟨_, rfl⟩
  rw [← hxe] at hx ⊢
  have e1 : ((x : Int) % 2 == 0) = true := by simp; omega
  have e2 : (0 : Int) < (x : Int) := by omega
  have e3 : (x : Int) / 2 = (i : Int) := by omega
  generalize N.g.nodes.length = ln at *
  clear hxe
  go_enter Tryz.func85, Tryz.ntmps85
  go_wp2_with fail
  go_ret
  exact ⟨rfl, rfl⟩
theorem find_take {rs : List BR} (hd : (rs.map fun r => r.b.name).Pairwise (· ≠ ·)) {k : Nat} (hk : k < rs.length) : findRow (rs.take k) rs[k].b.name = none := by
  have h : findP (rs.take k) rs[k].b.name = none := by
    unfold findP
    rw [List.findIdx?_eq_none_iff]
    intro r hr
    obtain ⟨j, hj, rfl⟩ := List.getElem_of_mem hr
    have hjk : j < k := by rw [List.length_take] at hj; omega
    have h2 := List.pairwise_iff_getElem.1 hd j k (by simp; omega) (by simpa using hk) hjk
    simpa [List.getElem_take] using h2
  unfold findRow
  rw [h]; rfl
set_option maxHeartbeats 3200000 in
set_option maxRecDepth 100000 in
theorem buses06 (a : Option Addr) (c len : Nat) (rs : List BR) (hc0 : w.cell? ⟨n, 0, none⟩ = some (.pointer (some ⟨p, 0, none⟩))) (hg : RefAt w p R g) (hgl : g.nodes.length ≤ 90000) (hlen : rs.length = len) (hm : len ≤ 100000) (hcap : len ≤ c) (hs : SlB w a rs) (hr : ∀ r ∈ rs, SlN w .u32 r.a r.b.lits)
    (hd : (rs.map fun r => r.b.name).Pairwise (· ≠ ·)) (hk : ∀ r ∈ rs, 1 ≤ r.b.lits.length ∧ r.b.lits.length ≤ 64 ∧ mayB r.b.name = true ∧ r.b.name.size ≤ 140737488351232 ∧ ∀ x ∈ r.b.lits, g.ok x) :
    Calls Tryz.prog 84 #[.pointer (some ⟨n, 0, none⟩), .slice a len c] w fun e w' => e = .returned (.bool true) ∧ Kept [] w w' := by
  have C0 := Lib.hid hc0
  have HG := Lib.hid hg
  have HL := Lib.hid hlen
  have HS := Lib.hid hs
  have HR := Lib.hid hr
  have HD := Lib.hid hd
  have HK := Lib.hid hk
  clear hc0 hg hlen hs hr hd hk
  go_enter Tryz.func84, Tryz.ntmps84
  go_wp2_with fail
  go_loopw [5] (fun v wr => ∃ k : Nat, k ≤ len ∧ v = .int .i64 k ∧ Kept [] w wr) (fun v _ => len - (intOf v).toNat)
  case atStart => exact ⟨0, Nat.zero_le _, rfl, .refl _ _⟩
  case round =>
    obtain ⟨k, hk, rfl, hkr⟩ := hrel
    have KR := Lib.hid hkr
    clear hkr
    by_cases hlt : k < len
    · have hkl : k < rs.length := by rw [HL.out]; exact hlt
      obtain ⟨bb, rfl, b0, b1⟩ := (HS.out.kept0 KR.out) k hkl
      have hkk := HK.out _ (List.getElem_mem hkl)
      have HN := Lib.hid (find_take HD.out hkl)
      have HF := Lib.hid (fun (W : World) (hW : Kept [] wr W) => show Calls Tryz.prog 110 #[.slice (some ⟨bb, 0, none⟩) k c, .string rs[k].b.name] W (fun e w' => e = .returned (.tuple #[.slice none 0 0, .bool false]) ∧ W = w') from
        (find06 rs[k].b.name (some ⟨bb, 0, none⟩) c k (rs.take k) (by rw [List.length_take]; omega) (by omega) (((HS.out.kept0 KR.out).kept0 hW).take k)).mono (by
          rintro e w' (⟨_, he, hw⟩ | ⟨r, hr, _⟩)
          · exact ⟨he, hw⟩
          · rw [HN.out] at hr; exact absurd hr (by simp)))
      have HM := Lib.hid (fun (W : World) => show Calls Tryz.prog 58 #[.string rs[k].b.name] W (fun e w' => e = .returned (.bool true) ∧ W = w') from by
        have h := mayname06 rs[k].b.name W hkk.2.2.2.1
        rw [hkk.2.2.1] at h
        exact h)
      have HT := Lib.hid (fun (W : World) (hW : Kept [] wr W) => show Calls Tryz.prog 86 #[.pointer (some ⟨p, 0, none⟩), .slice rs[k].a rs[k].b.lits.length rs[k].c] W (fun e w' => e = .returned (.bool true) ∧ ∃ m, w' = W.drewN m) from by
        have h := there03 ((HG.out.kept0 KR.out).kept0 hW) hgl rs[k].a rs[k].c rs[k].b.lits.length rs[k].b.lits rfl (by have := hkk.2.1; omega) ((HR.out _ (List.getElem_mem hkl)).kept0 (KR.out.trans hW)) (fun x hx => by have h1 : x / 2 < g.nodes.length := hkk.2.2.2.2 x hx; omega)
        have hgone : gone g rs[k].b.lits = false := by
          unfold gone
          rw [List.any_eq_false]
          intro x hx
          have h1 : x / 2 < g.nodes.length := hkk.2.2.2.2 x hx
          simp; omega
        rw [hgone] at h
        exact h)
      have hkc : k ≤ c := by omega
      have hl1 := hkk.1
      have hl64 := hkk.2.1
      clear hkk
      have c0 := KR.out.cell C0.out (by simp)
      generalize rs[k].b.name = nm at *
      generalize rs[k].a = ba at *
      generalize rs[k].c = bc at *
      generalize rs[k].b.lits.length = ln at *
      go_wp2_with fail
      go_quiet ((go_at_call 110; with_reducible exact q_same (HF.out _ ((Kept.refl [] wr).drewN _))))
      go_wp2_with fail
      have d1 : decide ((ln : Int) < 1) = false := by rw [decide_eq_false_iff_not]; omega
      have d2 : decide ((64 : Int) < (ln : Int)) = false := by rw [decide_eq_false_iff_not]; omega
      go_quiet ((first | (go_at_call 58; with_reducible exact q_same2 (HM.out _)) | (go_at_call 86; with_reducible exact q_drew2 (HT.out _ ((Kept.refl [] wr).drewN _)))))
      go_wp2_with fail
      go_roundw
      case rel => exact ⟨k + 1, by omega, by go_num, KR.out.drewN _⟩
      case measure => simp [intOf]; omega
    · obtain rfl : k = len := by omega
      go_wp2_with fail
      go_ret
      exact ⟨rfl, KR.out⟩
end Go.Proofs.YtnjoklcddodfeaaGreatDoor

namespace Go.Proofs.YtnjoklcddodfeaaGreatDoor
open Go.ChangeShapes Go.WideShapes Go.ChangeAt Go.RowKit
open Go.Maps (Keyed)
open Go.WideMaps
set_option linter.unusedVariables false
set_option linter.unusedSimpArgs false

variable {w w' : World} {p n k q : Nat} {F R S : List Nat} {g : Gr} {N : Nt}
theorem count_one {l : List Nat} (hn : l.Nodup) {x : Nat} (hx : x ∈ l) : l.count x = 1 := by
  induction l with
  | nil => simp at hx
  | cons a l ih =>
    rw [List.nodup_cons] at hn
    by_cases he : a = x
    · subst he
      rw [List.count_cons_self, List.count_eq_zero_of_not_mem hn.1]
    · rw [List.count_cons_of_ne (by simpa using he)]
      exact ih hn.2 ((List.mem_cons.1 hx).resolve_left fun h => he h.symm)
theorem insFrom_mem6 (i : Nat) (l : List (Nat × Nat)) (j : Nat) (p : Nat × Nat) (h : l[j]? = some p) (hp : p.1 / 2 = i + j) (h0 : i + j ≠ 0) : i + j ∈ insFrom i l := by
  induction l generalizing i j with
  | nil => simp at h
  | cons a l ih =>
    simp only [insFrom]
    cases j with
    | zero =>
      simp at h
      subst h
      rw [if_pos (by simp [inAt]; omega)]
      simp
    | succ j =>
      have := ih (i + 1) j (by simpa using h) (by omega) (by omega)
      have e : i + 1 + j = i + (j + 1) := by omega
      rw [e] at this
      split
      · exact List.mem_cons_of_mem _ this
      · exact this
theorem sln_two6 (w : World) (x y : Nat) (t : TypeId) : SlN (w.alloc (.cells #[.int .u32 (x : Int), .int .u32 (y : Int)] t)) .u32 (some ⟨w.heap.size, 0, none⟩) [x, y] := sln_new w .u32 [x, y] t
set_option maxHeartbeats 6400000 in
set_option maxRecDepth 100000 in
theorem check06 {kk : Nat} (h : RNetAt w n F R N) (hf : NtFine kk N) (hk : kk ≤ 700) (hz : checkN N = 0) : Calls Tryz.prog 42 #[.pointer (some ⟨n, 0, none⟩)] w fun e w' => e = .returned (.int .i64 0) ∧ Kept [] w w' := by
  obtain ⟨pp, ia, ic, ra, rc, oa, oc, ri, ro, hp⟩ := rnet_parts h
  have l1 := hf.ok.len
  have l2 := hf.ok.ik
  have l3 := hf.ok.rk
  have l4 := hf.ok.ok
  have HH := Lib.hid h
  have HP := Lib.hid hp
  have HF := Lib.hid hf
  have may : ∀ s : ByteArray, mayB s = true → s.size ≤ 140737488351232 := fun s hs => by
    unfold mayB at hs
    simp at hs
    omega
  have hfull : fullB N = true := by
    unfold checkN at hz
    by_cases hb : fullB N = true
    · exact hb
    · rw [if_neg hb] at hz; omega
  have HFU := Lib.hid (show ∀ i ∈ ins N.g.nodes, 2 * i ∈ drivenN N from fun i hi => by
    unfold fullB at hfull
    rw [List.all_eq_true] at hfull
    simpa using hfull i hi)
  have HMA := Lib.hid may
  have HMN := Lib.hid (fun (W : World) => show Calls Tryz.prog 58 #[.string N.name] W (fun e w' => e = .returned (.bool true) ∧ W = w') from by
    have h := mayname06 N.name W (may _ hf.nm)
    rw [hf.nm] at h
    exact h)
  obtain ⟨G, hg⟩ := hp.gr
  have HG := Lib.hid hg
  have HBI := Lib.hid (buses06 ia ic N.inb.length ri hp.c0 hg (by omega) (by rw [← hp.im]; simp) (by omega) hp.ik hp.ib hp.ir (by
      have := hf.ni
      rw [← hp.im, List.map_map] at this
      exact this) (fun r hr => by
      have h1 := hf.ok.il r.b (by rw [← hp.im]; exact List.mem_map_of_mem hr)
      exact ⟨h1.1, h1.2.1, h1.2.2.1, may _ h1.2.2.1, h1.2.2.2⟩))
  have HBO := Lib.hid (fun (W : World) (hW : Kept [] w W) => buses06 oa oc N.outb.length ro (hp.kept0 hW).c0 (hg.kept0 hW) (by omega) (by rw [← hp.om]; simp) (by omega) hp.ok (hp.kept0 hW).ob (hp.kept0 hW).or (by
      have := hf.no
      rw [← hp.om, List.map_map] at this
      exact this) (fun r hr => by
      have h1 := hf.ok.ol r.b (by rw [← hp.om]; exact List.mem_map_of_mem hr)
      exact ⟨h1.1, h1.2.1, h1.2.2.1, may _ h1.2.2.1, h1.2.2.2⟩))
  have HDI := Lib.hid hf.di
  have c1 := hp.c1
  have c2 := hp.c2
  clear hfull may hg hp hf hz h
  go_enter Tryz.func42, Tryz.ntmps42; (try simp only [List.append])
  go_wp2_with fail
  refine (HMN.out _).mono ?_
  rintro e w1 ⟨rfl, rfl⟩
  go_wp2_with fail
  refine HBI.out.mono ?_
  rintro e w1 ⟨rfl, k1⟩
  have c4 := (HP.out.kept0 k1).c4
  have K1 := Lib.hid k1
  clear k1 c1 c2
  go_wp2_with fail
  refine (HBO.out _ K1.out).mono ?_
  rintro e w2 ⟨rfl, k2⟩
  have K2 := Lib.hid (K1.out.trans k2)
  clear k2 c4
  have c3 := (HP.out.kept0 K2.out).c3
  have d1 : decide (16384 < N.regs.length) = false := by rw [decide_eq_false_iff_not]; omega
  go_wp2_with fail
  go_loopw [3, 4] (fun v _ wr => ∃ i : Nat, i ≤ N.inb.length ∧ v = .int .i64 i ∧ Kept [] w wr) (fun v _ _ => N.inb.length - (intOf v).toNat)
  case atStart => exact ⟨0, Nat.zero_le _, rfl, K2.out⟩
  case round =>
    clear c3 d1
    obtain ⟨i, hi, rfl, hkr⟩ := hrel
    have KR := Lib.hid hkr
    clear hkr K1 K2
    have c2 := (HP.out.kept0 KR.out).c2
    by_cases hlt : i < N.inb.length
    · have hir : i < ri.length := by have := congrArg List.length HP.out.im; simp at this; omega
      have hdr : ∀ x ∈ ri[i].b.lits, x ∈ drivenN N := fun x hx => by
        unfold drivenN
        refine List.mem_append_left _ (List.mem_flatMap.2 ⟨ri[i].b, ?_, hx⟩)
        rw [← HP.out.im]
        exact List.mem_map_of_mem (List.getElem_mem hir)
      have HDR := Lib.hid hdr
      have hl64 := (HF.out.ok.il ri[i].b (by rw [← HP.out.im]; exact List.mem_map_of_mem (List.getElem_mem hir))).2.1
      have HXO := Lib.hid (HF.out.ok.il ri[i].b (by rw [← HP.out.im]; exact List.mem_map_of_mem (List.getElem_mem hir))).2.2.2
      clear hdr
      obtain ⟨bb, rfl, b0, b1⟩ := HP.out.ib i hir
      have B1 := Lib.hid b1
      have HS := Lib.hid (HP.out.ir _ (List.getElem_mem hir))
      have b1 := KR.out.cell b1 (by simp)
      clear b0
      generalize ri[i].a = ba at *
      generalize ri[i].c = bc at *
      generalize ri[i].b.lits = L at *
      obtain ⟨ln, hln⟩ : ∃ ln, ln = L.length := ⟨_, rfl⟩
      rw [← hln] at b1 hl64 B1
      have HLN := Lib.hid hln
      clear hln
      go_wp2_with fail
      go_loopw [4] (fun v wr => ∃ j : Nat, j ≤ ln ∧ v = .int .i64 j ∧ Kept [] w wr) (fun v _ => ln - (intOf v).toNat)
      case atStart => exact ⟨0, Nat.zero_le _, rfl, KR.out⟩
      case round =>
        clear c2 b1
        obtain ⟨j, hj, rfl, hky⟩ := hrel
        have KY := Lib.hid hky
        clear hky
        have c2 := (HP.out.kept0 KY.out).c2
        have b1 := KY.out.cell B1.out (by simp)
        by_cases hjl : j < ln
        · have hj1 : j < L.length := by rw [← HLN.out]; exact hjl
          obtain ⟨ad, rfl, lx⟩ := (HS.out.kept0 KY.out) j hj1
          have hxd := HDI.out _ (HDR.out _ (List.getElem_mem hj1))
          have hxo : L[j] / 2 < N.g.nodes.length := HXO.out _ (List.getElem_mem hj1)
          generalize L[j] = x at *
          have HIN := Lib.hid (isInput06 x (HH.out.kept0 KY.out) (by omega) hxd)
          clear hxd
          go_wp2_with fail
          refine HIN.out.mono ?_
          rintro e w5 ⟨rfl, rfl⟩
          go_wp2_with fail
          go_roundw
          case rel => exact ⟨j + 1, by omega, by go_num, KY.out⟩
          case measure => simp [intOf]; omega
        · obtain rfl : j = ln := by omega
          go_wp2_with fail
          go_roundw
          case rel => exact ⟨i + 1, by omega, by go_num, KY.out⟩
          case measure => simp [intOf]; omega
    · obtain rfl : i = N.inb.length := by omega
      clear hlt
      have c3 := (HP.out.kept0 KR.out).c3
      go_wp2_with fail
      go_loopw [5] (fun v wr => ∃ q : Nat, q ≤ N.regs.length ∧ v = .int .i64 q ∧ Kept [] w wr) (fun v _ => N.regs.length - (intOf v).toNat)
      case atStart => exact ⟨0, Nat.zero_le _, rfl, KR.out⟩
      case round =>
        clear c3 c2
        obtain ⟨q, hq, rfl, hky⟩ := hrel
        have KY := Lib.hid hky
        clear hky
        obtain ⟨wY, rfl⟩ : ∃ v : World, v = wr := ⟨_, rfl⟩
        have c3 := (HP.out.kept0 KY.out).c3
        by_cases hql : q < N.regs.length
        · have hqd := HDI.out N.regs[q].q (by unfold drivenN; exact List.mem_append_right _ (List.mem_map_of_mem (List.getElem_mem hql)))
          have hro := HF.out.ok.rl _ (List.getElem_mem hql)
          have c0 := (HP.out.kept0 KY.out).c0
          obtain ⟨rb, hrb, r0, r1, r2, r3⟩ := (HP.out.kept0 KY.out).rb q hql
          subst hrb
          clear r3
          generalize N.regs[q].q = xq at *
          generalize N.regs[q].d = xd at *
          generalize N.regs[q].en = xe at *
          have o1 : xq / 2 < N.g.nodes.length := hro.1
          have o2 : xd / 2 < N.g.nodes.length := hro.2.1
          have o3 : xe / 2 < N.g.nodes.length := hro.2.2
          have HIN := Lib.hid (fun (W : World) (hW : Kept [] wY W) => isInput06 xq (HH.out.kept0 (KY.out.trans hW)) (by omega) hqd)
          have HTH := Lib.hid (fun (W : World) (hW : Kept [] wY W) (a : Option Addr) (hs : SlN W .u32 a [xd, xe]) => show Calls Tryz.prog 86 #[.pointer (some ⟨pp, 0, none⟩), .slice a 2 2] W (fun e w' => e = .returned (.bool true) ∧ Kept [] W w') from
            (there03 ((HG.out.kept0 KY.out).kept0 hW) (by omega) a 2 2 [xd, xe] rfl (by omega) hs (by
              intro x hx
              simp at hx
              rcases hx with rfl | rfl <;> omega)).mono (by
              rintro e w' ⟨he, m, hw⟩
              have hgone : gone N.g [xd, xe] = false := by
                unfold gone
                rw [List.any_eq_false]
                intro x hx
                simp at hx
                rcases hx with rfl | rfl <;> simp <;> omega
              rw [hgone] at he
              exact ⟨he, by rw [hw]; exact (Kept.refl _ _).drewN m⟩))
          clear hqd hro o1 o2 o3
          have KA := Kept.refl [] wY
          go_wp2_with fail
          go_region_held3 (fun W => W.cell? ⟨n, 0, none⟩ = some (.pointer (some ⟨pp, 0, none⟩)) ∧ W.cell? ⟨n, 3, none⟩ = some (.slice (some ⟨rb, 0, none⟩) N.regs.length rc) ∧ W.cell? ⟨rb, q * 4, none⟩ = some (.int .u32 (xq : Int)) ∧ W.cell? ⟨rb, q * 4 + 1, none⟩ = some (.int .u32 (xd : Int)) ∧ W.cell? ⟨rb, q * 4 + 2, none⟩ = some (.int .u32 (xe : Int)))
            (first | exact ⟨Kept.cell (F := []) (w := wY) (by (repeat (first | with_reducible exact KA | with_reducible apply Kept.drew | with_reducible apply Kept.drewN | with_reducible apply Kept.alloc))) c0 (by simp), Kept.cell (F := []) (w := wY) (by (repeat (first | with_reducible exact KA | with_reducible apply Kept.drew | with_reducible apply Kept.drewN | with_reducible apply Kept.alloc))) c3 (by simp), Kept.cell (F := []) (w := wY) (by (repeat (first | with_reducible exact KA | with_reducible apply Kept.drew | with_reducible apply Kept.drewN | with_reducible apply Kept.alloc))) r0 (by simp), Kept.cell (F := []) (w := wY) (by (repeat (first | with_reducible exact KA | with_reducible apply Kept.drew | with_reducible apply Kept.drewN | with_reducible apply Kept.alloc))) r1 (by simp), Kept.cell (F := []) (w := wY) (by (repeat (first | with_reducible exact KA | with_reducible apply Kept.drew | with_reducible apply Kept.drewN | with_reducible apply Kept.alloc))) r2 (by simp)⟩ | go_keep)
            (first | (go_at_call 85; (with_reducible refine (HIN.out _ ?kk).mono ?_); (case kk => (repeat (first | with_reducible exact KA | with_reducible apply Kept.drew | with_reducible apply Kept.drewN | with_reducible apply Kept.alloc))); rintro e w5 ⟨rfl, rfl⟩) | (go_at_call 86; (refine (HTH.out _ ?kk _ ?ss).mono ?_); (case kk => (repeat (first | with_reducible exact KA | with_reducible apply Kept.drew | with_reducible apply Kept.drewN | with_reducible apply Kept.alloc))); (case ss => exact sln_two6 _ _ _ _); rintro e w5 ⟨rfl, k5⟩; have KA := (show Kept [] wY _ from (by (repeat (first | with_reducible exact KA | with_reducible apply Kept.drew | with_reducible apply Kept.drewN | with_reducible apply Kept.alloc)))).trans k5))
          all_goals
            go_wp2_with fail
            go_roundw
            case rel => exact ⟨q + 1, by omega, by go_num, KY.out.trans KA⟩
            case measure => simp [intOf]; omega
        · obtain rfl : q = N.regs.length := by omega
          clear hql
          have hpos := HF.out.ok.wf.pos
          go_wp2_with fail
          go_loopw [6, 7] (fun u v wr => ∃ k : Nat, 1 ≤ k ∧ k ≤ N.g.nodes.length ∧ v = .int .i64 k ∧ u = .bool false ∧ Kept [] w wr) (fun _ v _ => N.g.nodes.length - (intOf v).toNat)
          case atStart => exact ⟨1, by omega, by omega, rfl, rfl, KY.out⟩
          case round =>
            clear c3 KY
            obtain ⟨k, hk1, hkn, rfl, rfl, hkz⟩ := hrel
            have KZ := Lib.hid hkz
            clear hkz
            have c0 := (HP.out.kept0 KZ.out).c0
            obtain ⟨gb, cn, g2, gn⟩ := ref_at (HG.out.kept0 KZ.out)
            by_cases hkl : k < N.g.nodes.length
            · obtain ⟨⟨a, b⟩, hab⟩ : ∃ y, N.g.nodes[k]? = some y := ⟨_, List.getElem?_eq_getElem hkl⟩
              have hcb := (gn k (a, b) hab).1
              clear gn
              by_cases hin : a / 2 = k
              · have hb : (decide ((a, b).1 / 2 = k) && decide (k ≠ 0)) = true := by simp [hin]; omega
                rw [hb] at hcb
                have hmem : k ∈ ins N.g.nodes := by
                  have h0 := insFrom_mem6 0 N.g.nodes k (a, b) hab (by simpa using hin) (by omega)
                  rw [Nat.zero_add] at h0
                  exact h0
                have HD := Lib.hid (driven06 (2 * k) (HH.out.kept0 KZ.out) (by omega) (by omega) (by omega) (fun b hb => (HF.out.ok.il b hb).2.1))
                rw [count_one HF.out.dn (HFU.out k hmem)] at HD
                clear hmem hb hin hab
                obtain ⟨x, hx⟩ : ∃ x, x = 2 * k := ⟨_, rfl⟩
                have u1 : IntKind.i64.wrap (2 * (k : Int)) = (x : Int) := by rw [show (2 : Int) * (k : Int) = (x : Int) from by omega]; exact IntWalk.i64_in _ (by omega)
                have u2 : IntKind.u32.wrap (x : Int) = (x : Int) := by simp only [IntKind.wrap_u32]; omega
                rw [← hx] at HD
                clear hx
                go_wp2_with fail
                refine HD.out.mono ?_
                rintro e w5 ⟨rfl, rfl⟩
                clear u1 u2
                go_wp2_with fail
                go_roundw
                case rel => exact ⟨k + 1, by omega, by omega, by go_num, rfl, KZ.out⟩
                case measure => simp [intOf]; omega
              · have hb : (decide ((a, b).1 / 2 = k) && decide (k ≠ 0)) = false := by simp [hin]
                rw [hb] at hcb
                clear hb hin hab
                go_wp2_with fail
                go_roundw
                case rel => exact ⟨k + 1, by omega, by omega, by go_num, rfl, KZ.out⟩
                case measure => simp [intOf]; omega
            · obtain rfl : k = N.g.nodes.length := by omega
              go_wp2_with fail
              go_ret
              exact ⟨rfl, KZ.out⟩
end Go.Proofs.YtnjoklcddodfeaaGreatDoor

namespace Go.Proofs.YtnjoklcddodfeaaGreatDoor
open Go.ChangeShapes Go.WideShapes Go.ChangeAt Go.RowKit
open Go.Maps (Keyed)
open Go.WideMaps
set_option linter.unusedVariables false
set_option linter.unusedSimpArgs false

variable {w w' : World} {p n k q : Nat} {F R S : List Nat} {g : Gr} {N : Nt}
/-- is an input below k undriven? -/
def anyOpen (N : Nt) (k : Nat) : Bool := (List.range k).any fun i => (ins N.g.nodes).contains i && !(drivenN N).contains (2 * i)
theorem anyOpen_succ (N : Nt) (k : Nat) : anyOpen N (k + 1) = (anyOpen N k || ((ins N.g.nodes).contains k && !(drivenN N).contains (2 * k))) := by
  unfold anyOpen
  rw [List.range_succ, List.any_append]
  simp
theorem anyOpen_one (N : Nt) : anyOpen N 1 = false := by
  rw [anyOpen_succ]
  have h : (ins N.g.nodes).contains 0 = false := by
    rw [← Bool.not_eq_true, List.contains_iff_mem]
    intro hm
    exact (ins_of hm).1 rfl
  rw [h]
  simp [anyOpen]
theorem anyOpen_end (N : Nt) : anyOpen N N.g.nodes.length = !fullB N := by
  unfold anyOpen fullB
  rw [Bool.eq_iff_iff, Bool.not_eq_true', ← Bool.not_eq_true, List.any_eq_true, List.all_eq_true]
  constructor
  · rintro ⟨i, hi, h⟩ hall
    rw [Bool.and_eq_true, List.contains_iff_mem, Bool.not_eq_true'] at h
    have := hall i h.1
    rw [h.2] at this
    cases this
  · intro h
    apply Classical.byContradiction
    intro hn
    refine h fun i hi => ?_
    cases hc : (drivenN N).contains (2 * i) with
    | true => rfl
    | false =>
      refine absurd ⟨i, List.mem_range.2 (ins_lt _ _ hi), ?_⟩ hn
      rw [Bool.and_eq_true, List.contains_iff_mem, hc]
      exact ⟨hi, rfl⟩
set_option maxHeartbeats 6400000 in
set_option maxRecDepth 100000 in
theorem check06g {kk : Nat} (h : RNetAt w n F R N) (hf : NtFine kk N) (hk : kk ≤ 700) : Calls Tryz.prog 42 #[.pointer (some ⟨n, 0, none⟩)] w fun e w' => e = .returned (.int .i64 (checkN N : Nat)) ∧ Kept [] w w' := by
  obtain ⟨pp, ia, ic, ra, rc, oa, oc, ri, ro, hp⟩ := rnet_parts h
  have l1 := hf.ok.len
  have l2 := hf.ok.ik
  have l3 := hf.ok.rk
  have l4 := hf.ok.ok
  have HH := Lib.hid h
  have HP := Lib.hid hp
  have HF := Lib.hid hf
  have may : ∀ s : ByteArray, mayB s = true → s.size ≤ 140737488351232 := fun s hs => by
    unfold mayB at hs
    simp at hs
    omega
  have HMA := Lib.hid may
  have HMN := Lib.hid (fun (W : World) => show Calls Tryz.prog 58 #[.string N.name] W (fun e w' => e = .returned (.bool true) ∧ W = w') from by
    have h := mayname06 N.name W (may _ hf.nm)
    rw [hf.nm] at h
    exact h)
  obtain ⟨G, hg⟩ := hp.gr
  have HG := Lib.hid hg
  have HBI := Lib.hid (buses06 ia ic N.inb.length ri hp.c0 hg (by omega) (by rw [← hp.im]; simp) (by omega) hp.ik hp.ib hp.ir (by
      have := hf.ni
      rw [← hp.im, List.map_map] at this
      exact this) (fun r hr => by
      have h1 := hf.ok.il r.b (by rw [← hp.im]; exact List.mem_map_of_mem hr)
      exact ⟨h1.1, h1.2.1, h1.2.2.1, may _ h1.2.2.1, h1.2.2.2⟩))
  have HBO := Lib.hid (fun (W : World) (hW : Kept [] w W) => buses06 oa oc N.outb.length ro (hp.kept0 hW).c0 (hg.kept0 hW) (by omega) (by rw [← hp.om]; simp) (by omega) hp.ok (hp.kept0 hW).ob (hp.kept0 hW).or (by
      have := hf.no
      rw [← hp.om, List.map_map] at this
      exact this) (fun r hr => by
      have h1 := hf.ok.ol r.b (by rw [← hp.om]; exact List.mem_map_of_mem hr)
      exact ⟨h1.1, h1.2.1, h1.2.2.1, may _ h1.2.2.1, h1.2.2.2⟩))
  have HDI := Lib.hid hf.di
  have c1 := hp.c1
  have c2 := hp.c2
  clear may hg hp hf h
  go_enter Tryz.func42, Tryz.ntmps42; (try simp only [List.append])
  go_wp2_with fail
  refine (HMN.out _).mono ?_
  rintro e w1 ⟨rfl, rfl⟩
  go_wp2_with fail
  refine HBI.out.mono ?_
  rintro e w1 ⟨rfl, k1⟩
  have c4 := (HP.out.kept0 k1).c4
  have K1 := Lib.hid k1
  clear k1 c1 c2
  go_wp2_with fail
  refine (HBO.out _ K1.out).mono ?_
  rintro e w2 ⟨rfl, k2⟩
  have K2 := Lib.hid (K1.out.trans k2)
  clear k2 c4
  have c3 := (HP.out.kept0 K2.out).c3
  have d1 : decide (16384 < N.regs.length) = false := by rw [decide_eq_false_iff_not]; omega
  go_wp2_with fail
  go_loopw [3, 4] (fun v _ wr => ∃ i : Nat, i ≤ N.inb.length ∧ v = .int .i64 i ∧ Kept [] w wr) (fun v _ _ => N.inb.length - (intOf v).toNat)
  case atStart => exact ⟨0, Nat.zero_le _, rfl, K2.out⟩
  case round =>
    clear c3 d1
    obtain ⟨i, hi, rfl, hkr⟩ := hrel
    have KR := Lib.hid hkr
    clear hkr K1 K2
    have c2 := (HP.out.kept0 KR.out).c2
    by_cases hlt : i < N.inb.length
    · have hir : i < ri.length := by have := congrArg List.length HP.out.im; simp at this; omega
      have hdr : ∀ x ∈ ri[i].b.lits, x ∈ drivenN N := fun x hx => by
        unfold drivenN
        refine List.mem_append_left _ (List.mem_flatMap.2 ⟨ri[i].b, ?_, hx⟩)
        rw [← HP.out.im]
        exact List.mem_map_of_mem (List.getElem_mem hir)
      have HDR := Lib.hid hdr
      have hl64 := (HF.out.ok.il ri[i].b (by rw [← HP.out.im]; exact List.mem_map_of_mem (List.getElem_mem hir))).2.1
      have HXO := Lib.hid (HF.out.ok.il ri[i].b (by rw [← HP.out.im]; exact List.mem_map_of_mem (List.getElem_mem hir))).2.2.2
      clear hdr
      obtain ⟨bb, rfl, b0, b1⟩ := HP.out.ib i hir
      have B1 := Lib.hid b1
      have HS := Lib.hid (HP.out.ir _ (List.getElem_mem hir))
      have b1 := KR.out.cell b1 (by simp)
      clear b0
      generalize ri[i].a = ba at *
      generalize ri[i].c = bc at *
      generalize ri[i].b.lits = L at *
      obtain ⟨ln, hln⟩ : ∃ ln, ln = L.length := ⟨_, rfl⟩
      rw [← hln] at b1 hl64 B1
      have HLN := Lib.hid hln
      clear hln
      go_wp2_with fail
      go_loopw [4] (fun v wr => ∃ j : Nat, j ≤ ln ∧ v = .int .i64 j ∧ Kept [] w wr) (fun v _ => ln - (intOf v).toNat)
      case atStart => exact ⟨0, Nat.zero_le _, rfl, KR.out⟩
      case round =>
        clear c2 b1
        obtain ⟨j, hj, rfl, hky⟩ := hrel
        have KY := Lib.hid hky
        clear hky
        have c2 := (HP.out.kept0 KY.out).c2
        have b1 := KY.out.cell B1.out (by simp)
        by_cases hjl : j < ln
        · have hj1 : j < L.length := by rw [← HLN.out]; exact hjl
          obtain ⟨ad, rfl, lx⟩ := (HS.out.kept0 KY.out) j hj1
          have hxd := HDI.out _ (HDR.out _ (List.getElem_mem hj1))
          have hxo : L[j] / 2 < N.g.nodes.length := HXO.out _ (List.getElem_mem hj1)
          generalize L[j] = x at *
          have HIN := Lib.hid (isInput06 x (HH.out.kept0 KY.out) (by omega) hxd)
          clear hxd
          go_wp2_with fail
          refine HIN.out.mono ?_
          rintro e w5 ⟨rfl, rfl⟩
          go_wp2_with fail
          go_roundw
          case rel => exact ⟨j + 1, by omega, by go_num, KY.out⟩
          case measure => simp [intOf]; omega
        · obtain rfl : j = ln := by omega
          go_wp2_with fail
          go_roundw
          case rel => exact ⟨i + 1, by omega, by go_num, KY.out⟩
          case measure => simp [intOf]; omega
    · obtain rfl : i = N.inb.length := by omega
      clear hlt
      have c3 := (HP.out.kept0 KR.out).c3
      go_wp2_with fail
      go_loopw [5] (fun v wr => ∃ q : Nat, q ≤ N.regs.length ∧ v = .int .i64 q ∧ Kept [] w wr) (fun v _ => N.regs.length - (intOf v).toNat)
      case atStart => exact ⟨0, Nat.zero_le _, rfl, KR.out⟩
      case round =>
        clear c3 c2
        obtain ⟨q, hq, rfl, hky⟩ := hrel
        have KY := Lib.hid hky
        clear hky
        obtain ⟨wY, rfl⟩ : ∃ v : World, v = wr := ⟨_, rfl⟩
        have c3 := (HP.out.kept0 KY.out).c3
        by_cases hql : q < N.regs.length
        · have hqd := HDI.out N.regs[q].q (by unfold drivenN; exact List.mem_append_right _ (List.mem_map_of_mem (List.getElem_mem hql)))
          have hro := HF.out.ok.rl _ (List.getElem_mem hql)
          have c0 := (HP.out.kept0 KY.out).c0
          obtain ⟨rb, hrb, r0, r1, r2, r3⟩ := (HP.out.kept0 KY.out).rb q hql
          subst hrb
          clear r3
          generalize N.regs[q].q = xq at *
          generalize N.regs[q].d = xd at *
          generalize N.regs[q].en = xe at *
          have o1 : xq / 2 < N.g.nodes.length := hro.1
          have o2 : xd / 2 < N.g.nodes.length := hro.2.1
          have o3 : xe / 2 < N.g.nodes.length := hro.2.2
          have HIN := Lib.hid (fun (W : World) (hW : Kept [] wY W) => isInput06 xq (HH.out.kept0 (KY.out.trans hW)) (by omega) hqd)
          have HTH := Lib.hid (fun (W : World) (hW : Kept [] wY W) (a : Option Addr) (hs : SlN W .u32 a [xd, xe]) => show Calls Tryz.prog 86 #[.pointer (some ⟨pp, 0, none⟩), .slice a 2 2] W (fun e w' => e = .returned (.bool true) ∧ Kept [] W w') from
            (there03 ((HG.out.kept0 KY.out).kept0 hW) (by omega) a 2 2 [xd, xe] rfl (by omega) hs (by
              intro x hx
              simp at hx
              rcases hx with rfl | rfl <;> omega)).mono (by
              rintro e w' ⟨he, m, hw⟩
              have hgone : gone N.g [xd, xe] = false := by
                unfold gone
                rw [List.any_eq_false]
                intro x hx
                simp at hx
                rcases hx with rfl | rfl <;> simp <;> omega
              rw [hgone] at he
              exact ⟨he, by rw [hw]; exact (Kept.refl _ _).drewN m⟩))
          clear hqd hro o1 o2 o3
          have KA := Kept.refl [] wY
          go_wp2_with fail
          go_region_held3 (fun W => W.cell? ⟨n, 0, none⟩ = some (.pointer (some ⟨pp, 0, none⟩)) ∧ W.cell? ⟨n, 3, none⟩ = some (.slice (some ⟨rb, 0, none⟩) N.regs.length rc) ∧ W.cell? ⟨rb, q * 4, none⟩ = some (.int .u32 (xq : Int)) ∧ W.cell? ⟨rb, q * 4 + 1, none⟩ = some (.int .u32 (xd : Int)) ∧ W.cell? ⟨rb, q * 4 + 2, none⟩ = some (.int .u32 (xe : Int)))
            (first | exact ⟨Kept.cell (F := []) (w := wY) (by (repeat (first | with_reducible exact KA | with_reducible apply Kept.drew | with_reducible apply Kept.drewN | with_reducible apply Kept.alloc))) c0 (by simp), Kept.cell (F := []) (w := wY) (by (repeat (first | with_reducible exact KA | with_reducible apply Kept.drew | with_reducible apply Kept.drewN | with_reducible apply Kept.alloc))) c3 (by simp), Kept.cell (F := []) (w := wY) (by (repeat (first | with_reducible exact KA | with_reducible apply Kept.drew | with_reducible apply Kept.drewN | with_reducible apply Kept.alloc))) r0 (by simp), Kept.cell (F := []) (w := wY) (by (repeat (first | with_reducible exact KA | with_reducible apply Kept.drew | with_reducible apply Kept.drewN | with_reducible apply Kept.alloc))) r1 (by simp), Kept.cell (F := []) (w := wY) (by (repeat (first | with_reducible exact KA | with_reducible apply Kept.drew | with_reducible apply Kept.drewN | with_reducible apply Kept.alloc))) r2 (by simp)⟩ | go_keep)
            (first | (go_at_call 85; (with_reducible refine (HIN.out _ ?kk).mono ?_); (case kk => (repeat (first | with_reducible exact KA | with_reducible apply Kept.drew | with_reducible apply Kept.drewN | with_reducible apply Kept.alloc))); rintro e w5 ⟨rfl, rfl⟩) | (go_at_call 86; (refine (HTH.out _ ?kk _ ?ss).mono ?_); (case kk => (repeat (first | with_reducible exact KA | with_reducible apply Kept.drew | with_reducible apply Kept.drewN | with_reducible apply Kept.alloc))); (case ss => exact sln_two6 _ _ _ _); rintro e w5 ⟨rfl, k5⟩; have KA := (show Kept [] wY _ from (by (repeat (first | with_reducible exact KA | with_reducible apply Kept.drew | with_reducible apply Kept.drewN | with_reducible apply Kept.alloc)))).trans k5))
          all_goals
            go_wp2_with fail
            go_roundw
            case rel => exact ⟨q + 1, by omega, by go_num, KY.out.trans KA⟩
            case measure => simp [intOf]; omega
        · obtain rfl : q = N.regs.length := by omega
          clear hql
          have hpos := HF.out.ok.wf.pos
          go_wp2_with fail
          go_loopw [6, 7] (fun u v wr => ∃ k : Nat, 1 ≤ k ∧ k ≤ N.g.nodes.length ∧ v = .int .i64 k ∧ u = .bool (anyOpen N k) ∧ Kept [] w wr) (fun _ v _ => N.g.nodes.length - (intOf v).toNat)
          case atStart => exact ⟨1, by omega, by omega, rfl, by rw [anyOpen_one], KY.out⟩
          case round =>
            clear c3 KY
            obtain ⟨k, hk1, hkn, rfl, rfl, hkz⟩ := hrel
            have KZ := Lib.hid hkz
            clear hkz
            have c0 := (HP.out.kept0 KZ.out).c0
            obtain ⟨gb, cn, g2, gn⟩ := ref_at (HG.out.kept0 KZ.out)
            by_cases hkl : k < N.g.nodes.length
            · obtain ⟨⟨a, b⟩, hab⟩ : ∃ y, N.g.nodes[k]? = some y := ⟨_, List.getElem?_eq_getElem hkl⟩
              have hcb := (gn k (a, b) hab).1
              have HSU := Lib.hid (anyOpen_succ N k)
              clear gn
              by_cases hin : a / 2 = k
              · have hb : (decide ((a, b).1 / 2 = k) && decide (k ≠ 0)) = true := by simp [hin]; omega
                rw [hb] at hcb
                have hmem : k ∈ ins N.g.nodes := by
                  have h0 := insFrom_mem6 0 N.g.nodes k (a, b) hab (by simpa using hin) (by omega)
                  rw [Nat.zero_add] at h0
                  exact h0
                have HD := Lib.hid (driven06 (2 * k) (HH.out.kept0 KZ.out) (by omega) (by omega) (by omega) (fun b hb => (HF.out.ok.il b hb).2.1))
                obtain ⟨x, hx⟩ : ∃ x, x = 2 * k := ⟨_, rfl⟩
                have u1 : IntKind.i64.wrap (2 * (k : Int)) = (x : Int) := by rw [show (2 : Int) * (k : Int) = (x : Int) from by omega]; exact IntWalk.i64_in _ (by omega)
                have u2 : IntKind.u32.wrap (x : Int) = (x : Int) := by simp only [IntKind.wrap_u32]; omega
                by_cases hdr : 2 * k ∈ drivenN N
                · rw [count_one HF.out.dn hdr] at HD
                  have HE := Lib.hid (show anyOpen N (k + 1) = anyOpen N k from by rw [HSU.out, (List.contains_iff_mem).2 hdr]; simp)
                  rw [← hx] at HD
                  generalize anyOpen N k = ao at *
                  clear hx hmem hb hin hab hdr HSU
                  go_wp2_with fail
                  refine HD.out.mono ?_
                  rintro e w5 ⟨rfl, rfl⟩
                  clear u1 u2
                  go_wp2_with fail
                  go_roundw
                  case rel => exact ⟨k + 1, by omega, by omega, by go_num, by rw [HE.out], KZ.out⟩
                  case measure => simp [intOf]; omega
                · rw [List.count_eq_zero_of_not_mem hdr] at HD
                  have HE := Lib.hid (show anyOpen N (k + 1) = true from by
                    rw [HSU.out, (List.contains_iff_mem).2 hmem]
                    have hc : (drivenN N).contains (2 * k) = false := by rw [← Bool.not_eq_true, List.contains_iff_mem]; exact hdr
                    rw [hc]
                    simp)
                  rw [← hx] at HD
                  generalize anyOpen N k = ao at *
                  clear hx hmem hb hin hab hdr HSU
                  go_wp2_with fail
                  refine HD.out.mono ?_
                  rintro e w5 ⟨rfl, rfl⟩
                  clear u1 u2
                  go_wp2_with fail
                  go_roundw
                  case rel => exact ⟨k + 1, by omega, by omega, by go_num, by rw [HE.out], KZ.out⟩
                  case measure => simp [intOf]; omega
              · have hb : (decide ((a, b).1 / 2 = k) && decide (k ≠ 0)) = false := by simp [hin]
                rw [hb] at hcb
                have HE := Lib.hid (show anyOpen N (k + 1) = anyOpen N k from by
                  have hc : (ins N.g.nodes).contains k = false := by
                    rw [← Bool.not_eq_true, List.contains_iff_mem]
                    intro hm
                    obtain ⟨_, a', b', hab', hai⟩ := ins_of hm
                    rw [hab] at hab'
                    injection hab' with hab'
                    injection hab' with ha' _
                    exact hin (ha' ▸ hai)
                  rw [HSU.out, hc]
                  simp)
                generalize anyOpen N k = ao at *
                clear hb hin hab HSU
                go_wp2_with fail
                go_roundw
                case rel => exact ⟨k + 1, by omega, by omega, by go_num, by rw [HE.out], KZ.out⟩
                case measure => simp [intOf]; omega
            · obtain rfl : k = N.g.nodes.length := by omega
              have HEN := Lib.hid (anyOpen_end N)
              cases hao : anyOpen N N.g.nodes.length with
              | true =>
                have HCN := Lib.hid (show checkN N = 37 from by unfold checkN; rw [if_neg (by have h := HEN.out; rw [hao] at h; simp at h; simp [← h])])
                clear hao
                go_wp2_with fail
                go_ret
                exact ⟨by rw [HCN.out]; rfl, KZ.out⟩
              | false =>
                have HCN := Lib.hid (show checkN N = 0 from by unfold checkN; rw [if_pos (by have h := HEN.out; rw [hao] at h; simp at h; simp [← h])])
                clear hao
                go_wp2_with fail
                go_ret
                exact ⟨by rw [HCN.out]; rfl, KZ.out⟩
end Go.Proofs.YtnjoklcddodfeaaGreatDoor
