/-
  The document's netlist: how often a literal is driven; what an input is.
-/
import Derived.Test.YtdmcdhkkbkgnbaaGreatP35
import Derived.Test.YtdmcdhkkbkgnbaaGreatP02
namespace Go.Proofs.YtdmcdhkkbkgnbaaGreat
open Go.ChangeShapes Go.WideShapes Go.ChangeAt Go.RowKit
open Go.Maps (Keyed)
open Go.WideMaps
set_option linter.unusedVariables false
set_option linter.unusedSimpArgs false

variable {w w' : World} {p n k : Nat} {F R S : List Nat} {g : Gr} {N : Nt}
theorem owns_cap {e : TypeId} {size m cap : Nat} {a : Option Addr} {xs : List Value} (h : w.ownsRow 0 e size (.slice a m cap) m xs) : m ≤ cap := by
  rcases h.2 with ⟨hv, h0⟩ | ⟨g, cap', cur, hv, hb, hg, hc, rest⟩
  · omega
  · injection hv with _ _ hv; subst hv; exact hc
/-- the document's netlist's parts, where they lie -/
structure RNetP (w : World) (n : Nat) (N : Nt) (p : Nat) (ia : Option Addr) (ic : Nat) (ra : Option Addr) (rc : Nat) (oa : Option Addr) (oc : Nat) (ri ro : List BR) : Prop where
  c0 : w.cell? ⟨n, 0, none⟩ = some (.pointer (some ⟨p, 0, none⟩))
  c1 : w.cell? ⟨n, 1, none⟩ = some (.string N.name)
  c2 : w.cell? ⟨n, 2, none⟩ = some (.slice ia N.inb.length ic)
  c3 : w.cell? ⟨n, 3, none⟩ = some (.slice ra N.regs.length rc)
  c4 : w.cell? ⟨n, 4, none⟩ = some (.slice oa N.outb.length oc)
  gr : ∃ G, RefAt w p G N.g
  ib : SlB w ia ri
  im : ri.map (·.b) = N.inb
  ir : ∀ r ∈ ri, SlN w .u32 r.a r.b.lits
  rb : SlR w ra N.regs
  ob : SlB w oa ro
  om : ro.map (·.b) = N.outb
  or : ∀ r ∈ ro, SlN w .u32 r.a r.b.lits
  ik : N.inb.length ≤ ic
  ok : N.outb.length ≤ oc
theorem rnet_parts (h : RNetAt w n F R N) : ∃ p ia ic ra rc oa oc ri ro, RNetP w n N p ia ic ra rc oa oc ri ro := by
  obtain ⟨p, G, ia, ic, ra, rc, oa, oc, ri, ro, rfl, rfl, hn⟩ := h
  exact ⟨p, ia, ic, ra, rc, oa, oc, ri, ro, hn.c0, hn.c1, hn.c2, hn.c3, hn.c4, ⟨G, hn.gr⟩, hn.ib.slb, hn.ib.is, fun r hr => (hn.ib.rows r hr).1, rregs_sl rfl hn.rb, hn.ob.slb, hn.ob.is, fun r hr => (hn.ob.rows r hr).1, owns_cap hn.ib.own, owns_cap hn.ob.own⟩
theorem RNetP.kept0 {ia ra oa : Option Addr} {ic rc oc : Nat} {ri ro : List BR} (h : RNetP w n N p ia ic ra rc oa oc ri ro) (hk : Kept [] w w') : RNetP w' n N p ia ic ra rc oa oc ri ro := by
  obtain ⟨G, hg⟩ := h.gr
  exact ⟨hk.cell h.c0 (by simp), hk.cell h.c1 (by simp), hk.cell h.c2 (by simp), hk.cell h.c3 (by simp), hk.cell h.c4 (by simp), ⟨G, hg.kept0 hk⟩, h.ib.kept0 hk, h.im, fun r hr => (h.ir r hr).kept0 hk, h.rb.kept0 hk, h.ob.kept0 hk, h.om, fun r hr => (h.or r hr).kept0 hk, h.ik, h.ok⟩
/-- how often x is driven by the first k buses -/
def cntB (l : List Bus) (x k : Nat) : Nat := ((l.take k).flatMap (·.lits)).count x
theorem cntB_succ {l : List Bus} {x k : Nat} (h : k < l.length) : cntB l x (k + 1) = cntB l x k + l[k].lits.count x := by
  unfold cntB
  rw [List.take_succ_eq_append_getElem h, List.flatMap_append, List.count_append]
  simp
theorem cntB_le {l : List Bus} {x : Nat} (hl : ∀ b ∈ l, b.lits.length ≤ 64) (k : Nat) : cntB l x k ≤ 64 * k := by
  induction k with
  | zero => simp [cntB]
  | succ k ih =>
    by_cases h : k < l.length
    · rw [cntB_succ h]
      have h1 := hl _ (List.getElem_mem h)
      have h2 : l[k].lits.count x ≤ l[k].lits.length := List.count_le_length
      omega
    · have : cntB l x (k + 1) = cntB l x k := by unfold cntB; rw [List.take_of_length_le (by omega), List.take_of_length_le (by omega)]
      omega
theorem take_count {l : List Nat} {x j : Nat} (h : j < l.length) : (l.take (j + 1)).count x = (l.take j).count x + (if l[j] = x then 1 else 0) := by
  rw [List.take_succ_eq_append_getElem h, List.count_append]
  by_cases he : l[j] = x
  · simp [he]
  · simp [he]
def cntR (l : List Rg) (x k : Nat) : Nat := ((l.take k).map (·.q)).count x
theorem cntR_succ {l : List Rg} {x k : Nat} (h : k < l.length) : cntR l x (k + 1) = cntR l x k + (if l[k].q = x then 1 else 0) := by
  unfold cntR
  rw [List.take_succ_eq_append_getElem h, List.map_append, List.count_append]
  by_cases he : l[k].q = x
  · simp [he]
  · simp [he]
theorem cnt_all (N : Nt) (x : Nat) : cntB N.inb x N.inb.length + cntR N.regs x N.regs.length = (drivenN N).count x := by
  unfold cntB cntR drivenN
  rw [List.take_length, List.take_length, List.count_append]
set_option maxHeartbeats 3200000 in
set_option maxRecDepth 100000 in
theorem driven06 (x : Nat) (h : RNetAt w n F R N) (hx : x < 4294967296) (hi : N.inb.length ≤ 1000) (hr : N.regs.length ≤ 1000) (hl : ∀ b ∈ N.inb, b.lits.length ≤ 64) :
    Calls Tryz.prog 60 #[.pointer (some ⟨n, 0, none⟩), .int .u32 (x : Int)] w fun e w' => e = .returned (.int .i64 (((drivenN N).count x : Nat) : Int)) ∧ w = w' := by
  obtain ⟨p, ia, ic, ra, rc, oa, oc, ri, ro, hp⟩ := rnet_parts h
  have HP := Lib.hid hp
  have c2 := hp.c2
  have c3 := hp.c3
  have HL := Lib.hid hl
  have HC := Lib.hid (cnt_all N x)
  clear hp h hl
  go_enter Tryz.func60, Tryz.ntmps60
  go_wp2_with fail
  go_loop [5, 6, 7] (fun v i _ => ∃ k : Nat, k ≤ N.inb.length ∧ i = .int .i64 k ∧ v = .int .i64 ((cntB N.inb x k : Nat) : Int)) (fun _ i _ => N.inb.length - (intOf i).toNat)
  case atStart => exact ⟨0, Nat.zero_le _, rfl, by simp [cntB]⟩
  case round =>
    obtain ⟨k, hk, rfl, rfl⟩ := hrel
    have hcb := cntB_le (x := x) HL.out k
    by_cases hlt : k < N.inb.length
    · have hkr : k < ri.length := by have := congrArg List.length HP.out.im; simp at this; omega
      obtain ⟨bb, rfl, b0, b1⟩ := HP.out.ib k hkr
      have HS := Lib.hid (HP.out.ir _ (List.getElem_mem hkr))
      have hbk : N.inb[k] = ri[k].b := by
        have := List.getElem_of_eq HP.out.im.symm (i := k) hlt
        rw [this]; simp
      have HCS := Lib.hid (cntB_succ (x := x) hlt)
      have hl64 := HL.out _ (List.getElem_mem hlt)
      rw [hbk] at HCS hl64
      clear hbk b0
      generalize ri[k].a = ba at *
      generalize ri[k].c = bc at *
      generalize ri[k].b.lits = L at *
      obtain ⟨ln, hln⟩ : ∃ ln, ln = L.length := ⟨_, rfl⟩
      rw [← hln] at b1 hl64
      have HLN := Lib.hid hln
      clear hln
      generalize cntB N.inb x k = m at *
      go_wp2_with fail
      go_loop [5, 7] (fun v i => ∃ j : Nat, j ≤ ln ∧ i = .int .i64 j ∧ v = .int .i64 ((m + (L.take j).count x : Nat) : Int)) (fun _ i => ln - (intOf i).toNat)
      case atStart => exact ⟨0, Nat.zero_le _, rfl, by simp⟩
      case round =>
        obtain ⟨j, hj, rfl, rfl⟩ := hrel
        have hcj : (L.take j).count x ≤ j := Nat.le_trans List.count_le_length (by simp; omega)
        by_cases hjl : j < ln
        · have hj1 : j < L.length := by rw [← HLN.out]; exact hjl
          obtain ⟨ad, rfl, lx⟩ := HS.out j hj1
          have HT := Lib.hid (take_count (x := x) hj1)
          generalize (L.take j).count x = cj at *
          generalize L[j] = y at *
          by_cases hy : y = x
          · have e1 : ((y : Int) == (x : Int)) = true := by simp; omega
            rw [if_pos hy] at HT
            clear hy
            go_wp2_with fail
            go_round
            case rel => exact ⟨j + 1, by omega, by go_num, by rw [HT.out]; go_num⟩
            case measure => simp [intOf]; omega
          · have e1 : ((y : Int) == (x : Int)) = false := by simp; omega
            rw [if_neg hy] at HT
            clear hy
            go_wp2_with fail
            go_round
            case rel => exact ⟨j + 1, by omega, by go_num, by rw [HT.out, Nat.add_zero]⟩
            case measure => simp [intOf]; omega
        · obtain rfl : j = ln := by omega
          have hall : L.take j = L := List.take_of_length_le (by rw [← HLN.out]; exact Nat.le_refl _)
          rw [hall]
          go_wp2_with fail
          go_round
          case rel => exact ⟨k + 1, by omega, by go_num, by rw [HCS.out]⟩
          case measure => simp [intOf]; omega
    · obtain rfl : k = N.inb.length := by omega
      generalize hcB : cntB N.inb x N.inb.length = m at *
      have HCB := Lib.hid hcB
      clear hcB
      go_wp2_with fail
      go_loop [5, 8] (fun v i => ∃ q : Nat, q ≤ N.regs.length ∧ i = .int .i64 q ∧ v = .int .i64 ((m + cntR N.regs x q : Nat) : Int)) (fun _ i => N.regs.length - (intOf i).toNat)
      case atStart => exact ⟨0, Nat.zero_le _, rfl, by simp [cntR]⟩
      case round =>
        obtain ⟨q, hq, rfl, rfl⟩ := hrel
        have hcq : cntR N.regs x q ≤ q := Nat.le_trans List.count_le_length (by simp; omega)
        by_cases hql : q < N.regs.length
        · obtain ⟨rb, rfl, r0, r1, r2, r3⟩ := HP.out.rb q hql
          have HT := Lib.hid (cntR_succ (x := x) hql)
          clear r1 r2 r3
          generalize cntR N.regs x q = cj at *
          generalize N.regs[q].q = y at *
          by_cases hy : y = x
          · have e1 : ((y : Int) == (x : Int)) = true := by simp; omega
            rw [if_pos hy] at HT
            clear hy
            go_wp2_with fail
            go_round
            case rel => exact ⟨q + 1, by omega, by go_num, by rw [HT.out]; go_num⟩
            case measure => simp [intOf]; omega
          · have e1 : ((y : Int) == (x : Int)) = false := by simp; omega
            rw [if_neg hy] at HT
            clear hy
            go_wp2_with fail
            go_round
            case rel => exact ⟨q + 1, by omega, by go_num, by rw [HT.out, Nat.add_zero]⟩
            case measure => simp [intOf]; omega
        · obtain rfl : q = N.regs.length := by omega
          go_wp2_with fail
          go_ret
          exact ⟨by rw [← HC.out]; rfl, rfl⟩
end Go.Proofs.YtdmcdhkkbkgnbaaGreat
