/-
  Package sim, plain: what a cycle does.
  The document's netlist: how often a literal is driven; what an input is.
  Law 06: Wants, joined. Rows of steps, with their rows' capacities. A netlist and the document's, built side by side.
  Law 06: rows; the chapter's rows (tells).
-/
import Derived.Test.YtielfgngdhcpfaaGreatP28
import Derived.Test.YtielfgngdhcpfaaGreatP26
import Derived.Test.YtielfgngdhcpfaaGreatP23
import Derived.Test.YtielfgngdhcpfaaGreatP27
import Derived.Test.YtielfgngdhcpfaaGreatP14
namespace Go.Proofs.YtielfgngdhcpfaaGreat
open Go.ChangeShapes Go.WideShapes Go.ChangeAt Go.RowKit
open Go.Maps (Keyed)
open Go.WideMaps
set_option linter.unusedVariables false
set_option linter.unusedSimpArgs false

variable {w w' : World} {p n k : Nat} {F R S : List Nat} {g : Gr} {N : Nt}
def tN0 : Nt := newN ⟨#[116, 111, 112]⟩ false false
def tN1 : Nt := (addIn tN0 ⟨#[97]⟩ 2).1
def tN2 : Nt := (addReg tN1 true).1
def tN3 : Nt := (gateN tN2 andG 2 6).1
def tN4 : Nt := (setReg tN3 6 8 1).1
def tN5 : Nt := (addOut tN4 ⟨#[120]⟩ [9]).1
def tN6 : Nt := { tN5 with g := (inputG tN5.g).1 }
set_option maxRecDepth 100000 in
theorem t_facts : mayB ⟨#[116, 111, 112]⟩ = true ∧ (addIn tN0 ⟨#[97]⟩ 2).2 = ([2, 4], 0) ∧ (addReg tN1 true).2 = 6 ∧ (gateN tN2 andG 2 6).2 = ([8], 0) ∧ (setReg tN3 6 8 1).2 = 0 ∧ (addOut tN4 ⟨#[120]⟩ [9]).2 = 0 ∧ checkN tN5 = 0 ∧ 2 * tN5.g.nodes.length = 10 ∧ checkN tN6 = 37 := by
  refine ⟨by kernel_rfl, by kernel_rfl, by kernel_rfl, by kernel_rfl, by kernel_rfl, by kernel_rfl, by kernel_rfl, by kernel_rfl, by kernel_rfl⟩
theorem t_fine : NtFine 5 tN5 := addOut_fine (setReg_fine (gateN_fine (addReg_fine (addIn_fine (newN_fine _ false false t_facts.1) _ _) _) _ two_and _ _) _ _ _) _ _
theorem t_fine6 : NtFine 6 tN6 := fine_graph t_fine (t_fine.ok.graph (inputG_spec t_fine.ok.wf).1 (by simp [inputG]) (by simp [inputG])) (fun i hi => by rw [(inputG_spec t_fine.ok.wf).2.2]; exact List.mem_append_left _ hi)
end Go.Proofs.YtielfgngdhcpfaaGreat

namespace Go.Proofs.YtielfgngdhcpfaaGreat
open Go.ChangeShapes Go.WideShapes Go.ChangeAt Go.RowKit Go.Deep Go.Joins
open Go.Maps (Keyed)
open Go.WideMaps
set_option linter.unusedVariables false
set_option linter.unusedSimpArgs false

variable {w w' : World} {p q n : Nat} {F R S : List Nat} {g : Gr} {N : Nt}
set_option maxHeartbeats 3200000 in
set_option maxRecDepth 100000 in
theorem wants_3 (s : NStp) (la : Option Addr) (lc : Nat) (h : RNetAt w n F R N) (hok : NtSmall N) (hs : s.ok) (hsl : SlN w .u32 la s.lits) (hlc : s.lits.length ≤ lc) (h0 : s.what = 3) :
    Calls Tryz.prog 35 #[.pointer (some ⟨n, 0, none⟩), stepV s la lc] w (WantPost (addOut N s.name (s.lits.take 70)).1 w n F R) := by
  have HK0 := (Kept.refl [] w).alloc (.cells (stepCells6 s la lc) 93)
  have HK := Lib.hid HK0
  have hqF : w.heap.size ∉ F := fun hx => Nat.lt_irrefl _ (h.lt.1 _ hx)
  have HB := Lib.hid (fun i => box_cell s la lc w i)
  have HA := Lib.hid (fun (W : World) (hk : Kept [] (w.alloc (.cells (stepCells6 s la lc) 93)) W) (m : Nat) (hm : (s.lits.take 70).length = m) => addout06 ((h.kept0 HK0).kept0 hk) ⟨hok.1, by have := hok.2.2.2; omega⟩ s.name hs.nm la lc m (s.lits.take 70) hm (by rw [← hm, List.length_take]; have := hs.ll; omega) (((hsl.kept0 HK0).kept0 hk).take 70) (fun x hx => hs.l x (List.mem_of_mem_take hx)))
  have hll := hs.ll
  generalize addOut N s.name (s.lits.take 70) = res at *
  obtain ⟨N', y⟩ := res
  obtain ⟨what, nm, sn, a, b, c, lits⟩ := s
  simp only at hlc hll
  obtain ⟨ln, hln⟩ : ∃ k, k = lits.length := ⟨_, rfl⟩
  have HLN := Lib.hid hln
  simp only [stepV, stepCells6] at *
  rw [← hln] at HK HB HA hlc hll ⊢
  subst h0
  clear hs hln HK0 h hsl hok
  rcases (show (ln ≤ 70 ∧ (0 : Int) ≤ (lc : Int) ∧ ((70 : Int) < (ln : Int)) = False ∧ (70 < ln) = False) ∨ (¬ ln ≤ 70 ∧ (70 : Int) ≤ (lc : Int) ∧ ((70 : Int) < (ln : Int)) = True ∧ (70 < ln) = True) from by
    by_cases h : ln ≤ 70
    · exact .inl ⟨h, by omega, eq_false (by omega), eq_false (by omega)⟩
    · exact .inr ⟨h, by omega, eq_true (by omega), eq_true (by omega)⟩) with ⟨h70, i3, m1, m2⟩ | ⟨h70, i3, m1, m2⟩
  all_goals
    go_enter Tryz.func35, Tryz.ntmps35; (try simp only [List.append])
    go_wp2_with fail
    obtain ⟨q, hq⟩ : ∃ q, q = w.heap.size := ⟨_, rfl⟩
    obtain ⟨w0, hw0⟩ : ∃ w0, w0 = w.alloc (.cells #[.int .i64 3, .string nm, .int .i64 sn, .int .u32 (a : Int), .int .u32 (b : Int), .int .u32 (c : Int), .slice la ln lc] 93) := ⟨_, rfl⟩
    rw [← hq, ← hw0] at HB
    rw [← hw0] at HK HA
    rw [← hq] at hqF
    rw [← hq, ← hw0]
    have d1 : w0.cell? ⟨q, 1, none⟩ = some (.string nm) := HB.out 1
    have d6 : w0.cell? ⟨q, 6, none⟩ = some (.slice la ln lc) := HB.out 6
    have i1 : (ln : Int) ≤ (lc : Int) := by omega
    have i2 : (0 : Int) ≤ (ln : Int) := by omega
    clear hq hw0 HB
    go_region_held3 (fun w' => w'.cell? ⟨q, 1, none⟩ = some (.string nm) ∧ w'.cell? ⟨q, 6, none⟩ = some (.slice la ln lc))
      (first | exact ⟨Kept.cell (F := F) (w := w0) (by (repeat (first | with_reducible exact Kept.refl _ _ | with_reducible apply Kept.drew | with_reducible apply Kept.drewN | with_reducible apply Kept.alloc | refine Kept.trans ?_ k5))) d1 hqF, Kept.cell (F := F) (w := w0) (by (repeat (first | with_reducible exact Kept.refl _ _ | with_reducible apply Kept.drew | with_reducible apply Kept.drewN | with_reducible apply Kept.alloc | refine Kept.trans ?_ k5))) d6 hqF⟩ | go_keep)
      (first
        | (go_at_call 76; (with_reducible refine (HA.out _ ?kk1 ln ?kk2).mono ?_); (case kk1 => ((repeat (first | with_reducible exact Kept.refl _ _ | with_reducible apply Kept.drew | with_reducible apply Kept.drewN | with_reducible apply Kept.alloc)))); (case kk2 => (rw [List.length_take]; have := HLN.out; omega)); rintro e w5 ⟨F5, R5, rfl, hn5, hs5⟩; have k5 := hs5.st.kept)
        | (go_at_call 76; (with_reducible refine (HA.out _ ?kk1 70 ?kk2).mono ?_); (case kk1 => ((repeat (first | with_reducible exact Kept.refl _ _ | with_reducible apply Kept.drew | with_reducible apply Kept.drewN | with_reducible apply Kept.alloc)))); (case kk2 => (rw [List.length_take]; have := HLN.out; omega)); rintro e w5 ⟨F5, R5, rfl, hn5, hs5⟩; have k5 := hs5.st.kept))
    all_goals
      have HN5 := Lib.hid hn5
      have HS5 := Lib.hid (((NStep.refl w F R).keep (HK.out.trans (by (repeat (first | with_reducible exact Kept.refl _ _ | with_reducible apply Kept.drew | with_reducible apply Kept.drewN | with_reducible apply Kept.alloc))))).trans hs5)
      clear hn5 hs5 k5 d1 d6
      go_wp2_with fail
      go_ret2
      exact ⟨F5, R5, none, 0, 0, _, rfl, HN5.out, HS5.out⟩
theorem wants_c (s : NStp) (la : Option Addr) (lc : Nat) (h : RNetAt w n F R N) (hok : NtSmall N) (hs : s.ok) (hsl : SlN w .u32 la s.lits) (hlc : s.lits.length ≤ lc) :
    Calls Tryz.prog 35 #[.pointer (some ⟨n, 0, none⟩), stepV s la lc] w (WantPost (doesN N s).1 w n F R) := by
  unfold doesN
  by_cases h0 : s.what = 0
  · rw [if_pos h0]; exact wants_0 s la lc h hok hs h0
  rw [if_neg h0]
  by_cases h1 : s.what = 1
  · rw [if_pos h1]; exact wants_1 s la lc h hok hs h1
  rw [if_neg h1]
  by_cases h2 : s.what = 2
  · rw [if_pos h2]; exact wants_2 s la lc h hok hs h2
  rw [if_neg h2]
  by_cases h3 : s.what = 3
  · rw [if_pos h3]; exact wants_3 s la lc h hok hs hsl hlc h3
  rw [if_neg h3]
  by_cases h4 : s.what = 4
  · rw [if_pos (.inl h4)]; exact wants_4 s la lc h hok hs h4
  by_cases h5 : s.what = 5
  · rw [if_pos (.inr (.inl h5))]; exact wants_5 s la lc h hok hs h5
  by_cases h6 : s.what = 6
  · rw [if_pos (.inr (.inr h6))]; exact wants_6 s la lc h hok hs h6
  rw [if_neg (by omega)]
  by_cases h7 : s.what = 7
  · rw [if_pos h7]; exact wants_7 s la lc h hok hs h7
  rw [if_neg h7]
  by_cases h8 : s.what = 8
  · rw [if_pos h8]; exact wants_8 s la lc h hok hs h8
  rw [if_neg h8]
  exact wants_9 s la lc h hok hs (by omega)
/-- steps where they lie, their rows within their capacities -/
def SlNStepsC (W : World) (a : Option Addr) (l : List NStp) : Prop :=
  ∀ k, (hk : k < l.length) → ∃ b o, a = some ⟨b, o, none⟩ ∧ ∃ la lc, StepCells W b (o + k * 7) l[k] la lc ∧ SlN W .u32 la l[k].lits ∧ l[k].lits.length ≤ lc
theorem SlNStepsC.kept0 {W W' : World} {a : Option Addr} {l : List NStp} (h : SlNStepsC W a l) (hk : Kept [] W W') : SlNStepsC W' a l := by
  intro k hkl
  obtain ⟨b, o, h1, la, lc, ⟨c0, c1, c2, c3, c4, c5, c6⟩, h3, h4⟩ := h k hkl
  exact ⟨b, o, h1, la, lc, ⟨hk.cell c0 (by simp), hk.cell c1 (by simp), hk.cell c2 (by simp), hk.cell c3 (by simp), hk.cell c4 (by simp), hk.cell c5 (by simp), hk.cell c6 (by simp)⟩, h3.kept0 hk, h4⟩
section
variable {H : Type} {enc : TypeId × Value → H} {W : World} {base : Nat} {v : Value} {d : DataW H} {ps : List MemPlace}
set_option maxRecDepth 100000 in
theorem open_nstepsc (hv : Value.okWide Tryz.prog W .any base 24 v) (h : DataW.Trod enc Tryz.prog W 0 (fun _ => true) true 24 v d ps) (hz : Sized Tryz.prog 24 d) :
    ∃ (a : Option Addr) (l : List NStp) (c : Nat), v = .slice a l.length c ∧ l.length ≤ 140737488351232 ∧ SlNStepsC W a l ∧ ∀ s ∈ l, s.ok := by
  obtain ⟨a0, len0, cap0, rfl⟩ := okWide_slice Tryz.underlying24 hv
  obtain ⟨fuel, hf⟩ := h
  obtain ⟨a, len, cap, hvv, hlc, hcb, hnil, hat⟩ := open_recs (v := .slice a0 len0 cap0) Tryz.underlying24 Tryz.underlying93 (by kernel_rfl) (by kernel_rfl) hf hz
  injection hvv with h1 h2 h3
  subst h1 h2 h3
  have hb : Tryz.prog.bytesOf 93 = 72 := by kernel_rfl
  rw [hb] at hcb
  obtain ⟨acts, hl, hacts⟩ := choose_list (n := len0) (p := fun k (x : NStp) => (∃ b o, a0 = some ⟨b, o, none⟩ ∧ ∃ la lc, StepCells W b (o + k * 7) x la lc ∧ SlN W .u32 la x.lits ∧ x.lits.length ≤ lc) ∧ x.ok) fun i hi => by
    have h00 := hat 0 (by omega)
    obtain ⟨ad, m, rfl, hfields⟩ := hat i hi
    obtain ⟨u0, z0, hc0, ht0, _⟩ := hfields 0 _ rfl
    obtain ⟨u1, z1, hc1, ht1, hz1⟩ := hfields 1 _ rfl
    obtain ⟨u2, z2, hc2, ht2, _⟩ := hfields 2 _ rfl
    obtain ⟨u3, z3, hc3, ht3, _⟩ := hfields 3 _ rfl
    obtain ⟨u4, z4, hc4, ht4, _⟩ := hfields 4 _ rfl
    obtain ⟨u5, z5, hc5, ht5, _⟩ := hfields 5 _ rfl
    obtain ⟨u6, z6, hc6, ht6, hz6⟩ := hfields 6 _ rfl
    obtain ⟨x0, e0, _, f0⟩ := DataW.trod_int Tryz.underlying3 ht0
    obtain ⟨x1, e1, d1, f1⟩ := DataW.trod_string Tryz.underlying9 ht1
    obtain ⟨x2, e2, _, f2⟩ := DataW.trod_int Tryz.underlying3 ht2
    obtain ⟨x3, e3, _, f3⟩ := DataW.trod_int Tryz.underlying58 ht3
    obtain ⟨x4, e4, _, f4⟩ := DataW.trod_int Tryz.underlying58 ht4
    obtain ⟨x5, e5, _, f5⟩ := DataW.trod_int Tryz.underlying58 ht5
    simp at e0 e1 e2 e3 e4 e5
    subst e0 e1 e2 e3 e4 e5
    obtain ⟨x3, rfl, y3⟩ := wf_nat (m := 4294967296) rfl rfl f3
    obtain ⟨x4, rfl, y4⟩ := wf_nat (m := 4294967296) rfl rfl f4
    obtain ⟨x5, rfl, y5⟩ := wf_nat (m := 4294967296) rfl rfl f5
    have fx : -9223372036854775808 ≤ x2 ∧ x2 ≤ 9223372036854775807 := by
      simp [Lit.wf, IntKind.min, IntKind.max, IntKind.signed, IntKind.bits] at f2
      omega
    have hs1 : x1.size ≤ 140737488351232 := by
      have h := hz1 x1.size (by rw [d1]; simp [DataW.weights])
      simpa [reachBytes] using h
    obtain ⟨al, cl, l, rfl, hlcl, hsl, hlm, hnl, hclb⟩ := open_natsT (m := 4294967296) (bytes := 4) Tryz.underlying79 Tryz.underlying58 (by kernel_rfl) (by kernel_rfl) rfl rfl ht6 hz6
    obtain ⟨ad2, m2, e2, hf2⟩ := h00
    injection e2 with e2
    subst e2
    obtain ⟨u7, z7, hc7, _, _⟩ := hf2 0 _ rfl
    obtain ⟨b, o, rfl⟩ := plain_spot (by simpa using hc7)
    rw [add_at] at hc0 hc1 hc2 hc3 hc4 hc5 hc6
    exact ⟨⟨x0, x1, x2, x3, x4, x5, l⟩, ⟨b, o, rfl, al, cl, ⟨hc0, hc1, hc2, hc3, hc4, hc5, hc6⟩, hsl, hlcl⟩, ⟨hs1, fx.1, fx.2, y3, y4, y5, hlm, by show l.length ≤ _; omega⟩⟩
  refine ⟨a0, acts, cap0, by rw [hl], by omega, fun k hk => (hacts k hk).1, fun s hs => ?_⟩
  obtain ⟨k, hk, rfl⟩ := List.getElem_of_mem hs
  exact (hacts k hk).2
end
end Go.Proofs.YtielfgngdhcpfaaGreat

namespace Go.Proofs.YtielfgngdhcpfaaGreat
open Go.ChangeShapes Go.WideShapes Go.ChangeAt Go.RowKit
open Go.Maps (Keyed)
open Go.WideMaps
set_option linter.unusedVariables false
set_option linter.unusedSimpArgs false

variable {w w' : World} {p n k : Nat} {F R S : List Nat} {g : Gr} {N : Nt}
theorem owns_cap {e : TypeId} {size m cap : Nat} {a : Option Addr} {xs : List Value} (h : w.ownsRow 0 e size (.slice a m cap) m xs) : m ≤ cap := by
  rcases h.2 with ⟨hv, h0⟩ | ⟨g, cap', cur, hv, hb, hg, hc, rest⟩
  · omega
  · injection hv with _ _ hv; subst hv; exact hc
/-- the document's netlist's parts, where they lie -/
structure RNetP (w : World) (n : Nat) (N : Nt) (p : Nat) (ia : Option Addr) (ic : Nat) (ra : Option Addr) (rc : Nat) (oa : Option Addr) (oc : Nat) (ri ro : List BR) : Prop where
  c0 : w.cell? ⟨n, 0, none⟩ = some (.pointer (some ⟨p, 0, none⟩))
  c1 : w.cell? ⟨n, 1, none⟩ = some (.string N.name)
  c2 : w.cell? ⟨n, 2, none⟩ = some (.slice ia N.inb.length ic)
  c3 : w.cell? ⟨n, 3, none⟩ = some (.slice ra N.regs.length rc)
  c4 : w.cell? ⟨n, 4, none⟩ = some (.slice oa N.outb.length oc)
  gr : ∃ G, RefAt w p G N.g
  ib : SlB w ia ri
  im : ri.map (·.b) = N.inb
  ir : ∀ r ∈ ri, SlN w .u32 r.a r.b.lits
  rb : SlR w ra N.regs
  ob : SlB w oa ro
  om : ro.map (·.b) = N.outb
  or : ∀ r ∈ ro, SlN w .u32 r.a r.b.lits
  ik : N.inb.length ≤ ic
  ok : N.outb.length ≤ oc
theorem rnet_parts (h : RNetAt w n F R N) : ∃ p ia ic ra rc oa oc ri ro, RNetP w n N p ia ic ra rc oa oc ri ro := by
  obtain ⟨p, G, ia, ic, ra, rc, oa, oc, ri, ro, rfl, rfl, hn⟩ := h
  exact ⟨p, ia, ic, ra, rc, oa, oc, ri, ro, hn.c0, hn.c1, hn.c2, hn.c3, hn.c4, ⟨G, hn.gr⟩, hn.ib.slb, hn.ib.is, fun r hr => (hn.ib.rows r hr).1, rregs_sl rfl hn.rb, hn.ob.slb, hn.ob.is, fun r hr => (hn.ob.rows r hr).1, owns_cap hn.ib.own, owns_cap hn.ob.own⟩
theorem RNetP.kept0 {ia ra oa : Option Addr} {ic rc oc : Nat} {ri ro : List BR} (h : RNetP w n N p ia ic ra rc oa oc ri ro) (hk : Kept [] w w') : RNetP w' n N p ia ic ra rc oa oc ri ro := by
  obtain ⟨G, hg⟩ := h.gr
  exact ⟨hk.cell h.c0 (by simp), hk.cell h.c1 (by simp), hk.cell h.c2 (by simp), hk.cell h.c3 (by simp), hk.cell h.c4 (by simp), ⟨G, hg.kept0 hk⟩, h.ib.kept0 hk, h.im, fun r hr => (h.ir r hr).kept0 hk, h.rb.kept0 hk, h.ob.kept0 hk, h.om, fun r hr => (h.or r hr).kept0 hk, h.ik, h.ok⟩
/-- how often x is driven by the first k buses -/
def cntB (l : List Bus) (x k : Nat) : Nat := ((l.take k).flatMap (·.lits)).count x
theorem cntB_succ {l : List Bus} {x k : Nat} (h : k < l.length) : cntB l x (k + 1) = cntB l x k + l[k].lits.count x := by
  unfold cntB
  rw [List.take_succ_eq_append_getElem h, List.flatMap_append, List.count_append]
  simp
theorem cntB_le {l : List Bus} {x : Nat} (hl : ∀ b ∈ l, b.lits.length ≤ 64) (k : Nat) : cntB l x k ≤ 64 * k := by
  induction k with
  | zero => simp [cntB]
  | succ k ih =>
    by_cases h : k < l.length
    · rw [cntB_succ h]
      have h1 := hl _ (List.getElem_mem h)
      have h2 : l[k].lits.count x ≤ l[k].lits.length := List.count_le_length
      omega
    · have : cntB l x (k + 1) = cntB l x k := by unfold cntB; rw [List.take_of_length_le (by omega), List.take_of_length_le (by omega)]
      omega
theorem take_count {l : List Nat} {x j : Nat} (h : j < l.length) : (l.take (j + 1)).count x = (l.take j).count x + (if l[j] = x then 1 else 0) := by
  rw [List.take_succ_eq_append_getElem h, List.count_append]
  by_cases he : l[j] = x
  · simp [he]
  · simp [he]
def cntR (l : List Rg) (x k : Nat) : Nat := ((l.take k).map (·.q)).count x
theorem cntR_succ {l : List Rg} {x k : Nat} (h : k < l.length) : cntR l x (k + 1) = cntR l x k + (if l[k].q = x then 1 else 0) := by
  unfold cntR
  rw [List.take_succ_eq_append_getElem h, List.map_append, List.count_append]
  by_cases he : l[k].q = x
  · simp [he]
  · simp [he]
theorem cnt_all (N : Nt) (x : Nat) : cntB N.inb x N.inb.length + cntR N.regs x N.regs.length = (drivenN N).count x := by
  unfold cntB cntR drivenN
  rw [List.take_length, List.take_length, List.count_append]
set_option maxHeartbeats 3200000 in
set_option maxRecDepth 100000 in
theorem driven06 (x : Nat) (h : RNetAt w n F R N) (hx : x < 4294967296) (hi : N.inb.length ≤ 1000) (hr : N.regs.length ≤ 1000) (hl : ∀ b ∈ N.inb, b.lits.length ≤ 64) :
    Calls Tryz.prog 88 #[.pointer (some ⟨n, 0, none⟩), .int .u32 (x : Int)] w fun e w' => e = .returned (.int .i64 (((drivenN N).count x : Nat) : Int)) ∧ w = w' := by
  obtain ⟨p, ia, ic, ra, rc, oa, oc, ri, ro, hp⟩ := rnet_parts h
  have HP := Lib.hid hp
  have c2 := hp.c2
  have c3 := hp.c3
  have HL := Lib.hid hl
  have HC := Lib.hid (cnt_all N x)
  clear hp h hl
  go_enter Tryz.func88, Tryz.ntmps88
  go_wp2_with fail
  go_loop [5, 6, 7] (fun v i _ => ∃ k : Nat, k ≤ N.inb.length ∧ i = .int .i64 k ∧ v = .int .i64 ((cntB N.inb x k : Nat) : Int)) (fun _ i _ => N.inb.length - (intOf i).toNat)
  case atStart => exact ⟨0, Nat.zero_le _, rfl, by simp [cntB]⟩
  case round =>
    obtain ⟨k, hk, rfl, rfl⟩ := hrel
    have hcb := cntB_le (x := x) HL.out k
    by_cases hlt : k < N.inb.length
    · have hkr : k < ri.length := by have := congrArg List.length HP.out.im; simp at this; omega
      obtain ⟨bb, rfl, b0, b1⟩ := HP.out.ib k hkr
      have HS := Lib.hid (HP.out.ir _ (List.getElem_mem hkr))
      have hbk : N.inb[k] = ri[k].b := by
        have := List.getElem_of_eq HP.out.im.symm (i := k) hlt
        rw [this]; simp
      have HCS := Lib.hid (cntB_succ (x := x) hlt)
      have hl64 := HL.out _ (List.getElem_mem hlt)
      rw [hbk] at HCS hl64
      clear hbk b0
      generalize ri[k].a = ba at *
      generalize ri[k].c = bc at *
      generalize ri[k].b.lits = L at *
      obtain ⟨ln, hln⟩ : ∃ ln, ln = L.length := ⟨_, rfl⟩
      rw [← hln] at b1 hl64
      have HLN := Lib.hid hln
      clear hln
      generalize cntB N.inb x k = m at *
      go_wp2_with fail
      go_loop [5, 7] (fun v i => ∃ j : Nat, j ≤ ln ∧ i = .int .i64 j ∧ v = .int .i64 ((m + (L.take j).count x : Nat) : Int)) (fun _ i => ln - (intOf i).toNat)
      case atStart => exact ⟨0, Nat.zero_le _, rfl, by simp⟩
      case round =>
        obtain ⟨j, hj, rfl, rfl⟩ := hrel
        have hcj : (L.take j).count x ≤ j := Nat.le_trans List.count_le_length (by simp; omega)
        by_cases hjl : j < ln
        · have hj1 : j < L.length := by rw [← HLN.out]; exact hjl
          obtain ⟨ad, rfl, lx⟩ := HS.out j hj1
          have HT := Lib.hid (take_count (x := x) hj1)
          generalize (L.take j).count x = cj at *
          generalize L[j] = y at *
          by_cases hy : y = x
          · have e1 : ((y : Int) == (x : Int)) = true := by simp; omega
            rw [if_pos hy] at HT
            clear hy
            go_wp2_with fail
            go_round
            case rel => exact ⟨j + 1, by omega, by go_num, by rw [HT.out]; go_num⟩
            case measure => simp [intOf]; omega
          · have e1 : ((y : Int) == (x : Int)) = false := by simp; omega
            rw [if_neg hy] at HT
            clear hy
            go_wp2_with fail
            go_round
            case rel => exact ⟨j + 1, by omega, by go_num, by rw [HT.out, Nat.add_zero]⟩
            case measure => simp [intOf]; omega
        · obtain rfl : j = ln := by omega
          have hall : L.take j = L := List.take_of_length_le (by rw [← HLN.out]; exact Nat.le_refl _)
          rw [hall]
          go_wp2_with fail
          go_round
          case rel => exact ⟨k + 1, by omega, by go_num, by rw [HCS.out]⟩
          case measure => simp [intOf]; omega
    · obtain rfl : k = N.inb.length := by omega
      generalize hcB : cntB N.inb x N.inb.length = m at *
      have HCB := Lib.hid hcB
      clear hcB
      go_wp2_with fail
      go_loop [5, 8] (fun v i => ∃ q : Nat, q ≤ N.regs.length ∧ i = .int .i64 q ∧ v = .int .i64 ((m + cntR N.regs x q : Nat) : Int)) (fun _ i => N.regs.length - (intOf i).toNat)
      case atStart => exact ⟨0, Nat.zero_le _, rfl, by simp [cntR]⟩
      case round =>
        obtain ⟨q, hq, rfl, rfl⟩ := hrel
        have hcq : cntR N.regs x q ≤ q := Nat.le_trans List.count_le_length (by simp; omega)
        by_cases hql : q < N.regs.length
        · obtain ⟨rb, rfl, r0, r1, r2, r3⟩ := HP.out.rb q hql
          have HT := Lib.hid (cntR_succ (x := x) hql)
          clear r1 r2 r3
          generalize cntR N.regs x q = cj at *
          generalize N.regs[q].q = y at *
          by_cases hy : y = x
          · have e1 : ((y : Int) == (x : Int)) = true := by simp; omega
            rw [if_pos hy] at HT
            clear hy
            go_wp2_with fail
            go_round
            case rel => exact ⟨q + 1, by omega, by go_num, by rw [HT.out]; go_num⟩
            case measure => simp [intOf]; omega
          · have e1 : ((y : Int) == (x : Int)) = false := by simp; omega
            rw [if_neg hy] at HT
            clear hy
            go_wp2_with fail
            go_round
            case rel => exact ⟨q + 1, by omega, by go_num, by rw [HT.out, Nat.add_zero]⟩
            case measure => simp [intOf]; omega
        · obtain rfl : q = N.regs.length := by omega
          go_wp2_with fail
          go_ret
          exact ⟨by rw [← HC.out]; rfl, rfl⟩
end Go.Proofs.YtielfgngdhcpfaaGreat

namespace Go.Proofs.YtielfgngdhcpfaaGreat
set_option linter.unusedVariables false

/-- words for inputs, by the literals that they drive -/
def asg (is : List Nat) (ps : List (Nat × Nat)) : List Nat := is.map fun i => ((ps.find? fun p => decide (p.1 = 2 * i)).map (·.2)).getD 0
theorem asg_length (is : List Nat) (ps : List (Nat × Nat)) : (asg is ps).length = is.length := by simp [asg]
theorem asg_nil (is : List Nat) : asg is [] = List.replicate is.length 0 := by
  unfold asg
  induction is with
  | nil => rfl
  | cons i is ih => simp [List.replicate_succ] at ih ⊢; exact ih
theorem asg_snoc {is : List Nat} {ps : List (Nat × Nat)} {i v k : Nat} (hn : is.Nodup) (hk : is[k]? = some i) (hx : ∀ p ∈ ps, p.1 ≠ 2 * i) : asg is (ps ++ [(2 * i, v)]) = (asg is ps).set k v := by
  obtain ⟨hkl, hki⟩ := List.getElem?_eq_some_iff.1 hk
  apply List.ext_getElem (by simp [asg])
  intro j h1 h2
  have hj : j < is.length := by simpa [asg] using h1
  rw [List.getElem_set]
  simp only [asg, List.getElem_map, List.find?_append]
  by_cases hjk : k = j
  · subst hjk
    rw [if_pos rfl]
    have hno : ps.find? (fun p => decide (p.1 = 2 * is[k])) = none := by
      rw [List.find?_eq_none]
      intro p hp
      have := hx p hp
      simp; omega
    rw [hno, hki]
    simp
  · rw [if_neg hjk]
    have hne : is[j] ≠ i := fun e => by
      have := (List.nodup_iff_pairwise_ne.1 hn)
      rcases Nat.lt_or_gt_of_ne hjk with h | h
      · exact List.pairwise_iff_getElem.1 this k j hkl hj h (by rw [hki, e])
      · exact List.pairwise_iff_getElem.1 this j k hj hkl h (by rw [hki, e])
    cases hf : ps.find? (fun p => decide (p.1 = 2 * is[j])) with
    | some p => simp
    | none =>
      have : ¬ (2 * i = 2 * is[j]) := by omega
      simp [this]
theorem asg_words {is : List Nat} {ps : List (Nat × Nat)} (h : ∀ p ∈ ps, p.2 < 18446744073709551616) : Words (asg is ps) := by
  intro x hx
  unfold asg at hx
  obtain ⟨i, _, rfl⟩ := List.mem_map.1 hx
  cases hf : ps.find? (fun p => decide (p.1 = 2 * i)) with
  | none => simp
  | some p => simpa using h p (List.mem_of_find?_eq_some hf)
def pairsB (l : List Bus) (rows : List (List Nat)) : List (Nat × Nat) := (l.zip rows).flatMap fun p => p.1.lits.zip p.2
def pairsN (N : Nt) (inp : List (List Nat)) (regs : List Nat) : List (Nat × Nat) := pairsB N.inb inp ++ (N.regs.map (·.q)).zip regs
/-- words fit the buses -/
def fitsN (l : List Bus) (rows : List (List Nat)) : Prop := rows.length = l.length ∧ ∀ k (h1 : k < l.length) (h2 : k < rows.length), rows[k].length = l[k].lits.length
def inpN (N : Nt) (inp : List (List Nat)) (regs : List Nat) : List Nat := asg (ins N.g.nodes) (pairsN N inp regs)
def wordsN (N : Nt) (inp : List (List Nat)) (regs : List Nat) : List Nat := evalG N.g (inpN N inp regs)
def nextR (ws : List Nat) (r : Rg) (was : Nat) : Nat := (wd ws r.d &&& wd ws r.en) ||| (was &&& noW (wd ws r.en))
def nextN (N : Nt) (ws regs : List Nat) : List Nat := (N.regs.zip regs).map fun p => nextR ws p.1 p.2
def outN (N : Nt) (ws : List Nat) : List (List Nat) := N.outb.map fun b => b.lits.map (wd ws)
def resetN (N : Nt) : List Nat := N.regs.map fun r => if r.init then 18446744073709551615 else 0
theorem resetN_words (N : Nt) : Words (resetN N) := by
  intro x hx
  unfold resetN at hx
  obtain ⟨r, _, rfl⟩ := List.mem_map.1 hx
  split <;> omega
theorem pairs_words {N : Nt} {inp : List (List Nat)} {regs : List Nat} (h1 : ∀ r ∈ inp, Words r) (h2 : Words regs) : ∀ p ∈ pairsN N inp regs, p.2 < 18446744073709551616 := by
  intro p hp
  unfold pairsN pairsB at hp
  rcases List.mem_append.1 hp with hp | hp
  · obtain ⟨q, hq, hp⟩ := List.mem_flatMap.1 hp
    exact h1 _ (List.of_mem_zip hq).2 _ (List.of_mem_zip hp).2
  · exact h2 _ (List.of_mem_zip hp).2
theorem inpN_words {N : Nt} {inp : List (List Nat)} {regs : List Nat} (h1 : ∀ r ∈ inp, Words r) (h2 : Words regs) : Words (inpN N inp regs) := asg_words (pairs_words h1 h2)
theorem wordsN_words {N : Nt} {inp : List (List Nat)} {regs : List Nat} (h1 : ∀ r ∈ inp, Words r) (h2 : Words regs) : Words (wordsN N inp regs) := evalG_words _ (inpN_words h1 h2)
theorem nextR_lt {ws : List Nat} (hw : Words ws) (r : Rg) {was : Nat} (h : was < 18446744073709551616) : nextR ws r was < 18446744073709551616 := by
  unfold nextR
  exact Nat.or_lt_two_pow (n := 64) (and_lt (wd_lt hw _)) (and_lt h)
theorem nextN_words {N : Nt} {ws regs : List Nat} (hw : Words ws) (h : Words regs) : Words (nextN N ws regs) := by
  intro x hx
  unfold nextN at hx
  obtain ⟨p, hp, rfl⟩ := List.mem_map.1 hx
  exact nextR_lt hw _ (h _ (List.of_mem_zip hp).2)
theorem nextN_length {N : Nt} {ws regs : List Nat} (h : regs.length = N.regs.length) : (nextN N ws regs).length = N.regs.length := by simp [nextN, h]
theorem ins_nodup (ns : List (Nat × Nat)) : (ins ns).Nodup := by
  rw [List.nodup_iff_pairwise_ne]
  exact (insFrom_sorted 0 ns).imp fun h e => by omega
end Go.Proofs.YtielfgngdhcpfaaGreat
