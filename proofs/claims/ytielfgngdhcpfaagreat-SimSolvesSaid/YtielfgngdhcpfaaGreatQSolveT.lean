/-
  Law SimSolves, parts: one literal's word; a netlist's parts.
-/
import Derived.Test.YtielfgngdhcpfaaGreatQSolveM
namespace Go.Proofs.YtielfgngdhcpfaaGreat
open Go.ChangeShapes Go.WideShapes Go.ChangeAt Go.RowKit
open Go.Maps (Keyed)
open Go.WideMaps
set_option linter.unusedVariables false
set_option linter.unusedSimpArgs false

variable {w w' w1 : World} {s p n k : Nat} {F R F' R' S : List Nat} {g : Gr} {N : Nt} {σ : Sm}
theorem sln_one (w : World) (x : Nat) (t : TypeId) : SlN (w.alloc (.cells #[.int .u32 (x : Int)] t)) .u32 (some ⟨w.heap.size, 0, none⟩) [x] := sln_new w .u32 [x] t
set_option maxRecDepth 100000 in
theorem word_c {kk : Nat} (x bs : Nat) (h : SimAt w s F R σ) (hok : SmOk kk σ) (hcy : σ.cy ≠ 0) (hx : σ.N.g.ok x) (hq : w.cell? ⟨bs, 0, none⟩ = some (.pointer (some ⟨s, 0, none⟩))) :
    Calls Tryz.prog 20 #[.int .u32 (x : Int), .pointer (some ⟨bs, 0, none⟩)] w fun e w' => e = .returned (.int .u64 ((wd σ.ws x : Nat) : Int)) ∧ Kept [] w w' := by
  have h1 := hok.fine.ok.len
  have h2 := hok.k7
  have hx1 : x / 2 < σ.N.g.nodes.length := hx
  have hx2 : x < 4294967296 := by omega
  have HA := Lib.hid (show askS σ [x] = 0 from by
    unfold askS
    rw [if_neg (by simp; omega), if_neg hcy])
  have HW := Lib.hid (fun (W : World) (hk : Kept [] w W) (a : Option Addr) (hs : SlN W .u32 a [x]) => sim_words (h.kept0 hk) (by omega) hok.ww a 1 1 [x] rfl (by omega) hs (by intro y hy; simp at hy; omega))
  clear h1 h2 hx1 hx2 h hok hcy hx
  go_enter Tryz.func20, Tryz.ntmps20
  go_wp2_with fail
  refine (HW.out _ ((Kept.refl [] w).alloc _) _ (sln_one w x _)).mono ?_
  rintro e w1 ⟨a, m, c, rfl, hk, hall⟩
  obtain ⟨rfl, hown, hfr⟩ := hall HA.out
  rw [HA.out]
  obtain ⟨gb, rfl⟩ := hown.form (by omega)
  obtain ⟨ad, had, hc⟩ := hown.cell (k := 0) (by simp [nats])
  injection had with had
  subst had
  have hc' : w1.cell? ⟨gb, 0, none⟩ = some (.int .u64 ((wd σ.ws x : Nat) : Int)) := by
    have he : ((⟨gb, 0, none⟩ : Addr).add 0) = ⟨gb, 0, none⟩ := by unfold Addr.add; split <;> simp_all
    rw [he] at hc
    rw [hc]; simp [nats]
  have K1 := Lib.hid (((Kept.refl [] w).alloc (.cells #[.int .u32 (x : Int)] 59)).trans hk)
  clear hc hk hfr hown
  obtain ⟨v, hv⟩ : ∃ v, v = wd σ.ws x := ⟨_, rfl⟩
  rw [← hv] at hc'
  have HV := Lib.hid hv
  clear hv
  go_wp2_with fail
  go_ret
  exact ⟨by rw [← HV.out]; rfl, K1.out⟩
/-- a netlist's parts, where they lie -/
structure NetP (w : World) (n : Nat) (N : Nt) (p : Nat) (ia : Option Addr) (ic : Nat) (ra : Option Addr) (rc : Nat) (oa : Option Addr) (oc : Nat) (ri ro : List BR) : Prop where
  c0 : w.cell? ⟨n, 0, none⟩ = some (.pointer (some ⟨p, 0, none⟩))
  c2 : w.cell? ⟨n, 2, none⟩ = some (.slice ia N.inb.length ic)
  c3 : w.cell? ⟨n, 3, none⟩ = some (.slice ra N.regs.length rc)
  c4 : w.cell? ⟨n, 4, none⟩ = some (.slice oa N.outb.length oc)
  gr : ∃ G, GraphAt w p G N.g
  ib : SlB w ia ri
  im : ri.map (·.b) = N.inb
  ir : ∀ r ∈ ri, SlN w .u32 r.a r.b.lits
  rb : SlR w ra N.regs
  ob : SlB w oa ro
  om : ro.map (·.b) = N.outb
  or : ∀ r ∈ ro, SlN w .u32 r.a r.b.lits
theorem net_parts {NF NR : List Nat} (h : NetAt w n NF NR N) : ∃ p ia ic ra rc oa oc ri ro, NetP w n N p ia ic ra rc oa oc ri ro := by
  obtain ⟨p, G, ia, ic, ra, rc, oa, oc, ri, ro, rfl, rfl, hn⟩ := h
  exact ⟨p, ia, ic, ra, rc, oa, oc, ri, ro, hn.c0, hn.c2, hn.c3, hn.c4, ⟨G, hn.gr⟩, hn.ib.slb, hn.ib.is, fun r hr => (hn.ib.rows r hr).1, regs_sl rfl hn.rb, hn.ob.slb, hn.ob.is, fun r hr => (hn.ob.rows r hr).1⟩
theorem NetP.kept0 {ia ra oa : Option Addr} {ic rc oc : Nat} {ri ro : List BR} (h : NetP w n N p ia ic ra rc oa oc ri ro) (hk : Kept [] w w') : NetP w' n N p ia ic ra rc oa oc ri ro := by
  obtain ⟨G, hg⟩ := h.gr
  exact ⟨hk.cell h.c0 (by simp), hk.cell h.c2 (by simp), hk.cell h.c3 (by simp), hk.cell h.c4 (by simp), ⟨G, hg.kept hk (by simp)⟩, h.ib.kept0 hk, h.im, fun r hr => (h.ir r hr).kept0 hk, h.rb.kept0 hk, h.ob.kept0 hk, h.om, fun r hr => (h.or r hr).kept0 hk⟩
theorem WRows.spot {a : Option Addr} {m c : Nat} {rs : List WR} (h : WRows w a m c rs) (q : Nat) (hq : q < rs.length) : ∃ b ra rc, a = some ⟨b, 0, none⟩ ∧ w.cell? ⟨b, q, none⟩ = some (.slice ra rs[q].l.length rc) ∧ SlN w .u64 ra rs[q].l := by
  obtain ⟨b, h1, h2⟩ := h.cell q hq
  exact ⟨b, _, _, h1, h2, (h.rows _ (List.getElem_mem hq)).1⟩
theorem in_rows {kk : Nat} {grs : List WR} {ri : List BR} {inp : List (List Nat)} {regs ws : List Nat} (hws : ws = wordsN N inp regs) (hfine : NtFine kk N) (hf : fitB N.inb inp = true) (hr : regs.length = N.regs.length) (hg : grs.map (·.l) = inp) (hri : ri.map (·.b) = N.inb) {q : Nat} (h1 : q < ri.length) (h2 : q < grs.length) :
    grs[q].l.length = ri[q].b.lits.length ∧ ∀ j (h3 : j < ri[q].b.lits.length) (h4 : j < grs[q].l.length), wd ws ri[q].b.lits[j] = grs[q].l[j] := by
  have e1 : N.inb[q]? = some ri[q].b := by rw [← hri]; simp [h1]
  have e2 : inp[q]? = some grs[q].l := by rw [← hg]; simp [h2]
  subst hws
  exact ⟨fitB_at hf e1 e2, fun j h3 h4 => driven_val hfine hf hr (pairsN_bus hf e1 e2 (List.getElem?_eq_getElem h3) (List.getElem?_eq_getElem h4))⟩
theorem out_rows {xrs : List WR} {ro : List BR} {ws : List Nat} (hx : xrs.map (·.l) = outN N ws) (hro : ro.map (·.b) = N.outb) {q : Nat} (h1 : q < ro.length) (h2 : q < xrs.length) :
    xrs[q].l.length = ro[q].b.lits.length ∧ ∀ j (h3 : j < ro[q].b.lits.length) (h4 : j < xrs[q].l.length), wd ws ro[q].b.lits[j] = xrs[q].l[j] := by
  have e1 : (outN N ws)[q]? = some (ro[q].b.lits.map (wd ws)) := by unfold outN; rw [← hro]; simp [h1]
  have e2 : (outN N ws)[q]? = some xrs[q].l := by rw [← hx]; simp [h2]
  have e : ro[q].b.lits.map (wd ws) = xrs[q].l := by rw [e1] at e2; simpa using e2
  refine ⟨by rw [← e]; simp, fun j h3 h4 => ?_⟩
  have := List.getElem_of_eq e (i := j) (by simpa using h3)
  simpa using this
end Go.Proofs.YtielfgngdhcpfaaGreat
