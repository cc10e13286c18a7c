/-
  SweepTraces: the same traces: the walk.
-/
import Derived.Test.YtdmcdhkkbkgnbaaGreatP41
import Derived.Test.YtdmcdhkkbkgnbaaGreatQSwTrM
import Derived.Test.YtdmcdhkkbkgnbaaGreatP40
namespace Go.Proofs.YtdmcdhkkbkgnbaaGreat
open Go.ChangeShapes Go.WideShapes Go.ChangeAt Go.RowKit
open Go.Maps (Keyed)
open Go.WideMaps
set_option linter.unusedVariables false
set_option linter.unusedSimpArgs false

variable {w w' W w0 : World} {p n k m : Nat} {F R F' R' : List Nat} {N M : Nt}
def YesK (w : World) (e : Ending) (w' : World) : Prop := e = .returned (.bool true) ∧ Kept [] w w'
/-- a name of a bus that comes in, where the netlist lies -/
theorem net_in {w : World} {n p : Nat} {G : List Nat} {ia ra oa : Option Addr} {ic rc oc : Nat} {ri ro : List BR} (h : NetC w n N p G ia ic ra rc oa oc ri ro) {j : Nat} (hj : j < N.inb.length) : ∃ b, ia = some ⟨b, 0, none⟩ ∧ w.cell? ⟨b, j * 2, none⟩ = some (.string N.inb[j].name) := by
  have hl : ri.length = N.inb.length := by rw [← h.ib.is, List.length_map]
  obtain ⟨gb, e, x0, _⟩ := h.ib.slb j (by omega)
  refine ⟨gb, e, ?_⟩
  rw [x0]
  have : N.inb[j] = (ri[j]'(by omega)).b := by
    have h1 : (ri.map (·.b))[j]? = N.inb[j]? := by rw [h.ib.is]
    rw [List.getElem?_map, List.getElem?_eq_getElem (show j < ri.length by omega), List.getElem?_eq_getElem hj] at h1
    simpa using h1.symm
  rw [this]
theorem net_out {w : World} {n p : Nat} {G : List Nat} {ia ra oa : Option Addr} {ic rc oc : Nat} {ri ro : List BR} (h : NetC w n N p G ia ic ra rc oa oc ri ro) {j : Nat} (hj : j < N.outb.length) : ∃ b aa cc, oa = some ⟨b, 0, none⟩ ∧ w.cell? ⟨b, j * 2, none⟩ = some (.string N.outb[j].name) ∧ w.cell? ⟨b, j * 2 + 1, none⟩ = some (.slice aa N.outb[j].lits.length cc) := by
  have hl : ro.length = N.outb.length := by rw [← h.ob.is, List.length_map]
  obtain ⟨gb, e, x0, x1⟩ := h.ob.slb j (by omega)
  have : N.outb[j] = (ro[j]'(by omega)).b := by
    have h1 : (ro.map (·.b))[j]? = N.outb[j]? := by rw [h.ob.is]
    rw [List.getElem?_map, List.getElem?_eq_getElem (show j < ro.length by omega), List.getElem?_eq_getElem hj] at h1
    simpa using h1.symm
  rw [this]
  exact ⟨gb, _, _, e, x0, x1⟩
theorem rows_at {a : Option Addr} {m c : Nat} {rs : List WR} (h : WRows w a m c rs) (q : Nat) (hq : q < rs.length) : ∃ b ra rc, a = some ⟨b, 0, none⟩ ∧ w.cell? ⟨b, q, none⟩ = some (.slice ra rs[q].l.length rc) ∧ SlN w .u64 ra rs[q].l := by
  obtain ⟨b, h1, h2⟩ := h.cell q hq
  exact ⟨b, _, _, h1, h2, (h.rows _ (List.getElem_mem hq)).1⟩
theorem outS_lens {c : Nat → List (List Nat)} {i : Nat} : (outS M c i).map List.length = M.outb.map (·.lits.length) := by
  unfold outS outN
  rw [List.map_map]
  apply List.map_congr_left
  intro b _
  simp
theorem map_at {α β : Type} [DecidableEq β] {l m : List α} {f : α → β} (h : l.map f = m.map f) {j : Nat} (hl : j < l.length) (hm : j < m.length) : f l[j] = f m[j] := by
  have h1 := congrArg (fun x => x[j]?) h
  simp only [List.getElem?_map, List.getElem?_eq_getElem hl, List.getElem?_eq_getElem hm, Option.map_some] at h1
  injection h1
set_option maxHeartbeats 64000000 in
set_option maxRecDepth 100000 in
theorem sweep_traces (o1 o2 : Bool) (sa : Option Addr) (sl : List NStp) (sc len : Nat) (ca : Option Addr) (cl : List WR) (cc clen : Nat) (w : World) (hlen : sl.length = len) (hss : SlNStepsC w sa sl) (hso : ∀ s ∈ sl, s.ok) (hcl : cl.length = clen) (hclm : clen ≤ 140737488351232) (hcs : SlW w ca cl) (hcw : ∀ r ∈ cl, Words r.l ∧ r.l.length ≤ 17592186043904) :
    Calls Tryz.prog 6 #[.agg #[.bool o1, .bool o2], .slice sa len sc, .slice ca clen cc] w (YesK w) := by
  have HB := Lib.hid (fun (W : World) (hk : Kept [] w W) => built30 o1 o2 sa sl sc len W hlen (fun k hk' => by
    exact (hss.kept0 hk) k hk') hso)
  have HT := Lib.hid (fun (W : World) => tells30 W)
  have HCS := Lib.hid hcs
  have HCW := Lib.hid hcw
  have HCL := Lib.hid hcl
  clear hlen hss hso hcs hcw hcl
  go_enter Tryz.func6, Tryz.ntmps6; (try simp only [List.append])
  go_wp2_with fail
  refine (HB.out _ ((Kept.refl [] w).alloc _)).mono ?_
  intro e w1 hx
  obtain ⟨n, NF, NR, q, F2, R2, he, hx⟩ := hx
  subst he
  have hnet := hx.net
  have K1 := Lib.hid (((Kept.refl [] w).alloc (.cells #[.bool o1, .bool o2] 23)).trans hx.kept)
  have hfine := builtN_fine false o1 o2 sl 60
  generalize builtN false o1 o2 sl 60 = N at *
  have HN1 := Lib.hid hnet
  have HFI := Lib.hid hfine
  have HCK := Lib.hid (check_c hnet hfine (by omega))
  clear hx hnet hfine HB
  obtain ⟨cn, hcn⟩ : ∃ c, c = checkN N := ⟨_, rfl⟩
  have HCN := Lib.hid hcn
  rw [← hcn] at HCK
  clear hcn
  go_wp2_with fail
  refine HCK.out.mono ?_
  rintro e w2 ⟨rfl, k2⟩
  have K12 := Lib.hid k2
  have K2 := Lib.hid (K1.out.trans k2)
  clear k2
  by_cases h0 : cn = 0
  case neg =>
    have h1 : ¬ (cn : Int) = 0 := by omega
    go_wp2_with fail
    refine (HT.out _).mono ?_
    rintro e w3 ⟨rfl, k3⟩
    have K3 := Lib.hid (K2.out.trans k3)
    clear k3
    go_wp2_with fail
    go_ret
    exact ⟨rfl, K3.out⟩
  case pos =>
    subst h0
    have N2 := Lib.hid (HN1.out.kept0 K12.out)
    have hon := Once_c N2.out HFI.out (by omega)
    rw [if_pos HCN.out.symm] at hon
    have HON := Lib.hid hon
    have S1 := Lib.hid (once_same HFI.out HCN.out.symm)
    have S2 := Lib.hid (swept_same HFI.out HCN.out.symm)
    have FN1 := Lib.hid (once_fine HFI.out)
    have SI := Lib.hid (swept_ind HFI.out (fun _ => True) trivial (fun _ _ _ _ => trivial))
    clear hon HCK
    go_wp2_with fail
    refine HON.out.mono ?_
    rintro e w3 ⟨n1, NF1, NR1, rfl, hn3, k3, hf3⟩
    have N3 := Lib.hid (N2.out.kept0 k3)
    have X3 := Lib.hid hn3
    have K3 := Lib.hid (K2.out.trans k3)
    have hal := All_c N3.out HFI.out (by omega)
    rw [if_pos HCN.out.symm] at hal
    have HAL := Lib.hid hal
    clear hn3 k3 hf3 hal HON
    go_wp2_with fail
    refine HAL.out.mono ?_
    rintro e w4 ⟨n2, NF2, NR2, rfl, hn4, k4, hf4⟩
    generalize onceN N = X1 at *
    generalize sweptN N = X2 at *
    have N4 := Lib.hid (N3.out.kept0 k4)
    have X4 := Lib.hid (X3.out.kept0 k4)
    have Y4 := Lib.hid hn4
    have K4 := Lib.hid (K3.out.trans k4)
    clear hn4 k4 hf4 HAL
    obtain ⟨nI, hnI⟩ : ∃ v, v = N.inb.length := ⟨_, rfl⟩
    obtain ⟨nO, hnO⟩ : ∃ v, v = N.outb.length := ⟨_, rfl⟩
    have HNI := Lib.hid hnI
    have HNO := Lib.hid hnO
    have hni : nI ≤ 60 := by rw [hnI]; have := HFI.out.ok.ik; omega
    have hno : nO ≤ 60 := by rw [hnO]; have := HFI.out.ok.ok; omega
    have L1 := Lib.hid (show X1.inb.length = nI ∧ X1.outb.length = nO ∧ X2.inb.length = nI ∧ X2.outb.length = nO from by
      have h1 := congrArg List.length S1.out.ni
      have h2 := congrArg List.length S1.out.no
      have h3 := congrArg List.length S2.out.ni
      have h4 := congrArg List.length S2.out.no
      simp only [List.length_map] at h1 h2 h3 h4
      omega)
    obtain ⟨pa, Ga, ia, ic, ra, rc, oa, oc, ri, ro, hFa, hRa, hca⟩ := N4.out
    obtain ⟨pb, Gb, ib, jc, rb, sc', ob, pc, rj, rp, hFb, hRb, hcb⟩ := X4.out
    obtain ⟨pd, Gd, id', kc, rd, tc, od, qc, rk, rq, hFd, hRd, hcd⟩ := Y4.out
    have CA := Lib.hid hca
    have CB := Lib.hid hcb
    have CD := Lib.hid hcd
    have HCL2 := Lib.hid (fun (V : World) (hV : Kept [] w4 V) => show V.cell? ⟨n, 2, none⟩ = some (.slice ia nI ic) ∧ V.cell? ⟨n1, 2, none⟩ = some (.slice ib nI jc) ∧ V.cell? ⟨n2, 2, none⟩ = some (.slice id' nI kc) ∧ V.cell? ⟨n, 4, none⟩ = some (.slice oa nO oc) ∧ V.cell? ⟨n1, 4, none⟩ = some (.slice ob nO pc) ∧ V.cell? ⟨n2, 4, none⟩ = some (.slice od nO qc) from by
      have h1 := hca.c2
      have h2 := hcb.c2
      have h3 := hcd.c2
      have h4 := hca.c4
      have h5 := hcb.c4
      have h6 := hcd.c4
      rw [← hnI] at h1
      rw [← hnO] at h4
      rw [L1.out.1] at h2
      rw [L1.out.2.1] at h5
      rw [L1.out.2.2.1] at h3
      rw [L1.out.2.2.2] at h6
      exact ⟨hV.cell h1 (by simp), hV.cell h2 (by simp), hV.cell h3 (by simp), hV.cell h4 (by simp), hV.cell h5 (by simp), hV.cell h6 (by simp)⟩)
    clear hnI hnO hFa hRa hca hFb hRb hcb hFd hRd hcd
    go_upto_region 8 with (fail)
    refine wp_region_keptW (by kernel_rfl) ?_
    (go_big_quiet_want; apply Exists.intro; refine ⟨fun V hV => ?_, ?_⟩; rotate_left; go_big_quiet_on; (try simp only [Act.put, List.setIfInBounds_toArray, List.set_cons_zero, List.set_cons_succ]); rotate_right)
    · go_simp
      exact rfl
    rename_i Kq hq; clear hq Kq
    (go_big_quiet_want; apply Exists.intro; refine ⟨fun V hV => ?_, ?_⟩; rotate_left; go_big_quiet_on; (try simp only [Act.put, List.setIfInBounds_toArray, List.set_cons_zero, List.set_cons_succ]); rotate_right)
    · go_simp
      exact rfl
    rename_i Kq hq; clear hq Kq
    (go_big_quiet_want; apply Exists.intro; refine ⟨fun V hV => ?_, ?_⟩; rotate_left; go_big_quiet_on; (try simp only [Act.put, List.setIfInBounds_toArray, List.set_cons_zero, List.set_cons_succ]); rotate_right)
    · go_simp
      exact rfl
    rename_i Kq hq; clear hq Kq
    (go_big_quiet_want; apply Exists.intro; refine ⟨fun V hV => ?_, ?_⟩; rotate_left; go_big_quiet_on; (try simp only [Act.put, List.setIfInBounds_toArray, List.set_cons_zero, List.set_cons_succ]); rotate_right)
    · go_simp
      exact rfl
    rename_i Kq hq; clear hq Kq
    (go_big_quiet_want; apply Exists.intro; refine ⟨fun V hV => ?_, ?_⟩; rotate_left; go_big_quiet_on; (try simp only [Act.put, List.setIfInBounds_toArray, List.set_cons_zero, List.set_cons_succ]); rotate_right)
    · go_simp
      exact rfl
    rename_i Kq hq; clear hq Kq
    (go_big_quiet_want; apply Exists.intro; refine ⟨fun V hV => ?_, ?_⟩; rotate_left; go_big_quiet_on; (try simp only [Act.put, List.setIfInBounds_toArray, List.set_cons_zero, List.set_cons_succ]); rotate_right)
    · go_simp
      exact rfl
    rename_i Kq hq; clear hq Kq
    (go_big_quiet_want; apply Exists.intro; refine ⟨fun V hV => ?_, ?_⟩; rotate_left; go_big_quiet_on; (try simp only [Act.put, List.setIfInBounds_toArray, List.set_cons_zero, List.set_cons_succ]); rotate_right)
    · go_simp
      exact rfl
    rename_i Kq hq; clear hq Kq
    (go_big_quiet_want; apply Exists.intro; refine ⟨fun V hV => ?_, ?_⟩; rotate_left; go_big_quiet_on; (try simp only [Act.put, List.setIfInBounds_toArray, List.set_cons_zero, List.set_cons_succ]); rotate_right)
    · go_simp
      exact rfl
    rename_i Kq hq; clear hq Kq
    (go_big_quiet_want; apply Exists.intro; refine ⟨fun V hV => ?_, ?_⟩; rotate_left; go_big_quiet_on; (try simp only [Act.put, List.setIfInBounds_toArray, List.set_cons_zero, List.set_cons_succ]); rotate_right)
    · go_simp
      exact rfl
    rename_i Kq hq; clear hq Kq
    (go_big_quiet_want; apply Exists.intro; refine ⟨fun V hV => ?_, ?_⟩; rotate_left; go_big_quiet_on; (try simp only [Act.put, List.setIfInBounds_toArray, List.set_cons_zero, List.set_cons_succ]); rotate_right)
    · go_simp
      exact rfl
    rename_i Kq hq; clear hq Kq
    (go_big_quiet_want; apply Exists.intro; refine ⟨fun V hV => ?_, ?_⟩; rotate_left; go_big_quiet_on; (try simp only [Act.put, List.setIfInBounds_toArray, List.set_cons_zero, List.set_cons_succ]); rotate_right)
    · go_simp
      exact rfl
    rename_i Kq hq; clear hq Kq
    (go_big_quiet_want; apply Exists.intro; refine ⟨fun V hV => ?_, ?_⟩; rotate_left; go_big_quiet_on; (try simp only [Act.put, List.setIfInBounds_toArray, List.set_cons_zero, List.set_cons_succ]); rotate_right)
    · go_simp
      exact rfl
    rename_i Kq hq; clear hq Kq
    (go_big_quiet_want; apply Exists.intro; refine ⟨fun V hV => ?_, ?_⟩; rotate_left; go_big_quiet_on; (try simp only [Act.put, List.setIfInBounds_toArray, List.set_cons_zero, List.set_cons_succ]); rotate_right)
    · go_simp
      exact rfl
    rename_i Kq hq; clear hq Kq
    (go_big_quiet_want; apply Exists.intro; refine ⟨fun V hV => ?_, ?_⟩; rotate_left; go_big_quiet_on; (try simp only [Act.put, List.setIfInBounds_toArray, List.set_cons_zero, List.set_cons_succ]); rotate_right)
    · go_simp
      exact rfl
    rename_i Kq hq; clear hq Kq
    (go_big_quiet_want; apply Exists.intro; refine ⟨fun V hV => ?_, ?_⟩; rotate_left; go_big_quiet_on; (try simp only [Act.put, List.setIfInBounds_toArray, List.set_cons_zero, List.set_cons_succ]); rotate_right)
    · go_simp
      exact rfl
    rename_i Kq hq; clear hq Kq
    (go_big_quiet_want; apply Exists.intro; refine ⟨fun V hV => ?_, ?_⟩; rotate_left; go_big_quiet_on; (try simp only [Act.put, List.setIfInBounds_toArray, List.set_cons_zero, List.set_cons_succ]); rotate_right)
    · go_simp
      exact rfl
    rename_i Kq hq; clear hq Kq
    (go_big_quiet_want; apply Exists.intro; refine ⟨fun V hV => ?_, ?_⟩; rotate_left; go_big_quiet_on; (try simp only [Act.put, List.setIfInBounds_toArray, List.set_cons_zero, List.set_cons_succ]); rotate_right)
    · go_simp
      exact rfl
    rename_i Kq hq; clear hq Kq
    (go_big_quiet_want; apply Exists.intro; refine ⟨fun V hV => ?_, ?_⟩; rotate_left; go_big_quiet_on; (try simp only [Act.put, List.setIfInBounds_toArray, List.set_cons_zero, List.set_cons_succ]); rotate_right)
    · go_simp
      exact rfl
    rename_i Kq hq; clear hq Kq
    (go_big_quiet_want; apply Exists.intro; refine ⟨fun V hV => ?_, ?_⟩; rotate_left; go_big_quiet_on; (try simp only [Act.put, List.setIfInBounds_toArray, List.set_cons_zero, List.set_cons_succ]); rotate_right)
    · obtain ⟨g0, g1, g2, g3, g4, g5⟩ := HCL2.out V hV
      go_simp
      exact rfl
    rename_i Kq hq; clear hq Kq
    (go_big_quiet_want; apply Exists.intro; refine ⟨fun V hV => ?_, ?_⟩; rotate_left; go_big_quiet_on; (try simp only [Act.put, List.setIfInBounds_toArray, List.set_cons_zero, List.set_cons_succ]); rotate_right)
    · go_simp
      exact rfl
    rename_i Kq hq; clear hq Kq
    (go_big_quiet_want; apply Exists.intro; refine ⟨fun V hV => ?_, ?_⟩; rotate_left; go_big_quiet_on; (try simp only [Act.put, List.setIfInBounds_toArray, List.set_cons_zero, List.set_cons_succ]); rotate_right)
    · go_simp
      exact rfl
    rename_i Kq hq; clear hq Kq
    (go_big_quiet_want; apply Exists.intro; refine ⟨fun V hV => ?_, ?_⟩; rotate_left; go_big_quiet_on; (try simp only [Act.put, List.setIfInBounds_toArray, List.set_cons_zero, List.set_cons_succ]); rotate_right)
    · go_simp
      exact rfl
    rename_i Kq hq; clear hq Kq
    (go_big_quiet_want; apply Exists.intro; refine ⟨fun V hV => ?_, ?_⟩; rotate_left; go_big_quiet_on; (try simp only [Act.put, List.setIfInBounds_toArray, List.set_cons_zero, List.set_cons_succ]); rotate_right)
    · go_simp
      exact rfl
    rename_i Kq hq; clear hq Kq
    (go_big_quiet_want; apply Exists.intro; refine ⟨fun V hV => ?_, ?_⟩; rotate_left; go_big_quiet_on; (try simp only [Act.put, List.setIfInBounds_toArray, List.set_cons_zero, List.set_cons_succ]); rotate_right)
    · obtain ⟨g0, g1, g2, g3, g4, g5⟩ := HCL2.out V hV
      go_simp
      exact rfl
    rename_i Kq hq; clear hq Kq
    (go_big_quiet_want; apply Exists.intro; refine ⟨fun V hV => ?_, ?_⟩; rotate_left; go_big_quiet_on; (try simp only [Act.put, List.setIfInBounds_toArray, List.set_cons_zero, List.set_cons_succ]); rotate_right)
    · go_simp
      exact rfl
    rename_i Kq hq; clear hq Kq
    (go_big_quiet_want; apply Exists.intro; refine ⟨fun V hV => ?_, ?_⟩; rotate_left; go_big_quiet_on; (try simp only [Act.put, List.setIfInBounds_toArray, List.set_cons_zero, List.set_cons_succ]); rotate_right)
    · go_simp
      exact rfl
    rename_i Kq hq; clear hq Kq
    (go_big_quiet_want; apply Exists.intro; refine ⟨fun V hV => ?_, ?_⟩; rotate_left; go_big_quiet_on; (try simp only [Act.put, List.setIfInBounds_toArray, List.set_cons_zero, List.set_cons_succ]); rotate_right)
    · go_simp
      exact rfl
    rename_i Kq hq; clear hq Kq
    (go_big_quiet_want; apply Exists.intro; refine ⟨fun V hV => ?_, ?_⟩; rotate_left; go_big_quiet_on; (try simp only [Act.put, List.setIfInBounds_toArray, List.set_cons_zero, List.set_cons_succ]); rotate_right)
    · go_simp
      exact rfl
    rename_i Kq hq; clear hq Kq
    (go_big_quiet_want; apply Exists.intro; refine ⟨fun V hV => ?_, ?_⟩; rotate_left; go_big_quiet_on; (try simp only [Act.put, List.setIfInBounds_toArray, List.set_cons_zero, List.set_cons_succ]); rotate_right)
    · go_simp
      exact rfl
    rename_i Kq hq; clear hq Kq
    (go_big_quiet_want; apply Exists.intro; refine ⟨fun V hV => ?_, ?_⟩; rotate_left; go_big_quiet_on; (try simp only [Act.put, List.setIfInBounds_toArray, List.set_cons_zero, List.set_cons_succ]); rotate_right)
    · go_simp
      exact rfl
    rename_i Kq hq; clear hq Kq
    (go_big_quiet_want; apply Exists.intro; refine ⟨fun V hV => ?_, ?_⟩; rotate_left; go_big_quiet_on; (try simp only [Act.put, List.setIfInBounds_toArray, List.set_cons_zero, List.set_cons_succ]); rotate_right)
    · go_simp
      exact rfl
    rename_i Kq hq; clear hq Kq
    (go_big_quiet_want; apply Exists.intro; refine ⟨fun V hV => ?_, ?_⟩; rotate_left; go_big_quiet_on; (try simp only [Act.put, List.setIfInBounds_toArray, List.set_cons_zero, List.set_cons_succ]); rotate_right)
    · obtain ⟨g0, g1, g2, g3, g4, g5⟩ := HCL2.out V hV
      go_simp
      exact rfl
    rename_i Kq hq; clear hq Kq
    (go_big_quiet_want; apply Exists.intro; refine ⟨fun V hV => ?_, ?_⟩; rotate_left; go_big_quiet_on; (try simp only [Act.put, List.setIfInBounds_toArray, List.set_cons_zero, List.set_cons_succ]); rotate_right)
    · go_simp
      exact rfl
    rename_i Kq hq; clear hq Kq
    (go_big_quiet_want; apply Exists.intro; refine ⟨fun V hV => ?_, ?_⟩; rotate_left; go_big_quiet_on; (try simp only [Act.put, List.setIfInBounds_toArray, List.set_cons_zero, List.set_cons_succ]); rotate_right)
    · go_simp
      exact rfl
    rename_i Kq hq; clear hq Kq
    (go_big_quiet_want; apply Exists.intro; refine ⟨fun V hV => ?_, ?_⟩; rotate_left; go_big_quiet_on; (try simp only [Act.put, List.setIfInBounds_toArray, List.set_cons_zero, List.set_cons_succ]); rotate_right)
    · go_simp
      exact rfl
    rename_i Kq hq; clear hq Kq
    (go_big_quiet_want; apply Exists.intro; refine ⟨fun V hV => ?_, ?_⟩; rotate_left; go_big_quiet_on; (try simp only [Act.put, List.setIfInBounds_toArray, List.set_cons_zero, List.set_cons_succ]); rotate_right)
    · go_simp
      exact rfl
    rename_i Kq hq; clear hq Kq
    (go_big_quiet_want; apply Exists.intro; refine ⟨fun V hV => ?_, ?_⟩; rotate_left; go_big_quiet_on; (try simp only [Act.put, List.setIfInBounds_toArray, List.set_cons_zero, List.set_cons_succ]); rotate_right)
    · obtain ⟨g0, g1, g2, g3, g4, g5⟩ := HCL2.out V hV
      go_simp
      exact rfl
    rename_i Kq hq; clear hq Kq
    (go_big_quiet_want; apply Exists.intro; refine ⟨fun V hV => ?_, ?_⟩; rotate_left; go_big_quiet_on; (try simp only [Act.put, List.setIfInBounds_toArray, List.set_cons_zero, List.set_cons_succ]); rotate_right)
    · go_simp
      exact rfl
    rename_i Kq hq; clear hq Kq
    (go_big_quiet_want; apply Exists.intro; refine ⟨fun V hV => ?_, ?_⟩; rotate_left; go_big_quiet_on; (try simp only [Act.put, List.setIfInBounds_toArray, List.set_cons_zero, List.set_cons_succ]); rotate_right)
    · go_simp
      exact rfl
    rename_i Kq hq; clear hq Kq
    (go_big_quiet_want; apply Exists.intro; refine ⟨fun V hV => ?_, ?_⟩; rotate_left; go_big_quiet_on; (try simp only [Act.put, List.setIfInBounds_toArray, List.set_cons_zero, List.set_cons_succ]); rotate_right)
    · go_simp
      exact rfl
    rename_i Kq hq; clear hq Kq
    (go_big_quiet_want; apply Exists.intro; refine ⟨fun V hV => ?_, ?_⟩; rotate_left; go_big_quiet_on; (try simp only [Act.put, List.setIfInBounds_toArray, List.set_cons_zero, List.set_cons_succ]); rotate_right)
    · go_simp
      exact rfl
    rename_i Kq hq; clear hq Kq
    (go_big_quiet_want; apply Exists.intro; refine ⟨fun V hV => ?_, ?_⟩; rotate_left; go_big_quiet_on; (try simp only [Act.put, List.setIfInBounds_toArray, List.set_cons_zero, List.set_cons_succ]); rotate_right)
    · go_simp
      exact rfl
    rename_i Kq hq; clear hq Kq
    (go_big_quiet_want; apply Exists.intro; refine ⟨fun V hV => ?_, ?_⟩; rotate_left; go_big_quiet_on; (try simp only [Act.put, List.setIfInBounds_toArray, List.set_cons_zero, List.set_cons_succ]); rotate_right)
    · go_simp
      exact rfl
    rename_i Kq hq; clear hq Kq
    (go_big_quiet_want; apply Exists.intro; refine ⟨fun V hV => ?_, ?_⟩; rotate_left; go_big_quiet_on; (try simp only [Act.put, List.setIfInBounds_toArray, List.set_cons_zero, List.set_cons_succ]); rotate_right)
    · go_simp
      exact rfl
    rename_i Kq hq; clear hq Kq
    (go_big_quiet_want; apply Exists.intro; refine ⟨fun V hV => ?_, ?_⟩; rotate_left; go_big_quiet_on; (try simp only [Act.put, List.setIfInBounds_toArray, List.set_cons_zero, List.set_cons_succ]); rotate_right)
    · obtain ⟨g0, g1, g2, g3, g4, g5⟩ := HCL2.out V hV
      go_simp
      exact rfl
    rename_i Kq hq; clear hq Kq
    (go_big_quiet_want; apply Exists.intro; refine ⟨fun V hV => ?_, ?_⟩; rotate_left; go_big_quiet_on; (try simp only [Act.put, List.setIfInBounds_toArray, List.set_cons_zero, List.set_cons_succ]); rotate_right)
    · go_simp
      exact rfl
    rename_i Kq hq; clear hq Kq
    (go_big_quiet_want; apply Exists.intro; refine ⟨fun V hV => ?_, ?_⟩; rotate_left; go_big_quiet_on; (try simp only [Act.put, List.setIfInBounds_toArray, List.set_cons_zero, List.set_cons_succ]); rotate_right)
    · go_simp
      exact rfl
    rename_i Kq hq; clear hq Kq
    (go_big_quiet_want; apply Exists.intro; refine ⟨fun V hV => ?_, ?_⟩; rotate_left; go_big_quiet_on; (try simp only [Act.put, List.setIfInBounds_toArray, List.set_cons_zero, List.set_cons_succ]); rotate_right)
    · go_simp
      exact rfl
    rename_i Kq hq; clear hq Kq
    (go_big_quiet_want; apply Exists.intro; refine ⟨fun V hV => ?_, ?_⟩; rotate_left; go_big_quiet_on; (try simp only [Act.put, List.setIfInBounds_toArray, List.set_cons_zero, List.set_cons_succ]); rotate_right)
    · go_simp
      exact rfl
    rename_i Kq hq; clear hq Kq
    (go_big_quiet_want; apply Exists.intro; refine ⟨fun V hV => ?_, ?_⟩; rotate_left; go_big_quiet_on; (try simp only [Act.put, List.setIfInBounds_toArray, List.set_cons_zero, List.set_cons_succ]); rotate_right)
    · obtain ⟨g0, g1, g2, g3, g4, g5⟩ := HCL2.out V hV
      go_simp
      exact rfl
    rename_i Kq hq; clear hq Kq
    (go_big_quiet_want; apply Exists.intro; refine ⟨fun V hV => ?_, ?_⟩; rotate_left; go_big_quiet_on; (try simp only [Act.put, List.setIfInBounds_toArray, List.set_cons_zero, List.set_cons_succ]); rotate_right)
    · go_simp
      exact rfl
    rename_i Kq hq; clear hq Kq
    (go_big_quiet_want; apply Exists.intro; refine ⟨fun V hV => ?_, ?_⟩; rotate_left; go_big_quiet_on; (try simp only [Act.put, List.setIfInBounds_toArray, List.set_cons_zero, List.set_cons_succ]); rotate_right)
    · go_simp
      exact rfl
    rename_i Kq hq; clear hq Kq
    (go_big_quiet_want; apply Exists.intro; refine ⟨fun V hV => ?_, ?_⟩; rotate_left; go_big_quiet_on; (try simp only [Act.put, List.setIfInBounds_toArray, List.set_cons_zero, List.set_cons_succ]); rotate_right)
    · go_simp
      exact rfl
    rename_i Kq hq; clear hq Kq
    (go_big_quiet_want; apply Exists.intro; refine ⟨fun V hV => ?_, ?_⟩; rotate_left; go_big_quiet_on; (try simp only [Act.put, List.setIfInBounds_toArray, List.set_cons_zero, List.set_cons_succ]); rotate_right)
    · go_simp
      exact rfl
    rename_i Kq hq; clear hq Kq
    (go_big_quiet_want; apply Exists.intro; refine ⟨fun V hV => ?_, ?_⟩; rotate_left; go_big_quiet_on; (try simp only [Act.put, List.setIfInBounds_toArray, List.set_cons_zero, List.set_cons_succ]); rotate_right)
    · go_simp
      exact rfl
    rename_i Kq hq; clear hq Kq
    (go_big_quiet_want; apply Exists.intro; refine ⟨fun V hV => ?_, ?_⟩; rotate_left; go_big_quiet_on; (try simp only [Act.put, List.setIfInBounds_toArray, List.set_cons_zero, List.set_cons_succ]); rotate_right)
    · go_simp
      exact rfl
    rename_i Kq hq; clear hq Kq
    (go_big_quiet_want; apply Exists.intro; refine ⟨fun V hV => ?_, ?_⟩; rotate_left; go_big_quiet_on; (try simp only [Act.put, List.setIfInBounds_toArray, List.set_cons_zero, List.set_cons_succ]); rotate_right)
    · go_simp
      exact rfl
    rename_i Kq hq; clear hq Kq
    (go_big_quiet_want; apply Exists.intro; refine ⟨fun V hV => ?_, ?_⟩; rotate_left; go_big_quiet_on; (try simp only [Act.put, List.setIfInBounds_toArray, List.set_cons_zero, List.set_cons_succ]); rotate_right)
    · obtain ⟨g0, g1, g2, g3, g4, g5⟩ := HCL2.out V hV
      go_simp
      exact rfl
    rename_i Kq hq; clear hq Kq
    (go_big_quiet_want; apply Exists.intro; refine ⟨fun V hV => ?_, ?_⟩; rotate_left; go_big_quiet_on; (try simp only [Act.put, List.setIfInBounds_toArray, List.set_cons_zero, List.set_cons_succ]); rotate_right)
    · go_simp
      exact rfl
    rename_i Kq hq; clear hq Kq
    (go_big_quiet_want; apply Exists.intro; refine ⟨fun V hV => ?_, ?_⟩; rotate_left; go_big_quiet_on; (try simp only [Act.put, List.setIfInBounds_toArray, List.set_cons_zero, List.set_cons_succ]); rotate_right)
    · go_simp
      exact rfl
    rename_i Kq hq; clear hq Kq
    (go_big_quiet_want; apply Exists.intro; refine ⟨fun V hV => ?_, ?_⟩; rotate_left; go_big_quiet_on; (try simp only [Act.put, List.setIfInBounds_toArray, List.set_cons_zero, List.set_cons_succ]); rotate_right)
    · go_simp
      exact rfl
    rename_i Kq hq; clear hq Kq
    (go_big_quiet_want; apply Exists.intro; refine ⟨fun V hV => ?_, ?_⟩; rotate_left; go_big_quiet_on; (try simp only [Act.put, List.setIfInBounds_toArray, List.set_cons_zero, List.set_cons_succ]); rotate_right)
    · go_simp
      exact rfl
    rename_i Kq hq; clear hq Kq
    (go_big_quiet_want; apply Exists.intro; refine ⟨fun V hV => ?_, ?_⟩; rotate_left; go_big_quiet_on; (try simp only [Act.put, List.setIfInBounds_toArray, List.set_cons_zero, List.set_cons_succ]); rotate_right)
    · obtain ⟨g0, g1, g2, g3, g4, g5⟩ := HCL2.out V hV
      go_simp
      exact rfl
    rename_i Kq hq; clear hq Kq
    (go_big_quiet_want; apply Exists.intro; refine ⟨fun V hV => ?_, ?_⟩; rotate_left; go_big_quiet_on; (try simp only [Act.put, List.setIfInBounds_toArray, List.set_cons_zero, List.set_cons_succ]); rotate_right)
    · go_simp
      exact rfl
    rename_i Kq hq; clear hq Kq
    (go_big_quiet_want; apply Exists.intro; refine ⟨fun V hV => ?_, ?_⟩; rotate_left; go_big_quiet_on; (try simp only [Act.put, List.setIfInBounds_toArray, List.set_cons_zero, List.set_cons_succ]); rotate_right)
    · go_simp
      exact rfl
    rename_i Kq hq; clear hq Kq
    (go_big_quiet_want; apply Exists.intro; refine ⟨fun V hV => ?_, ?_⟩; rotate_left; go_big_quiet_on; (try simp only [Act.put, List.setIfInBounds_toArray, List.set_cons_zero, List.set_cons_succ]); rotate_right)
    · go_simp
      exact rfl
    rename_i Kq hq; clear hq Kq
    refine wpQuiet_nil ?_
    intro w4' k44
    have K44 := Lib.hid k44
    have SN1 := Lib.hid (sim_new (N4.out.kept0 k44) HFI.out (by omega) HCN.out.symm)
    clear k44
    go_wp2_with fail
    refine SN1.out.mono ?_
    rintro e w5 ⟨s, F, R, rfl, hs5, k5', hf5⟩
    have k5 := K44.out.trans k5'
    have A5 := Lib.hid hs5
    have K45 := Lib.hid k5
    have FA := Lib.hid (show ∀ x, x ∈ F ∨ x ∈ R → w4.heap.size ≤ x from fun x hx => Nat.le_trans K44.out.size (hf5 x (List.mem_append.2 hx)))
    clear k5'
    have SN2 := Lib.hid (sim_new (X4.out.kept0 k5) FN1.out.1 (by omega) FN1.out.2)
    clear hs5 k5 hf5 SN1
    go_wp2_with fail
    refine SN2.out.mono ?_
    rintro e w6 ⟨t, F', R', rfl, hs6, k6, hf6⟩
    have A6 := Lib.hid (A5.out.kept0 k6)
    have B6 := Lib.hid hs6
    have K46 := Lib.hid (K45.out.trans k6)
    have K56 := Lib.hid k6.size
    have FB := Lib.hid (show ∀ x, x ∈ F' ∨ x ∈ R' → w5.heap.size ≤ x from fun x hx => hf6 x (List.mem_append.2 hx))
    have SN3 := Lib.hid (sim_new (Y4.out.kept0 K46.out) SI.out.2.1 (by omega) SI.out.2.2.1)
    clear hs6 k6 hf6 SN2
    go_wp2_with fail
    refine SN3.out.mono ?_
    rintro e w7 ⟨u, F'', R'', rfl, hs7, k7, hf7⟩
    have K47 := Lib.hid (K46.out.trans k7)
    have cfit := cycC_fit N (cl := cl.map (·.l)) (fun r hr => by
      obtain ⟨x, hx, rfl⟩ := List.mem_map.1 hr
      exact (HCW.out x hx).1)
    have CF := Lib.hid cfit
    obtain ⟨cy, hcy⟩ : ∃ v, v = cycC N (cl.map (·.l)) := ⟨_, rfl⟩
    have HCY := Lib.hid hcy
    rw [← hcy] at CF
    have SS := Lib.hid (show Sims3 w4 w7 s F R (sgC N cy 0) t F' R' (sgC X1 cy 0) u F'' R'' (sgC X2 cy 0) from by
      have la := A5.out.lt
      have lb := B6.out.lt
      have fa := FA.out
      have fb := FB.out
      have kb := K56.out
      have fc : ∀ x, x ∈ F'' ∨ x ∈ R'' → w6.heap.size ≤ x := fun x hx => hf7 x (List.mem_append.2 hx)
      refine ⟨A6.out.kept0 k7, B6.out.kept0 k7, hs7, fun x hx => ⟨fun h => ?_, fun h => ?_⟩, fun x hx => ⟨fun h => ?_, fun h => ?_⟩, fun x hx => ⟨fun h => ?_, fun h => ?_⟩, fun x hx => ⟨fun h => ?_, fun h => ?_⟩, fun x hx => ⟨fun h => ?_, fun h => ?_⟩, fun x hx => ⟨fun h => ?_, fun h => ?_⟩, K47.out, fun x hx => ?_⟩
      · have h1 := la.1 x hx; have h2 := fb x (.inl h); omega
      · have h1 := la.1 x hx; have h2 := fb x (.inr h); omega
      · have h1 := la.1 x hx; have h2 := fc x (.inl h); omega
      · have h1 := la.1 x hx; have h2 := fc x (.inr h); omega
      · have h1 := la.1 x h; have h2 := fb x (.inl hx); omega
      · have h1 := la.2 x h; have h2 := fb x (.inl hx); omega
      · have h1 := lb.1 x hx; have h2 := fc x (.inl h); omega
      · have h1 := lb.1 x hx; have h2 := fc x (.inr h); omega
      · have h1 := la.1 x h; have h2 := fc x (.inl hx); omega
      · have h1 := la.2 x h; have h2 := fc x (.inl hx); omega
      · have h1 := lb.1 x h; have h2 := fc x (.inl hx); omega
      · have h1 := lb.2 x h; have h2 := fc x (.inl hx); omega
      · have s1 := K45.out.size
        rcases hx with hx | hx | hx
        · exact fa x (.inl hx)
        · have := fb x (.inl hx); omega
        · have := fc x (.inl hx); omega)
    clear hs7 k7 hf7 SN3 cfit hcy
    go_wp2_with fail
    have KSTART := Lib.hid (Kept.refl [] w7)
    go_loopw [19] (fun v wr => ∃ j : Nat, j ≤ nI ∧ v = .int .i64 j ∧ Kept [] w7 wr) (fun v _ => nI - (intOf v).toNat)
    case atStart => exact ⟨0, Nat.zero_le _, rfl, KSTART.out⟩
    case round =>
      obtain ⟨j, hj, rfl, hkr⟩ := hrel
      obtain ⟨wx, rfl⟩ : ∃ v : World, v = wr := ⟨_, rfl⟩
      have KR := Lib.hid hkr
      have KW := Lib.hid (K47.out.trans hkr)
      clear hkr
      by_cases hlt : j < nI
      · as_aux_lemma =>
        have hja : j < N.inb.length := by rw [← HNI.out]; exact hlt
        have hjb : j < X1.inb.length := by rw [L1.out.1]; exact hlt
        have hjd : j < X2.inb.length := by rw [L1.out.2.2.1]; exact hlt
        obtain ⟨b1, rfl, x1⟩ := net_in CA.out hja
        obtain ⟨b2, rfl, x2⟩ := net_in CB.out hjb
        obtain ⟨b3, rfl, x3⟩ := net_in CD.out hjd
        rw [map_at S1.out.ni hjb hja] at x2
        rw [map_at S2.out.ni hjd hja] at x3
        generalize N.inb[j].name = nm at *
        have HNM := Lib.hid (fun (V : World) (hV : Kept [] wx V) => And.intro (HCL2.out V (KW.out.trans hV)) (And.intro ((KW.out.trans hV).cell x1 (by simp)) (And.intro ((KW.out.trans hV).cell x2 (by simp)) ((KW.out.trans hV).cell x3 (by simp)))))
        obtain ⟨⟨g0, g1, g2, g3, g4, g5⟩, _⟩ := HNM.out wx (.refl _ _)
        have m0 : (0 : Int) ≤ (j : Int) := by omega
        have m1 : (j : Int) < (nI : Int) := by omega
        clear hja hjb hjd x1 x2 x3
        go_upto_region 18 with (fail)
        clear g0 g1 g2 g3 g4 g5
        refine wp_region_keptW (by kernel_rfl) ?_
        (go_big_quiet_want; apply Exists.intro; refine ⟨fun V hV => ?_, ?_⟩; rotate_left; go_big_quiet_on; (try simp only [Act.put, List.setIfInBounds_toArray, List.set_cons_zero, List.set_cons_succ]); rotate_right)
        · go_simp
          exact rfl
        rename_i Kq hq; clear hq Kq
        (go_big_quiet_want; apply Exists.intro; refine ⟨fun V hV => ?_, ?_⟩; rotate_left; go_big_quiet_on; (try simp only [Act.put, List.setIfInBounds_toArray, List.set_cons_zero, List.set_cons_succ]); rotate_right)
        · go_simp
          exact rfl
        rename_i Kq hq; clear hq Kq
        (go_big_quiet_want; apply Exists.intro; refine ⟨fun V hV => ?_, ?_⟩; rotate_left; go_big_quiet_on; (try simp only [Act.put, List.setIfInBounds_toArray, List.set_cons_zero, List.set_cons_succ]); rotate_right)
        · go_simp
          exact rfl
        rename_i Kq hq; clear hq Kq
        (go_big_quiet_want; apply Exists.intro; refine ⟨fun V hV => ?_, ?_⟩; rotate_left; go_big_quiet_on; (try simp only [Act.put, List.setIfInBounds_toArray, List.set_cons_zero, List.set_cons_succ]); rotate_right)
        · obtain ⟨⟨g0, g1, g2, g3, g4, g5⟩, h1, h2, h3⟩ := HNM.out V hV
          go_simp
          exact rfl
        rename_i Kq hq; clear hq Kq
        (go_big_quiet_want; apply Exists.intro; refine ⟨fun V hV => ?_, ?_⟩; rotate_left; go_big_quiet_on; (try simp only [Act.put, List.setIfInBounds_toArray, List.set_cons_zero, List.set_cons_succ]); rotate_right)
        · go_simp
          exact rfl
        rename_i Kq hq; clear hq Kq
        (go_big_quiet_want; apply Exists.intro; refine ⟨fun V hV => ?_, ?_⟩; rotate_left; go_big_quiet_on; (try simp only [Act.put, List.setIfInBounds_toArray, List.set_cons_zero, List.set_cons_succ]); rotate_right)
        · go_simp
          exact rfl
        rename_i Kq hq; clear hq Kq
        (go_big_quiet_want; apply Exists.intro; refine ⟨fun V hV => ?_, ?_⟩; rotate_left; go_big_quiet_on; (try simp only [Act.put, List.setIfInBounds_toArray, List.set_cons_zero, List.set_cons_succ]); rotate_right)
        · go_simp
          exact rfl
        rename_i Kq hq; clear hq Kq
        (go_big_quiet_want; apply Exists.intro; refine ⟨fun V hV => ?_, ?_⟩; rotate_left; go_big_quiet_on; (try simp only [Act.put, List.setIfInBounds_toArray, List.set_cons_zero, List.set_cons_succ]); rotate_right)
        · obtain ⟨⟨g0, g1, g2, g3, g4, g5⟩, h1, h2, h3⟩ := HNM.out V hV
          go_simp
          exact rfl
        rename_i Kq hq; clear hq Kq
        (go_big_quiet_want; apply Exists.intro; refine ⟨fun V hV => ?_, ?_⟩; rotate_left; go_big_quiet_on; (try simp only [Act.put, List.setIfInBounds_toArray, List.set_cons_zero, List.set_cons_succ]); rotate_right)
        · go_simp
          exact rfl
        rename_i Kq hq; clear hq Kq
        (go_big_quiet_want; apply Exists.intro; refine ⟨fun V hV => ?_, ?_⟩; rotate_left; go_big_quiet_on; (try simp only [Act.put, List.setIfInBounds_toArray, List.set_cons_zero, List.set_cons_succ]); rotate_right)
        · go_simp
          exact rfl
        rename_i Kq hq; clear hq Kq
        (go_big_quiet_want; apply Exists.intro; refine ⟨fun V hV => ?_, ?_⟩; rotate_left; go_big_quiet_on; (try simp only [Act.put, List.setIfInBounds_toArray, List.set_cons_zero, List.set_cons_succ]); rotate_right)
        · go_simp
          exact rfl
        rename_i Kq hq; clear hq Kq
        (go_big_quiet_want; apply Exists.intro; refine ⟨fun V hV => ?_, ?_⟩; rotate_left; go_big_quiet_on; (try simp only [Act.put, List.setIfInBounds_toArray, List.set_cons_zero, List.set_cons_succ]); rotate_right)
        · obtain ⟨⟨g0, g1, g2, g3, g4, g5⟩, h1, h2, h3⟩ := HNM.out V hV
          go_simp
          exact rfl
        rename_i Kq hq; clear hq Kq
        (go_big_quiet_want; apply Exists.intro; refine ⟨fun V hV => ?_, ?_⟩; rotate_left; go_big_quiet_on; (try simp only [Act.put, List.setIfInBounds_toArray, List.set_cons_zero, List.set_cons_succ]); rotate_right)
        · go_simp
          exact rfl
        rename_i Kq hq; clear hq Kq
        (go_big_quiet_want; apply Exists.intro; refine ⟨fun V hV => ?_, ?_⟩; rotate_left; go_big_quiet_on; (try simp only [Act.put, List.setIfInBounds_toArray, List.set_cons_zero, List.set_cons_succ]); rotate_right)
        · go_simp
          exact rfl
        rename_i Kq hq; clear hq Kq
        (go_big_quiet_want; apply Exists.intro; refine ⟨fun V hV => ?_, ?_⟩; rotate_left; go_big_quiet_on; (try simp only [Act.put, List.setIfInBounds_toArray, List.set_cons_zero, List.set_cons_succ]); rotate_right)
        · go_simp
          exact rfl
        rename_i Kq hq; clear hq Kq
        (go_big_quiet_want; apply Exists.intro; refine ⟨fun V hV => ?_, ?_⟩; rotate_left; go_big_quiet_on; (try simp only [Act.put, List.setIfInBounds_toArray, List.set_cons_zero, List.set_cons_succ]); rotate_right)
        · obtain ⟨⟨g0, g1, g2, g3, g4, g5⟩, h1, h2, h3⟩ := HNM.out V hV
          go_simp
          exact rfl
        rename_i Kq hq; clear hq Kq
        (go_big_quiet_want; apply Exists.intro; refine ⟨fun V hV => ?_, ?_⟩; rotate_left; go_big_quiet_on; (try simp only [Act.put, List.setIfInBounds_toArray, List.set_cons_zero, List.set_cons_succ]); rotate_right)
        · go_simp
          exact rfl
        rename_i Kq hq; clear hq Kq
        (go_big_quiet_want; apply Exists.intro; refine ⟨fun V hV => ?_, ?_⟩; rotate_left; go_big_quiet_on; (try simp only [Act.put, List.setIfInBounds_toArray, List.set_cons_zero, List.set_cons_succ]); rotate_right)
        · go_simp
          exact rfl
        rename_i Kq hq; clear hq Kq
        (go_big_quiet_want; apply Exists.intro; refine ⟨fun V hV => ?_, ?_⟩; rotate_left; go_big_quiet_on; (try simp only [Act.put, List.setIfInBounds_toArray, List.set_cons_zero, List.set_cons_succ]); rotate_right)
        · go_simp
          exact rfl
        rename_i Kq hq; clear hq Kq
        (go_big_quiet_want; apply Exists.intro; refine ⟨fun V hV => ?_, ?_⟩; rotate_left; go_big_quiet_on; (try simp only [Act.put, List.setIfInBounds_toArray, List.set_cons_zero, List.set_cons_succ]); rotate_right)
        · go_simp
          exact rfl
        rename_i Kq hq; clear hq Kq
        (go_big_quiet_want; apply Exists.intro; refine ⟨fun V hV => ?_, ?_⟩; rotate_left; go_big_quiet_on; (try simp only [Act.put, List.setIfInBounds_toArray, List.set_cons_zero, List.set_cons_succ]); rotate_right)
        · go_simp
          exact rfl
        rename_i Kq hq; clear hq Kq
        (go_big_quiet_want; apply Exists.intro; refine ⟨fun V hV => ?_, ?_⟩; rotate_left; go_big_quiet_on; (try simp only [Act.put, List.setIfInBounds_toArray, List.set_cons_zero, List.set_cons_succ]); rotate_right)
        · obtain ⟨⟨g0, g1, g2, g3, g4, g5⟩, h1, h2, h3⟩ := HNM.out V hV
          go_simp
          exact rfl
        rename_i Kq hq; clear hq Kq
        (go_big_quiet_want; apply Exists.intro; refine ⟨fun V hV => ?_, ?_⟩; rotate_left; go_big_quiet_on; (try simp only [Act.put, List.setIfInBounds_toArray, List.set_cons_zero, List.set_cons_succ]); rotate_right)
        · go_simp
          exact rfl
        rename_i Kq hq; clear hq Kq
        (go_big_quiet_want; apply Exists.intro; refine ⟨fun V hV => ?_, ?_⟩; rotate_left; go_big_quiet_on; (try simp only [Act.put, List.setIfInBounds_toArray, List.set_cons_zero, List.set_cons_succ]); rotate_right)
        · go_simp
          exact rfl
        rename_i Kq hq; clear hq Kq
        (go_big_quiet_want; apply Exists.intro; refine ⟨fun V hV => ?_, ?_⟩; rotate_left; go_big_quiet_on; (try simp only [Act.put, List.setIfInBounds_toArray, List.set_cons_zero, List.set_cons_succ]); rotate_right)
        · go_simp
          exact rfl
        rename_i Kq hq; clear hq Kq
        (go_big_quiet_want; apply Exists.intro; refine ⟨fun V hV => ?_, ?_⟩; rotate_left; go_big_quiet_on; (try simp only [Act.put, List.setIfInBounds_toArray, List.set_cons_zero, List.set_cons_succ]); rotate_right)
        · obtain ⟨⟨g0, g1, g2, g3, g4, g5⟩, h1, h2, h3⟩ := HNM.out V hV
          go_simp
          exact rfl
        rename_i Kq hq; clear hq Kq
        (go_big_quiet_want; apply Exists.intro; refine ⟨fun V hV => ?_, ?_⟩; rotate_left; go_big_quiet_on; (try simp only [Act.put, List.setIfInBounds_toArray, List.set_cons_zero, List.set_cons_succ]); rotate_right)
        · go_simp
          exact rfl
        rename_i Kq hq; clear hq Kq
        (go_big_quiet_want; apply Exists.intro; refine ⟨fun V hV => ?_, ?_⟩; rotate_left; go_big_quiet_on; (try simp only [Act.put, List.setIfInBounds_toArray, List.set_cons_zero, List.set_cons_succ]); rotate_right)
        · go_simp
          exact rfl
        rename_i Kq hq; clear hq Kq
        (go_big_quiet_want; apply Exists.intro; refine ⟨fun V hV => ?_, ?_⟩; rotate_left; go_big_quiet_on; (try simp only [Act.put, List.setIfInBounds_toArray, List.set_cons_zero, List.set_cons_succ]); rotate_right)
        · go_simp
          exact rfl
        rename_i Kq hq; clear hq Kq
        (go_big_quiet_want; apply Exists.intro; refine ⟨fun V hV => ?_, ?_⟩; rotate_left; go_big_quiet_on; (try simp only [Act.put, List.setIfInBounds_toArray, List.set_cons_zero, List.set_cons_succ]); rotate_right)
        · obtain ⟨⟨g0, g1, g2, g3, g4, g5⟩, h1, h2, h3⟩ := HNM.out V hV
          go_simp
          exact rfl
        rename_i Kq hq; clear hq Kq
        (go_big_quiet_want; apply Exists.intro; refine ⟨fun V hV => ?_, ?_⟩; rotate_left; go_big_quiet_on; (try simp only [Act.put, List.setIfInBounds_toArray, List.set_cons_zero, List.set_cons_succ]); rotate_right)
        · go_simp
          exact rfl
        rename_i Kq hq; clear hq Kq
        (go_big_quiet_want; apply Exists.intro; refine ⟨fun V hV => ?_, ?_⟩; rotate_left; go_big_quiet_on; (try simp only [Act.put, List.setIfInBounds_toArray, List.set_cons_zero, List.set_cons_succ]); rotate_right)
        · go_simp
          exact rfl
        rename_i Kq hq; clear hq Kq
        (go_big_quiet_want; apply Exists.intro; refine ⟨fun V hV => ?_, ?_⟩; rotate_left; go_big_quiet_on; (try simp only [Act.put, List.setIfInBounds_toArray, List.set_cons_zero, List.set_cons_succ]); rotate_right)
        · go_simp
          exact rfl
        rename_i Kq hq; clear hq Kq
        (go_big_quiet_want; apply Exists.intro; refine ⟨fun V hV => ?_, ?_⟩; rotate_left; go_big_quiet_on; (try simp only [Act.put, List.setIfInBounds_toArray, List.set_cons_zero, List.set_cons_succ]); rotate_right)
        · obtain ⟨⟨g0, g1, g2, g3, g4, g5⟩, h1, h2, h3⟩ := HNM.out V hV
          go_simp
          exact rfl
        rename_i Kq hq; clear hq Kq
        (go_big_quiet_want; apply Exists.intro; refine ⟨fun V hV => ?_, ?_⟩; rotate_left; go_big_quiet_on; (try simp only [Act.put, List.setIfInBounds_toArray, List.set_cons_zero, List.set_cons_succ]); rotate_right)
        · go_simp
          exact rfl
        rename_i Kq hq; clear hq Kq
        (go_big_quiet_want; apply Exists.intro; refine ⟨fun V hV => ?_, ?_⟩; rotate_left; go_big_quiet_on; (try simp only [Act.put, List.setIfInBounds_toArray, List.set_cons_zero, List.set_cons_succ]); rotate_right)
        · go_simp
          exact rfl
        rename_i Kq hq; clear hq Kq
        refine wpQuiet_nil ?_
        intro w8 k8
        have K8 := Lib.hid (KR.out.trans k8)
        clear k8
        go_wp2_with fail
        go_roundw
        case rel => exact ⟨j + 1, by omega, by go_num, K8.out⟩
        case measure => simp [intOf]; omega
      · as_aux_lemma =>
        obtain rfl : nI = j := by omega
        obtain ⟨g0, g1, g2, g3, g4, g5⟩ := HCL2.out wx KW.out
        go_wp2_with fail
        clear g0 g1 g2 g3 g4 g5
        have KSTART2 := Lib.hid KR.out
        go_loopw [20] (fun v wr => ∃ j : Nat, j ≤ nO ∧ v = .int .i64 j ∧ Kept [] w7 wr) (fun v _ => nO - (intOf v).toNat)
        case atStart => exact ⟨0, Nat.zero_le _, rfl, KSTART2.out⟩
        case round =>
          obtain ⟨j, hj, rfl, hkr⟩ := hrel
          obtain ⟨wx, rfl⟩ : ∃ v : World, v = wr := ⟨_, rfl⟩
          have KR := Lib.hid hkr
          have KW := Lib.hid (K47.out.trans hkr)
          clear hkr
          by_cases hlt : j < nO
          · as_aux_lemma =>
            have hja : j < N.outb.length := by rw [← HNO.out]; exact hlt
            have hjb : j < X1.outb.length := by rw [L1.out.2.1]; exact hlt
            have hjd : j < X2.outb.length := by rw [L1.out.2.2.2]; exact hlt
            obtain ⟨b1, q1, r1, rfl, x1, y1⟩ := net_out CA.out hja
            obtain ⟨b2, q2, r2, rfl, x2, y2⟩ := net_out CB.out hjb
            obtain ⟨b3, q3, r3, rfl, x3, y3⟩ := net_out CD.out hjd
            rw [map_at S1.out.no hjb hja] at x2
            rw [map_at S2.out.no hjd hja] at x3
            generalize N.outb[j].name = nm at *
            have HNM := Lib.hid (fun (V : World) (hV : Kept [] wx V) => And.intro (HCL2.out V (KW.out.trans hV)) (And.intro ((KW.out.trans hV).cell x1 (by simp)) (And.intro ((KW.out.trans hV).cell x2 (by simp)) ((KW.out.trans hV).cell x3 (by simp)))))
            obtain ⟨⟨g0, g1, g2, g3, g4, g5⟩, _⟩ := HNM.out wx (.refl _ _)
            have m0 : (0 : Int) ≤ (j : Int) := by omega
            have m1 : (j : Int) < (nO : Int) := by omega
            clear hja hjb hjd x1 x2 x3 y1 y2 y3 q1 q2 q3 r1 r2 r3
            go_upto_region 23 with (fail)
            clear g0 g1 g2 g3 g4 g5
            refine wp_region_keptW (by kernel_rfl) ?_
            (go_big_quiet_want; apply Exists.intro; refine ⟨fun V hV => ?_, ?_⟩; rotate_left; go_big_quiet_on; (try simp only [Act.put, List.setIfInBounds_toArray, List.set_cons_zero, List.set_cons_succ]); rotate_right)
            · go_simp
              exact rfl
            rename_i Kq hq; clear hq Kq
            (go_big_quiet_want; apply Exists.intro; refine ⟨fun V hV => ?_, ?_⟩; rotate_left; go_big_quiet_on; (try simp only [Act.put, List.setIfInBounds_toArray, List.set_cons_zero, List.set_cons_succ]); rotate_right)
            · go_simp
              exact rfl
            rename_i Kq hq; clear hq Kq
            (go_big_quiet_want; apply Exists.intro; refine ⟨fun V hV => ?_, ?_⟩; rotate_left; go_big_quiet_on; (try simp only [Act.put, List.setIfInBounds_toArray, List.set_cons_zero, List.set_cons_succ]); rotate_right)
            · go_simp
              exact rfl
            rename_i Kq hq; clear hq Kq
            (go_big_quiet_want; apply Exists.intro; refine ⟨fun V hV => ?_, ?_⟩; rotate_left; go_big_quiet_on; (try simp only [Act.put, List.setIfInBounds_toArray, List.set_cons_zero, List.set_cons_succ]); rotate_right)
            · obtain ⟨⟨g0, g1, g2, g3, g4, g5⟩, h1, h2, h3⟩ := HNM.out V hV
              go_simp
              exact rfl
            rename_i Kq hq; clear hq Kq
            (go_big_quiet_want; apply Exists.intro; refine ⟨fun V hV => ?_, ?_⟩; rotate_left; go_big_quiet_on; (try simp only [Act.put, List.setIfInBounds_toArray, List.set_cons_zero, List.set_cons_succ]); rotate_right)
            · go_simp
              exact rfl
            rename_i Kq hq; clear hq Kq
            (go_big_quiet_want; apply Exists.intro; refine ⟨fun V hV => ?_, ?_⟩; rotate_left; go_big_quiet_on; (try simp only [Act.put, List.setIfInBounds_toArray, List.set_cons_zero, List.set_cons_succ]); rotate_right)
            · go_simp
              exact rfl
            rename_i Kq hq; clear hq Kq
            (go_big_quiet_want; apply Exists.intro; refine ⟨fun V hV => ?_, ?_⟩; rotate_left; go_big_quiet_on; (try simp only [Act.put, List.setIfInBounds_toArray, List.set_cons_zero, List.set_cons_succ]); rotate_right)
            · go_simp
              exact rfl
            rename_i Kq hq; clear hq Kq
            (go_big_quiet_want; apply Exists.intro; refine ⟨fun V hV => ?_, ?_⟩; rotate_left; go_big_quiet_on; (try simp only [Act.put, List.setIfInBounds_toArray, List.set_cons_zero, List.set_cons_succ]); rotate_right)
            · obtain ⟨⟨g0, g1, g2, g3, g4, g5⟩, h1, h2, h3⟩ := HNM.out V hV
              go_simp
              exact rfl
            rename_i Kq hq; clear hq Kq
            (go_big_quiet_want; apply Exists.intro; refine ⟨fun V hV => ?_, ?_⟩; rotate_left; go_big_quiet_on; (try simp only [Act.put, List.setIfInBounds_toArray, List.set_cons_zero, List.set_cons_succ]); rotate_right)
            · go_simp
              exact rfl
            rename_i Kq hq; clear hq Kq
            (go_big_quiet_want; apply Exists.intro; refine ⟨fun V hV => ?_, ?_⟩; rotate_left; go_big_quiet_on; (try simp only [Act.put, List.setIfInBounds_toArray, List.set_cons_zero, List.set_cons_succ]); rotate_right)
            · go_simp
              exact rfl
            rename_i Kq hq; clear hq Kq
            (go_big_quiet_want; apply Exists.intro; refine ⟨fun V hV => ?_, ?_⟩; rotate_left; go_big_quiet_on; (try simp only [Act.put, List.setIfInBounds_toArray, List.set_cons_zero, List.set_cons_succ]); rotate_right)
            · go_simp
              exact rfl
            rename_i Kq hq; clear hq Kq
            (go_big_quiet_want; apply Exists.intro; refine ⟨fun V hV => ?_, ?_⟩; rotate_left; go_big_quiet_on; (try simp only [Act.put, List.setIfInBounds_toArray, List.set_cons_zero, List.set_cons_succ]); rotate_right)
            · obtain ⟨⟨g0, g1, g2, g3, g4, g5⟩, h1, h2, h3⟩ := HNM.out V hV
              go_simp
              exact rfl
            rename_i Kq hq; clear hq Kq
            (go_big_quiet_want; apply Exists.intro; refine ⟨fun V hV => ?_, ?_⟩; rotate_left; go_big_quiet_on; (try simp only [Act.put, List.setIfInBounds_toArray, List.set_cons_zero, List.set_cons_succ]); rotate_right)
            · go_simp
              exact rfl
            rename_i Kq hq; clear hq Kq
            (go_big_quiet_want; apply Exists.intro; refine ⟨fun V hV => ?_, ?_⟩; rotate_left; go_big_quiet_on; (try simp only [Act.put, List.setIfInBounds_toArray, List.set_cons_zero, List.set_cons_succ]); rotate_right)
            · go_simp
              exact rfl
            rename_i Kq hq; clear hq Kq
            (go_big_quiet_want; apply Exists.intro; refine ⟨fun V hV => ?_, ?_⟩; rotate_left; go_big_quiet_on; (try simp only [Act.put, List.setIfInBounds_toArray, List.set_cons_zero, List.set_cons_succ]); rotate_right)
            · go_simp
              exact rfl
            rename_i Kq hq; clear hq Kq
            (go_big_quiet_want; apply Exists.intro; refine ⟨fun V hV => ?_, ?_⟩; rotate_left; go_big_quiet_on; (try simp only [Act.put, List.setIfInBounds_toArray, List.set_cons_zero, List.set_cons_succ]); rotate_right)
            · obtain ⟨⟨g0, g1, g2, g3, g4, g5⟩, h1, h2, h3⟩ := HNM.out V hV
              go_simp
              exact rfl
            rename_i Kq hq; clear hq Kq
            (go_big_quiet_want; apply Exists.intro; refine ⟨fun V hV => ?_, ?_⟩; rotate_left; go_big_quiet_on; (try simp only [Act.put, List.setIfInBounds_toArray, List.set_cons_zero, List.set_cons_succ]); rotate_right)
            · go_simp
              exact rfl
            rename_i Kq hq; clear hq Kq
            (go_big_quiet_want; apply Exists.intro; refine ⟨fun V hV => ?_, ?_⟩; rotate_left; go_big_quiet_on; (try simp only [Act.put, List.setIfInBounds_toArray, List.set_cons_zero, List.set_cons_succ]); rotate_right)
            · go_simp
              exact rfl
            rename_i Kq hq; clear hq Kq
            (go_big_quiet_want; apply Exists.intro; refine ⟨fun V hV => ?_, ?_⟩; rotate_left; go_big_quiet_on; (try simp only [Act.put, List.setIfInBounds_toArray, List.set_cons_zero, List.set_cons_succ]); rotate_right)
            · go_simp
              exact rfl
            rename_i Kq hq; clear hq Kq
            (go_big_quiet_want; apply Exists.intro; refine ⟨fun V hV => ?_, ?_⟩; rotate_left; go_big_quiet_on; (try simp only [Act.put, List.setIfInBounds_toArray, List.set_cons_zero, List.set_cons_succ]); rotate_right)
            · go_simp
              exact rfl
            rename_i Kq hq; clear hq Kq
            (go_big_quiet_want; apply Exists.intro; refine ⟨fun V hV => ?_, ?_⟩; rotate_left; go_big_quiet_on; (try simp only [Act.put, List.setIfInBounds_toArray, List.set_cons_zero, List.set_cons_succ]); rotate_right)
            · go_simp
              exact rfl
            rename_i Kq hq; clear hq Kq
            (go_big_quiet_want; apply Exists.intro; refine ⟨fun V hV => ?_, ?_⟩; rotate_left; go_big_quiet_on; (try simp only [Act.put, List.setIfInBounds_toArray, List.set_cons_zero, List.set_cons_succ]); rotate_right)
            · obtain ⟨⟨g0, g1, g2, g3, g4, g5⟩, h1, h2, h3⟩ := HNM.out V hV
              go_simp
              exact rfl
            rename_i Kq hq; clear hq Kq
            (go_big_quiet_want; apply Exists.intro; refine ⟨fun V hV => ?_, ?_⟩; rotate_left; go_big_quiet_on; (try simp only [Act.put, List.setIfInBounds_toArray, List.set_cons_zero, List.set_cons_succ]); rotate_right)
            · go_simp
              exact rfl
            rename_i Kq hq; clear hq Kq
            (go_big_quiet_want; apply Exists.intro; refine ⟨fun V hV => ?_, ?_⟩; rotate_left; go_big_quiet_on; (try simp only [Act.put, List.setIfInBounds_toArray, List.set_cons_zero, List.set_cons_succ]); rotate_right)
            · go_simp
              exact rfl
            rename_i Kq hq; clear hq Kq
            (go_big_quiet_want; apply Exists.intro; refine ⟨fun V hV => ?_, ?_⟩; rotate_left; go_big_quiet_on; (try simp only [Act.put, List.setIfInBounds_toArray, List.set_cons_zero, List.set_cons_succ]); rotate_right)
            · go_simp
              exact rfl
            rename_i Kq hq; clear hq Kq
            (go_big_quiet_want; apply Exists.intro; refine ⟨fun V hV => ?_, ?_⟩; rotate_left; go_big_quiet_on; (try simp only [Act.put, List.setIfInBounds_toArray, List.set_cons_zero, List.set_cons_succ]); rotate_right)
            · obtain ⟨⟨g0, g1, g2, g3, g4, g5⟩, h1, h2, h3⟩ := HNM.out V hV
              go_simp
              exact rfl
            rename_i Kq hq; clear hq Kq
            (go_big_quiet_want; apply Exists.intro; refine ⟨fun V hV => ?_, ?_⟩; rotate_left; go_big_quiet_on; (try simp only [Act.put, List.setIfInBounds_toArray, List.set_cons_zero, List.set_cons_succ]); rotate_right)
            · go_simp
              exact rfl
            rename_i Kq hq; clear hq Kq
            (go_big_quiet_want; apply Exists.intro; refine ⟨fun V hV => ?_, ?_⟩; rotate_left; go_big_quiet_on; (try simp only [Act.put, List.setIfInBounds_toArray, List.set_cons_zero, List.set_cons_succ]); rotate_right)
            · go_simp
              exact rfl
            rename_i Kq hq; clear hq Kq
            (go_big_quiet_want; apply Exists.intro; refine ⟨fun V hV => ?_, ?_⟩; rotate_left; go_big_quiet_on; (try simp only [Act.put, List.setIfInBounds_toArray, List.set_cons_zero, List.set_cons_succ]); rotate_right)
            · go_simp
              exact rfl
            rename_i Kq hq; clear hq Kq
            (go_big_quiet_want; apply Exists.intro; refine ⟨fun V hV => ?_, ?_⟩; rotate_left; go_big_quiet_on; (try simp only [Act.put, List.setIfInBounds_toArray, List.set_cons_zero, List.set_cons_succ]); rotate_right)
            · obtain ⟨⟨g0, g1, g2, g3, g4, g5⟩, h1, h2, h3⟩ := HNM.out V hV
              go_simp
              exact rfl
            rename_i Kq hq; clear hq Kq
            (go_big_quiet_want; apply Exists.intro; refine ⟨fun V hV => ?_, ?_⟩; rotate_left; go_big_quiet_on; (try simp only [Act.put, List.setIfInBounds_toArray, List.set_cons_zero, List.set_cons_succ]); rotate_right)
            · go_simp
              exact rfl
            rename_i Kq hq; clear hq Kq
            (go_big_quiet_want; apply Exists.intro; refine ⟨fun V hV => ?_, ?_⟩; rotate_left; go_big_quiet_on; (try simp only [Act.put, List.setIfInBounds_toArray, List.set_cons_zero, List.set_cons_succ]); rotate_right)
            · go_simp
              exact rfl
            rename_i Kq hq; clear hq Kq
            (go_big_quiet_want; apply Exists.intro; refine ⟨fun V hV => ?_, ?_⟩; rotate_left; go_big_quiet_on; (try simp only [Act.put, List.setIfInBounds_toArray, List.set_cons_zero, List.set_cons_succ]); rotate_right)
            · go_simp
              exact rfl
            rename_i Kq hq; clear hq Kq
            (go_big_quiet_want; apply Exists.intro; refine ⟨fun V hV => ?_, ?_⟩; rotate_left; go_big_quiet_on; (try simp only [Act.put, List.setIfInBounds_toArray, List.set_cons_zero, List.set_cons_succ]); rotate_right)
            · obtain ⟨⟨g0, g1, g2, g3, g4, g5⟩, h1, h2, h3⟩ := HNM.out V hV
              go_simp
              exact rfl
            rename_i Kq hq; clear hq Kq
            (go_big_quiet_want; apply Exists.intro; refine ⟨fun V hV => ?_, ?_⟩; rotate_left; go_big_quiet_on; (try simp only [Act.put, List.setIfInBounds_toArray, List.set_cons_zero, List.set_cons_succ]); rotate_right)
            · go_simp
              exact rfl
            rename_i Kq hq; clear hq Kq
            (go_big_quiet_want; apply Exists.intro; refine ⟨fun V hV => ?_, ?_⟩; rotate_left; go_big_quiet_on; (try simp only [Act.put, List.setIfInBounds_toArray, List.set_cons_zero, List.set_cons_succ]); rotate_right)
            · go_simp
              exact rfl
            rename_i Kq hq; clear hq Kq
            refine wpQuiet_nil ?_
            intro w8 k8
            have K8 := Lib.hid (KR.out.trans k8)
            clear k8
            go_wp2_with fail
            go_roundw
            case rel => exact ⟨j + 1, by omega, by go_num, K8.out⟩
            case measure => simp [intOf]; omega
          · as_aux_lemma =>
            obtain rfl : nO = j := by omega
            obtain ⟨g0, g1, g2, g3, g4, g5⟩ := HCL2.out wx KW.out
            go_wp2_with fail
            clear g0 g1 g2 g3 g4 g5
            have SS2 := Lib.hid (SS.out.kept0 KR.out)
            clear KR KW
            go_loopw [21] (fun v wr => ∃ (i : Nat) (R R' R'' : List Nat), i ≤ 20 ∧ i ≤ clen ∧ v = .int .i64 i ∧ Sims3 w4 wr s F R (sgC N cy i) t F' R' (sgC X1 cy i) u F'' R'' (sgC X2 cy i)) (fun v _ => 20 - (intOf v).toNat)
            case atStart => exact ⟨0, R, R', R'', Nat.zero_le _, Nat.zero_le _, rfl, SS2.out⟩
            case round =>
              clear SS SS2
              obtain ⟨i, Ra, Rb, Rc, hi, hic, rfl, hss⟩ := hrel
              obtain ⟨wi, rfl⟩ : ∃ v : World, v = wr := ⟨_, rfl⟩
              have SJ := Lib.hid hss
              have KI := Lib.hid hss.kept
              clear hss
              by_cases hlt : i < clen
              · by_cases hl2 : i < 20
                · as_aux_lemma =>
                  have hkl : i < cl.length := by rw [HCL.out]; exact hlt
                  have hwo := HCW.out _ (List.getElem_mem hkl)
                  obtain ⟨cb, co, rfl, hce, hsn⟩ := (HCS.out.kept0 (K4.out.trans KI.out)) i hkl
                  have HGI := Lib.hid (show cy i = givenN N.inb cl[i].l 0 from by rw [HCY.out]; unfold cycC; simp [List.getD_eq_getElem?_getD, List.getElem?_eq_getElem hkl])
                  have HWO := Lib.hid (CF.out i).2
                  have HFT := Lib.hid (CF.out i).1
                  generalize cl[i].l = rl at *
                  generalize cl[i].a = rla at *
                  generalize cl[i].c = rlc at *
                  obtain ⟨rn, hrn⟩ : ∃ k, k = rl.length := ⟨_, rfl⟩
                  rw [← hrn] at hce hwo
                  have HRN := Lib.hid hrn
                  have HWR0 := Lib.hid hwo
                  have HCE := Lib.hid hce
                  have HSN := Lib.hid hsn
                  have hrb := hwo.2
                  clear hrn hwo hce hsn hkl
                  have HGN := Lib.hid (show cy i = givenTo N.inb rl nI from by rw [HGI.out]; unfold givenN; rw [HNI.out]; simp)
                  have j0 : (0 : Int) ≤ (i : Int) := by omega
                  have j1 : (i : Int) < (clen : Int) := by omega
                  have j2 : (i : Int) < 20 := by omega
                  obtain ⟨g0, g1, g2, g3, g4, g5⟩ := HCL2.out wi KI.out
                  go_wp2_with fail
                  clear g0 g1 g2 g3 g4 g5
                  go_loopw [22, 23, 254] (fun v t i w' => ∃ (k : Nat) (a' : Option Addr) (c' : Nat) (rs' : List WR), k ≤ nI ∧ i = .int .i64 k ∧ t = .int .i64 (offB N.inb k : Nat) ∧ offB N.inb k ≤ 1000 * k ∧ v = .slice a' k c' ∧ WRows w' a' k c' rs' ∧ rs'.map (·.l) = givenTo N.inb rl k ∧ Kept [] wi w' ∧ (∀ b ∈ ft a', wi.heap.size ≤ b) ∧ ∀ b ∈ wrBlocks rs', wi.heap.size ≤ b ∧ b ∉ ft a') (fun _ _ i _ => nI - (intOf i).toNat)
                  case atStart => exact ⟨0, none, 0, [], Nat.zero_le _, rfl, rfl, by simp [offB], rfl, WRows.nil _, by simp [givenTo], .refl _ _, by simp [ft], by simp [wrBlocks]⟩
                  case round =>
                    obtain ⟨d, a', c', rs', hd, rfl, rfl, hoff, rfl, hwr, hmp, hkz, hfa, hfb⟩ := hrel
                    have HWR := Lib.hid hwr
                    have HMP := Lib.hid hmp
                    have KZ := Lib.hid hkz
                    have HFA' := Lib.hid hfa
                    have HFB' := Lib.hid hfb
                    clear hwr hmp hkz hfa hfb
                    obtain ⟨wA, rfl⟩ : ∃ v : World, v = wr := ⟨_, rfl⟩
                    by_cases hlt4 : d < nI
                    · as_aux_lemma =>
                      have hkb : d < N.inb.length := by rw [← HNI.out]; exact hlt4
                      have hkr1 : d < ri.length := by
                        have h2 : ri.length = N.inb.length := by rw [← CA.out.ib.is]; simp
                        omega
                      obtain ⟨bb, rfl, b0, b1⟩ := ((CA.out.ib.kept (KI.out.trans KZ.out) (by simp) (by simp)).slb) d hkr1
                      have hrib : N.inb[d]? = some ri[d].b := by
                        have h1 : (ri.map (·.b))[d]? = some ri[d].b := by rw [List.getElem?_map, List.getElem?_eq_getElem hkr1]; rfl
                        rw [CA.out.ib.is] at h1
                        exact h1
                      have hl64 : ri[d].b.lits.length ≤ 1000 := by have := HFI.out.ok.il _ (List.mem_of_getElem? hrib); omega
                      have HGT := Lib.hid (givenTo_succ rl hrib)
                      have HOS := Lib.hid (offB_succ hrib)
                      clear hrib hkb
                      generalize ri[d].b.name = nm at *
                      generalize ri[d].a = ba at *
                      generalize ri[d].c = bc at *
                      obtain ⟨ln, hln⟩ : ∃ k, k = ri[d].b.lits.length := ⟨_, rfl⟩
                      rw [← hln] at b1 hl64 HGT HOS
                      clear hln hkr1
                      have HOFD := Lib.hid hoff
                      generalize offB N.inb d = of at *
                      go_wp2_with fail
                      obtain ⟨wB, hwB⟩ : ∃ W, W = wA.alloc (.cells #[.string nm, .slice ba ln bc] 60) := ⟨_, rfl⟩
                      rw [← hwB]
                      have KB := Lib.hid (show Kept [] wA wB from by rw [hwB]; exact (Kept.refl [] wA).alloc _)
                      clear hwB b0 b1
                      go_loopw [23, 26, 261] (fun t v i w' => ∃ (j : Nat) (a5 : Option Addr) (c5 : Nat), j ≤ ln ∧ i = .int .i64 j ∧ t = .int .i64 ((of : Int) + (j : Int)) ∧ v = .slice a5 j c5 ∧ Own w' 79 a5 j c5 (nats .u64 (givenRow rl of j)) ∧ Stepped wB w' [] (ft a5)) (fun _ _ i _ => ln - (intOf i).toNat)
                      case atStart => exact ⟨0, none, 0, Nat.zero_le _, rfl, by simp, rfl, Own.nil _ _, .refl _ _⟩
                      case round =>
                        obtain ⟨j, a5, c5, hj, rfl, rfl, rfl, ho5, hst5⟩ := hrel
                        have HO5 := Lib.hid ho5
                        have HST5 := Lib.hid hst5
                        clear ho5 hst5
                        have hof : of ≤ 10000000 := by have := HOFD.out; omega
                        have hw1 : IntKind.i64.wrap ((of : Int) + (j : Int) + 1) = (of : Int) + (j : Int) + 1 := IntWalk.i64_in _ (by omega)
                        have HGS := Lib.hid (givenRow_succ rl of j)
                        by_cases hlt5 : j < ln
                        · as_aux_lemma =>
                          have hce := HST5.out.kept.cell (KB.out.cell (KZ.out.cell HCE.out (by simp)) (by simp)) (by simp)
                          by_cases hin : of + j < rn
                          · have hkl : of + j < rl.length := by rw [← HRN.out]; exact hin
                            obtain ⟨ad, rfl, hcx⟩ := ((HSN.out.kept0 KZ.out).kept0 KB.out).kept0 HST5.out.kept (of + j) hkl
                            have hin' : (of : Int) + (j : Int) < (rn : Int) := by omega
                            have h0 : (0 : Int) ≤ (of : Int) + (j : Int) := by omega
                            have hix : ((of : Int) + (j : Int)).toNat = of + j := by omega
                            have HGV := Lib.hid (show rl.getD (of + j) 0 = rl[of + j] from by simp [List.getD_eq_getElem?_getD, List.getElem?_eq_getElem hkl])
                            generalize rl[of + j] = x at *
                            have hown := HO5.out
                            go_wp2_with (at_builtin; refine wpList_push rfl rfl Tryz.underlying78 u64_info rfl rfl rfl hown rfl (by unfold maxLen; omega) (by omega) ?_; intro a6 c6 w6' hown6 hst6)
                            go_roundw
                            case rel => exact ⟨j + 1, a6, c6, by omega, by go_num, by go_num, rfl, by rw [HGS.out, HGV.out, ← nats_append]; exact hown6, HST5.out.trans hst6⟩
                            case measure => simp [intOf]; omega
                          · have hin' : ¬ (of : Int) + (j : Int) < (rn : Int) := by omega
                            have HGV := Lib.hid (show rl.getD (of + j) 0 = 0 from by rw [List.getD_eq_getElem?_getD, List.getElem?_eq_none (by rw [← HRN.out]; omega)]; rfl)
                            have hown := HO5.out
                            go_wp2_with (at_builtin; refine wpList_push rfl rfl Tryz.underlying78 u64_info rfl rfl rfl hown rfl (by unfold maxLen; omega) (by omega) ?_; intro a6 c6 w6' hown6 hst6)
                            go_roundw
                            case rel => exact ⟨j + 1, a6, c6, by omega, by go_num, by go_num, rfl, by rw [HGS.out, HGV.out, ← nats_append]; exact hown6, HST5.out.trans hst6⟩
                            case measure => simp [intOf]; omega
                        · as_aux_lemma =>
                          obtain rfl : j = ln := by omega
                          have K5 := Lib.hid (KB.out.trans HST5.out.kept)
                          have FR5 := Lib.hid (show ∀ b ∈ ft a5, wA.heap.size ≤ b from fun b hb => (HST5.out.fresh b hb).elim (by simp) (fun h => Nat.le_trans KB.out.size h))
                          have hown10 := HWR.out.own.kept0 K5.out
                          have HL5 := Lib.hid (givenRow_length rl of j)
                          go_wp2_with (at_builtin; refine wpList_push rfl rfl Tryz.underlying74 su64_info' rfl rfl rfl hown10 rfl (by unfold maxLen; omega) (by omega) ?_; intro a1 c1 w11 hown11 hst11)
                          have HSN2 := Lib.hid (WRows.snoc (w0 := wA) (r := ⟨givenRow rl of j, a5, c5⟩) HWR.out K5.out (by show Own _ _ _ _ _ (wrCells rs' ++ [.slice a5 (givenRow rl of j).length c5]); rw [HL5.out]; exact hown11) hst11 HO5.out.sln (fun b hb => ⟨HO5.out.lt b hb, fun hx => by have h1 := HWR.out.lt.1 b hx; have h2 := FR5.out b hb; omega⟩) (fun b hb => (HFB'.out b hb).2))
                          have K11 := Lib.hid (show Kept [] wi w11 from kept_up (KZ.out.trans K5.out) hst11.kept HFA'.out)
                          have FA11 := Lib.hid (show ∀ b ∈ ft a1, wi.heap.size ≤ b from fun b hb => (hst11.fresh b hb).elim (HFA'.out b) (fun h => Nat.le_trans (KZ.out.trans K5.out).size h))
                          have FB11 := Lib.hid (show ∀ b ∈ wrBlocks (rs' ++ [⟨givenRow rl of j, a5, c5⟩]), wi.heap.size ≤ b from fun b hb => by
                            obtain ⟨r, hr, hb⟩ := mem_wrBlocks.1 hb
                            rcases List.mem_append.1 hr with hr | hr
                            · exact (HFB'.out b (mem_wrBlocks.2 ⟨r, hr, hb⟩)).1
                            · rw [List.mem_singleton] at hr
                              subst hr
                              have h1 := FR5.out b hb
                              have h2 := KZ.out.size
                              omega)
                          clear hown11 hst11 hown10
                          go_roundw
                          case rel => exact ⟨d + 1, a1, c1, rs' ++ [⟨givenRow rl of j, a5, c5⟩], by omega, by go_num, by rw [HOS.out]; go_num, by have := HOS.out; have := HOFD.out; omega, rfl, HSN2.out.1, by rw [List.map_append, HMP.out, HGT.out]; rfl, K11.out, FA11.out, fun b hb => ⟨FB11.out b hb, HSN2.out.2 b hb⟩⟩
                          case measure => simp [intOf]; omega
                    · as_aux_lemma =>
                      obtain rfl : d = nI := by omega
                      have HG := Lib.hid HWR.out
                      have HGM := Lib.hid (show rs'.map (·.l) = cy i from by rw [HMP.out, HGN.out])
                      have SA := Lib.hid (SJ.out.kept0 KZ.out)
                      have NW := Lib.hid (show ∀ b, wi.heap.size ≤ b → b ∉ F ∧ b ∉ F' ∧ b ∉ F'' from fun b hb => ⟨fun h => by have := SJ.out.a.lt.1 b h; omega, fun h => by have := SJ.out.b.lt.1 b h; omega, fun h => by have := SJ.out.c.lt.1 b h; omega⟩)
                      have FIN := Lib.hid (show ∀ b, b ∈ ft a' ∨ b ∈ wrBlocks rs' → wi.heap.size ≤ b from fun b hb => hb.elim (HFA'.out b) (fun h => (HFB'.out b h).1))
                      have OKA := Lib.hid (sgC_ok HFI.out (by omega) (fun i => (CF.out i).2) i)
                      have OKB := Lib.hid (sgC_ok FN1.out.1 (by omega) (fun i => (CF.out i).2) i)
                      have OKC := Lib.hid (sgC_ok SI.out.2.1 (by omega) (fun i => (CF.out i).2) i)
                      have FTA := Lib.hid (show fitB N.inb (cy i) = true from decide_eq_true HFT.out)
                      have FTB := Lib.hid (show fitB X1.inb (cy i) = true from decide_eq_true (HFT.out.trans S1.out.fit.symm))
                      have FTC := Lib.hid (show fitB X2.inb (cy i) = true from decide_eq_true (HFT.out.trans S2.out.fit.symm))
                      have ZA := Lib.hid KZ.out.size
                      clear HWR HMP HFA' HFB' HGN HGI HSN HCE hoff
                      have HS1 := Lib.hid (sim_step SA.out.a OKA.out (by rw [sgC_cy]; omega) (by omega) HG.out (fun r hr => HWO.out _ (by rw [← HGM.out]; exact List.mem_map_of_mem hr)) (by rw [HGM.out, sgC_N]; exact FTA.out))
                      rw [HGM.out] at HS1
                      go_wp2_with fail
                      refine HS1.out.mono ?_
                      intro e v1 hx
                      obtain ⟨xa, xc, xr, R1, he, hrows, hmap, hsim, hst, hfr⟩ := hx
                      rw [sgC_N, ← HNO.out] at he hrows
                      rw [sgC_out] at hmap
                      subst he
                      have XM := Lib.hid hmap
                      have XX := Lib.hid hrows
                      have XF := Lib.hid (show ∀ b, b ∈ ft xa ∨ b ∈ wrBlocks xr → wi.heap.size ≤ b from fun b hb => by have h1 := hfr b (List.mem_append.2 hb); have h2 := ZA.out; omega)
                      have SB := Lib.hid (SA.out.step (σ1 := sgC N cy (i + 1)) hsim hst)
                      have HG2 := Lib.hid (HG.out.kept hst.st.kept (fun b hb => (NW.out b (FIN.out b (.inl hb))).1) (fun b hb => (NW.out b (FIN.out b (.inr hb))).1))
                      have ZB := Lib.hid (Nat.le_trans ZA.out hst.st.kept.size)
                      clear hrows hmap hsim hst hfr HS1 HG SA ZA OKA
                      have HS2 := Lib.hid (sim_step SB.out.rot.a OKB.out (by rw [sgC_cy]; omega) (by omega) HG2.out (fun r hr => HWO.out _ (by rw [← HGM.out]; exact List.mem_map_of_mem hr)) (by rw [HGM.out, sgC_N]; exact FTB.out))
                      rw [HGM.out] at HS2
                      go_wp2_with fail
                      refine HS2.out.mono ?_
                      intro e v2 hx
                      obtain ⟨ya, yc, yr, R2, he, hrows, hmap, hsim, hst, hfr⟩ := hx
                      rw [sgC_N, L1.out.2.1] at he hrows
                      rw [sgC_out, S1.out.tr cy CF.out i] at hmap
                      subst he
                      have YM := Lib.hid hmap
                      have YX := Lib.hid hrows
                      have YF := Lib.hid (show ∀ b, b ∈ ft ya ∨ b ∈ wrBlocks yr → wi.heap.size ≤ b from fun b hb => by have h1 := hfr b (List.mem_append.2 hb); have h2 := ZB.out; omega)
                      have SC := Lib.hid (SB.out.rot.step (σ1 := sgC X1 cy (i + 1)) hsim hst)
                      have HG3 := Lib.hid (HG2.out.kept hst.st.kept (fun b hb => (NW.out b (FIN.out b (.inl hb))).2.1) (fun b hb => (NW.out b (FIN.out b (.inr hb))).2.1))
                      have XX2 := Lib.hid (XX.out.kept hst.st.kept (fun b hb => (NW.out b (XF.out b (.inl hb))).2.1) (fun b hb => (NW.out b (XF.out b (.inr hb))).2.1))
                      have ZC := Lib.hid (Nat.le_trans ZB.out hst.st.kept.size)
                      clear hrows hmap hsim hst hfr HS2 HG2 SB ZB OKB XX
                      have HS3 := Lib.hid (sim_step SC.out.rot.a OKC.out (by rw [sgC_cy]; omega) (by omega) HG3.out (fun r hr => HWO.out _ (by rw [← HGM.out]; exact List.mem_map_of_mem hr)) (by rw [HGM.out, sgC_N]; exact FTC.out))
                      rw [HGM.out] at HS3
                      go_wp2_with fail
                      refine HS3.out.mono ?_
                      intro e v3 hx
                      obtain ⟨za, zc, zr, R3, he, hrows, hmap, hsim, hst, hfr⟩ := hx
                      rw [sgC_N, L1.out.2.2.2] at he hrows
                      rw [sgC_out, S2.out.tr cy CF.out i] at hmap
                      subst he
                      have ZM := Lib.hid hmap
                      have ZX := Lib.hid hrows
                      have SD := Lib.hid (SC.out.rot.step (σ1 := sgC X2 cy (i + 1)) hsim hst).rot
                      have YX2 := Lib.hid (YX.out.kept hst.st.kept (fun b hb => (NW.out b (YF.out b (.inl hb))).2.2) (fun b hb => (NW.out b (YF.out b (.inr hb))).2.2))
                      have XX3 := Lib.hid (XX2.out.kept hst.st.kept (fun b hb => (NW.out b (XF.out b (.inl hb))).2.2) (fun b hb => (NW.out b (XF.out b (.inr hb))).2.2))
                      clear hrows hmap hsim hst hfr HS3 HG3 SC ZC OKC XX2 YX FTA FTB FTC NW FIN XF YF HGM
                      have K3 := Lib.hid SD.out.kept
                      have XL := Lib.hid XX3.out.len
                      have YL := Lib.hid YX2.out.len
                      have ZL := Lib.hid ZX.out.len
                      have HOUT := Lib.hid (outS_lens (M := N) (c := cy) (i := i))
                      obtain ⟨g0, g1, g2, g3, g4, g5⟩ := HCL2.out v3 K3.out
                      go_wp2_with fail
                      clear g0 g1 g2 g3 g4 g5
                      go_loopw [343] (fun v wr => ∃ q : Nat, q ≤ nO ∧ v = .int .i64 q ∧ Kept [] v3 wr) (fun v _ => nO - (intOf v).toNat)
                      case atStart => exact ⟨0, Nat.zero_le _, rfl, .refl _ _⟩
                      case round =>
                        obtain ⟨q, hq, rfl, hkr⟩ := hrel
                        obtain ⟨wq, rfl⟩ : ∃ v : World, v = wr := ⟨_, rfl⟩
                        have KQ := Lib.hid hkr
                        have KW := Lib.hid (K3.out.trans hkr)
                        clear hkr
                        by_cases hlq : q < nO
                        · as_aux_lemma =>
                          have hqa : q < N.outb.length := by rw [← HNO.out]; exact hlq
                          have hqx : q < xr.length := by rw [XL.out]; exact hlq
                          have hqy : q < yr.length := by rw [YL.out]; exact hlq
                          have hqz : q < zr.length := by rw [ZL.out]; exact hlq
                          obtain ⟨bo, oa1, oc1, rfl, x0, y0⟩ := net_out CA.out hqa
                          obtain ⟨bx, rax, rcx, rfl, c1, s1⟩ := rows_at XX3.out q hqx
                          obtain ⟨by', ray, rcy, rfl, c2, s2⟩ := rows_at YX2.out q hqy
                          obtain ⟨bz, raz, rcz, rfl, c3, s3⟩ := rows_at ZX.out q hqz
                          have e1 := map_at (YM.out.trans XM.out.symm) hqy hqx
                          have e2 := map_at (ZM.out.trans XM.out.symm) hqz hqx
                          rw [e1] at c2 s2
                          rw [e2] at c3 s3
                          have e3 : N.outb[q].lits.length = xr[q].l.length := by
                            have h1 := HOUT.out
                            rw [← XM.out, List.map_map] at h1
                            have h2 := congrArg (fun x => x[q]?) h1
                            simp only [List.getElem?_map, List.getElem?_eq_getElem hqx, List.getElem?_eq_getElem hqa, Option.map_some, Function.comp] at h2
                            injection h2 with h2
                            exact h2.symm
                          have hob := (HFI.out.ok.ol _ (List.getElem_mem hqa)).2.1
                          rw [e3] at hob
                          rw [e3] at y0
                          clear e1 e2 e3 x0
                          generalize xr[q].l = row at *
                          obtain ⟨ln, hln⟩ : ∃ k, k = row.length := ⟨_, rfl⟩
                          rw [← hln] at c1 c2 c3 y0 hob
                          have HLN := Lib.hid hln
                          clear hln
                          have hlb : ln ≤ 1000 := by omega
                          clear hob
                          have HR1 := Lib.hid (s1.kept0 KQ.out)
                          have HR2 := Lib.hid (s2.kept0 KQ.out)
                          have HR3 := Lib.hid (s3.kept0 KQ.out)
                          have HRO := Lib.hid (fun (V : World) (hV : Kept [] wq V) => And.intro ((KQ.out.trans hV).cell c1 (by simp)) (And.intro ((KQ.out.trans hV).cell c2 (by simp)) (And.intro ((KQ.out.trans hV).cell c3 (by simp)) (And.intro (HCL2.out V (KW.out.trans hV)).2.2.2.1 ((KW.out.trans hV).cell y0 (by simp))))))
                          have m0 : (0 : Int) ≤ (q : Int) := by omega
                          have m1 : (q : Int) < (nO : Int) := by omega
                          clear hqa hqx hqy hqz c1 c2 c3 s1 s2 s3 y0
                          go_upto_region 52 with (fail)
                          refine wp_region_keptW (by kernel_rfl) ?_
                          (go_big_quiet_want; apply Exists.intro; refine ⟨fun V hV => ?_, ?_⟩; rotate_left; go_big_quiet_on; (try simp only [Act.put, List.setIfInBounds_toArray, List.set_cons_zero, List.set_cons_succ]); rotate_right)
                          · go_simp
                            exact rfl
                          rename_i Kq hq; clear hq Kq
                          (go_big_quiet_want; apply Exists.intro; refine ⟨fun V hV => ?_, ?_⟩; rotate_left; go_big_quiet_on; (try simp only [Act.put, List.setIfInBounds_toArray, List.set_cons_zero, List.set_cons_succ]); rotate_right)
                          · go_simp
                            exact rfl
                          rename_i Kq hq; clear hq Kq
                          (go_big_quiet_want; apply Exists.intro; refine ⟨fun V hV => ?_, ?_⟩; rotate_left; go_big_quiet_on; (try simp only [Act.put, List.setIfInBounds_toArray, List.set_cons_zero, List.set_cons_succ]); rotate_right)
                          · go_simp
                            exact rfl
                          rename_i Kq hq; clear hq Kq
                          (go_big_quiet_want; apply Exists.intro; refine ⟨fun V hV => ?_, ?_⟩; rotate_left; go_big_quiet_on; (try simp only [Act.put, List.setIfInBounds_toArray, List.set_cons_zero, List.set_cons_succ]); rotate_right)
                          · obtain ⟨h1, h2, h3, h4, h5⟩ := HRO.out V hV
                            go_simp
                            exact rfl
                          rename_i Kq hq; clear hq Kq
                          (go_big_quiet_want; apply Exists.intro; refine ⟨fun V hV => ?_, ?_⟩; rotate_left; go_big_quiet_on; (try simp only [Act.put, List.setIfInBounds_toArray, List.set_cons_zero, List.set_cons_succ]); rotate_right)
                          · go_simp
                            exact rfl
                          rename_i Kq hq; clear hq Kq
                          (go_big_quiet_want; apply Exists.intro; refine ⟨fun V hV => ?_, ?_⟩; rotate_left; go_big_quiet_on; (try simp only [Act.put, List.setIfInBounds_toArray, List.set_cons_zero, List.set_cons_succ]); rotate_right)
                          · go_simp
                            exact rfl
                          rename_i Kq hq; clear hq Kq
                          (go_big_quiet_want; apply Exists.intro; refine ⟨fun V hV => ?_, ?_⟩; rotate_left; go_big_quiet_on; (try simp only [Act.put, List.setIfInBounds_toArray, List.set_cons_zero, List.set_cons_succ]); rotate_right)
                          · go_simp
                            exact rfl
                          rename_i Kq hq; clear hq Kq
                          (go_big_quiet_want; apply Exists.intro; refine ⟨fun V hV => ?_, ?_⟩; rotate_left; go_big_quiet_on; (try simp only [Act.put, List.setIfInBounds_toArray, List.set_cons_zero, List.set_cons_succ]); rotate_right)
                          · go_simp
                            exact rfl
                          rename_i Kq hq; clear hq Kq
                          (go_big_quiet_want; apply Exists.intro; refine ⟨fun V hV => ?_, ?_⟩; rotate_left; go_big_quiet_on; (try simp only [Act.put, List.setIfInBounds_toArray, List.set_cons_zero, List.set_cons_succ]); rotate_right)
                          · obtain ⟨h1, h2, h3, h4, h5⟩ := HRO.out V hV
                            go_simp
                            exact rfl
                          rename_i Kq hq; clear hq Kq
                          (go_big_quiet_want; apply Exists.intro; refine ⟨fun V hV => ?_, ?_⟩; rotate_left; go_big_quiet_on; (try simp only [Act.put, List.setIfInBounds_toArray, List.set_cons_zero, List.set_cons_succ]); rotate_right)
                          · go_simp
                            exact rfl
                          rename_i Kq hq; clear hq Kq
                          (go_big_quiet_want; apply Exists.intro; refine ⟨fun V hV => ?_, ?_⟩; rotate_left; go_big_quiet_on; (try simp only [Act.put, List.setIfInBounds_toArray, List.set_cons_zero, List.set_cons_succ]); rotate_right)
                          · go_simp
                            exact rfl
                          rename_i Kq hq; clear hq Kq
                          (go_big_quiet_want; apply Exists.intro; refine ⟨fun V hV => ?_, ?_⟩; rotate_left; go_big_quiet_on; (try simp only [Act.put, List.setIfInBounds_toArray, List.set_cons_zero, List.set_cons_succ]); rotate_right)
                          · go_simp
                            exact rfl
                          rename_i Kq hq; clear hq Kq
                          (go_big_quiet_want; apply Exists.intro; refine ⟨fun V hV => ?_, ?_⟩; rotate_left; go_big_quiet_on; (try simp only [Act.put, List.setIfInBounds_toArray, List.set_cons_zero, List.set_cons_succ]); rotate_right)
                          · obtain ⟨h1, h2, h3, h4, h5⟩ := HRO.out V hV
                            go_simp
                            exact rfl
                          rename_i Kq hq; clear hq Kq
                          (go_big_quiet_want; apply Exists.intro; refine ⟨fun V hV => ?_, ?_⟩; rotate_left; go_big_quiet_on; (try simp only [Act.put, List.setIfInBounds_toArray, List.set_cons_zero, List.set_cons_succ]); rotate_right)
                          · go_simp
                            exact rfl
                          rename_i Kq hq; clear hq Kq
                          (go_big_quiet_want; apply Exists.intro; refine ⟨fun V hV => ?_, ?_⟩; rotate_left; go_big_quiet_on; (try simp only [Act.put, List.setIfInBounds_toArray, List.set_cons_zero, List.set_cons_succ]); rotate_right)
                          · go_simp
                            exact rfl
                          rename_i Kq hq; clear hq Kq
                          (go_big_quiet_want; apply Exists.intro; refine ⟨fun V hV => ?_, ?_⟩; rotate_left; go_big_quiet_on; (try simp only [Act.put, List.setIfInBounds_toArray, List.set_cons_zero, List.set_cons_succ]); rotate_right)
                          · go_simp
                            exact rfl
                          rename_i Kq hq; clear hq Kq
                          (go_big_quiet_want; apply Exists.intro; refine ⟨fun V hV => ?_, ?_⟩; rotate_left; go_big_quiet_on; (try simp only [Act.put, List.setIfInBounds_toArray, List.set_cons_zero, List.set_cons_succ]); rotate_right)
                          · go_simp
                            exact rfl
                          rename_i Kq hq; clear hq Kq
                          (go_big_quiet_want; apply Exists.intro; refine ⟨fun V hV => ?_, ?_⟩; rotate_left; go_big_quiet_on; (try simp only [Act.put, List.setIfInBounds_toArray, List.set_cons_zero, List.set_cons_succ]); rotate_right)
                          · go_simp
                            exact rfl
                          rename_i Kq hq; clear hq Kq
                          (go_big_quiet_want; apply Exists.intro; refine ⟨fun V hV => ?_, ?_⟩; rotate_left; go_big_quiet_on; (try simp only [Act.put, List.setIfInBounds_toArray, List.set_cons_zero, List.set_cons_succ]); rotate_right)
                          · go_simp
                            exact rfl
                          rename_i Kq hq; clear hq Kq
                          (go_big_quiet_want; apply Exists.intro; refine ⟨fun V hV => ?_, ?_⟩; rotate_left; go_big_quiet_on; (try simp only [Act.put, List.setIfInBounds_toArray, List.set_cons_zero, List.set_cons_succ]); rotate_right)
                          · obtain ⟨h1, h2, h3, h4, h5⟩ := HRO.out V hV
                            go_simp
                            exact rfl
                          rename_i Kq hq; clear hq Kq
                          (go_big_quiet_want; apply Exists.intro; refine ⟨fun V hV => ?_, ?_⟩; rotate_left; go_big_quiet_on; (try simp only [Act.put, List.setIfInBounds_toArray, List.set_cons_zero, List.set_cons_succ]); rotate_right)
                          · go_simp
                            exact rfl
                          rename_i Kq hq; clear hq Kq
                          (go_big_quiet_want; apply Exists.intro; refine ⟨fun V hV => ?_, ?_⟩; rotate_left; go_big_quiet_on; (try simp only [Act.put, List.setIfInBounds_toArray, List.set_cons_zero, List.set_cons_succ]); rotate_right)
                          · go_simp
                            exact rfl
                          rename_i Kq hq; clear hq Kq
                          (go_big_quiet_want; apply Exists.intro; refine ⟨fun V hV => ?_, ?_⟩; rotate_left; go_big_quiet_on; (try simp only [Act.put, List.setIfInBounds_toArray, List.set_cons_zero, List.set_cons_succ]); rotate_right)
                          · go_simp
                            exact rfl
                          rename_i Kq hq; clear hq Kq
                          (go_big_quiet_want; apply Exists.intro; refine ⟨fun V hV => ?_, ?_⟩; rotate_left; go_big_quiet_on; (try simp only [Act.put, List.setIfInBounds_toArray, List.set_cons_zero, List.set_cons_succ]); rotate_right)
                          · go_simp
                            exact rfl
                          rename_i Kq hq; clear hq Kq
                          (go_big_quiet_want; apply Exists.intro; refine ⟨fun V hV => ?_, ?_⟩; rotate_left; go_big_quiet_on; (try simp only [Act.put, List.setIfInBounds_toArray, List.set_cons_zero, List.set_cons_succ]); rotate_right)
                          · obtain ⟨h1, h2, h3, h4, h5⟩ := HRO.out V hV
                            go_simp
                            exact rfl
                          rename_i Kq hq; clear hq Kq
                          (go_big_quiet_want; apply Exists.intro; refine ⟨fun V hV => ?_, ?_⟩; rotate_left; go_big_quiet_on; (try simp only [Act.put, List.setIfInBounds_toArray, List.set_cons_zero, List.set_cons_succ]); rotate_right)
                          · go_simp
                            exact rfl
                          rename_i Kq hq; clear hq Kq
                          (go_big_quiet_want; apply Exists.intro; refine ⟨fun V hV => ?_, ?_⟩; rotate_left; go_big_quiet_on; (try simp only [Act.put, List.setIfInBounds_toArray, List.set_cons_zero, List.set_cons_succ]); rotate_right)
                          · go_simp
                            exact rfl
                          rename_i Kq hq; clear hq Kq
                          (go_big_quiet_want; apply Exists.intro; refine ⟨fun V hV => ?_, ?_⟩; rotate_left; go_big_quiet_on; (try simp only [Act.put, List.setIfInBounds_toArray, List.set_cons_zero, List.set_cons_succ]); rotate_right)
                          · go_simp
                            exact rfl
                          rename_i Kq hq; clear hq Kq
                          (go_big_quiet_want; apply Exists.intro; refine ⟨fun V hV => ?_, ?_⟩; rotate_left; go_big_quiet_on; (try simp only [Act.put, List.setIfInBounds_toArray, List.set_cons_zero, List.set_cons_succ]); rotate_right)
                          · go_simp
                            exact rfl
                          rename_i Kq hq; clear hq Kq
                          (go_big_quiet_want; apply Exists.intro; refine ⟨fun V hV => ?_, ?_⟩; rotate_left; go_big_quiet_on; (try simp only [Act.put, List.setIfInBounds_toArray, List.set_cons_zero, List.set_cons_succ]); rotate_right)
                          · go_simp
                            exact rfl
                          rename_i Kq hq; clear hq Kq
                          (go_big_quiet_want; apply Exists.intro; refine ⟨fun V hV => ?_, ?_⟩; rotate_left; go_big_quiet_on; (try simp only [Act.put, List.setIfInBounds_toArray, List.set_cons_zero, List.set_cons_succ]); rotate_right)
                          · go_simp
                            exact rfl
                          rename_i Kq hq; clear hq Kq
                          (go_big_quiet_want; apply Exists.intro; refine ⟨fun V hV => ?_, ?_⟩; rotate_left; go_big_quiet_on; (try simp only [Act.put, List.setIfInBounds_toArray, List.set_cons_zero, List.set_cons_succ]); rotate_right)
                          · go_simp
                            exact rfl
                          rename_i Kq hq; clear hq Kq
                          (go_big_quiet_want; apply Exists.intro; refine ⟨fun V hV => ?_, ?_⟩; rotate_left; go_big_quiet_on; (try simp only [Act.put, List.setIfInBounds_toArray, List.set_cons_zero, List.set_cons_succ]); rotate_right)
                          · obtain ⟨h1, h2, h3, h4, h5⟩ := HRO.out V hV
                            go_simp
                            exact rfl
                          rename_i Kq hq; clear hq Kq
                          (go_big_quiet_want; apply Exists.intro; refine ⟨fun V hV => ?_, ?_⟩; rotate_left; go_big_quiet_on; (try simp only [Act.put, List.setIfInBounds_toArray, List.set_cons_zero, List.set_cons_succ]); rotate_right)
                          · go_simp
                            exact rfl
                          rename_i Kq hq; clear hq Kq
                          (go_big_quiet_want; apply Exists.intro; refine ⟨fun V hV => ?_, ?_⟩; rotate_left; go_big_quiet_on; (try simp only [Act.put, List.setIfInBounds_toArray, List.set_cons_zero, List.set_cons_succ]); rotate_right)
                          · go_simp
                            exact rfl
                          rename_i Kq hq; clear hq Kq
                          (go_big_quiet_want; apply Exists.intro; refine ⟨fun V hV => ?_, ?_⟩; rotate_left; go_big_quiet_on; (try simp only [Act.put, List.setIfInBounds_toArray, List.set_cons_zero, List.set_cons_succ]); rotate_right)
                          · go_simp
                            exact rfl
                          rename_i Kq hq; clear hq Kq
                          (go_big_quiet_want; apply Exists.intro; refine ⟨fun V hV => ?_, ?_⟩; rotate_left; go_big_quiet_on; (try simp only [Act.put, List.setIfInBounds_toArray, List.set_cons_zero, List.set_cons_succ]); rotate_right)
                          · go_simp
                            exact rfl
                          rename_i Kq hq; clear hq Kq
                          (go_big_quiet_want; apply Exists.intro; refine ⟨fun V hV => ?_, ?_⟩; rotate_left; go_big_quiet_on; (try simp only [Act.put, List.setIfInBounds_toArray, List.set_cons_zero, List.set_cons_succ]); rotate_right)
                          · obtain ⟨h1, h2, h3, h4, h5⟩ := HRO.out V hV
                            go_simp
                            exact rfl
                          rename_i Kq hq; clear hq Kq
                          (go_big_quiet_want; apply Exists.intro; refine ⟨fun V hV => ?_, ?_⟩; rotate_left; go_big_quiet_on; (try simp only [Act.put, List.setIfInBounds_toArray, List.set_cons_zero, List.set_cons_succ]); rotate_right)
                          · go_simp
                            exact rfl
                          rename_i Kq hq; clear hq Kq
                          (go_big_quiet_want; apply Exists.intro; refine ⟨fun V hV => ?_, ?_⟩; rotate_left; go_big_quiet_on; (try simp only [Act.put, List.setIfInBounds_toArray, List.set_cons_zero, List.set_cons_succ]); rotate_right)
                          · go_simp
                            exact rfl
                          rename_i Kq hq; clear hq Kq
                          (go_big_quiet_want; apply Exists.intro; refine ⟨fun V hV => ?_, ?_⟩; rotate_left; go_big_quiet_on; (try simp only [Act.put, List.setIfInBounds_toArray, List.set_cons_zero, List.set_cons_succ]); rotate_right)
                          · go_simp
                            exact rfl
                          rename_i Kq hq; clear hq Kq
                          refine wpQuiet_nil ?_
                          intro w8 k8
                          have K8 := Lib.hid k8
                          clear k8
                          obtain ⟨h1, h2, h3, h4, h5⟩ := HRO.out w8 K8.out
                          go_wp2_with fail
                          clear h1 h2 h3 h4 h5
                          go_loopw [392] (fun v wr => ∃ p : Nat, p ≤ ln ∧ v = .int .i64 p ∧ Kept [] wq wr) (fun v _ => ln - (intOf v).toNat)
                          case atStart => exact ⟨0, Nat.zero_le _, rfl, K8.out⟩
                          case round =>
                            clear K8
                            obtain ⟨z, hz, rfl, hkr⟩ := hrel
                            obtain ⟨ws, rfl⟩ : ∃ v : World, v = wr := ⟨_, rfl⟩
                            have KS := Lib.hid hkr
                            clear hkr
                            by_cases hlz : z < ln
                            · as_aux_lemma =>
                              have hzr : z < row.length := by rw [← HLN.out]; exact hlz
                              obtain ⟨ad1, rfl, v1'⟩ := HR1.out z hzr
                              obtain ⟨ad2, rfl, v2'⟩ := HR2.out z hzr
                              obtain ⟨ad3, rfl, v3'⟩ := HR3.out z hzr
                              generalize row[z] = val at *
                              have HRV := Lib.hid (fun (V : World) (hV : Kept [] ws V) => And.intro (HRO.out V (KS.out.trans hV)) (And.intro ((KS.out.trans hV).cell v1' (by simp)) (And.intro ((KS.out.trans hV).cell v2' (by simp)) ((KS.out.trans hV).cell v3' (by simp)))))
                              have z0 : (0 : Int) ≤ (z : Int) := by omega
                              have z1 : (z : Int) < (ln : Int) := by omega
                              clear v1' v2' v3' hzr
                              go_upto_region 57 with (fail)
                              refine wp_region_keptW (by kernel_rfl) ?_
                              (go_big_quiet_want; apply Exists.intro; refine ⟨fun V hV => ?_, ?_⟩; rotate_left; go_big_quiet_on; (try simp only [Act.put, List.setIfInBounds_toArray, List.set_cons_zero, List.set_cons_succ]); rotate_right)
                              · go_simp
                                exact rfl
                              rename_i Kq hq; clear hq Kq
                              (go_big_quiet_want; apply Exists.intro; refine ⟨fun V hV => ?_, ?_⟩; rotate_left; go_big_quiet_on; (try simp only [Act.put, List.setIfInBounds_toArray, List.set_cons_zero, List.set_cons_succ]); rotate_right)
                              · go_simp
                                exact rfl
                              rename_i Kq hq; clear hq Kq
                              (go_big_quiet_want; apply Exists.intro; refine ⟨fun V hV => ?_, ?_⟩; rotate_left; go_big_quiet_on; (try simp only [Act.put, List.setIfInBounds_toArray, List.set_cons_zero, List.set_cons_succ]); rotate_right)
                              · go_simp
                                exact rfl
                              rename_i Kq hq; clear hq Kq
                              (go_big_quiet_want; apply Exists.intro; refine ⟨fun V hV => ?_, ?_⟩; rotate_left; go_big_quiet_on; (try simp only [Act.put, List.setIfInBounds_toArray, List.set_cons_zero, List.set_cons_succ]); rotate_right)
                              · obtain ⟨⟨h1, h2, h3, h4, h5⟩, u1, u2, u3⟩ := HRV.out V hV
                                go_simp
                                exact rfl
                              rename_i Kq hq; clear hq Kq
                              (go_big_quiet_want; apply Exists.intro; refine ⟨fun V hV => ?_, ?_⟩; rotate_left; go_big_quiet_on; (try simp only [Act.put, List.setIfInBounds_toArray, List.set_cons_zero, List.set_cons_succ]); rotate_right)
                              · go_simp
                                exact rfl
                              rename_i Kq hq; clear hq Kq
                              (go_big_quiet_want; apply Exists.intro; refine ⟨fun V hV => ?_, ?_⟩; rotate_left; go_big_quiet_on; (try simp only [Act.put, List.setIfInBounds_toArray, List.set_cons_zero, List.set_cons_succ]); rotate_right)
                              · go_simp
                                exact rfl
                              rename_i Kq hq; clear hq Kq
                              (go_big_quiet_want; apply Exists.intro; refine ⟨fun V hV => ?_, ?_⟩; rotate_left; go_big_quiet_on; (try simp only [Act.put, List.setIfInBounds_toArray, List.set_cons_zero, List.set_cons_succ]); rotate_right)
                              · obtain ⟨⟨h1, h2, h3, h4, h5⟩, u1, u2, u3⟩ := HRV.out V hV
                                go_simp
                                exact rfl
                              rename_i Kq hq; clear hq Kq
                              (go_big_quiet_want; apply Exists.intro; refine ⟨fun V hV => ?_, ?_⟩; rotate_left; go_big_quiet_on; (try simp only [Act.put, List.setIfInBounds_toArray, List.set_cons_zero, List.set_cons_succ]); rotate_right)
                              · go_simp
                                exact rfl
                              rename_i Kq hq; clear hq Kq
                              (go_big_quiet_want; apply Exists.intro; refine ⟨fun V hV => ?_, ?_⟩; rotate_left; go_big_quiet_on; (try simp only [Act.put, List.setIfInBounds_toArray, List.set_cons_zero, List.set_cons_succ]); rotate_right)
                              · go_simp
                                exact rfl
                              rename_i Kq hq; clear hq Kq
                              (go_big_quiet_want; apply Exists.intro; refine ⟨fun V hV => ?_, ?_⟩; rotate_left; go_big_quiet_on; (try simp only [Act.put, List.setIfInBounds_toArray, List.set_cons_zero, List.set_cons_succ]); rotate_right)
                              · go_simp
                                exact rfl
                              rename_i Kq hq; clear hq Kq
                              (go_big_quiet_want; apply Exists.intro; refine ⟨fun V hV => ?_, ?_⟩; rotate_left; go_big_quiet_on; (try simp only [Act.put, List.setIfInBounds_toArray, List.set_cons_zero, List.set_cons_succ]); rotate_right)
                              · obtain ⟨⟨h1, h2, h3, h4, h5⟩, u1, u2, u3⟩ := HRV.out V hV
                                go_simp
                                exact rfl
                              rename_i Kq hq; clear hq Kq
                              (go_big_quiet_want; apply Exists.intro; refine ⟨fun V hV => ?_, ?_⟩; rotate_left; go_big_quiet_on; (try simp only [Act.put, List.setIfInBounds_toArray, List.set_cons_zero, List.set_cons_succ]); rotate_right)
                              · go_simp
                                exact rfl
                              rename_i Kq hq; clear hq Kq
                              (go_big_quiet_want; apply Exists.intro; refine ⟨fun V hV => ?_, ?_⟩; rotate_left; go_big_quiet_on; (try simp only [Act.put, List.setIfInBounds_toArray, List.set_cons_zero, List.set_cons_succ]); rotate_right)
                              · go_simp
                                exact rfl
                              rename_i Kq hq; clear hq Kq
                              (go_big_quiet_want; apply Exists.intro; refine ⟨fun V hV => ?_, ?_⟩; rotate_left; go_big_quiet_on; (try simp only [Act.put, List.setIfInBounds_toArray, List.set_cons_zero, List.set_cons_succ]); rotate_right)
                              · obtain ⟨⟨h1, h2, h3, h4, h5⟩, u1, u2, u3⟩ := HRV.out V hV
                                go_simp
                                exact rfl
                              rename_i Kq hq; clear hq Kq
                              (go_big_quiet_want; apply Exists.intro; refine ⟨fun V hV => ?_, ?_⟩; rotate_left; go_big_quiet_on; (try simp only [Act.put, List.setIfInBounds_toArray, List.set_cons_zero, List.set_cons_succ]); rotate_right)
                              · go_simp
                                exact rfl
                              rename_i Kq hq; clear hq Kq
                              (go_big_quiet_want; apply Exists.intro; refine ⟨fun V hV => ?_, ?_⟩; rotate_left; go_big_quiet_on; (try simp only [Act.put, List.setIfInBounds_toArray, List.set_cons_zero, List.set_cons_succ]); rotate_right)
                              · go_simp
                                exact rfl
                              rename_i Kq hq; clear hq Kq
                              (go_big_quiet_want; apply Exists.intro; refine ⟨fun V hV => ?_, ?_⟩; rotate_left; go_big_quiet_on; (try simp only [Act.put, List.setIfInBounds_toArray, List.set_cons_zero, List.set_cons_succ]); rotate_right)
                              · go_simp
                                exact rfl
                              rename_i Kq hq; clear hq Kq
                              (go_big_quiet_want; apply Exists.intro; refine ⟨fun V hV => ?_, ?_⟩; rotate_left; go_big_quiet_on; (try simp only [Act.put, List.setIfInBounds_toArray, List.set_cons_zero, List.set_cons_succ]); rotate_right)
                              · go_simp
                                exact rfl
                              rename_i Kq hq; clear hq Kq
                              (go_big_quiet_want; apply Exists.intro; refine ⟨fun V hV => ?_, ?_⟩; rotate_left; go_big_quiet_on; (try simp only [Act.put, List.setIfInBounds_toArray, List.set_cons_zero, List.set_cons_succ]); rotate_right)
                              · go_simp
                                exact rfl
                              rename_i Kq hq; clear hq Kq
                              (go_big_quiet_want; apply Exists.intro; refine ⟨fun V hV => ?_, ?_⟩; rotate_left; go_big_quiet_on; (try simp only [Act.put, List.setIfInBounds_toArray, List.set_cons_zero, List.set_cons_succ]); rotate_right)
                              · obtain ⟨⟨h1, h2, h3, h4, h5⟩, u1, u2, u3⟩ := HRV.out V hV
                                go_simp
                                exact rfl
                              rename_i Kq hq; clear hq Kq
                              (go_big_quiet_want; apply Exists.intro; refine ⟨fun V hV => ?_, ?_⟩; rotate_left; go_big_quiet_on; (try simp only [Act.put, List.setIfInBounds_toArray, List.set_cons_zero, List.set_cons_succ]); rotate_right)
                              · go_simp
                                exact rfl
                              rename_i Kq hq; clear hq Kq
                              (go_big_quiet_want; apply Exists.intro; refine ⟨fun V hV => ?_, ?_⟩; rotate_left; go_big_quiet_on; (try simp only [Act.put, List.setIfInBounds_toArray, List.set_cons_zero, List.set_cons_succ]); rotate_right)
                              · go_simp
                                exact rfl
                              rename_i Kq hq; clear hq Kq
                              (go_big_quiet_want; apply Exists.intro; refine ⟨fun V hV => ?_, ?_⟩; rotate_left; go_big_quiet_on; (try simp only [Act.put, List.setIfInBounds_toArray, List.set_cons_zero, List.set_cons_succ]); rotate_right)
                              · obtain ⟨⟨h1, h2, h3, h4, h5⟩, u1, u2, u3⟩ := HRV.out V hV
                                go_simp
                                exact rfl
                              rename_i Kq hq; clear hq Kq
                              (go_big_quiet_want; apply Exists.intro; refine ⟨fun V hV => ?_, ?_⟩; rotate_left; go_big_quiet_on; (try simp only [Act.put, List.setIfInBounds_toArray, List.set_cons_zero, List.set_cons_succ]); rotate_right)
                              · go_simp
                                exact rfl
                              rename_i Kq hq; clear hq Kq
                              (go_big_quiet_want; apply Exists.intro; refine ⟨fun V hV => ?_, ?_⟩; rotate_left; go_big_quiet_on; (try simp only [Act.put, List.setIfInBounds_toArray, List.set_cons_zero, List.set_cons_succ]); rotate_right)
                              · go_simp
                                exact rfl
                              rename_i Kq hq; clear hq Kq
                              (go_big_quiet_want; apply Exists.intro; refine ⟨fun V hV => ?_, ?_⟩; rotate_left; go_big_quiet_on; (try simp only [Act.put, List.setIfInBounds_toArray, List.set_cons_zero, List.set_cons_succ]); rotate_right)
                              · go_simp
                                exact rfl
                              rename_i Kq hq; clear hq Kq
                              (go_big_quiet_want; apply Exists.intro; refine ⟨fun V hV => ?_, ?_⟩; rotate_left; go_big_quiet_on; (try simp only [Act.put, List.setIfInBounds_toArray, List.set_cons_zero, List.set_cons_succ]); rotate_right)
                              · obtain ⟨⟨h1, h2, h3, h4, h5⟩, u1, u2, u3⟩ := HRV.out V hV
                                go_simp
                                exact rfl
                              rename_i Kq hq; clear hq Kq
                              (go_big_quiet_want; apply Exists.intro; refine ⟨fun V hV => ?_, ?_⟩; rotate_left; go_big_quiet_on; (try simp only [Act.put, List.setIfInBounds_toArray, List.set_cons_zero, List.set_cons_succ]); rotate_right)
                              · go_simp
                                exact rfl
                              rename_i Kq hq; clear hq Kq
                              (go_big_quiet_want; apply Exists.intro; refine ⟨fun V hV => ?_, ?_⟩; rotate_left; go_big_quiet_on; (try simp only [Act.put, List.setIfInBounds_toArray, List.set_cons_zero, List.set_cons_succ]); rotate_right)
                              · go_simp
                                exact rfl
                              rename_i Kq hq; clear hq Kq
                              (go_big_quiet_want; apply Exists.intro; refine ⟨fun V hV => ?_, ?_⟩; rotate_left; go_big_quiet_on; (try simp only [Act.put, List.setIfInBounds_toArray, List.set_cons_zero, List.set_cons_succ]); rotate_right)
                              · obtain ⟨⟨h1, h2, h3, h4, h5⟩, u1, u2, u3⟩ := HRV.out V hV
                                go_simp
                                exact rfl
                              rename_i Kq hq; clear hq Kq
                              (go_big_quiet_want; apply Exists.intro; refine ⟨fun V hV => ?_, ?_⟩; rotate_left; go_big_quiet_on; (try simp only [Act.put, List.setIfInBounds_toArray, List.set_cons_zero, List.set_cons_succ]); rotate_right)
                              · go_simp
                                exact rfl
                              rename_i Kq hq; clear hq Kq
                              (go_big_quiet_want; apply Exists.intro; refine ⟨fun V hV => ?_, ?_⟩; rotate_left; go_big_quiet_on; (try simp only [Act.put, List.setIfInBounds_toArray, List.set_cons_zero, List.set_cons_succ]); rotate_right)
                              · go_simp
                                exact rfl
                              rename_i Kq hq; clear hq Kq
                              refine wpQuiet_nil ?_
                              intro w9 k9
                              have K9 := Lib.hid (KS.out.trans k9)
                              clear k9
                              go_wp2_with fail
                              go_roundw
                              case rel => exact ⟨z + 1, by omega, by go_num, K9.out⟩
                              case measure => simp [intOf]; omega
                            · as_aux_lemma =>
                              obtain rfl : z = ln := by omega
                              have K9 := Lib.hid (KQ.out.trans KS.out)
                              go_wp2_with fail
                              go_roundw
                              case rel => exact ⟨q + 1, by omega, by go_num, K9.out⟩
                              case measure => simp [intOf]; omega
                        · as_aux_lemma =>
                          obtain rfl : q = nO := by omega
                          have SE := Lib.hid (SD.out.kept0 KQ.out)
                          go_wp2_with fail
                          go_roundw
                          case rel => exact ⟨i + 1, R1, R2, R3, by omega, by omega, by go_num, SE.out⟩
                          case measure => simp [intOf]; omega
                · as_aux_lemma =>
                  obtain rfl : i = 20 := by omega
                  have j1 : ¬ (20 : Int) < 20 := by omega
                  have j2 : (20 : Int) < (clen : Int) := by omega
                  go_wp2_with fail
                  refine (HT.out _).mono ?_
                  rintro e w9 ⟨rfl, k9⟩
                  have K9 := Lib.hid ((K4.out.trans KI.out).trans k9)
                  clear k9
                  go_wp2_with fail
                  go_ret
                  exact ⟨rfl, K9.out⟩
              · as_aux_lemma =>
                have j1 : ¬ (i : Int) < (clen : Int) := by omega
                go_wp2_with fail
                refine (HT.out _).mono ?_
                rintro e w9 ⟨rfl, k9⟩
                have K9 := Lib.hid ((K4.out.trans KI.out).trans k9)
                clear k9
                go_wp2_with fail
                go_ret
                exact ⟨rfl, K9.out⟩
end Go.Proofs.YtdmcdhkkbkgnbaaGreat
