/-
  SweepNeeds: who is needed: the walk.
-/
import Derived.Test.YtdmcdhkkbkgnbaaGreatQSwJ
import Derived.Test.YtdmcdhkkbkgnbaaGreatQSwK
import Derived.Test.YtdmcdhkkbkgnbaaGreatQSwR
namespace Go.Proofs.YtdmcdhkkbkgnbaaGreat
open Go.ChangeShapes Go.WideShapes Go.ChangeAt Go.RowKit
open Go.Maps (Keyed)
open Go.WideMaps
set_option linter.unusedVariables false
set_option linter.unusedSimpArgs false

variable {w w' W w0 : World} {p n k m : Nat} {F R F' R' : List Nat} {N M : Nt}
/-- nodes that were met -/
def seenF (l : List Nat) : Nat → Option Nat := fun x => if x ∈ l then some 1 else none
theorem seenF_nil : seenF [] = fun _ => none := by funext x; simp [seenF]
theorem seenF_snoc (l : List Nat) (x : Nat) : (fun y => if y = x then some 1 else seenF l y) = seenF (l ++ [x]) := by
  funext y
  unfold seenF
  by_cases h : y = x
  · simp [h]
  · simp [h]
theorem PlMap.look0 {φ : Nat → Option Nat} (h : PlMap w m φ) (x : Nat) (hx : x < 4294967296) : (Instr.lookup 71 (.map (some m)) (.int .i64 (x : Int)) false).run Tryz.prog w = .ok (.int .i64 ((φ x).getD 0 : Nat)) w := by
  obtain ⟨kl, hkl⟩ := i64_key x hx
  have h2 := MapV.look h false i64_law Tryz.underlying71 (int_zero' _) hkl
  rw [intF_get] at h2
  cases hφ : φ x <;> rw [hφ] at h2 <;> simpa using h2
theorem gateA_vals {ns : Gr} {x : Nat} (hx : x < ns.nodes.length) : gateA ns (x : Int) = if gAt ns.nodes x then (gA ns.nodes x, gB ns.nodes x, true) else (0, 0, false) := by
  have h := gateA_is (g := ns) (k := x) (a := ns.nodes[x].1) (b := ns.nodes[x].2) (by rw [List.getElem?_eq_getElem hx])
  rw [h]
  have e1 : gAt ns.nodes x = (decide (¬ (ns.nodes[x].1 / 2 = x)) && decide (x ≠ 0)) := by
    unfold gAt
    rw [List.getD_eq_getElem?_getD, List.getElem?_eq_getElem hx]
    by_cases h0 : x = 0
    · subst h0; simp
    · have h1 : 1 ≤ x := by omega
      simp [Bool.and_comm, h0, h1, hx]
  have e2 : gA ns.nodes x = ns.nodes[x].1 := by unfold gA; rw [List.getD_eq_getElem?_getD, List.getElem?_eq_getElem hx]; rfl
  have e3 : gB ns.nodes x = ns.nodes[x].2 := by unfold gB; rw [List.getD_eq_getElem?_getD, List.getElem?_eq_getElem hx]; rfl
  rw [e1, e2, e3]
  by_cases h1 : ns.nodes[x].1 / 2 = x <;> by_cases h2 : x = 0 <;> simp [h1, h2]
/-- what leads on from a node, half done -/
def gateP (N : Nt) (x : Nat) : List Nat := if gAt N.g.nodes x then [gA N.g.nodes x, gB N.g.nodes x] else []
def succTo (N : Nt) (x j : Nat) : List Nat := gateP N x ++ (N.regs.take j).flatMap fun r => if r.q / 2 = x then [r.d, r.en] else []
theorem succTo_all (N : Nt) (x : Nat) : succTo N x N.regs.length = succN N x := by unfold succTo succN gateP; rw [List.take_length]
theorem succTo_next {x j : Nat} {r : Rg} (h : N.regs[j]? = some r) : succTo N x (j + 1) = succTo N x j ++ (if r.q / 2 = x then [r.d, r.en] else []) := by
  obtain ⟨h1, h2⟩ := List.getElem?_eq_some_iff.1 h
  unfold succTo
  rw [List.take_succ_eq_append_getElem h1, List.flatMap_append, h2, List.append_assoc]
  simp
theorem succTo_few (N : Nt) (x j : Nat) : (succTo N x j).length ≤ 2 + 2 * j := by
  induction j with
  | zero => unfold succTo gateP; split <;> simp
  | succ j ih =>
    cases h : N.regs[j]? with
    | none =>
      have hl := List.getElem?_eq_none_iff.1 h
      unfold succTo at *
      rw [List.take_of_length_le (by omega)]
      rw [List.take_of_length_le hl] at ih
      omega
    | some r =>
      rw [succTo_next h, List.length_append]
      split <;> simp <;> omega
theorem rgCells_set3 (l : List Rg) (k d en : Nat) (i : Bool) (hk : k < l.length) : rgCells (l.set k ⟨l[k].q, d, en, i⟩) = (((rgCells l).set (k * 4 + 3) (.bool i)).set (k * 4 + 1) (.int .u32 (d : Int))).set (k * 4 + 2) (.int .u32 (en : Int)) := by
  induction l generalizing k with
  | nil => simp at hk
  | cons r l ih =>
    cases k with
    | zero => simp [rgCells]
    | succ k =>
      have h := ih k (by simpa using hk)
      have e1 : (k + 1) * 4 + 1 = k * 4 + 1 + 1 + 1 + 1 + 1 := by omega
      have e2 : (k + 1) * 4 + 2 = k * 4 + 2 + 1 + 1 + 1 + 1 := by omega
      have e3 : (k + 1) * 4 + 3 = k * 4 + 3 + 1 + 1 + 1 + 1 := by omega
      rw [e1, e2, e3]
      simp only [List.set_cons_succ, List.getElem_cons_succ] at h ⊢
      simp only [rgCells, List.flatMap_cons] at h ⊢
      rw [h]
      rfl
set_option maxHeartbeats 6400000 in
set_option maxRecDepth 100000 in
theorem sweep_needs (o1 o2 : Bool) (sa : Option Addr) (sl : List NStp) (sc len : Nat) (w : World) (hlen : sl.length = len) (hss : SlNStepsC w sa sl) (hso : ∀ s ∈ sl, s.ok) :
    Calls Tryz.prog 5 #[.agg #[.bool o1, .bool o2], .slice sa len sc] w (YesK w) := by
  have HB := Lib.hid (fun (W : World) (hk : Kept [] w W) => built30 o1 o2 sa sl sc len W hlen (fun k hk' => by
    exact (hss.kept0 hk) k hk') hso)
  have HT := Lib.hid (fun (W : World) => tells30 W)
  clear hlen hss hso
  have hmm := @run_makeMap Tryz.prog
  go_enter Tryz.func5, Tryz.ntmps5; (try simp only [List.append])
  go_wp2_with fail
  refine (HB.out _ ((Kept.refl [] w).alloc _)).mono ?_
  intro e w1 hx
  obtain ⟨n, NF, NR, q, F2, R2, he, hx⟩ := hx
  subst he
  have hnet := hx.net
  have K1 := Lib.hid (((Kept.refl [] w).alloc (.cells #[.bool o1, .bool o2] 23)).trans hx.kept)
  have hfine := builtN_fine false o1 o2 sl 60
  generalize builtN false o1 o2 sl 60 = N at *
  have HN1 := Lib.hid hnet
  have HFI := Lib.hid hfine
  have HCK := Lib.hid (check_c hnet hfine (by omega))
  clear hx hnet hfine HB
  obtain ⟨cn, hcn⟩ : ∃ c, c = checkN N := ⟨_, rfl⟩
  have HCN := Lib.hid hcn
  rw [← hcn] at HCK
  clear hcn
  go_wp2_with fail
  refine HCK.out.mono ?_
  rintro e w2 ⟨rfl, k2⟩
  have K12 := Lib.hid k2
  have K2 := Lib.hid (K1.out.trans k2)
  clear k2
  by_cases h0 : cn = 0
  case neg =>
    have h1 : ¬ (cn : Int) = 0 := by omega
    go_wp2_with fail
    refine (HT.out _).mono ?_
    rintro e w3 ⟨rfl, k3⟩
    have K3 := Lib.hid (K2.out.trans k3)
    clear k3
    go_wp2_with fail
    go_ret
    exact ⟨rfl, K3.out⟩
  case pos =>
    subst h0
    have N2 := Lib.hid (HN1.out.kept0 K12.out)
    have hnd := Needed_c N2.out HFI.out (by omega)
    rw [if_pos HCN.out.symm] at hnd
    have HND := Lib.hid hnd
    clear hnd
    go_wp2_with fail
    refine HND.out.mono ?_
    rintro e w3 ⟨gd, rfl, ho3, k3, hge3⟩
    obtain ⟨nR, hnR⟩ : ∃ v, v = N.regs.length := ⟨_, rfl⟩
    obtain ⟨nO, hnO⟩ : ∃ v, v = N.outb.length := ⟨_, rfl⟩
    have HNR := Lib.hid hnR
    have HNO := Lib.hid hnO
    have hnr : nR ≤ 60 := by rw [hnR]; have := HFI.out.ok.rk; omega
    have hno : nO ≤ 60 := by rw [hnO]; have := HFI.out.ok.ok; omega
    have HLN := Lib.hid (needed_length HFI.out)
    rw [HLN.out, ← hnR] at ho3 ⊢
    have K3 := Lib.hid (K2.out.trans k3)
    have N3 := Lib.hid (N2.out.kept0 k3)
    have HO3 := Lib.hid ho3
    obtain ⟨pn, G, ia, ic, ra, rc, oa, oc, ri, ro, hFn, hRn, hc⟩ := N3.out
    have HC := Lib.hid hc
    have c3 := hc.c3
    have c4 := hc.c4
    rw [← hnR] at c3
    rw [← hnO] at c4
    have HRL := Lib.hid (show ro.length = nO from by rw [hnO, ← hc.ob.is]; simp)
    clear ho3 k3 hge3 hnR hnO hFn hRn hc
    go_upto_region 11 with (fail)
    have hmp := MapV.new w3 Tryz.prog 3
    rw [intF_none, ← seenF_nil] at hmp
    obtain ⟨w8, hw8⟩ : ∃ v, v = w3.alloc (Obj.map #[] 0) := ⟨_, rfl⟩
    obtain ⟨mp, hmpe⟩ : ∃ v, v = w3.heap.size := ⟨_, rfl⟩
    have K38 := Lib.hid (show Kept [] w3 w8 from by rw [hw8]; exact (Kept.refl [] w3).alloc _)
    rw [← hw8, ← hmpe] at hmp
    rw [← hw8, ← hmpe]
    have HMP := Lib.hid (show PlMap w8 mp (seenF []) from hmp)
    have HMG := Lib.hid (show w3.heap.size ≤ mp from by rw [hmpe]; exact Nat.le_refl _)
    have c4' := K38.out.cell c4 (by simp)
    clear hw8 hmpe hmp c3 c4
    go_wp2_with fail
    clear c4'
    go_loopw [10, 61] (fun v i wr => ∃ (m : Nat) (a : Option Addr) (c : Nat), m ≤ nO ∧ i = .int .i64 m ∧ v = .slice a (outsTo N m).length c ∧ Own wr 61 a (outsTo N m).length c (nats .u32 (outsTo N m)) ∧ Kept [] w8 wr ∧ ∀ b ∈ ft a, w8.heap.size ≤ b) (fun _ i _ => nO - (intOf i).toNat)
    case atStart => exact ⟨0, none, 0, Nat.zero_le _, rfl, rfl, Own.nil _ _, .refl _ _, by simp [ft]⟩
    case round =>
      obtain ⟨m, a, c, hm, rfl, rfl, ho, hkr, hfa⟩ := hrel
      have HO := Lib.hid ho
      have KR := Lib.hid hkr
      have FA := Lib.hid hfa
      have K8R := Lib.hid (K38.out.trans hkr)
      clear ho hkr hfa
      by_cases hlt : m < nO
      · have hml : m < ro.length := by rw [HRL.out]; exact hlt
        obtain ⟨gb, rfl, x0, x1⟩ := (HC.out.ob.slb.kept0 K8R.out) m hml
        have hrow := (HC.out.ob.rows _ (List.getElem_mem hml)).1.kept0 K8R.out
        have hbo : N.outb[m]? = some ro[m].b := by rw [← HC.out.ob.is, List.getElem?_map, List.getElem?_eq_getElem hml]; rfl
        have hT := outsTo_succ hbo
        have hol := HFI.out.ok.ol _ (List.mem_of_getElem? hbo)
        have hl64 := hol.2.1
        have hl1 := hol.1
        have hlen := outsTo_len HFI.out m
        clear hbo hol
        generalize ro[m] = r at *
        obtain ⟨⟨nm, lits⟩, ra2, rc2⟩ := r
        simp only at x0 x1 hrow hT hl64 hl1
        obtain ⟨ad, had⟩ : ∃ ad, ra2 = some ad := by
          obtain ⟨ad, h, _⟩ := hrow 0 hl1
          exact ⟨ad, h⟩
        subst had
        obtain ⟨ln, hln⟩ : ∃ ln, ln = lits.length := ⟨_, rfl⟩
        obtain ⟨ol, hol⟩ : ∃ ol, ol = (outsTo N m).length := ⟨_, rfl⟩
        have HLN2 := Lib.hid hln
        have HOL := Lib.hid hol
        rw [← hln] at x1 hl64
        rw [← hol] at hlen
        have ho2 := HO.out
        rw [← hol] at ho2
        have HO2 := Lib.hid (fun o => own_kept (w := wr) ho2 ((Kept.refl [] wr).alloc o) (by simp))
        have HCL2 := Lib.hid (show ∀ o j u, (nats .u32 lits)[j]? = some u → (wr.alloc o).cell? (ad.add j) = some u from fun o j u hu => by
          have hj : j < lits.length := by
            have := (List.getElem?_eq_some_iff.1 hu).1
            rwa [nats_length] at this
          obtain ⟨ad2, h1, h2⟩ := hrow j hj
          injection h1 with h1
          subst h1
          have e : u = .int .u32 (lits[j] : Nat) := by
            have := (List.getElem?_eq_some_iff.1 hu).2
            rw [← this]
            simp [nats]
          rw [e]
          exact cell_alloc h2 _)
        have HTT := Lib.hid hT
        rw [← hol]
        clear hrow hT hln hol ho2 hl1
        go_wp2_with (at_builtin; refine wpList_cat (news := nats .u32 lits) rfl rfl Tryz.underlying58 lit_info rfl (by omega) rfl rfl (HO2.out _) (by rw [nats_length, HLN2.out, Nat.mul_one]) (HCL2.out _) (by intro u hu; simp [nats] at hu; obtain ⟨_, _, rfl⟩ := hu; rfl) (by unfold maxLen; omega) (by omega) ?_; intro a5 c5 w5 hown5 hst5)
        have KA := Lib.hid (show Kept [] w8 _ from KR.out.alloc (.cells #[.string nm, .slice (some ad) ln rc2] 60))
        have hlen2 : (outsTo N (m + 1)).length = ol + ln := by rw [HTT.out, List.length_append, ← HOL.out, ← HLN2.out]
        refine ⟨⟨m + 1, a5, c5, by omega, by go_num, by rw [hlen2], ?_, kept_up KA.out hst5.kept FA.out, fun b hb => ?_⟩, by simp [intOf]; omega⟩
        · rw [hlen2, HTT.out, show nats .u32 (outsTo N m ++ lits) = nats .u32 (outsTo N m) ++ nats .u32 lits from by simp [nats]]
          exact hown5
        · rcases hst5.fresh b hb with h | h
          · exact FA.out b h
          · exact Nat.le_trans KA.out.size h
      · obtain rfl : m = nO := by omega
        have HTE := Lib.hid (show outsTo N m = outsN N from by rw [HNO.out]; exact outsTo_all N)
        rw [HTE.out] at HO ⊢
        obtain ⟨w9, hw9⟩ : ∃ v : World, v = wr := ⟨_, rfl⟩
        rw [← hw9] at HO KR K8R ⊢
        clear hw9
        have HLO := Lib.hid (show (outsN N).length ≤ 3840 from by
          have h1 := outsTo_len HFI.out N.outb.length
          rw [outsTo_all] at h1
          have := HFI.out.ok.ok
          omega)
        have HMP9 := Lib.hid (MapV.kept (F := []) HMP.out KR.out (by simp))
        have HAP := Lib.hid (show mp ∉ ft a from fun hx => by
          obtain ⟨cur, hcur⟩ := HO.out.apart hx
          exact HMP9.out.nocell hcur rfl)
        have HNL := Lib.hid (show N.g.nodes.length ≤ 3841 from by have := HFI.out.ok.len; omega)
        go_wp2_with fail
        go_loopg [10] 500000 (fun gf v wr => ∃ (seen todo : List Nat) (a : Option Addr) (c : Nat), v = .slice a todo.length c ∧ OwnO wr a todo.length c todo ∧ PlMap wr mp (seenF seen) ∧ BfsOk N seen todo ∧ (N.g.nodes.length - seen.length) * (3 + 2 * nR) + todo.length < gf ∧ gf ≤ 500000 ∧ Kept [] w3 wr ∧ mp ∉ ft a ∧ ∀ b ∈ ft a, w3.heap.size ≤ b)
        case atStart =>
          refine ⟨[], outsN N, a, c, rfl, HO.out.toO, HMP9.out, BfsOk.start HFI.out, ?_, Nat.le_refl _, K8R.out, HAP.out, fun b hb => Nat.le_trans K38.out.size (FA.out b hb)⟩
          have h1 := HNL.out
          have h2 := HLO.out
          have h3 : N.g.nodes.length * (3 + 2 * nR) ≤ 3841 * 123 := Nat.mul_le_mul h1 (by omega)
          simp only [List.length_nil, Nat.sub_zero]
          omega
        case round =>
          obtain ⟨seen, todo, a2, c2, rfl, ho2, hpm, hbfs, hfu, hgf, hk2, hap2, hfr2⟩ := hrel
          obtain ⟨wx, rfl⟩ : ∃ v : World, v = wr := ⟨_, rfl⟩
          obtain ⟨g', rfl⟩ : ∃ g', gk = g' + 1 := ⟨gk - 1, by omega⟩
          have HFU := Lib.hid hfu
          have HGF := Lib.hid hgf
          have KX := Lib.hid hk2
          have BF := Lib.hid hbfs
          have PM := Lib.hid hpm
          have OO := Lib.hid ho2
          have AP := Lib.hid hap2
          have FR := Lib.hid hfr2
          clear hfu hgf hk2 hbfs hpm ho2 hap2 hfr2
          cases todo with
          | nil =>
            have hcp := net_copy (N3.out.kept0 KX.out) ⟨by have := HNL.out; omega, by have := HFI.out.ok.ik; omega, by have := HFI.out.ok.rk; omega, by have := HFI.out.ok.ok; omega⟩ (fun b hb => by have := HFI.out.ok.il b hb; omega) (fun b hb => by have := HFI.out.ok.ol b hb; omega)
            have HCP := Lib.hid hcp
            clear hcp
            go_wp2_with fail
            refine HCP.out.mono ?_
            rintro e w5 ⟨n5, F5, R5, rfl, hn5, k5, hf5⟩
            have K5 := Lib.hid (KX.out.trans k5)
            have HPM := Lib.hid (MapV.kept (F := []) PM.out k5 (by simp))
            have LTM := Lib.hid PM.out.lt
            obtain ⟨p5, G5, ia5, ic5, ra5, rc5, oa5, oc5, ri5, ro5, hF5, hR5, hc5⟩ := hn5
            have HC5 := Lib.hid hc5
            have HF5 := Lib.hid (show (∀ b ∈ ft ra5, wx.heap.size ≤ b) ∧ wx.heap.size ≤ n5 from ⟨fun b hb => hf5 b (by rw [hF5]; simp [hb]), hf5 n5 (by rw [hF5]; simp)⟩)
            have c3 := K5.out.cell HC.out.c3 (by simp)
            rw [← HNR.out] at c3
            clear k5 hF5 hR5 hc5 hf5 HCP
            go_wp2_with fail
            clear c3
            go_loopw [130] (fun v wr => ∃ j : Nat, j ≤ nR ∧ v = .int .i64 j ∧ NetC wr n5 { N with regs := spoilTo N j } p5 G5 ia5 ic5 ra5 rc5 oa5 oc5 ri5 ro5 ∧ Kept (ft ra5) w5 wr) (fun v _ => nR - (intOf v).toNat)
            case atStart => exact ⟨0, Nat.zero_le _, rfl, by rw [spoilTo_zero]; exact HC5.out, .refl _ _⟩
            case round =>
              obtain ⟨j, hj, rfl, hcr, hkr⟩ := hrel
              obtain ⟨wy, rfl⟩ : ∃ v : World, v = wr := ⟨_, rfl⟩
              have CR := Lib.hid hcr
              have KR := Lib.hid hkr
              have KW := Lib.hid (kept_up K5.out hkr (fun b hb => Nat.le_trans KX.out.size (HF5.out.1 b hb)))
              have PMR := Lib.hid (MapV.kept HPM.out hkr (fun hx => by have h1 := HF5.out.1 _ hx; have h2 := LTM.out; omega))
              clear hcr hkr
              by_cases hlt4 : j < nR
              · have hjl : j < N.regs.length := by rw [← HNR.out]; exact hlt4
                obtain ⟨gr, rfl, e0, e1, e2, e3⟩ := ((regs_sl (l := N.regs) rfl HC.out.rb).kept0 KW.out) j hjl
                have hgd : N.regs.getD j ⟨0, 0, 0, false⟩ = N.regs[j]'hjl := by rw [List.getD_eq_getElem?_getD, List.getElem?_eq_getElem hjl]; rfl
                have HSU := Lib.hid (spoilTo_succ N hjl)
                have HSL := Lib.hid (spoilTo_length N (m := j) (Nat.le_of_lt hjl))
                have hsg := spoilTo_get N (m := j) hjl
                rw [if_neg (Nat.lt_irrefl j)] at hsg
                have HSG := Lib.hid hsg
                have hni := needed_iff HFI.out hjl
                rw [hgd] at hni
                rw [hgd] at HSU HSG
                have HNI := Lib.hid (hni.trans (BF.out.all _))
                have cnd := own_cell_b (HO3.out.kept0 KW.out) j (by rw [HLN.out]; exact hjl)
                have hrl := HFI.out.ok.rl _ (List.getElem_mem hjl)
                have hql : N.regs[j].q < 4294967296 ∧ N.regs[j].d < 4294967296 := by
                  have h0 := hrl.1
                  have h1 := hrl.2.1
                  have h2 := HNL.out
                  unfold Gr.ok at h0 h1
                  omega
                generalize N.regs[j] = r at *
                obtain ⟨rq, d, en, init⟩ := r
                simp only at e0 e1 e2 e3 HNI hql
                have HND2 := Lib.hid (fun V => lit_node rq V hql.1)
                have HNO2 := Lib.hid (fun V => lit_not d V hql.2)
                obtain ⟨q3, hq3⟩ : ∃ v, v = rq / 2 := ⟨_, rfl⟩
                have hq3l : q3 < 4294967296 := by omega
                rw [← hq3] at HND2 HNI
                obtain ⟨nb, hnb⟩ : ∃ v, v = (neededN N).getD j false := ⟨_, rfl⟩
                rw [← hnb] at HNI HSU cnd
                have HNB := Lib.hid hnb
                have HQ3 := Lib.hid hq3l
                have m0 : (0 : Int) ≤ (j : Int) := by omega
                have m1 : (j : Int) < (nR : Int) := by omega
                clear hgd hsg hni hrl hql hq3 hq3l hnb hjl
                go_upto_region 34 with (fail)
                obtain ⟨w6, hw6⟩ : ∃ v, v = wy.alloc (.cells #[.int .u32 (rq : Int), .int .u32 (d : Int), .int .u32 (en : Int), .bool init] 63) := ⟨_, rfl⟩
                obtain ⟨b6, hb6⟩ : ∃ v, v = wy.heap.size := ⟨_, rfl⟩
                have K6 := Lib.hid (show Kept [] wy w6 from by rw [hw6]; exact (Kept.refl [] wy).alloc _)
                have hbl : w6.heap[b6]? = some (.cells #[.int .u32 (rq : Int), .int .u32 (d : Int), .int .u32 (en : Int), .bool init] 63 (0, 0)) := by rw [hw6, hb6]; exact heap_alloc_new wy _
                have HB6 := Lib.hid (show wy.heap.size ≤ b6 from by rw [hb6]; exact Nat.le_refl _)
                have HBL := Lib.hid hbl
                rw [← hw6, ← hb6]
                have CND := Lib.hid cnd
                clear hw6 hb6 hbl e0 e1 e2 e3 cnd
                cases nb with
                | true =>
                  have hmem := HNI.out.1 rfl
                  have HCL3 := Lib.hid (fun (V : World) (hV : Kept [] w6 V) => show V.cell? ⟨gd, j, none⟩ = some (.bool true) ∧ V.cell? ⟨b6, 0, none⟩ = some (.int .u32 (rq : Int)) ∧ (Instr.lookup 71 (.map (some mp)) (.int .i64 (q3 : Int)) false).run Tryz.prog V = .ok (.int .i64 1) V from by
                    refine ⟨(K6.out.trans hV).cell CND.out (by simp), hV.cell (blk_cell HBL.out 0) (by simp), ?_⟩
                    have h := PlMap.look0 (MapV.kept (F := []) PMR.out (K6.out.trans hV) (by simp)) q3 HQ3.out
                    rw [show seenF seen q3 = some 1 from by unfold seenF; rw [if_pos hmem]] at h
                    exact h)
                  have HSAM := Lib.hid (show spoilTo N (j + 1) = spoilTo N j from by
                    rw [HSU.out]
                    have hjl : j < N.regs.length := by rw [← HNR.out]; exact hlt4
                    refine set_same _ _ _ ?_
                    have h1 : j < (spoilTo N j).length := by rw [HSL.out]; exact hjl
                    have h2 := HSG.out
                    rw [List.getD_eq_getElem?_getD, List.getElem?_eq_getElem h1] at h2
                    rw [List.getElem?_eq_getElem h1]
                    simp only [Option.getD_some] at h2
                    rw [h2]
                    rfl)
                  refine wp_region_keptW (by kernel_rfl) ?_
                  (go_big_quiet_want; apply Exists.intro; refine ⟨fun V hV => ?_, ?_⟩; rotate_left; go_big_quiet_on; (try simp only [Act.put, List.setIfInBounds_toArray, List.set_cons_zero, List.set_cons_succ]); rotate_right)
                  · go_simp
                    exact rfl
                  (go_big_quiet_want; apply Exists.intro; refine ⟨fun V hV => ?_, ?_⟩; rotate_left; go_big_quiet_on; (try simp only [Act.put, List.setIfInBounds_toArray, List.set_cons_zero, List.set_cons_succ]); rotate_right)
                  · go_simp
                    exact rfl
                  (go_big_quiet_want; apply Exists.intro; refine ⟨fun V hV => ?_, ?_⟩; rotate_left; go_big_quiet_on; (try simp only [Act.put, List.setIfInBounds_toArray, List.set_cons_zero, List.set_cons_succ]); rotate_right)
                  · go_simp
                    exact rfl
                  (go_big_quiet_want; apply Exists.intro; refine ⟨fun V hV => ?_, ?_⟩; rotate_left; go_big_quiet_on; (try simp only [Act.put, List.setIfInBounds_toArray, List.set_cons_zero, List.set_cons_succ]); rotate_right)
                  · obtain ⟨g0, g1, g2⟩ := HCL3.out V hV
                    go_simp
                    exact rfl
                  (go_big_quiet_want; apply Exists.intro; refine ⟨fun V hV => ?_, ?_⟩; rotate_left; go_big_quiet_on; (try simp only [Act.put, List.setIfInBounds_toArray, List.set_cons_zero, List.set_cons_succ]); rotate_right)
                  · go_simp
                    exact rfl
                  (go_big_quiet_want; apply Exists.intro; refine ⟨fun V hV => ?_, ?_⟩; rotate_left; go_big_quiet_on; (try simp only [Act.put, List.setIfInBounds_toArray, List.set_cons_zero, List.set_cons_succ]); rotate_right)
                  · go_simp
                    exact rfl
                  (go_big_quiet_want; apply Exists.intro; refine ⟨fun V hV => ?_, ?_⟩; rotate_left; go_big_quiet_on; (try simp only [Act.put, List.setIfInBounds_toArray, List.set_cons_zero, List.set_cons_succ]); rotate_right)
                  · obtain ⟨g0, g1, g2⟩ := HCL3.out V hV
                    go_simp
                    exact rfl
                  (go_big_quiet_want; apply Exists.intro; refine ⟨fun V hV => ?_, ?_⟩; rotate_left; go_big_quiet_on; (try simp only [Act.put, List.setIfInBounds_toArray, List.set_cons_zero, List.set_cons_succ]); rotate_right)
                  · go_simp
                    exact (HND2.out V).mono fun e V' h => ⟨h.1, by obtain ⟨_, rfl⟩ := h; exact hV⟩
                  (go_big_quiet_want; apply Exists.intro; refine ⟨fun V hV => ?_, ?_⟩; rotate_left; go_big_quiet_on; (try simp only [Act.put, List.setIfInBounds_toArray, List.set_cons_zero, List.set_cons_succ]); rotate_right)
                  · obtain ⟨g0, g1, g2⟩ := HCL3.out V hV
                    go_simp
                    exact rfl
                  (go_big_quiet_want; apply Exists.intro; refine ⟨fun V hV => ?_, ?_⟩; rotate_left; go_big_quiet_on; (try simp only [Act.put, List.setIfInBounds_toArray, List.set_cons_zero, List.set_cons_succ]); rotate_right)
                  · go_simp
                    exact rfl
                  (go_big_quiet_want; apply Exists.intro; refine ⟨fun V hV => ?_, ?_⟩; rotate_left; go_big_quiet_on; (try simp only [Act.put, List.setIfInBounds_toArray, List.set_cons_zero, List.set_cons_succ]); rotate_right)
                  · go_simp
                    exact rfl
                  refine wpQuiet_nil ?_
                  intro w7 k7
                  have K7 := Lib.hid (K6.out.trans k7)
                  obtain ⟨g0, _, _⟩ := HCL3.out w7 k7
                  clear k7
                  go_wp2_with fail
                  clear g0
                  go_roundw
                  case rel => exact ⟨j + 1, by omega, by go_num, by rw [HSAM.out]; exact CR.out.kept K7.out (by simp) (by simp), KR.out.trans (K7.out.more (by simp))⟩
                  case measure => simp [intOf]; omega
                | false =>
                  have hmem : q3 ∉ seen := fun h => by have := HNI.out.2 h; simp at this
                  have HCL3 := Lib.hid (fun (V : World) (hV : Kept [] w6 V) => show V.cell? ⟨gd, j, none⟩ = some (.bool false) ∧ V.cell? ⟨b6, 0, none⟩ = some (.int .u32 (rq : Int)) ∧ (Instr.lookup 71 (.map (some mp)) (.int .i64 (q3 : Int)) false).run Tryz.prog V = .ok (.int .i64 0) V from by
                    refine ⟨(K6.out.trans hV).cell CND.out (by simp), hV.cell (blk_cell HBL.out 0) (by simp), ?_⟩
                    have h := PlMap.look0 (MapV.kept (F := []) PMR.out (K6.out.trans hV) (by simp)) q3 HQ3.out
                    rw [show seenF seen q3 = none from by unfold seenF; rw [if_neg hmem]] at h
                    exact h)
                  refine wp_region_keptW (by kernel_rfl) ?_
                  (go_big_quiet_want; apply Exists.intro; refine ⟨fun V hV => ?_, ?_⟩; rotate_left; go_big_quiet_on; (try simp only [Act.put, List.setIfInBounds_toArray, List.set_cons_zero, List.set_cons_succ]); rotate_right)
                  · go_simp
                    exact rfl
                  (go_big_quiet_want; apply Exists.intro; refine ⟨fun V hV => ?_, ?_⟩; rotate_left; go_big_quiet_on; (try simp only [Act.put, List.setIfInBounds_toArray, List.set_cons_zero, List.set_cons_succ]); rotate_right)
                  · go_simp
                    exact rfl
                  (go_big_quiet_want; apply Exists.intro; refine ⟨fun V hV => ?_, ?_⟩; rotate_left; go_big_quiet_on; (try simp only [Act.put, List.setIfInBounds_toArray, List.set_cons_zero, List.set_cons_succ]); rotate_right)
                  · go_simp
                    exact rfl
                  (go_big_quiet_want; apply Exists.intro; refine ⟨fun V hV => ?_, ?_⟩; rotate_left; go_big_quiet_on; (try simp only [Act.put, List.setIfInBounds_toArray, List.set_cons_zero, List.set_cons_succ]); rotate_right)
                  · obtain ⟨g0, g1, g2⟩ := HCL3.out V hV
                    go_simp
                    exact rfl
                  (go_big_quiet_want; apply Exists.intro; refine ⟨fun V hV => ?_, ?_⟩; rotate_left; go_big_quiet_on; (try simp only [Act.put, List.setIfInBounds_toArray, List.set_cons_zero, List.set_cons_succ]); rotate_right)
                  · go_simp
                    exact rfl
                  (go_big_quiet_want; apply Exists.intro; refine ⟨fun V hV => ?_, ?_⟩; rotate_left; go_big_quiet_on; (try simp only [Act.put, List.setIfInBounds_toArray, List.set_cons_zero, List.set_cons_succ]); rotate_right)
                  · go_simp
                    exact rfl
                  (go_big_quiet_want; apply Exists.intro; refine ⟨fun V hV => ?_, ?_⟩; rotate_left; go_big_quiet_on; (try simp only [Act.put, List.setIfInBounds_toArray, List.set_cons_zero, List.set_cons_succ]); rotate_right)
                  · obtain ⟨g0, g1, g2⟩ := HCL3.out V hV
                    go_simp
                    exact rfl
                  (go_big_quiet_want; apply Exists.intro; refine ⟨fun V hV => ?_, ?_⟩; rotate_left; go_big_quiet_on; (try simp only [Act.put, List.setIfInBounds_toArray, List.set_cons_zero, List.set_cons_succ]); rotate_right)
                  · go_simp
                    exact (HND2.out V).mono fun e V' h => ⟨h.1, by obtain ⟨_, rfl⟩ := h; exact hV⟩
                  (go_big_quiet_want; apply Exists.intro; refine ⟨fun V hV => ?_, ?_⟩; rotate_left; go_big_quiet_on; (try simp only [Act.put, List.setIfInBounds_toArray, List.set_cons_zero, List.set_cons_succ]); rotate_right)
                  · obtain ⟨g0, g1, g2⟩ := HCL3.out V hV
                    go_simp
                    exact rfl
                  (go_big_quiet_want; apply Exists.intro; refine ⟨fun V hV => ?_, ?_⟩; rotate_left; go_big_quiet_on; (try simp only [Act.put, List.setIfInBounds_toArray, List.set_cons_zero, List.set_cons_succ]); rotate_right)
                  · go_simp
                    exact rfl
                  (go_big_quiet_want; apply Exists.intro; refine ⟨fun V hV => ?_, ?_⟩; rotate_left; go_big_quiet_on; (try simp only [Act.put, List.setIfInBounds_toArray, List.set_cons_zero, List.set_cons_succ]); rotate_right)
                  · go_simp
                    exact rfl
                  refine wpQuiet_nil ?_
                  intro w7 k7
                  have K67 := Lib.hid k7
                  have K7 := Lib.hid (K6.out.trans k7)
                  obtain ⟨g0, _, _⟩ := HCL3.out w7 k7
                  clear k7
                  have C7 := Lib.hid (CR.out.kept K7.out (by simp) (by simp))
                  have hc3 := C7.out.c3
                  rw [show ({ N with regs := spoilTo N j } : Nt).regs.length = nR from by rw [HNR.out]; exact HSL.out] at hc3
                  obtain ⟨g5, rfl, v0, v1, v2, v3⟩ := regs_sl (l := spoilTo N j) rfl C7.out.rb j (by rw [HSL.out, ← HNR.out]; exact hlt4)
                  have d1 : w7.cell? ⟨b6, 1, none⟩ = some (.int .u32 (d : Int)) := K67.out.cell (blk_cell HBL.out 1) (by simp)
                  have d3 : w7.cell? ⟨b6, 3, none⟩ = some (.bool init) := K67.out.cell (blk_cell HBL.out 3) (by simp)
                  have hrb := C7.out.rb
                  have f1 : w7.frozen? ⟨g5, j * 4 + 1, none⟩ = false := World.ownsRow.frozenAt hrb _
                  have f2 : w7.frozen? ⟨g5, j * 4 + 2, none⟩ = false := World.ownsRow.frozenAt hrb _
                  have f3 : w7.frozen? ⟨g5, j * 4 + 3, none⟩ = false := World.ownsRow.frozenAt hrb _
                  have hne : n5 ≠ g5 := fun h => C7.out.apart.2.2.1 (by simp [ft, h])
                  have hnb : b6 ≠ g5 := fun h => by
                    have h1 := HB6.out
                    have h2 := owns_lt CR.out.rb g5 (by simp [ft])
                    omega
                  have HNE := Lib.hid hne
                  have HNB2 := Lib.hid hnb
                  obtain ⟨dn, hdn⟩ : ∃ v, v = ntL d := ⟨_, rfl⟩
                  have HDN := Lib.hid hdn
                  rw [← hdn] at HNO2
                  clear hrb hne hnb v0 hdn
                  go_upto_region 37 with (fail)
                  go_region_held3 (fun V => V.cell? ⟨n5, 3, none⟩ = some (.slice (some ⟨g5, 0, none⟩) nR rc5) ∧ V.cell? ⟨b6, 1, none⟩ = some (.int .u32 (d : Int)) ∧ V.cell? ⟨b6, 3, none⟩ = some (.bool init))
                    (first | exact keep_3f (w := w7) (F := [g5]) (by (repeat (first | with_reducible exact Kept.refl _ _ | with_reducible apply Kept.drew | with_reducible apply Kept.drewN | with_reducible apply Kept.alloc | refine Kept.setCell ?_ (.inl (by simp)) _))) hc3 d1 d3 (by simpa using HNE.out) (by simpa using HNB2.out) (by simpa using HNB2.out) | go_keep)
                    (first | (go_at_call 29; (with_reducible refine (HNO2.out _).mono ?_); rintro e u1 ⟨rfl, rfl⟩))
                  all_goals
                    clear g0 d1 d3 f1 f2 f3 hc3
                    go_wp2_with fail
                    go_roundw
                    case measure => simp [intOf]; omega
                    case rel =>
                      have s1 := (World.ownsRow.stored C7.out.rb (j * 4 + 3) (.bool (!init))).1
                      have s2 := (World.ownsRow.stored s1 (j * 4 + 1) (.int .u32 (dn : Int))).1
                      have s3 := (World.ownsRow.stored s2 (j * 4 + 2) (.int .u32 1)).1
                      have hjl : j < (spoilTo N j).length := by rw [HSL.out, ← HNR.out]; exact hlt4
                      have hsg : (spoilTo N j)[j] = ⟨rq, d, en, init⟩ := by
                        have h2 := HSG.out
                        rw [List.getD_eq_getElem?_getD, List.getElem?_eq_getElem hjl] at h2
                        exact h2
                      have hsu : spoilTo N (j + 1) = (spoilTo N j).set j ⟨rq, dn, 1, !init⟩ := by rw [HSU.out, HDN.out]; rfl
                      have hrg := rgCells_set3 (spoilTo N j) j dn 1 (!init) hjl
                      rw [hsg] at hrg
                      simp only at hrg
                      rw [← hsu] at hrg
                      have hkg : Kept [g5] w7 (((w7.setCell ⟨g5, j * 4 + 3, none⟩ (.bool (!init))).setCell ⟨g5, j * 4 + 1, none⟩ (.int .u32 (dn : Int))).setCell ⟨g5, j * 4 + 2, none⟩ (.int .u32 1)) := by (repeat (first | with_reducible exact Kept.refl _ _ | with_reducible apply Kept.drew | with_reducible apply Kept.drewN | with_reducible apply Kept.alloc | refine Kept.setCell ?_ (.inl (by simp)) _))
                      have hfin := C7.out.setRegs (l' := spoilTo N (j + 1)) hkg (by rw [hsu, List.length_set]) (by rw [hrg]; exact s3)
                      refine ⟨j + 1, by omega, by go_num, hfin.kept (show Kept [] _ _ from by first | exact Kept.refl _ _ | exact (Kept.refl [] _).drew) (by simp) (by simp), ?_⟩
                      refine (KR.out.trans (K7.out.more (by simp))).trans ?_
                      refine Kept.trans (hkg.more (by simp [ft])) (show Kept _ _ _ from by first | exact Kept.refl _ _ | exact (Kept.refl _ _).drew)
              · obtain rfl : j = nR := by omega
                have HSP := Lib.hid (show NetAt wy n5 (n5 :: (G5 ++ (ft ia5 ++ (ft ra5 ++ ft oa5)))) (rowsOf ri5 ++ rowsOf ro5) (spoilN N) from ⟨p5, G5, ia5, ic5, ra5, rc5, oa5, oc5, ri5, ro5, rfl, rfl, by
                  have h := CR.out
                  rw [HNR.out] at h
                  exact h⟩)
                have hal := All_c (N3.out.kept0 KW.out) HFI.out (by omega)
                rw [if_pos HCN.out.symm] at hal
                have HAL := Lib.hid hal
                clear hal
                go_wp2_with fail
                refine HAL.out.mono ?_
                rintro e w6 ⟨x6, F6, R6, rfl, hx6, k6, hf6⟩
                have X6 := Lib.hid hx6
                have K6 := Lib.hid (KW.out.trans k6)
                have hal2 := All_c (HSP.out.kept0 k6) (spoil_fine HFI.out).1 (by omega)
                rw [spoil_check HFI.out, if_pos HCN.out.symm] at hal2
                unfold AllNew at hal2
                rw [spoil_swept HFI.out (insFrom_sorted 0 N.g.nodes)] at hal2
                have HAL2 := Lib.hid hal2
                clear hx6 k6 hf6 hal2
                go_wp2_with fail
                refine HAL2.out.mono ?_
                rintro e w7 ⟨y7, F7, R7, rfl, hy7, k7, hf7⟩
                have SI := Lib.hid (swept_ind HFI.out (fun _ => True) trivial (fun _ _ _ _ => trivial)).2.1
                generalize sweptN N = X at *
                have Y7 := Lib.hid hy7
                have X7 := Lib.hid (X6.out.kept0 k7)
                have K7 := Lib.hid (K6.out.trans k7)
                clear hy7 k7 hf7
                go_wp2_with fail
                refine (net_same X7.out Y7.out ⟨by have := SI.out.ok.len; omega, by have := SI.out.ok.ik; omega, by have := SI.out.ok.rk; omega, by have := SI.out.ok.ok; omega⟩ (fun b hb => by have := SI.out.ok.il b hb; omega) (fun b hb => by have := SI.out.ok.ol b hb; omega)).mono ?_
                rintro e w8' ⟨rfl, k8⟩
                have K8' := Lib.hid (K7.out.trans k8)
                clear k8
                go_wp2_with fail
                refine (HT.out _).mono ?_
                rintro e w9' ⟨rfl, k9⟩
                have K9' := Lib.hid ((K3.out.trans K8'.out).trans k9)
                clear k9
                go_wp2_with fail
                go_ret
                exact ⟨rfl, K9'.out⟩
          | cons x tl =>
            obtain ⟨tn, htn⟩ : ∃ v, v = tl.length := ⟨_, rfl⟩
            have HTN := Lib.hid htn
            have oo := OO.out
            rw [List.length_cons, ← htn] at oo
            rw [List.length_cons, ← htn]
            obtain ⟨ad, rfl, hcx⟩ := oo.sln 0 (by simp)
            rw [add_nil] at hcx
            simp only [List.getElem_cons_zero] at hcx
            have hxs := BF.out.std x (by simp)
            have hxl : x < 4294967296 := by have h1 := hxs.2; have h2 := HNL.out; unfold Gr.ok at h1; omega
            have HXS := Lib.hid hxs
            have HXN := Lib.hid (lit_node x wx hxl)
            obtain ⟨a3, c3, hs3, ho3, hf3⟩ := oo.tail
            have HO3 := Lib.hid ho3
            have HF3 := Lib.hid hf3
            obtain ⟨q2, hq2⟩ : ∃ v, v = x / 2 := ⟨_, rfl⟩
            have HQ := Lib.hid hq2
            have hq2l : q2 < 4294967296 := by omega
            have hlk := PlMap.look0 PM.out q2 hq2l
            rw [← hq2] at HXN
            have t0 : (0 : Int) < (tn : Int) + 1 := by omega
            have HQL := Lib.hid hq2l
            clear htn oo hxs hxl ho3 hf3 hq2 hq2l
            by_cases hse : q2 ∈ seen
            · rw [show seenF seen q2 = some 1 from by unfold seenF; rw [if_pos hse]] at hlk
              simp only [Option.getD_some] at hlk
              have HSE := Lib.hid hse
              clear hse
              go_wp2_with fail
              refine HXN.out.mono ?_
              rintro e w5 ⟨rfl, rfl⟩
              go_wp2_with fail
              go_roundg g'
              case measure => have := HFU.out; omega
              case rel =>
                have h1 := HFU.out
                have h2 := HGF.out
                rw [List.length_cons] at h1
                exact ⟨seen, tl, a3, c3, by rw [HTN.out], by rw [← HTN.out]; exact HO3.out, PM.out, BF.out.skip (by rw [← HQ.out]; exact HSE.out), by omega, by omega, KX.out, by rw [HF3.out]; exact AP.out, by rw [HF3.out]; exact FR.out⟩
            · rw [show seenF seen q2 = none from by unfold seenF; rw [if_neg hse]] at hlk
              simp only [Option.getD_none] at hlk
              have HSE := Lib.hid hse
              clear hse
              go_wp2_with fail
              refine HXN.out.mono ?_
              rintro e w5 ⟨rfl, rfl⟩
              have HCX := Lib.hid hs3
              go_wp2_with (at_mapUpdate; refine wpList_upd (key := .int .i64 (q2 : Nat)) (val := .int .i64 ((1 : Nat) : Int)) rfl rfl i64_law Tryz.underlying71 rfl rfl rfl PM.out (i64_key _ HQL.out) ?_; intro w6 hm6 hk6; have c0 := (kept_up KX.out hk6 (fun b hb => by simp at hb; subst hb; exact HMG.out)).cell HC.out.c0 (by simp))
              rw [intF_upd, seenF_snoc] at hm6
              have PM6 := Lib.hid (show PlMap w6 mp (seenF (seen ++ [q2])) from hm6)
              have K6 := Lib.hid (kept_up KX.out hk6 (fun b hb => by simp at hb; subst hb; exact HMG.out))
              have HO6 := Lib.hid (HO3.out.kept hk6 (fun b hb hx => by simp at hx; subst hx; rw [HF3.out] at hb; exact AP.out hb))
              have HQN := Lib.hid (show q2 < N.g.nodes.length from by have h := HXS.out.2; unfold Gr.ok at h; rw [HQ.out]; exact h)
              have hgc := aig_gateOf (HC.out.gr.kept0 K6.out) (by have := HNL.out; omega) (q2 : Int) (by have := HQL.out; omega) (by have := HQL.out; omega)
              rw [gateA_vals HQN.out] at hgc
              have HGC := Lib.hid hgc
              have HAP3 := Lib.hid (show mp ∉ ft a3 from by rw [HF3.out]; exact AP.out)
              have HFR3 := Lib.hid (show ∀ b ∈ ft a3, w3.heap.size ≤ b from by rw [HF3.out]; exact FR.out)
              have HTB := Lib.hid (show tn ≤ 500000 from by have h1 := HFU.out; have h2 := HGF.out; rw [List.length_cons, ← HTN.out] at h1; omega)
              have htb := HTB.out
              clear hm6 hk6 hgc hs3 hlk hcx t0
              cases hg : gAt N.g.nodes q2 with
              | true =>
                rw [hg, if_pos rfl] at HGC
                have HGP := Lib.hid (show gateP N q2 = [gA N.g.nodes q2, gB N.g.nodes q2] from by unfold gateP; rw [hg, if_pos rfl])
                generalize gA N.g.nodes q2 = y at *
                generalize gB N.g.nodes q2 = z at *
                clear hg
                go_wp2_with fail
                refine HGC.out.mono ?_
                rintro e w7 ⟨rfl, k7⟩
                have K7 := Lib.hid (k7.alloc (.cells #[.int .u32 (y : Int), .int .u32 (z : Int)] 61))
                have HO7 := Lib.hid (HO6.out.kept0 K7.out)
                clear k7 c0
                go_wp2_with (at_builtin; refine wpList_catO (nl := [y, z]) rfl rfl rfl rfl HO7.out rfl (news_blk (t := 61) (heap_alloc_new _ _)) (by omega) ?_; intro a8 c8 w8' ho8 hst8; have c3 := (kept_up (K6.out.trans K7.out) hst8.kept HFR3.out).cell HC.out.c3 (by simp); rw [← HNR.out] at c3)
                have HO8 := Lib.hid (show OwnO w8' a8 (tl ++ succTo N q2 0).length c8 (tl ++ succTo N q2 0) from by
                  rw [show succTo N q2 0 = [y, z] from by unfold succTo; rw [HGP.out]; simp, List.length_append, ← HTN.out]
                  exact ho8)
                have HLE := Lib.hid (show tn + 2 = (tl ++ succTo N q2 0).length from by
                  rw [show succTo N q2 0 = [y, z] from by unfold succTo; rw [HGP.out]; simp, List.length_append, ← HTN.out]
                  rfl)
                have PM8 := Lib.hid (MapV.kept (MapV.kept (F := []) PM6.out K7.out (by simp)) hst8.kept HAP3.out)
                have K8' := Lib.hid (kept_up (K6.out.trans K7.out) hst8.kept HFR3.out)
                have AP8 := Lib.hid (show mp ∉ ft a8 from fun hx => (hst8.fresh _ hx).elim HAP3.out (fun h => by have h1 := MapV.lt (MapV.kept (F := []) PM6.out K7.out (by simp)); omega))
                have FR8 := Lib.hid (show ∀ b ∈ ft a8, w3.heap.size ≤ b from fun b hb => (hst8.fresh b hb).elim (HFR3.out b) (fun h => Nat.le_trans (K6.out.trans K7.out).size h))
                clear ho8 hst8
                clear c3
                go_loopw [10, 106] (fun v i wr => ∃ (j : Nat) (a : Option Addr) (c : Nat), j ≤ nR ∧ i = .int .i64 j ∧ v = .slice a (tl ++ succTo N q2 j).length c ∧ OwnO wr a (tl ++ succTo N q2 j).length c (tl ++ succTo N q2 j) ∧ PlMap wr mp (seenF (seen ++ [q2])) ∧ Kept [] w3 wr ∧ mp ∉ ft a ∧ ∀ b ∈ ft a, w3.heap.size ≤ b) (fun _ i _ => nR - (intOf i).toNat)
                case atStart => exact ⟨0, a8, c8, Nat.zero_le _, rfl, by rw [← HLE.out], HO8.out, PM8.out, K8'.out, AP8.out, FR8.out⟩
                case round =>
                  obtain ⟨j, a9, c9, hj, rfl, rfl, ho9, hpm9, hk9, hap9, hfr9⟩ := hrel
                  have HO9 := Lib.hid ho9
                  have PM9 := Lib.hid hpm9
                  have K9 := Lib.hid hk9
                  have AP9 := Lib.hid hap9
                  have FR9 := Lib.hid hfr9
                  have HSF := Lib.hid (succTo_few N q2 j)
                  clear ho9 hpm9 hk9 hap9 hfr9
                  obtain ⟨tm, htm⟩ : ∃ v, v = (tl ++ succTo N q2 j).length := ⟨_, rfl⟩
                  have HTM := Lib.hid htm
                  have htm2 : tm ≤ 600000 := by
                    have h1 := HSF.out
                    have h2 := HTB.out
                    rw [htm, List.length_append, ← HTN.out]
                    omega
                  rw [← htm] at HO9 ⊢
                  clear htm
                  by_cases hlt9 : j < nR
                  · have hjl : j < N.regs.length := by rw [← HNR.out]; exact hlt9
                    obtain ⟨gr, rfl, e0, e1, e2, e3⟩ := ((regs_sl (l := N.regs) rfl HC.out.rb).kept0 K9.out) j hjl
                    have HT2 := Lib.hid (succTo_next (x := q2) (List.getElem?_eq_getElem hjl))
                    have hql : N.regs[j].q < 4294967296 := by
                      have := HFI.out.ok.rl _ (List.getElem_mem hjl)
                      have h1 := this.1
                      have h2 := HFI.out.ok.len
                      unfold Gr.ok at h1
                      omega
                    generalize N.regs[j] = r at *
                    obtain ⟨rq, d, en, init⟩ := r
                    simp only at e0 e1 e2 e3 HT2 hql
                    have HND2 := Lib.hid (fun V => lit_node rq V hql)
                    obtain ⟨q3, hq3⟩ : ∃ v, v = rq / 2 := ⟨_, rfl⟩
                    rw [← hq3] at HND2 HT2
                    have m0 : (0 : Int) ≤ (j : Int) := by omega
                    have m1 : (j : Int) < (nR : Int) := by omega
                    clear hjl hql hq3
                    go_upto_region 27 with (fail)
                    obtain ⟨w5, hw5⟩ : ∃ v, v = wr.alloc (.cells #[.int .u32 (rq : Int), .int .u32 (d : Int), .int .u32 (en : Int), .bool init] 63) := ⟨_, rfl⟩
                    obtain ⟨b5, hb5⟩ : ∃ v, v = wr.heap.size := ⟨_, rfl⟩
                    have K5 := Lib.hid (show Kept [] wr w5 from by rw [hw5]; exact (Kept.refl [] wr).alloc _)
                    have hbl : w5.heap[b5]? = some (.cells #[.int .u32 (rq : Int), .int .u32 (d : Int), .int .u32 (en : Int), .bool init] 63 (0, 0)) := by rw [hw5, hb5]; exact heap_alloc_new wr _
                    rw [← hw5, ← hb5]
                    have d0 : w5.cell? ⟨b5, 0, none⟩ = some (.int .u32 (rq : Int)) := blk_cell hbl 0
                    have d1 : w5.cell? ⟨b5, 1, none⟩ = some (.int .u32 (d : Int)) := blk_cell hbl 1
                    have d2 : w5.cell? ⟨b5, 2, none⟩ = some (.int .u32 (en : Int)) := blk_cell hbl 2
                    clear hw5 hb5 hbl e0 e1 e2 e3
                    by_cases hqq : q3 = q2
                    · subst hqq
                      rw [if_pos rfl] at HT2
                      have K6b := Lib.hid (K5.out.alloc (.cells #[.int .u32 (d : Int), .int .u32 (en : Int)] 61))
                      have HO6b := Lib.hid (HO9.out.kept0 K6b.out)
                      go_wp2_with fail
                      refine (HND2.out _).mono ?_
                      rintro e w6' ⟨rfl, rfl⟩
                      go_wp2_with (at_builtin; refine wpList_catO (nl := [d, en]) rfl rfl rfl rfl HO6b.out rfl (news_blk (t := 61) (heap_alloc_new _ _)) (by omega) ?_; intro aa ca wa hoa hsta)
                      have HL2 := Lib.hid (show (tl ++ succTo N q3 (j + 1)).length = tm + 2 from by rw [HT2.out, ← List.append_assoc, List.length_append, ← HTM.out]; rfl)
                      have HOA := Lib.hid (show OwnO wa aa (tl ++ succTo N q3 (j + 1)).length ca (tl ++ succTo N q3 (j + 1)) from by rw [HL2.out, HT2.out, ← List.append_assoc]; exact hoa)
                      have PMA := Lib.hid (MapV.kept (MapV.kept (F := []) PM9.out K6b.out (by simp)) hsta.kept AP9.out)
                      have KAA := Lib.hid (kept_up (K9.out.trans K6b.out) hsta.kept FR9.out)
                      have APA := Lib.hid (show mp ∉ ft aa from fun hx => (hsta.fresh _ hx).elim AP9.out (fun h => by have h1 := MapV.lt (MapV.kept (F := []) PM9.out K6b.out (by simp)); omega))
                      have FRA := Lib.hid (show ∀ b ∈ ft aa, w3.heap.size ≤ b from fun b hb => (hsta.fresh b hb).elim (FR9.out b) (fun h => Nat.le_trans (K9.out.trans K6b.out).size h))
                      clear hoa hsta d0 d1 d2
                      go_wp2_with fail
                      go_roundw
                      case rel => exact ⟨j + 1, aa, ca, by omega, by go_num, by rw [HL2.out], HOA.out, PMA.out, KAA.out, APA.out, FRA.out⟩
                      case measure => simp [intOf]; omega
                    · have b1 : ((q3 : Int) == (q2 : Int)) = false := by simp; omega
                      rw [if_neg hqq, List.append_nil] at HT2
                      have HL2 := Lib.hid (show (tl ++ succTo N q2 (j + 1)).length = tm from by rw [HT2.out, ← HTM.out])
                      clear hqq
                      go_wp2_with fail
                      refine (HND2.out _).mono ?_
                      rintro e w6' ⟨rfl, rfl⟩
                      go_wp2_with fail
                      clear b1
                      go_roundw
                      case rel => exact ⟨j + 1, a9, c9, by omega, by go_num, by rw [HL2.out], by rw [HL2.out, HT2.out]; exact HO9.out.kept0 K5.out, MapV.kept (F := []) PM9.out K5.out (by simp), K9.out.trans K5.out, AP9.out, FR9.out⟩
                      case measure => simp [intOf]; omega
                  · obtain rfl : j = nR := by omega
                    have HSA := Lib.hid (show succTo N q2 j = succN N q2 from by rw [HNR.out]; exact succTo_all N q2)
                    rw [HSA.out] at HTM HO9
                    go_wp2_with fail
                    go_roundg g'
                    case measure => have := HFU.out; omega
                    case rel =>
                      have h1 := HFU.out
                      have h2 := HGF.out
                      have h3 := succ_few N q2
                      rw [List.length_cons] at h1
                      have hgo := BF.out.go HFI.out (by rw [← HQ.out]; exact HSE.out)
                      rw [← HQ.out] at hgo
                      have h4 := seen_few hgo
                      rw [List.length_append, List.length_singleton] at h4
                      refine ⟨seen ++ [q2], tl ++ succN N q2, a9, c9, by rw [HTM.out], by rw [← HTM.out]; exact HO9.out, PM9.out, hgo, ?_, by omega, K9.out, AP9.out, FR9.out⟩
                      rw [List.length_append, List.length_append, List.length_singleton]
                      rw [← HNR.out] at h3
                      obtain ⟨dd, hdd⟩ : ∃ dd, N.g.nodes.length - seen.length = dd + 1 := ⟨N.g.nodes.length - seen.length - 1, by omega⟩
                      rw [hdd, Nat.add_mul] at h1
                      rw [show N.g.nodes.length - (seen.length + 1) = dd by omega]
                      omega
              | false =>
                rw [hg, if_neg (by simp)] at HGC
                have HGP := Lib.hid (show gateP N q2 = [] from by unfold gateP; rw [hg, if_neg (by simp)])
                clear hg
                go_wp2_with fail
                refine HGC.out.mono ?_
                rintro e w8' ⟨rfl, k7⟩
                obtain ⟨a8, rfl⟩ : ∃ v, v = a3 := ⟨_, rfl⟩
                obtain ⟨c8, rfl⟩ : ∃ v, v = c3 := ⟨_, rfl⟩
                have HLE := Lib.hid (show tn = (tl ++ succTo N q2 0).length from by
                  rw [show succTo N q2 0 = [] from by unfold succTo; rw [HGP.out]; simp, List.append_nil]
                  exact HTN.out)
                have HO8 := Lib.hid (show OwnO w8' a8 (tl ++ succTo N q2 0).length c8 (tl ++ succTo N q2 0) from by
                  rw [show succTo N q2 0 = [] from by unfold succTo; rw [HGP.out]; simp, List.append_nil, ← HTN.out]
                  exact HO6.out.kept0 k7)
                have PM8 := Lib.hid (MapV.kept (F := []) PM6.out k7 (by simp))
                have K8' := Lib.hid (K6.out.trans k7)
                have AP8 := Lib.hid HAP3.out
                have FR8 := Lib.hid HFR3.out
                clear k7 c0
                have c3 := K8'.out.cell HC.out.c3 (by simp)
                rw [← HNR.out] at c3
                go_wp2_with fail
                clear c3
                go_loopw [10, 106] (fun v i wr => ∃ (j : Nat) (a : Option Addr) (c : Nat), j ≤ nR ∧ i = .int .i64 j ∧ v = .slice a (tl ++ succTo N q2 j).length c ∧ OwnO wr a (tl ++ succTo N q2 j).length c (tl ++ succTo N q2 j) ∧ PlMap wr mp (seenF (seen ++ [q2])) ∧ Kept [] w3 wr ∧ mp ∉ ft a ∧ ∀ b ∈ ft a, w3.heap.size ≤ b) (fun _ i _ => nR - (intOf i).toNat)
                case atStart => exact ⟨0, a8, c8, Nat.zero_le _, rfl, by rw [← HLE.out], HO8.out, PM8.out, K8'.out, AP8.out, FR8.out⟩
                case round =>
                  obtain ⟨j, a9, c9, hj, rfl, rfl, ho9, hpm9, hk9, hap9, hfr9⟩ := hrel
                  have HO9 := Lib.hid ho9
                  have PM9 := Lib.hid hpm9
                  have K9 := Lib.hid hk9
                  have AP9 := Lib.hid hap9
                  have FR9 := Lib.hid hfr9
                  have HSF := Lib.hid (succTo_few N q2 j)
                  clear ho9 hpm9 hk9 hap9 hfr9
                  obtain ⟨tm, htm⟩ : ∃ v, v = (tl ++ succTo N q2 j).length := ⟨_, rfl⟩
                  have HTM := Lib.hid htm
                  have htm2 : tm ≤ 600000 := by
                    have h1 := HSF.out
                    have h2 := HTB.out
                    rw [htm, List.length_append, ← HTN.out]
                    omega
                  rw [← htm] at HO9 ⊢
                  clear htm
                  by_cases hlt9 : j < nR
                  · have hjl : j < N.regs.length := by rw [← HNR.out]; exact hlt9
                    obtain ⟨gr, rfl, e0, e1, e2, e3⟩ := ((regs_sl (l := N.regs) rfl HC.out.rb).kept0 K9.out) j hjl
                    have HT2 := Lib.hid (succTo_next (x := q2) (List.getElem?_eq_getElem hjl))
                    have hql : N.regs[j].q < 4294967296 := by
                      have := HFI.out.ok.rl _ (List.getElem_mem hjl)
                      have h1 := this.1
                      have h2 := HFI.out.ok.len
                      unfold Gr.ok at h1
                      omega
                    generalize N.regs[j] = r at *
                    obtain ⟨rq, d, en, init⟩ := r
                    simp only at e0 e1 e2 e3 HT2 hql
                    have HND2 := Lib.hid (fun V => lit_node rq V hql)
                    obtain ⟨q3, hq3⟩ : ∃ v, v = rq / 2 := ⟨_, rfl⟩
                    rw [← hq3] at HND2 HT2
                    have m0 : (0 : Int) ≤ (j : Int) := by omega
                    have m1 : (j : Int) < (nR : Int) := by omega
                    clear hjl hql hq3
                    go_upto_region 27 with (fail)
                    obtain ⟨w5, hw5⟩ : ∃ v, v = wr.alloc (.cells #[.int .u32 (rq : Int), .int .u32 (d : Int), .int .u32 (en : Int), .bool init] 63) := ⟨_, rfl⟩
                    obtain ⟨b5, hb5⟩ : ∃ v, v = wr.heap.size := ⟨_, rfl⟩
                    have K5 := Lib.hid (show Kept [] wr w5 from by rw [hw5]; exact (Kept.refl [] wr).alloc _)
                    have hbl : w5.heap[b5]? = some (.cells #[.int .u32 (rq : Int), .int .u32 (d : Int), .int .u32 (en : Int), .bool init] 63 (0, 0)) := by rw [hw5, hb5]; exact heap_alloc_new wr _
                    rw [← hw5, ← hb5]
                    have d0 : w5.cell? ⟨b5, 0, none⟩ = some (.int .u32 (rq : Int)) := blk_cell hbl 0
                    have d1 : w5.cell? ⟨b5, 1, none⟩ = some (.int .u32 (d : Int)) := blk_cell hbl 1
                    have d2 : w5.cell? ⟨b5, 2, none⟩ = some (.int .u32 (en : Int)) := blk_cell hbl 2
                    clear hw5 hb5 hbl e0 e1 e2 e3
                    by_cases hqq : q3 = q2
                    · subst hqq
                      rw [if_pos rfl] at HT2
                      have K6b := Lib.hid (K5.out.alloc (.cells #[.int .u32 (d : Int), .int .u32 (en : Int)] 61))
                      have HO6b := Lib.hid (HO9.out.kept0 K6b.out)
                      go_wp2_with fail
                      refine (HND2.out _).mono ?_
                      rintro e w6' ⟨rfl, rfl⟩
                      go_wp2_with (at_builtin; refine wpList_catO (nl := [d, en]) rfl rfl rfl rfl HO6b.out rfl (news_blk (t := 61) (heap_alloc_new _ _)) (by omega) ?_; intro aa ca wa hoa hsta)
                      have HL2 := Lib.hid (show (tl ++ succTo N q3 (j + 1)).length = tm + 2 from by rw [HT2.out, ← List.append_assoc, List.length_append, ← HTM.out]; rfl)
                      have HOA := Lib.hid (show OwnO wa aa (tl ++ succTo N q3 (j + 1)).length ca (tl ++ succTo N q3 (j + 1)) from by rw [HL2.out, HT2.out, ← List.append_assoc]; exact hoa)
                      have PMA := Lib.hid (MapV.kept (MapV.kept (F := []) PM9.out K6b.out (by simp)) hsta.kept AP9.out)
                      have KAA := Lib.hid (kept_up (K9.out.trans K6b.out) hsta.kept FR9.out)
                      have APA := Lib.hid (show mp ∉ ft aa from fun hx => (hsta.fresh _ hx).elim AP9.out (fun h => by have h1 := MapV.lt (MapV.kept (F := []) PM9.out K6b.out (by simp)); omega))
                      have FRA := Lib.hid (show ∀ b ∈ ft aa, w3.heap.size ≤ b from fun b hb => (hsta.fresh b hb).elim (FR9.out b) (fun h => Nat.le_trans (K9.out.trans K6b.out).size h))
                      clear hoa hsta d0 d1 d2
                      go_wp2_with fail
                      go_roundw
                      case rel => exact ⟨j + 1, aa, ca, by omega, by go_num, by rw [HL2.out], HOA.out, PMA.out, KAA.out, APA.out, FRA.out⟩
                      case measure => simp [intOf]; omega
                    · have b1 : ((q3 : Int) == (q2 : Int)) = false := by simp; omega
                      rw [if_neg hqq, List.append_nil] at HT2
                      have HL2 := Lib.hid (show (tl ++ succTo N q2 (j + 1)).length = tm from by rw [HT2.out, ← HTM.out])
                      clear hqq
                      go_wp2_with fail
                      refine (HND2.out _).mono ?_
                      rintro e w6' ⟨rfl, rfl⟩
                      go_wp2_with fail
                      clear b1
                      go_roundw
                      case rel => exact ⟨j + 1, a9, c9, by omega, by go_num, by rw [HL2.out], by rw [HL2.out, HT2.out]; exact HO9.out.kept0 K5.out, MapV.kept (F := []) PM9.out K5.out (by simp), K9.out.trans K5.out, AP9.out, FR9.out⟩
                      case measure => simp [intOf]; omega
                  · obtain rfl : j = nR := by omega
                    have HSA := Lib.hid (show succTo N q2 j = succN N q2 from by rw [HNR.out]; exact succTo_all N q2)
                    rw [HSA.out] at HTM HO9
                    go_wp2_with fail
                    go_roundg g'
                    case measure => have := HFU.out; omega
                    case rel =>
                      have h1 := HFU.out
                      have h2 := HGF.out
                      have h3 := succ_few N q2
                      rw [List.length_cons] at h1
                      have hgo := BF.out.go HFI.out (by rw [← HQ.out]; exact HSE.out)
                      rw [← HQ.out] at hgo
                      have h4 := seen_few hgo
                      rw [List.length_append, List.length_singleton] at h4
                      refine ⟨seen ++ [q2], tl ++ succN N q2, a9, c9, by rw [HTM.out], by rw [← HTM.out]; exact HO9.out, PM9.out, hgo, ?_, by omega, K9.out, AP9.out, FR9.out⟩
                      rw [List.length_append, List.length_append, List.length_singleton]
                      rw [← HNR.out] at h3
                      obtain ⟨dd, hdd⟩ : ∃ dd, N.g.nodes.length - seen.length = dd + 1 := ⟨N.g.nodes.length - seen.length - 1, by omega⟩
                      rw [hdd, Nat.add_mul] at h1
                      rw [show N.g.nodes.length - (seen.length + 1) = dd by omega]
                      omega
end Go.Proofs.YtdmcdhkkbkgnbaaGreat
