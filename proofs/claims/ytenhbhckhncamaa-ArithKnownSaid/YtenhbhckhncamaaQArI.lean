/-
  Package arith: products.
-/
import Derived.Test.YtenhbhckhncamaaQArH
namespace Go.Proofs.Ytenhbhckhncamaa
open Go.ChangeShapes Go.WideShapes Go.ChangeAt Go.RowKit
set_option linter.unusedVariables false
set_option linter.unusedSimpArgs false

variable {w w' W V w0 : World} {mb p how q n k x y : Nat} {F F0 F' S S' : List Nat} {g g' : Gr} {a b : Option Addr} {ca cb : Nat} {la lb : List Nat}
theorem ar_elem : Try.prog.elem 25 = 34 := by kernel_rfl
theorem ar_size (V : World) : (sizeOf 34).run Try.prog V = .ok 1 V := by kernel_rfl
theorem ar_addadd (a : Addr) (m n : Nat) : (a.add m).add n = a.add (m + n) := by
  unfold Addr.add
  obtain ⟨b, o, s⟩ := a
  by_cases hm : m = 0 <;> by_cases hn : n = 0 <;> simp [hm, hn, Nat.add_assoc]
theorem ar_head (w : World) (a : Option Addr) (n c i : Nat) (l : List Nat) (hi : i ≤ l.length) (hn : n = l.length) (hc : i ≤ c) (hs : SlN w .u32 a l) :
    ∃ a' c', (∀ V : World, (Instr.sliceAt 25 (.slice a n c) none (some (.int .i64 (i : Int))) none).run Try.prog V = .ok (.slice a' i c') V) ∧ SlN w .u32 a' (l.take i) ∧ i ≤ c' ∧ ∀ b ∈ ft a', b ∈ ft a := by
  have hz : ∀ V, (Instr.sliceAt 25 (.slice a n c) none (some (.int .i64 (i : Int))) none).run Try.prog V = .ok (sliced a 0 i c 1) V := fun V => by
    rw [run_sliceAt_slice (P := Try.prog) V _ _ _ _ _ (by rw [ar_elem]; exact Try.underlying25), run_slice_h (P := Try.prog) V _ a n c (by rw [ar_elem]; exact Try.underlying25) .i64 (i : Int) (by omega) (by omega), ar_elem, ar_size]
    simp only [Result.andThen_ok, Int.toNat_natCast]
  unfold sliced at hz
  refine ⟨_, _, hz, fun k hk => ?_, by omega, fun b hb => ?_⟩
  · rw [List.length_take] at hk
    obtain ⟨ad, rfl, h2⟩ := hs k (by omega)
    split
    · exact ⟨ad, rfl, by rw [h2, List.getElem_take]⟩
    · refine ⟨ad.add (0 * 1), rfl, ?_⟩
      rw [ar_addadd, Nat.zero_mul, Nat.zero_add, h2, List.getElem_take]
  · split at hb
    · exact hb
    · cases a with
      | none => exact hb
      | some ad =>
        simp only [Option.map_some, ft, Option.toList_some, List.mem_singleton] at hb ⊢
        rw [hb, block_add]
/-- a maker whose graph grows -/
structure MulAt (w0 w : World) (mb p how : Nat) (F0 F : List Nat) (g : Gr) : Prop where
  ar : ArAt w mb p how F g
  st : Stepped w0 w F0 F
  lt : mb < w0.heap.size
theorem MulAt.kept0 (h : MulAt w0 w mb p how F0 F g) (hk : Kept [] w w') : MulAt w0 w' mb p how F0 F g := ⟨h.ar.kept0 hk, h.st.keep hk, h.lt⟩
theorem MulAt.step (h : MulAt w0 w mb p how F0 F g) (hg : GraphAt w' p F' g') (hs : Stepped w w' F F') : MulAt w0 w' mb p how F0 F' g' := ⟨h.ar.step hs hg, h.st.trans hs, h.lt⟩
theorem MulAt.row (h : MulAt w0 w mb p how F0 F g) (hs : Stepped w w' S S') (h1 : ∀ b ∈ S, b ∉ F) (h2 : ∀ b ∈ S, w0.heap.size ≤ b) : MulAt w0 w' mb p how F0 F g :=
  ⟨⟨h.ar.gr.kept hs.kept (fun b hb hx => h1 b hx hb), hs.kept.heap h.ar.blk (fun hx => by have := h2 _ hx; have := h.lt; omega)⟩, (GrowAt.row ⟨h.ar.gr, h.st⟩ hs h1 h2).st, h.lt⟩
theorem Stepped.left {S T : List Nat} (h : Stepped w w' F (S ++ T)) : Stepped w w' F S := ⟨h.kept, fun x hx => h.fresh x (List.mem_append_left _ hx)⟩
set_option maxHeartbeats 6400000 in
set_option maxRecDepth 100000 in
theorem mul_c (h : ArAt w mb p how F g) (hh : how = 1 ∨ how = 2) (hm : g.nodes.length + n * (n + sumK n) ≤ 169000) (h1 : 1 ≤ n) (hn : n ≤ 64) (hla : la.length = n) (hlb : lb.length = n) (hca : n ≤ ca) (hra : RowAt w F a la) (hrb : RowAt w F b lb) (hoa : ∀ x ∈ la, g.ok x) (hob : ∀ x ∈ lb, g.ok x) :
    Calls Try.prog 27 #[.pointer (some ⟨mb, 0, none⟩), .slice a n ca, .slice b n cb] w (ArRow (prodG how g la lb n n) n w p F) := by
  have HH := Lib.hid h
  have HW := Lib.hid hh
  have HRA := Lib.hid hra
  have HRB := Lib.hid hrb
  have HLA := Lib.hid hla
  have HLB := Lib.hid hlb
  have HOK := Lib.hid (fun i hi => prodG_ok (how := how) (lb := lb) h.gr.wf hoa hob hn i hi)
  have HOA := Lib.hid hoa
  have HOB := Lib.hid (fun k => getD_ok h.gr.wf hob k)
  have HMM := Lib.hid hm
  have HNE := Lib.hid (show la ≠ [] ∧ lb ≠ [] from ⟨fun h => by rw [h] at hla; simp at hla; omega, fun h => by rw [h] at hlb; simp at hlb; omega⟩)
  have HMB := Lib.hid (show mb < w.heap.size from World.block_lt_of_cell? _ _ h.c0)
  clear h hh hra hrb hla hlb hoa hob hm
  go_enter Try.func27, Try.ntmps27
  go_wp2_with fail
  go_loopw [8, 19] (fun v iv wr => ∃ (i ln : Nat) (F1 : List Nat) (a1 : Option Addr) (c1 : Nat), i ≤ n ∧ iv = .int .i64 i ∧ v = .slice a1 ln c1 ∧ Hid (ln = if i = 0 then 0 else n) ∧ Own wr 34 a1 ln c1 (nats .u32 (prodG how g la lb n i).2) ∧ MulAt w wr mb p how F F1 (prodG how g la lb n i).1 ∧ RowAt wr F1 a la ∧ RowAt wr F1 b lb ∧ (∀ x ∈ ft a1, x ∈ F ∨ w.heap.size ≤ x)) (fun _ iv _ => n - (intOf iv).toNat)
  case atStart => exact ⟨0, 0, F, none, 0, Nat.zero_le _, rfl, rfl, Lib.hid rfl, by simpa [prodG, nats] using Own.nil _ _, ⟨HH.out, .refl _ _, HMB.out⟩, HRA.out, HRB.out, by simp [ft]⟩
  case round =>
    obtain ⟨i, ln, F1, a1, c1, hi, rfl, rfl, hln, ho, hgr, hra, hrb, hfa⟩ := hrel
    obtain ⟨wa, rfl⟩ : ∃ v : World, v = wr := ⟨_, rfl⟩
    have HO := Lib.hid ho
    have GR := Lib.hid hgr
    have FA := Lib.hid hfa
    have RA := Lib.hid hra
    have RB := Lib.hid hrb
    have LN := Lib.hid hln.out
    clear ho hgr hfa hra hrb hln
    by_cases hlt : i < n
    · obtain ⟨bd, rfl, cy⟩ := getD_cell RB.out.sl (k := i) (by rw [HLB.out]; exact hlt)
      obtain ⟨z, hz⟩ : ∃ z, z = n - i := ⟨_, rfl⟩
      obtain ⟨ah, ch, hsh, hsl, hch, hfh⟩ := ar_head wa a n ca z la (by rw [HLA.out]; omega) HLA.out.symm (by omega) RA.out.sl
      have HSL := Lib.hid hsl
      have HFH := Lib.hid hfh
      have hw1 : IntKind.i64.wrap ((n : Int) - (i : Int)) = (z : Int) := by rw [IntWalk.i64_in _ (by omega)]; omega
      have HZ := Lib.hid hz
      have hzn : z ≤ n := by omega
      have HPS := Lib.hid (show prodG how g la lb n (i + 1) = (if i = 0 then andsG (lb.getD i 0) (prodG how g la lb n i).1 la (n - i) else sumG how (andsG (lb.getD i 0) (prodG how g la lb n i).1 la (n - i)).1 (prodG how g la lb n i).2 (zerosL i ++ (andsG (lb.getD i 0) (prodG how g la lb n i).1 la (n - i)).2) 0 n) from rfl)
      have hok := HOK.out i hi
      have HXO := Lib.hid (hok.ext.ok (HOB.out i))
      have HKO := Lib.hid hok
      have HBD := Lib.hid (show (prodG how g la lb n i).1.nodes.length + (n + sumK n) ≤ 169000 from by
        obtain ⟨more, e1, e2⟩ := hok.ext.pre
        rw [e1, List.length_append]
        have e3 := HMM.out
        have e4 : i * (n + sumK n) + (n + sumK n) ≤ n * (n + sumK n) := by
          rw [← Nat.succ_mul]
          exact Nat.mul_le_mul_right _ hlt
        omega)
      rw [← hz] at HPS
      obtain ⟨sg, hsg⟩ : ∃ s, s = (prodG how g la lb n i).1 := ⟨_, rfl⟩
      obtain ⟨sl, hsl2⟩ : ∃ s, s = (prodG how g la lb n i).2 := ⟨_, rfl⟩
      have HKL := Lib.hid (show sl.length = ln ∧ (∀ x ∈ sl, sg.ok x) ∧ WF sg.nodes ∧ Ext (i * (n + sumK n)) g sg from by rw [hsl2, hsg, hok.len, LN.out]; exact ⟨rfl, hok.ok, hok.wf, hok.ext⟩)
      rw [← hsg] at GR HPS HXO HBD
      rw [← hsl2] at HO HPS
      obtain ⟨x, hx⟩ : ∃ z, z = lb.getD i 0 := ⟨_, rfl⟩
      rw [← hx] at cy HPS HXO
      have HAO := Lib.hid (fun j => andsG_ok (x := x) (g := sg) (l := la) HKL.out.2.2.1 HXO.out (fun y hy => HKL.out.2.2.2.ok (HOA.out y hy)) j)
      have HAA := Lib.hid (fun j => (HKL.out.2.2.2.ok (getD_ok HH.out.gr.wf HOA.out j)))
      have i0 : (0 : Int) ≤ (i : Int) := by omega
      have i1 : (i : Int) < (n : Int) := by omega
      have HLC := Lib.hid (fun V => c_const 0 i 0 (i : Int) rfl V (by omega) (by omega))
      clear hok hsg hsl2 hx hsl hch hfh hz
      go_wp2_with fail
      refine (HLC.out _).mono ?_
      rintro e w2 ⟨a2, c2, rfl, ho2, hs2⟩
      have K2 := Lib.hid hs2.kept
      have O2 := Lib.hid (show Own w2 34 a2 i c2 (nats .u32 (zerosL i)) from by rw [← zeros_eq]; exact ho2)
      have F2 := Lib.hid (show ∀ x ∈ ft a2, wa.heap.size ≤ x from fun x hx => (hs2.fresh x hx).elim (by simp) id)
      clear ho2 hs2 cy
      go_wp2_with fail
      go_loopw [11, 33] (fun v jv wr => ∃ (j rl : Nat) (F3 : List Nat) (a3 : Option Addr) (c3 : Nat), j ≤ z ∧ jv = .int .i64 j ∧ v = .slice a3 rl c3 ∧ Hid (rl = i + j) ∧ Own wr 34 a3 rl c3 (nats .u32 (zerosL i ++ (andsG x sg la j).2)) ∧ MulAt w wr mb p how F F3 (andsG x sg la j).1 ∧ Own wr 34 a1 ln c1 (nats .u32 sl) ∧ RowAt wr F3 a la ∧ RowAt wr F3 (some bd) lb ∧ (∀ x ∈ ft a3, wa.heap.size ≤ x) ∧ GrowAt wa wr p F1 F3 (andsG x sg la j).1) (fun _ jv _ => z - (intOf jv).toNat)
      case atStart => exact ⟨0, i, F1, a2, c2, Nat.zero_le _, rfl, rfl, Lib.hid rfl, by simpa [andsG] using O2.out, GR.out.kept0 K2.out, HO.out.kept0 K2.out, RA.out.kept0 K2.out, RB.out.kept0 K2.out, F2.out, ⟨(GR.out.kept0 K2.out).ar.gr, (Stepped.refl wa F1).keep K2.out⟩⟩
      case round =>
        obtain ⟨j, rl, F3, a3, c3, hj, rfl, rfl, hrl, ho3, hgr3, ho1, hra3, hrb3, hfa3, hkw⟩ := hrel
        obtain ⟨wc, rfl⟩ : ∃ v : World, v = wr := ⟨_, rfl⟩
        have O3 := Lib.hid ho3
        have G3 := Lib.hid hgr3
        have O1 := Lib.hid ho1
        have RA3 := Lib.hid hra3
        have RB3 := Lib.hid hrb3
        have FA3 := Lib.hid hfa3
        have RL := Lib.hid hrl.out
        have KW := Lib.hid hkw
        clear ho3 hgr3 ho1 hra3 hrb3 hfa3 hrl hkw
        by_cases hjl : j < z
        · have hsc := HSL.out.kept KW.out.st.kept (fun b hb => RA.out.ap b (HFH.out b hb))
          obtain ⟨adh, rfl, cyy⟩ := getD_cell hsc (k := j) (by rw [List.length_take, HLA.out]; omega)
          have e1 : (la.take z).getD j 0 = la.getD j 0 := by
            rw [List.getD_eq_getElem?_getD, List.getD_eq_getElem?_getD, List.getElem?_take, if_pos hjl]
          rw [e1] at cyy
          have hok3 := HAO.out j
          have HXK := Lib.hid (hok3.ext.ok HXO.out)
          have HYK := Lib.hid (hok3.ext.ok (HAA.out j))
          have HGB := Lib.hid (show (andsG x sg la j).1.nodes.length ≤ 190000 from by
            obtain ⟨more, e2, e3⟩ := hok3.ext.pre
            have e4 := HBD.out
            rw [e2, List.length_append]
            omega)
          have HSB := Lib.hid (show andsG x sg la (j + 1) = ((andG (andsG x sg la j).1 x (la.getD j 0)).1, (andsG x sg la j).2 ++ [(andG (andsG x sg la j).1 x (la.getD j 0)).2]) from rfl)
          obtain ⟨gk, hgk⟩ : ∃ q, q = (andsG x sg la j).1 := ⟨_, rfl⟩
          obtain ⟨lk, hlk⟩ : ∃ q, q = (andsG x sg la j).2 := ⟨_, rfl⟩
          rw [← hgk] at HXK HYK HGB HSB G3 KW
          rw [← hlk] at HSB O3
          obtain ⟨y, hy⟩ : ∃ q, q = la.getD j 0 := ⟨_, rfl⟩
          rw [← hy] at HYK HSB cyy
          have HTW := Lib.hid (fun (V : World) (hV : Kept [] wc V) (q : Nat) (h0 : V.cell? ⟨q, 0, none⟩ = some (.int .u32 (x : Int))) (h1 : V.cell? ⟨q, 1, none⟩ = some (.int .u32 (y : Int))) (hq : wc.heap.size ≤ q) => show Calls Try.prog 24 #[.pointer (some ⟨p, 0, none⟩), .slice (some ⟨q, 0, none⟩) 2 2] V (Twos (andG gk x y) V p F3) from by
            exact aig_And_ (G3.out.ar.gr.kept0 hV) (some ⟨q, 0, none⟩) 2 2 [x, y] rfl (by have := HGB.out; omega) (two_cells V x y q h0 h1) (by simp [HXK.out, HYK.out]) (by intro z hz hf; simp [ft] at hz; subst hz; have := G3.out.ar.gr.lt _ hf; omega))
          obtain ⟨rz, hrz⟩ : ∃ q, q = andG gk x y := ⟨_, rfl⟩
          rw [← hrz] at HTW HSB
          have cm := G3.out.ar.c0
          have j0 : (0 : Int) ≤ (j : Int) := by omega
          have j1 : (j : Int) < (z : Int) := by omega
          clear hsc e1 hok3 hgk hlk hy hrz
          go_wp2_with fail
          refine (HTW.out _ ((Kept.refl [] wc).alloc _) _ (by simp [World.cell?_alloc_new]) (by simp [World.cell?_alloc_new]) (by simp)).mono ?_
          rintro e w6 ⟨F6, rfl, hg6, hs6⟩
          have HS6 := Lib.hid (show Stepped wc w6 F3 F6 from ((Stepped.refl wc F3).keep ((Kept.refl [] wc).alloc _)).trans hs6)
          have G6 := Lib.hid (G3.out.step hg6 HS6.out)
          have W6 := Lib.hid (KW.out.step hg6 HS6.out)
          have O36 := Lib.hid (O3.out.kept HS6.out.kept (G3.out.ar.gr.apart O3.out (by decide) (by decide) (by decide)))
          have O16 := Lib.hid (O1.out.kept HS6.out.kept (G3.out.ar.gr.apart O1.out (by decide) (by decide) (by decide)))
          have RA6 := Lib.hid (RA3.out.step HS6.out HNE.out.1)
          have RB6 := Lib.hid (RB3.out.step HS6.out HNE.out.2)
          have ho36 := O36.out
          have hrlb : rl ≤ 64 := by have := RL.out; have := HZ.out; omega
          clear hg6 hs6 cm cyy HTW
          go_wp2_with (at_builtin; refine wpList_push rfl rfl Try.underlying25 lit_info rfl rfl rfl ho36 rfl (by unfold maxLen; omega) (by omega) ?_; intro a8 c8 w8 hown8 hst8)
          have FW := Lib.hid (show ∀ b ∈ ft a3, w.heap.size ≤ b from fun b hb => Nat.le_trans GR.out.st.kept.size (FA3.out b hb))
          have G8 := Lib.hid (G6.out.row hst8 (G6.out.ar.gr.apart O36.out (by decide) (by decide) (by decide)) FW.out)
          have W8 := Lib.hid (W6.out.row hst8 (G6.out.ar.gr.apart O36.out (by decide) (by decide) (by decide)) FA3.out)
          have O18 := Lib.hid (O16.out.kept hst8.kept (fun b hb hx => by have h1 := HO.out.lt b hb; have h2 := FA3.out b hx; omega))
          have RA8 := Lib.hid (RA6.out.row hst8 (fun b hb hx => by have h1 := RA.out.lt b hb HNE.out.1; have h2 := FA3.out b hx; omega))
          have RB8 := Lib.hid (RB6.out.row hst8 (fun b hb hx => by have h1 := RB.out.lt b hb HNE.out.2; have h2 := FA3.out b hx; omega))
          have FA8 := Lib.hid (show ∀ b ∈ ft a8, wa.heap.size ≤ b from fun b hb => (hst8.fresh b hb).elim (FA3.out b) (fun h => Nat.le_trans W6.out.st.kept.size h))
          have O38 := Lib.hid (show Own w8 34 a8 (rl + 1) c8 (nats .u32 (zerosL i ++ (lk ++ [rz.2]))) from by rw [← List.append_assoc, ← nats_append]; exact hown8)
          clear hown8 hst8 ho36
          go_roundw
          case rel => exact ⟨j + 1, rl + 1, F6, a8, c8, by omega, by go_num, rfl, Lib.hid (by have := RL.out; omega), by rw [HSB.out]; exact O38.out, by rw [HSB.out]; exact G8.out, O18.out, RA8.out, RB8.out, FA8.out, by rw [HSB.out]; exact W8.out⟩
          case measure => simp [intOf]; omega
        · obtain rfl : z = j := by omega
          have hok3 := HAO.out z
          have HRL := Lib.hid (show rl = n from by have h1 := RL.out; have h2 := HZ.out; omega)
          by_cases h0 : i = 0
          · subst h0
            rw [if_pos rfl] at HPS
            have O4 := Lib.hid (show Own wc 34 a3 rl c3 (nats .u32 (andsG x sg la z).2) from by simpa [zerosL] using O3.out)
            have F4 := Lib.hid (show ∀ b ∈ ft a3, b ∈ F ∨ w.heap.size ≤ b from fun b hb => .inr (Nat.le_trans GR.out.st.kept.size (FA3.out b hb)))
            go_wp2_with fail
            go_roundw
            case rel => exact ⟨1, rl, F3, a3, c3, by omega, by go_num, rfl, Lib.hid (by rw [HRL.out]; rfl), by rw [HPS.out]; exact O4.out, by rw [HPS.out]; exact G3.out, RA3.out, RB3.out, F4.out⟩
            case measure => simp [intOf]; omega
          · rw [if_neg h0] at HPS
            have hln : ln = n := by rw [LN.out, if_neg h0]
            have hrl : rl = n := HRL.out
            have hi0 : ((i : Int) == 0) = false := by simp; omega
            have HGB := Lib.hid (show (andsG x sg la z).1.nodes.length ≤ 169000 from by
              obtain ⟨more, e2, e3⟩ := hok3.ext.pre
              have e4 := HBD.out
              rw [e2, List.length_append]
              omega)
            have HSM := Lib.hid (sum_c (ca := c1) (cb := c3) (c := 0) G3.out.ar HW.out HGB.out h1 hn (show sl.length = n from by rw [HKL.out.1]; exact hln) (show (zerosL i ++ (andsG x sg la z).2).length = n from by rw [List.length_append, hok3.len]; simp [zerosL]; have := HZ.out; omega) O1.out.sln O3.out.sln (fun y hy => hok3.ext.ok (HKL.out.2.1 y hy)) (fun y hy => by
                rcases List.mem_append.1 hy with h | h
                · exact zerosL_ok hok3.wf i y h
                · exact hok3.ok y h) (one_ok hok3.wf).2 (G3.out.ar.gr.apart O1.out (by decide) (by decide) (by decide)) (G3.out.ar.gr.apart O3.out (by decide) (by decide) (by decide)))
            subst hln hrl
            clear hok3
            go_wp2_with fail
            refine HSM.out.mono ?_
            rintro e w7 ⟨F7, a7, c7, rfl, hg7, ho7, hs7⟩
            have HS7 := Lib.hid (Stepped.left hs7)
            have G7 := Lib.hid (G3.out.step hg7 HS7.out)
            have O7 := Lib.hid ho7
            have RA7 := Lib.hid (RA3.out.step HS7.out HNE.out.1)
            have RB7 := Lib.hid (RB3.out.step HS7.out HNE.out.2)
            have F8 := Lib.hid (show ∀ b ∈ ft a7, b ∈ F ∨ w.heap.size ≤ b from fun b hb => by
              rcases hs7.fresh b (List.mem_append_right _ hb) with h | h
              · exact G3.out.st.fresh b h
              · exact .inr (Nat.le_trans G3.out.st.kept.size h))
            clear hg7 ho7 hs7
            go_wp2_with fail
            go_roundw
            case rel => exact ⟨i + 1, _, F7, a7, c7, by omega, by go_num, rfl, Lib.hid (by simp), by rw [HPS.out]; exact O7.out, by rw [HPS.out]; exact G7.out, RA7.out, RB7.out, F8.out⟩
            case measure => simp [intOf]; omega
    · obtain rfl : n = i := by omega
      have HLE := Lib.hid (show ln = n from by rw [LN.out, if_neg (by omega)])
      obtain rfl : ln = n := HLE.out
      clear HLE LN
      go_wp2_with fail
      go_ret2
      exact ⟨F1, a1, c1, rfl, GR.out.ar.gr, HO.out, GR.out.st.kept, fun x hx => by
        rcases List.mem_append.1 hx with h | h
        · exact GR.out.st.fresh x h
        · exact FA.out x h⟩
end Go.Proofs.Ytenhbhckhncamaa
