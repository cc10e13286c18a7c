/-
  Package sweep: one look for registers that are needed: the closure's walk.
-/
import Derived.Test.YtdmcdhkkbkgnbaaGreatP21
namespace Go.Proofs.YtdmcdhkkbkgnbaaGreat
open Go.ChangeShapes Go.WideShapes Go.ChangeAt Go.RowKit
open Go.Maps (Keyed)
open Go.WideMaps
set_option linter.unusedVariables false
set_option linter.unusedSimpArgs false

variable {w w' W w0 : World} {p n k m bn bt bp bd mp gd : Nat} {F R S : List Nat} {g : Gr} {N : Nt} {nd : List Bool} {todo : List Nat}
def MorePost (w0 : World) (n bn bt bp bd mp gd : Nat) (N : Nt) (nd : List Bool) (todo : List Nat) (w : World) (e : Ending) (w' : World) : Prop :=
  e = .returned (.bool (decide (0 < (moreR N nd todo).2.length))) ∧ MoreAt w0 w' n bn bt bp bd mp gd N (moreR N nd todo).1 (moreR N nd todo).2
theorem keep_3 {w w' : World} {a0 a1 a2 : Addr} {v0 v1 v2 : Value} (hk : Kept [] w w') (h0 : w.cell? a0 = some v0) (h1 : w.cell? a1 = some v1) (h2 : w.cell? a2 = some v2) : w'.cell? a0 = some v0 ∧ w'.cell? a1 = some v1 ∧ w'.cell? a2 = some v2 := ⟨hk.cell h0 (by simp), hk.cell h1 (by simp), hk.cell h2 (by simp)⟩
/-- todo, gone on with -/
theorem MoreAt.push (h : MoreAt w0 w n bn bt bp bd mp gd N nd todo) {a a' : Option Addr} {c c' : Nat} {l : List Nat} (ht : w.heap[bt]? = some (.cells #[.slice a todo.length c] 58 (0, 0))) (ho : Own w 61 a todo.length c (nats .u32 todo)) (hf : ∀ b ∈ ft a, w0.heap.size ≤ b)
    (hs : Stepped w w' (ft a) (ft a')) (ho' : Own w' 61 a' l.length c' (nats .u32 l)) :
    MoreAt w0 (w'.setCell ⟨bt, 0, none⟩ (.slice a' l.length c')) n bn bt bp bd mp gd N nd l ∧ Kept (bt :: ft a) w (w'.setCell ⟨bt, 0, none⟩ (.slice a' l.length c')) := by
  obtain ⟨cg, hg⟩ := h.gdb
  have hk1 := hs.kept
  have a1 := blk_apart h.cn ho (by decide)
  have a2 := blk_apart h.cp ho (by decide)
  have a3 := blk_apart h.cd ho (by decide)
  have a4 := blk_apart hg ho (by decide)
  have a5 : mp ∉ ft a := fun hx => by
    obtain ⟨cur, hc⟩ := ho.apart hx
    exact h.pm.nocell hc rfl
  have a6 := blk_apart ht ho (by decide)
  have fr : ∀ b ∈ ft a', w0.heap.size ≤ b := fun b hb => (hs.fresh b hb).elim (hf b) (fun x => Nat.le_trans h.kept.size x)
  have ht' := hk1.heap ht a6
  have cn' := hk1.heap h.cn a1
  have cp' := hk1.heap h.cp a2
  have cd' := hk1.heap h.cd a3
  have hg' := hk1.heap hg a4
  have pm' : PlMap w' mp (placeR N.regs) := MapV.kept h.pm hk1 a5
  have own' := h.own.kept hk1 (fun b hb hx => by simp [ft] at hb; subst hb; exact a4 hx)
  have kept' := kept_up h.kept hk1 hf
  have hk : Kept [bt] w' (w'.setCell ⟨bt, 0, none⟩ (.slice a' l.length c')) := (Kept.refl [bt] w').setCell (p := ⟨bt, 0, none⟩) (.inl (by simp)) _
  have n1 := blk_ne cn' ht' (by decide)
  have n2 := blk_ne cp' ht' (by decide)
  have n3 := blk_ne cd' ht' (by decide)
  have n4 := blk_ne hg' ht' (by decide)
  have n5 : mp ≠ bt := fun e => pm'.nocell ht' e.symm
  refine ⟨⟨hk.heap cn' (by simpa using n1), hk.heap cp' (by simpa using n2), hk.heap cd' (by simpa using n3), ⟨a', c', ?_, ho'.kept hk (fun b hb hx => ?_), fr⟩, MapV.kept pm' hk (by simpa using n5), own'.kept hk (fun b hb hx => ?_), kept_up kept' hk (fun b hb => by simp at hb; subst hb; exact h.new _ (by simp)), h.new⟩, (hk1.more (by simp; exact fun b hb => .inr hb)).trans (hk.more (by simp))⟩
  · rw [blk_set ht' 0]
    rfl
  · simp at hx
    subst hx
    exact blk_apart ht' ho' (by decide) hb
  · simp at hx
    subst hx
    simp [ft] at hb
    exact n4 hb.symm
set_option maxHeartbeats 3200000 in
set_option maxRecDepth 100000 in
theorem more_c (hN : NetAt w0 n F R N) (hf : NtFine k N) (hk : k ≤ 700) (h : MoreAt w0 w n bn bt bp bd mp gd N nd todo) (hnl : nd.length = N.regs.length) (htl : todo.length ≤ 200000) (hok : ∀ x ∈ todo, N.g.ok x) :
    Calls Tryz.prog 37 #[.pointer (some ⟨bn, 0, none⟩), .pointer (some ⟨bt, 0, none⟩), .pointer (some ⟨bp, 0, none⟩), .pointer (some ⟨bd, 0, none⟩)] w (MorePost w0 n bn bt bp bd mp gd N nd todo w) := by
  have HF := Lib.hid hf
  have HM := Lib.hid h
  have HN := Lib.hid hN
  have HNL := Lib.hid hnl
  have hw := hf.ok.wf
  have hnn : N.g.nodes.length ≤ 44801 := by have := hf.ok.len; omega
  obtain ⟨a, c, ht, hto, htf⟩ := h.ct
  have HTF := Lib.hid htf
  obtain ⟨pp, G, ia, ic, ra, rc, oa, oc, ri, ro, hFe, hRe, hc⟩ := hN.kept0 h.kept
  have HC := Lib.hid hc
  have cbn : w.cell? ⟨bn, 0, none⟩ = some (.pointer (some ⟨n, 0, none⟩)) := blk_cell h.cn 0
  have cbt : w.cell? ⟨bt, 0, none⟩ = some (.slice a todo.length c) := blk_cell ht 0
  have c0 := hc.c0
  have HS := Lib.hid (fun (V : World) (hv : Kept [] w V) => cone_support (hc.gr.kept0 hv) (by omega) a c todo.length todo rfl (by omega) (hto.sln.kept0 hv) hok)
  obtain ⟨tl, htlen⟩ : ∃ x, x = todo.length := ⟨_, rfl⟩
  rw [← htlen] at cbt HS
  obtain ⟨sup, hsup⟩ : ∃ x, x = supportL N.g.nodes todo := ⟨_, rfl⟩
  have HSUP := Lib.hid hsup
  rw [← hsup] at HS
  have HSL := Lib.hid (show ∀ x ∈ sup, x < 44801 from fun x hx => by
    rw [hsup] at hx
    unfold supportL at hx
    have := (List.mem_filter.1 hx).1
    have := List.mem_range.1 this
    omega)
  have hsl : sup.length ≤ 44801 := by rw [hsup]; exact Nat.le_trans (pick_length _ _) hnn
  have HMO := Lib.hid (show moreR N nd todo = sup.foldl (meetR N) (nd, []) from by rw [hsup]; rfl)
  clear ht hto htf hFe hRe hc hsup htlen h hN hok
  go_enter Tryz.func37, Tryz.ntmps37
  go_wp2_with fail
  go_region_held3 (fun w' => w'.cell? ⟨bn, 0, none⟩ = some (.pointer (some ⟨n, 0, none⟩)) ∧ w'.cell? ⟨bt, 0, none⟩ = some (.slice a tl c) ∧ w'.cell? ⟨n, 0, none⟩ = some (.pointer (some ⟨pp, 0, none⟩)))
    (first | exact keep_3 (w := w) (by (repeat (first | with_reducible exact Kept.refl _ _ | with_reducible apply Kept.drew | with_reducible apply Kept.drewN | with_reducible apply Kept.alloc | refine Kept.trans ?_ k2))) cbn cbt c0 | go_keep)
    (first | (go_at_call 38; (with_reducible refine (HS.out _ ?kk).mono ?_); (case kk => ((repeat (first | with_reducible exact Kept.refl _ _ | with_reducible apply Kept.drew | with_reducible apply Kept.drewN | with_reducible apply Kept.alloc | refine Kept.trans ?_ k2)))); rintro e u2 ⟨sa, sc, sn, rfl, so, k2⟩))
  have K2 := Lib.hid (show Kept [] w u2 from by (repeat (first | with_reducible exact Kept.refl _ _ | with_reducible apply Kept.drew | with_reducible apply Kept.drewN | with_reducible apply Kept.alloc | refine Kept.trans ?_ k2)))
  have SO := Lib.hid so
  have HSN := Lib.hid (show sn = sup.length from by have := so.len; rw [nats_length] at this; omega)
  have M2 := HM.out.kept0 K2.out
  obtain ⟨a2, c2, ht2, _, _⟩ := M2.ct
  have cbt2 : u2.cell? ⟨bt, 0, none⟩ = some (.slice a2 todo.length c2) := blk_cell ht2 0
  have fzt : u2.frozen? ⟨bt, 0, none⟩ = false := blk_free ht2 0
  have M3 := Lib.hid (M2.setTodo (a := none) (c := 0) (l := []) (Own.nil _ _) (by simp [ft]))
  have SO3 := Lib.hid (so.kept ((Kept.refl [bt] u2).setCell (p := ⟨bt, 0, none⟩) (.inl (by simp)) (.slice none 0 0)) (fun b hb hx => by simp at hx; subst hx; exact blk_apart ht2 so (by decide) hb))
  have hsn6 : sn ≤ 44801 := by have := HSN.out; omega
  clear hsl
  clear so k2 ht2 M2 cbn c0 cbt
  go_wp2_with fail
  clear cbt2 fzt
  go_loopw [22] (fun v wr => ∃ i : Nat, i ≤ sn ∧ v = .int .i64 i ∧ MoreAt w0 wr n bn bt bp bd mp gd N ((sup.take i).foldl (meetR N) (nd, [])).1 ((sup.take i).foldl (meetR N) (nd, [])).2 ∧ Own wr 3 sa sn sc (nats .i64 sup)) (fun v _ => sn - (intOf v).toNat)
  case atStart => exact ⟨0, Nat.zero_le _, rfl, M3.out, SO3.out⟩
  case round =>
    obtain ⟨i, hi, rfl, hmr, hso⟩ := hrel
    have MR := Lib.hid hmr
    have SR := Lib.hid hso
    have HME := Lib.hid (meet_all (N := N) (nd0 := nd) HNL.out (sup.take i))
    by_cases hlt : i < sn
    · have hil : i < sup.length := by have := HSN.out; omega
      obtain ⟨ad, rfl, hcx⟩ := hso.sln i hil
      have HNX := Lib.hid (show (sup.take (i + 1)).foldl (meetR N) (nd, []) = meetR N ((sup.take i).foldl (meetR N) (nd, [])) sup[i] from by rw [List.take_succ_eq_append_getElem hil, List.foldl_append]; rfl)
      have hx := HSL.out _ (List.getElem_mem hil)
      generalize sup[i] = x at *
      generalize hS : (sup.take i).foldl (meetR N) (nd, []) = s at *
      have cbp : wr.cell? ⟨bp, 0, none⟩ = some (.map (some mp)) := blk_cell hmr.cp 0
      have hlk := hmr.pm.look x (by omega)
      have i0 : (0 : Int) ≤ (i : Int) := by omega
      have i1 : (i : Int) < (sn : Int) := by omega
      have HIL := Lib.hid hil
      clear hmr hso hil
      cases hp : placeR N.regs x with
      | none =>
        have HEQ := Lib.hid (show meetR N s x = s from by unfold meetR; rw [hp])
        rw [hp] at hlk
        simp only [Option.getD_none, Option.isSome_none] at hlk
        clear hp
        go_wp2_with fail
        go_roundw
        case rel => exact ⟨i + 1, by omega, by go_num, by rw [HNX.out, HEQ.out]; exact MR.out, SR.out⟩
        case measure => simp [intOf]; omega
      | some j =>
        obtain ⟨hj, hjq⟩ := placeR_lt hp
        rw [hp] at hlk
        simp only [Option.getD_some, Option.isSome_some] at hlk
        have hsl1 : s.1.length = N.regs.length := HME.out.len
        have cbd : wr.cell? ⟨bd, 0, none⟩ = some (.slice (some ⟨gd, 0, none⟩) N.regs.length N.regs.length) := blk_cell MR.out.cd 0
        have cgd := own_cell_b MR.out.own j (by omega)
        obtain ⟨nR, hnR⟩ : ∃ m, m = N.regs.length := ⟨_, rfl⟩
        have HNR := Lib.hid hnR
        have HPL := Lib.hid hp
        have HJ := Lib.hid hj
        rw [← hnR] at cbd hj
        have j0 : (0 : Int) ≤ (j : Int) := by omega
        have j1 : (j : Int) < (nR : Int) := by omega
        obtain ⟨b, hb⟩ : ∃ b, b = s.1.getD j false := ⟨_, rfl⟩
        have HB := Lib.hid hb
        rw [← hb] at cgd
        clear hp hnR hsl1 hb hjq
        cases b with
        | true =>
          have HEQ := Lib.hid (show meetR N s x = s from by unfold meetR; rw [HPL.out]; simp only; rw [if_pos HB.out.symm])
          go_wp2_with fail
          go_roundw
          case rel => exact ⟨i + 1, by omega, by go_num, by rw [HNX.out, HEQ.out]; exact MR.out, SR.out⟩
          case measure => simp [intOf]; omega
        | false =>
          have HEQ := Lib.hid (show meetR N s x = (s.1.set j true, s.2 ++ [(N.regs.getD j ⟨0, 0, 0, false⟩).d, (N.regs.getD j ⟨0, 0, 0, false⟩).en]) from by unfold meetR; rw [HPL.out]; simp only; rw [if_neg (by rw [← HB.out]; simp)])
          have fzg : wr.frozen? ⟨gd, j, none⟩ = false := by obtain ⟨cg, hg⟩ := MR.out.gdb; exact blk_free hg j
          have MS := MR.out.setNeed HJ.out
          have M4 := Lib.hid MS.1
          have K4 := Lib.hid MS.2
          clear MS
          go_wp2_with fail
          obtain ⟨w4, hw4⟩ : ∃ v, v = wr.setCell ⟨gd, j, none⟩ (.bool true) := ⟨_, rfl⟩
          rw [← hw4] at M4 K4 ⊢
          have S4 := Lib.hid (show Own w4 3 (some ad) sn sc (nats .i64 sup) from by
            obtain ⟨cg, hg⟩ := MR.out.gdb
            exact SR.out.kept K4.out (fun b hb hx => by simp at hx; subst hx; exact blk_apart hg SR.out (by decide) hb))
          obtain ⟨a4, c4, ht4, ho4, hf4⟩ := M4.out.ct
          obtain ⟨p4, G4, ia4, ic4, ra4, rc4, oa4, oc4, ri4, ro4, hFe4, _, hc4⟩ := HN.out.kept0 M4.out.kept
          have c3 := hc4.c3
          obtain ⟨gr, rfl, e0, e1, e2, e3⟩ := regs_sl (l := N.regs) rfl hc4.rb j HJ.out
          rw [← HNR.out] at c3
          have cbn : w4.cell? ⟨bn, 0, none⟩ = some (.pointer (some ⟨n, 0, none⟩)) := blk_cell M4.out.cn 0
          have cbt : w4.cell? ⟨bt, 0, none⟩ = some (.slice a4 s.2.length c4) := blk_cell ht4 0
          have hgd : N.regs.getD j ⟨0, 0, 0, false⟩ = N.regs[j]'HJ.out := by rw [List.getD_eq_getElem?_getD, List.getElem?_eq_getElem HJ.out]; rfl
          rw [hgd] at HEQ
          have htw : s.2.length ≤ 1400 := by
            have h1 := HME.out.twice
            have h2 : falses nd ≤ nd.length := List.countP_le_length
            have h3 := HNL.out
            have h4 := HF.out.ok.rk
            omega
          generalize N.regs[j]'HJ.out = r at *
          obtain ⟨rq, rd, re, rin⟩ := r
          simp only at e1 e2 HEQ
          obtain ⟨sl, hsl2⟩ : ∃ x, x = s.2.length := ⟨_, rfl⟩
          have HSL2 := Lib.hid hsl2
          rw [← hsl2] at cbt ho4 htw
          have HO4 := Lib.hid ho4
          have HF4 := Lib.hid hf4
          have HT4 := Lib.hid ht4
          have SFA := Lib.hid (show ∀ b ∈ ft (some ad), b ∉ bt :: ft a4 from fun b hb hx => by
            rcases List.mem_cons.1 hx with rfl | hx
            · exact blk_apart ht4 S4.out (by decide) hb
            · obtain ⟨cur, hcur⟩ := S4.out.apart hb
              exact blk_apart hcur ho4 (by decide) hx)
          have HBA := Lib.hid (show bt ∉ ft a4 from blk_apart ht4 ho4 (by decide))
          have KEEP := Lib.hid (fun (W : World) (hW : Kept (bt :: ft a4) w4 W) => show W.cell? ⟨bn, 0, none⟩ = some (.pointer (some ⟨n, 0, none⟩)) ∧ W.cell? ⟨n, 3, none⟩ = some (.slice (some ⟨gr, 0, none⟩) nR rc4) ∧ W.cell? ⟨gr, j * 4 + 1, none⟩ = some (.int .u32 (rd : Int)) ∧ W.cell? ⟨gr, j * 4 + 2, none⟩ = some (.int .u32 (re : Int)) from by
            have nb := M4.out.new bt (by simp)
            have l0 := HN.out.lt.1
            rw [hFe4] at l0
            have ln := l0 n (by simp)
            have lg := l0 gr (by simp [ft])
            have far : ∀ b, b < w0.heap.size → b ∉ bt :: ft a4 := fun b hb hx => by
              rcases List.mem_cons.1 hx with rfl | hx
              · omega
              · have := hf4 b hx; omega
            have fbn : bn ∉ bt :: ft a4 := fun hx => by
              rcases List.mem_cons.1 hx with h | hx
              · exact blk_ne M4.out.cn ht4 (by decide) h
              · exact blk_apart M4.out.cn ho4 (by decide) hx
            exact ⟨hW.cell cbn fbn, hW.cell c3 (far n ln), hW.cell e1 (far gr lg), hW.cell e2 (far gr lg)⟩)
          have HBT := Lib.hid (show (⟨bt, 0, none⟩ : Addr).block ∈ bt :: ft a4 ∨ w4.heap.size ≤ (⟨bt, 0, none⟩ : Addr).block from .inl (by simp))
          have hltb : bt < w4.heap.size := (Array.getElem?_eq_some_iff.1 ht4).1
          have cbtA : ∀ o, (w4.alloc o).cell? ⟨bt, 0, none⟩ = some (.slice a4 sl c4) := fun o => cell_alloc cbt o
          have fbt : w4.frozen? ⟨bt, 0, none⟩ = false := blk_free ht4 0
          have fbtA : ∀ o, (w4.alloc o).frozen? ⟨bt, 0, none⟩ = false := fun o => (((Kept.refl [] w4).alloc o).frozen hltb (by simp)).trans fbt
          clear hw4 e0 e3 hc4 ho4 hf4 ht4 hsl2 hgd fzg cgd cbd cbp hlk hFe4
          refine wp_region_held_drew (S := fun W => W.cell? ⟨bn, 0, none⟩ = some (.pointer (some ⟨n, 0, none⟩)) ∧ W.cell? ⟨n, 3, none⟩ = some (.slice (some ⟨gr, 0, none⟩) nR rc4) ∧ W.cell? ⟨gr, j * 4 + 1, none⟩ = some (.int .u32 (rd : Int)) ∧ W.cell? ⟨gr, j * 4 + 2, none⟩ = some (.int .u32 (re : Int))) (by kernel_rfl) ?_ (fun hHeld => ?_)
          · try dsimp only
            (with_reducible refine KEEP.out _ ?_; (repeat (first | with_reducible exact k9 | with_reducible refine Kept.setCell ?_ HBT.out _ | with_reducible exact Kept.refl _ _ | with_reducible apply Kept.drew | with_reducible apply Kept.drewN | with_reducible apply Kept.alloc)))
          refine wpAnyH_take (i := 1) (v := ?_) rfl (by kernel_rfl) (by kernel_rfl) (by kernel_rfl) (fun _ _ _ h => h) (Or.inl ⟨by rfl, ?_⟩) (by assumption) ?_
          rotate_left
          · intro w hSw; (try dsimp only at hSw); go_simp
            all_goals with_reducible rfl
          try simp only [Act.put, List.setIfInBounds_toArray, List.set_cons_zero, List.set_cons_succ]
          refine wpAnyH_take (i := 2) (v := ?_) rfl (by kernel_rfl) (by kernel_rfl) (by kernel_rfl) (fun _ _ _ h => h) (Or.inl ⟨by rfl, ?_⟩) (by assumption) ?_
          rotate_left
          · intro w hSw; (try dsimp only at hSw); go_simp
            all_goals with_reducible rfl
          try simp only [Act.put, List.setIfInBounds_toArray, List.set_cons_zero, List.set_cons_succ]
          refine wpAnyH_take (i := 3) (v := ?_) rfl (by kernel_rfl) (by kernel_rfl) (by kernel_rfl) (fun _ _ _ h => h) (Or.inl ⟨by rfl, ?_⟩) (by assumption) ?_
          rotate_left
          · intro w hSw; (try dsimp only at hSw); go_simp
            all_goals with_reducible rfl
          try simp only [Act.put, List.setIfInBounds_toArray, List.set_cons_zero, List.set_cons_succ]
          refine wpAnyH_take (i := 4) (v := ?_) rfl (by kernel_rfl) (by kernel_rfl) (by kernel_rfl) (fun _ _ _ h => h) (Or.inl ⟨by rfl, ?_⟩) (by assumption) ?_
          rotate_left
          · intro w hSw; (try dsimp only at hSw); go_simp
            all_goals with_reducible rfl
          try simp only [Act.put, List.setIfInBounds_toArray, List.set_cons_zero, List.set_cons_succ]
          refine wpAnyH_take (i := 5) (v := ?_) rfl (by kernel_rfl) (by kernel_rfl) (by kernel_rfl) (fun _ _ _ h => h) (Or.inl ⟨by rfl, ?_⟩) (by assumption) ?_
          rotate_left
          · intro w hSw; (try dsimp only at hSw); go_simp
            all_goals with_reducible rfl
          try simp only [Act.put, List.setIfInBounds_toArray, List.set_cons_zero, List.set_cons_succ]
          refine wpAnyH_take (i := 6) (v := ?_) rfl (by kernel_rfl) (by kernel_rfl) (by kernel_rfl) (fun _ _ _ h => h) (Or.inl ⟨by rfl, ?_⟩) (by assumption) ?_
          rotate_left
          · intro w hSw; (try dsimp only at hSw); go_simp
            all_goals with_reducible rfl
          try simp only [Act.put, List.setIfInBounds_toArray, List.set_cons_zero, List.set_cons_succ]
          refine wpAnyH_take (i := 7) (v := ?_) rfl (by kernel_rfl) (by kernel_rfl) (by kernel_rfl) (fun _ _ _ h => h) (Or.inl ⟨by rfl, ?_⟩) (by assumption) ?_
          rotate_left
          · intro w hSw; (try dsimp only at hSw); go_simp
            all_goals with_reducible rfl
          try simp only [Act.put, List.setIfInBounds_toArray, List.set_cons_zero, List.set_cons_succ]
          refine wpAnyH_take (i := 8) (v := ?_) rfl (by kernel_rfl) (by kernel_rfl) (by kernel_rfl) (fun _ _ _ h => h) (Or.inl ⟨by rfl, ?_⟩) (by assumption) ?_
          rotate_left
          · intro w hSw; (try dsimp only at hSw); go_simp
            all_goals with_reducible rfl
          try simp only [Act.put, List.setIfInBounds_toArray, List.set_cons_zero, List.set_cons_succ]
          refine wpAnyH_take (i := 9) (v := ?_) rfl (by kernel_rfl) (by kernel_rfl) (by kernel_rfl) (fun _ _ _ h => h) (Or.inl ⟨by rfl, ?_⟩) (by assumption) ?_
          rotate_left
          · intro w hSw; (try dsimp only at hSw); go_simp
            all_goals with_reducible rfl
          try simp only [Act.put, List.setIfInBounds_toArray, List.set_cons_zero, List.set_cons_succ]
          refine wpAnyH_take (i := 10) (v := ?_) rfl (by kernel_rfl) (by kernel_rfl) (by kernel_rfl) (fun _ _ _ h => h) (Or.inl ⟨by rfl, ?_⟩) (by assumption) ?_
          rotate_left
          · intro w hSw; (try dsimp only at hSw); go_simp
            all_goals with_reducible rfl
          try simp only [Act.put, List.setIfInBounds_toArray, List.set_cons_zero, List.set_cons_succ]
          refine wpAnyH_take (i := 11) (v := ?_) rfl (by kernel_rfl) (by kernel_rfl) (by kernel_rfl) (fun _ _ _ h => h) (Or.inl ⟨by rfl, ?_⟩) (by assumption) ?_
          rotate_left
          · intro w hSw; (try dsimp only at hSw); go_simp
            all_goals with_reducible rfl
          try simp only [Act.put, List.setIfInBounds_toArray, List.set_cons_zero, List.set_cons_succ]
          refine wpAnyH_take (i := 12) (v := ?_) rfl (by kernel_rfl) (by kernel_rfl) (by kernel_rfl) (fun _ _ _ h => h) (Or.inl ⟨by rfl, ?_⟩) (by assumption) ?_
          rotate_left
          · intro w hSw; (try dsimp only at hSw); go_simp
            all_goals with_reducible rfl
          try simp only [Act.put, List.setIfInBounds_toArray, List.set_cons_zero, List.set_cons_succ]
          refine wpAnyH_take (i := 13) (v := ?_) rfl (by kernel_rfl) (by kernel_rfl) (by kernel_rfl) (fun _ _ _ h => h) (Or.inl ⟨by rfl, ?_⟩) (by assumption) ?_
          rotate_left
          · intro w hSw; (try dsimp only at hSw); go_simp
            all_goals with_reducible rfl
          try simp only [Act.put, List.setIfInBounds_toArray, List.set_cons_zero, List.set_cons_succ]
          refine wpAnyH_take (i := 14) (v := ?_) rfl (by kernel_rfl) (by kernel_rfl) (by kernel_rfl) (fun _ _ _ h => h) (Or.inl ⟨by rfl, ?_⟩) (by assumption) ?_
          rotate_left
          · intro w hSw; (try dsimp only at hSw); go_simp
            all_goals with_reducible rfl
          try simp only [Act.put, List.setIfInBounds_toArray, List.set_cons_zero, List.set_cons_succ]
          refine wpAnyH_take (i := 15) (v := ?_) rfl (by kernel_rfl) (by kernel_rfl) (by kernel_rfl) (fun _ _ _ h => h) (Or.inl ⟨by rfl, ?_⟩) (by assumption) ?_
          rotate_left
          · intro w hSw; (try dsimp only at hSw); go_simp
            all_goals with_reducible rfl
          try simp only [Act.put, List.setIfInBounds_toArray, List.set_cons_zero, List.set_cons_succ]
          refine wpAnyH_take (i := 16) (v := ?_) rfl (by kernel_rfl) (by kernel_rfl) (by kernel_rfl) (fun _ _ _ h => h) (Or.inl ⟨by rfl, ?_⟩) (by assumption) ?_
          rotate_left
          · intro w hSw; (try dsimp only at hSw); go_simp
            all_goals with_reducible rfl
          try simp only [Act.put, List.setIfInBounds_toArray, List.set_cons_zero, List.set_cons_succ]
          refine wpAnyH_ready (rs := [0, 17]) (by kernel_rfl) (by simp) ?_
          refine AllReadyH.cons rfl (fun K hK => ?_) ?_
          · go_simp
            refine hK.out _ _ ?_ (fun hHeld => ?_)
            · (with_reducible refine KEEP.out _ ?_; (repeat (first | with_reducible exact k9 | with_reducible refine Kept.setCell ?_ HBT.out _ | with_reducible exact Kept.refl _ _ | with_reducible apply Kept.drew | with_reducible apply Kept.drewN | with_reducible apply Kept.alloc)))
            clear hK K
            try simp only [Act.put, List.setIfInBounds_toArray, List.set_cons_zero, List.set_cons_succ]
            refine wpAnyH_ready (rs := [17]) (by kernel_rfl) (by simp) ?_
            refine AllReadyH.cons rfl (fun K hK => ?_) ?_
            · go_simp
              refine hK.out _ _ ?_ (fun hHeld => ?_)
              · (with_reducible refine KEEP.out _ ?_; (repeat (first | with_reducible exact k9 | with_reducible refine Kept.setCell ?_ HBT.out _ | with_reducible exact Kept.refl _ _ | with_reducible apply Kept.drew | with_reducible apply Kept.drewN | with_reducible apply Kept.alloc)))
              clear hK K
              try simp only [Act.put, List.setIfInBounds_toArray, List.set_cons_zero, List.set_cons_succ]
              refine wpAnyH_ready (rs := [18]) (by kernel_rfl) (by simp) ?_
              refine AllReadyH.cons rfl (fun K hK => ?_) ?_
              · refine step_cat (a := a4) (n := sl) (cap := c4) (by rfl) (by rfl) Tryz.underlying58 lit_info rfl (by omega) (by rfl) (by rfl) (news := [.int .u32 (rd : Int), .int .u32 (re : Int)]) (own_kept (w := w4) (F := []) HO4.out (by (repeat (first | with_reducible exact Kept.refl _ _ | with_reducible apply Kept.drew | with_reducible apply Kept.drewN | with_reducible apply Kept.alloc))) (by simp)) rfl (news_blk (t := 61) (by exact heap_alloc_new _ _)) (by simp [Value.oneCell']) (by unfold maxLen; omega) (by omega) ?_
                intro a9 c9 w9 hown9 hst9
                have cw : w9.cell? ⟨bt, 0, none⟩ = some (.slice a4 sl c4) := hst9.kept.cell (cbtA _) HBA.out
                have fw : w9.frozen? ⟨bt, 0, none⟩ = false := (hst9.kept.frozen (Nat.lt_of_lt_of_le hltb (Kept.size (F := []) (by (repeat (first | with_reducible exact Kept.refl _ _ | with_reducible apply Kept.drew | with_reducible apply Kept.drewN | with_reducible apply Kept.alloc))))) HBA.out).trans (fbtA _)
                have k9 := ((show Kept (bt :: ft a4) w4 _ from (by (repeat (first | with_reducible exact Kept.refl _ _ | with_reducible apply Kept.drew | with_reducible apply Kept.drewN | with_reducible apply Kept.alloc)))).trans (hst9.kept.more (fun b hb => by simp [hb])))
                refine hK.out _ _ ?_ (fun hHeld => ?_)
                · (with_reducible refine KEEP.out _ ?_; (repeat (first | with_reducible exact k9 | with_reducible refine Kept.setCell ?_ HBT.out _ | with_reducible exact Kept.refl _ _ | with_reducible apply Kept.drew | with_reducible apply Kept.drewN | with_reducible apply Kept.alloc)))
                clear hK K
                try simp only [Act.put, List.setIfInBounds_toArray, List.set_cons_zero, List.set_cons_succ]
                refine wpAnyH_ready (rs := [19]) (by kernel_rfl) (by simp) ?_
                refine AllReadyH.cons rfl (fun K hK => ?_) ?_
                · go_simp
                  refine hK.out _ _ ?_ (fun hHeld => ?_)
                  · (with_reducible refine KEEP.out _ ?_; (repeat (first | with_reducible exact k9 | with_reducible refine Kept.setCell ?_ HBT.out _ | with_reducible exact Kept.refl _ _ | with_reducible apply Kept.drew | with_reducible apply Kept.drewN | with_reducible apply Kept.alloc)))
                  clear hK K
                  try simp only [Act.put, List.setIfInBounds_toArray, List.set_cons_zero, List.set_cons_succ]
                  refine wpAnyH_done (by kernel_rfl) ?_ _
                  have kx : Kept [] w4 (w4.alloc (.cells #[.int .u32 (rd : Int), .int .u32 (re : Int)] 61)).drew := ((Kept.refl [] w4).alloc _).drew
                  have hl9 : (s.2 ++ [rd, re]).length = sl + 2 := by rw [List.length_append, ← HSL2.out]; rfl
                  have ho9 : Own w9 61 a9 (s.2 ++ [rd, re]).length c9 (nats .u32 (s.2 ++ [rd, re])) := by
                    rw [hl9, show nats .u32 (s.2 ++ [rd, re]) = nats .u32 s.2 ++ [.int .u32 (rd : Int), .int .u32 (re : Int)] from by simp [nats]]
                    exact hown9
                  have PU := (M4.out.kept0 kx).push (a := a4) (c := c4) (kx.heap HT4.out (by simp)) (by rw [← HSL2.out]; exact HO4.out.kept0 kx) HF4.out hst9 ho9
                  rw [hl9] at PU
                  have M9 := Lib.hid PU.1
                  have S9 := Lib.hid ((S4.out.kept0 kx).kept PU.2 SFA.out)
                  clear PU kx hl9 ho9 hown9 hst9 cw fw k9
                  go_wp2_with fail
                  go_roundw
                  case rel => exact ⟨i + 1, by omega, by go_num, by rw [HNX.out, HEQ.out]; exact M9.out, S9.out⟩
                  case measure => simp [intOf]; omega
                exact AllReadyH.nil
              exact AllReadyH.nil
            exact AllReadyH.nil
          refine AllReadyH.cons rfl (fun K hK => ?_) ?_
          · go_simp
            refine hK.out _ _ ?_ (fun hHeld => ?_)
            · (with_reducible refine KEEP.out _ ?_; (repeat (first | with_reducible exact k9 | with_reducible refine Kept.setCell ?_ HBT.out _ | with_reducible exact Kept.refl _ _ | with_reducible apply Kept.drew | with_reducible apply Kept.drewN | with_reducible apply Kept.alloc)))
            clear hK K
            try simp only [Act.put, List.setIfInBounds_toArray, List.set_cons_zero, List.set_cons_succ]
            refine wpAnyH_ready (rs := [0]) (by kernel_rfl) (by simp) ?_
            refine AllReadyH.cons rfl (fun K hK => ?_) ?_
            · go_simp
              refine hK.out _ _ ?_ (fun hHeld => ?_)
              · (with_reducible refine KEEP.out _ ?_; (repeat (first | with_reducible exact k9 | with_reducible refine Kept.setCell ?_ HBT.out _ | with_reducible exact Kept.refl _ _ | with_reducible apply Kept.drew | with_reducible apply Kept.drewN | with_reducible apply Kept.alloc)))
              clear hK K
              try simp only [Act.put, List.setIfInBounds_toArray, List.set_cons_zero, List.set_cons_succ]
              refine wpAnyH_ready (rs := [18]) (by kernel_rfl) (by simp) ?_
              refine AllReadyH.cons rfl (fun K hK => ?_) ?_
              · refine step_cat (a := a4) (n := sl) (cap := c4) (by rfl) (by rfl) Tryz.underlying58 lit_info rfl (by omega) (by rfl) (by rfl) (news := [.int .u32 (rd : Int), .int .u32 (re : Int)]) (own_kept (w := w4) (F := []) HO4.out (by (repeat (first | with_reducible exact Kept.refl _ _ | with_reducible apply Kept.drew | with_reducible apply Kept.drewN | with_reducible apply Kept.alloc))) (by simp)) rfl (news_blk (t := 61) (by exact heap_alloc_new _ _)) (by simp [Value.oneCell']) (by unfold maxLen; omega) (by omega) ?_
                intro a9 c9 w9 hown9 hst9
                have cw : w9.cell? ⟨bt, 0, none⟩ = some (.slice a4 sl c4) := hst9.kept.cell (cbtA _) HBA.out
                have fw : w9.frozen? ⟨bt, 0, none⟩ = false := (hst9.kept.frozen (Nat.lt_of_lt_of_le hltb (Kept.size (F := []) (by (repeat (first | with_reducible exact Kept.refl _ _ | with_reducible apply Kept.drew | with_reducible apply Kept.drewN | with_reducible apply Kept.alloc))))) HBA.out).trans (fbtA _)
                have k9 := ((show Kept (bt :: ft a4) w4 _ from (by (repeat (first | with_reducible exact Kept.refl _ _ | with_reducible apply Kept.drew | with_reducible apply Kept.drewN | with_reducible apply Kept.alloc)))).trans (hst9.kept.more (fun b hb => by simp [hb])))
                refine hK.out _ _ ?_ (fun hHeld => ?_)
                · (with_reducible refine KEEP.out _ ?_; (repeat (first | with_reducible exact k9 | with_reducible refine Kept.setCell ?_ HBT.out _ | with_reducible exact Kept.refl _ _ | with_reducible apply Kept.drew | with_reducible apply Kept.drewN | with_reducible apply Kept.alloc)))
                clear hK K
                try simp only [Act.put, List.setIfInBounds_toArray, List.set_cons_zero, List.set_cons_succ]
                refine wpAnyH_ready (rs := [19]) (by kernel_rfl) (by simp) ?_
                refine AllReadyH.cons rfl (fun K hK => ?_) ?_
                · go_simp
                  refine hK.out _ _ ?_ (fun hHeld => ?_)
                  · (with_reducible refine KEEP.out _ ?_; (repeat (first | with_reducible exact k9 | with_reducible refine Kept.setCell ?_ HBT.out _ | with_reducible exact Kept.refl _ _ | with_reducible apply Kept.drew | with_reducible apply Kept.drewN | with_reducible apply Kept.alloc)))
                  clear hK K
                  try simp only [Act.put, List.setIfInBounds_toArray, List.set_cons_zero, List.set_cons_succ]
                  refine wpAnyH_done (by kernel_rfl) ?_ _
                  have kx : Kept [] w4 (w4.alloc (.cells #[.int .u32 (rd : Int), .int .u32 (re : Int)] 61)).drew := ((Kept.refl [] w4).alloc _).drew
                  have hl9 : (s.2 ++ [rd, re]).length = sl + 2 := by rw [List.length_append, ← HSL2.out]; rfl
                  have ho9 : Own w9 61 a9 (s.2 ++ [rd, re]).length c9 (nats .u32 (s.2 ++ [rd, re])) := by
                    rw [hl9, show nats .u32 (s.2 ++ [rd, re]) = nats .u32 s.2 ++ [.int .u32 (rd : Int), .int .u32 (re : Int)] from by simp [nats]]
                    exact hown9
                  have PU := (M4.out.kept0 kx).push (a := a4) (c := c4) (kx.heap HT4.out (by simp)) (by rw [← HSL2.out]; exact HO4.out.kept0 kx) HF4.out hst9 ho9
                  rw [hl9] at PU
                  have M9 := Lib.hid PU.1
                  have S9 := Lib.hid ((S4.out.kept0 kx).kept PU.2 SFA.out)
                  clear PU kx hl9 ho9 hown9 hst9 cw fw k9
                  go_wp2_with fail
                  go_roundw
                  case rel => exact ⟨i + 1, by omega, by go_num, by rw [HNX.out, HEQ.out]; exact M9.out, S9.out⟩
                  case measure => simp [intOf]; omega
                exact AllReadyH.nil
              exact AllReadyH.nil
            exact AllReadyH.nil
          exact AllReadyH.nil
    · obtain rfl : i = sn := by omega
      have HT := Lib.hid (show sup.take i = sup from List.take_of_length_le (by have := HSN.out; omega))
      have HE := Lib.hid (show ((sup.take i).foldl (meetR N) (nd, [])) = moreR N nd todo from by rw [HT.out, HMO.out])
      rw [HE.out] at MR
      obtain ⟨a9, c9, ht9, _, _⟩ := MR.out.ct
      have cbt : wr.cell? ⟨bt, 0, none⟩ = some (.slice a9 (moreR N nd todo).2.length c9) := blk_cell ht9 0
      obtain ⟨ml, hml⟩ : ∃ x, x = (moreR N nd todo).2.length := ⟨_, rfl⟩
      have HML := Lib.hid hml
      rw [← hml] at cbt
      clear hml ht9 hmr hso
      go_wp2_with fail
      go_ret
      refine ⟨?_, MR.out⟩
      rw [← HML.out]
      simp
end Go.Proofs.YtdmcdhkkbkgnbaaGreat
