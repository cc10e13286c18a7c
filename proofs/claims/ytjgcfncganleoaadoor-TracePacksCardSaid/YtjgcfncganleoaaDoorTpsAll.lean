/-
  TracePacks: the law's tied card. Rows of tables in lanes are the document's: for any row and any tables, the first 8, of at most 20 buses and 30 rows (few cuts them so). Conditions: the laid tables of the library hold what the program's text lays (the tie).
-/
import Derived.Test.YtjgcfncganleoaaDoorRpB
import Derived.Test.YtjgcfncganleoaaDoorRtJ
import Derived.Test.YtjgcfncganleoaaDoorTrcWk
import Derived.Test.YtjgcfncganleoaaDoorTrcCard
import Derived.BigRegion
import Derived.BigQuiet
namespace Go.Proofs.YtjgcfncganleoaaDoor
section
open Go.ChangeShapes Go.WideShapes Go.ChangeAt Go.RowKit
set_option linter.unusedVariables false
set_option linter.unusedSimpArgs false

variable {w w' w1 W : World}
theorem few_ok {t : Tb} (h : t.ok) : (fewT t).ok := by
  have hl := fewT_lens t
  refine ⟨by have := hl.1; omega, by have := hl.2.1; omega, fun b hb => ⟨by have := hl.2.2.2 b hb; omega, ?_⟩, fun r hr => ⟨?_, by have := hl.2.2.1 r hr; omega⟩⟩
  · simp only [fewT] at hb
    obtain ⟨x, hx, rfl⟩ := List.mem_map.1 hb
    exact (h.bn x (List.mem_of_mem_take hx)).2
  · simp only [fewT] at hr
    obtain ⟨x, hx, rfl⟩ := List.mem_map.1 hr
    exact fun n hn => (h.rw x (List.mem_of_mem_take hx)).1 n (List.mem_of_mem_take hn)
def tvCells (vs : List TV) : List Value := vs.flatMap fun x => [.slice x.ba x.t.bs.length x.bc, .slice x.ra x.t.rs.length x.rc]
theorem tvCells_snoc (vs : List TV) (x : TV) : tvCells vs ++ [.slice x.ba x.t.bs.length x.bc, .slice x.ra x.t.rs.length x.rc] = tvCells (vs ++ [x]) := by simp [tvCells]
theorem tvCells_length (vs : List TV) : (tvCells vs).length = 2 * vs.length := by
  induction vs with
  | nil => rfl
  | cons p vs ih => simp [tvCells] at ih ⊢; omega
theorem tvCells_get (vs : List TV) (i : Nat) (p : TV) (h : vs[i]? = some p) : (tvCells vs)[2 * i]? = some (.slice p.ba p.t.bs.length p.bc) ∧ (tvCells vs)[2 * i + 1]? = some (.slice p.ra p.t.rs.length p.rc) := by
  induction vs generalizing i with
  | nil => simp at h
  | cons q vs ih =>
    cases i with
    | zero => simp at h; subst h; simp [tvCells]
    | succ i =>
      have := ih i (by simpa using h)
      have e1 : 2 * (i + 1) = (2 * i) + 1 + 1 := by omega
      rw [e1]
      simpa [tvCells] using this
theorem own_apart {e1 e2 : TypeId} {s1 s2 n m c d : Nat} {a b : Option Addr} {xs ys : List Value} (h1 : w.ownsRow 0 e1 s1 (.slice a n c) n xs) (h2 : w.ownsRow 0 e2 s2 (.slice b m d) m ys) (hne : e2 ≠ e1) : ∀ q ∈ ft a, q ∉ ft b := fun q hq => by
  rcases h1.2 with ⟨hv, _⟩ | ⟨g, cp, cur, hv, _, hg, _⟩
  · injection hv with hv; subst hv; simp [ft] at hq
  · injection hv with hv; subst hv; rw [mem_ft] at hq; subst hq
    exact blk_apart hg h2 hne
/-- the document's table of the call's own buses -/
def OfAt (w : World) (xa : Option Addr) (xc : Nat) (t : Tb) : Prop := Own2 w 85 xa t.bs.length xc (busCells t.bs)
theorem OfAt.kept0 {xa : Option Addr} {xc : Nat} {t : Tb} (h : OfAt w xa xc t) (hk : Kept [] w w') : OfAt w' xa xc t := own_kept h hk (by simp)
theorem OfAt.tab {ba ra xa : Option Addr} {bc rn rc xc : Nat} {t : Tb} {wl : List WR} (ho : OfAt w xa xc t) (h : TabV w ba t.bs.length bc ra rn rc t wl) : TabV w xa t.bs.length xc ra rn rc t wl := of_tab h ho
def VOk (w : World) (x : TV) : Prop := TabN w x.ba x.t.bs.length x.bc x.ra x.t.rs.length x.rc x.t x.wl ∧ x.t.ok
def UOk (w : World) (x : TV) : Prop := (∃ ba bc, TabN w ba x.t.bs.length bc x.ra x.t.rs.length x.rc x.t x.wl) ∧ OfAt w x.ba x.bc x.t ∧ x.t.ok
theorem TabN.row_apart {ba ra la : Option Addr} {bn bc rn rc m lc : Nat} {t : Tb} {wl : List WR} {e : TypeId} {xs : List Value} (h : TabN w ba bn bc ra rn rc t wl) (ho : w.ownsRow 0 e 2 (.slice la m lc) m xs) (h1 : e ≠ 35) (h2 : e ≠ 33) (h3 : e ≠ 27) : ∀ b ∈ ft ba ++ (ft ra ++ wrBlocks wl), b ∉ ft la := fun b hb => by
  simp only [List.mem_append] at hb
  rcases hb with hb | hb | hb
  · exact own_apart h.bus ho h1 b hb
  · exact own_apart h.rows.own ho h2 b hb
  · obtain ⟨x, hx, hbx⟩ := mem_wrBlocks.1 hb
    exact own_apart (h.own x hx) ho h3 b hbx
theorem VOk.kept0 {x : TV} (h : VOk w x) (hk : Kept [] w w') : VOk w' x := ⟨h.1.kept0 hk, h.2⟩
theorem UOk.kept0 {x : TV} (h : UOk w x) (hk : Kept [] w w') : UOk w' x := by
  obtain ⟨⟨ba, bc, h1⟩, h2, h3⟩ := h
  exact ⟨⟨ba, bc, h1.kept0 hk⟩, h2.kept0 hk, h3⟩
theorem VOk.step {x : TV} {la : Option Addr} {m lc : Nat} {e : TypeId} {xs : List Value} (h : VOk w x) (ho : w.ownsRow 0 e 2 (.slice la m lc) m xs) (h1 : e ≠ 35) (h2 : e ≠ 33) (h3 : e ≠ 27) (hk : Kept (ft la) w w') : VOk w' x :=
  ⟨h.1.kept hk (h.1.row_apart ho h1 h2 h3), h.2⟩
theorem UOk.step {x : TV} {la : Option Addr} {m lc : Nat} {e : TypeId} {xs : List Value} (h : UOk w x) (ho : w.ownsRow 0 e 2 (.slice la m lc) m xs) (h0 : e ≠ 85) (h1 : e ≠ 35) (h2 : e ≠ 33) (h3 : e ≠ 27) (hk : Kept (ft la) w w') : UOk w' x := by
  obtain ⟨⟨ba, bc, g1⟩, g2, g3⟩ := h
  exact ⟨⟨ba, bc, g1.kept hk (g1.row_apart ho h1 h2 h3)⟩, own_kept g2 hk (own_apart g2 ho h0), g3⟩
/-- both rows of tables -/
structure GotAt (w0 w : World) (ts us : List Tb) (la : Option Addr) (m lc : Nat) (vs : List TV) (ma : Option Addr) (k mc : Nat) (zs : List TV) : Prop where
  own1 : w.ownsRow 0 25 2 (.slice la m lc) m (tvCells vs)
  own2 : w.ownsRow 0 42 2 (.slice ma k mc) k (tvCells zs)
  each1 : ∀ x ∈ vs, VOk w x
  each2 : ∀ x ∈ zs, UOk w x
  ts1 : vs.map (·.t) = ts
  ts2 : zs.map (·.t) = us
  kept : Kept [] w0 w
  fresh1 : ∀ b ∈ ft la, w0.heap.size ≤ b
  fresh2 : ∀ b ∈ ft ma, w0.heap.size ≤ b
variable {w0 W w6 : World} {ts us : List Tb} {la ma a6 : Option Addr} {m k lc mc c6 : Nat} {vs zs : List TV}
theorem GotAt.start (w : World) : GotAt w w [] [] none 0 0 [] none 0 0 [] :=
  ⟨World.ownsRow_nil _ _ _ _, World.ownsRow_nil _ _ _ _, by simp, by simp, rfl, rfl, .refl _ _, by simp [ft], by simp [ft]⟩
theorem GotAt.keep (h : GotAt w0 w ts us la m lc vs ma k mc zs) (hk : Kept [] w w') : GotAt w0 w' ts us la m lc vs ma k mc zs :=
  ⟨own_kept h.own1 hk (by simp), own_kept h.own2 hk (by simp), fun x hx => (h.each1 x hx).kept0 hk, fun x hx => (h.each2 x hx).kept0 hk, h.ts1, h.ts2, h.kept.trans hk, h.fresh1, h.fresh2⟩
theorem GotAt.push1 (h : GotAt w0 w ts us la m lc vs ma k mc zs) (x : TV) (hx : VOk w x) (ho : w6.ownsRow 0 25 2 (.slice a6 (m + 1) c6) (m + 1) (tvCells vs ++ [.slice x.ba x.t.bs.length x.bc, .slice x.ra x.t.rs.length x.rc])) (hst : Stepped w w6 (ft la) (ft a6)) :
    GotAt w0 w6 (ts ++ [x.t]) us a6 (m + 1) c6 (vs ++ [x]) ma k mc zs := by
  refine ⟨by rw [← tvCells_snoc]; exact ho, own_kept h.own2 hst.kept (own_apart h.own2 h.own1 (by decide)), fun y hy => ?_, fun y hy => (h.each2 y hy).step h.own1 (by decide) (by decide) (by decide) (by decide) hst.kept, by rw [List.map_append, h.ts1]; rfl, h.ts2, kept_up h.kept hst.kept h.fresh1, fun b hb => ?_, h.fresh2⟩
  · rcases List.mem_append.1 hy with hy | hy
    · exact (h.each1 y hy).step h.own1 (by decide) (by decide) (by decide) hst.kept
    · rw [List.mem_singleton] at hy; subst hy
      exact hx.step h.own1 (by decide) (by decide) (by decide) hst.kept
  · exact (hst.fresh b hb).elim (h.fresh1 b) (fun h1 => Nat.le_trans h.kept.size h1)
theorem GotAt.push2 (h : GotAt w0 w ts us la m lc vs ma k mc zs) (x : TV) (hx : UOk w x) (ho : w6.ownsRow 0 42 2 (.slice a6 (k + 1) c6) (k + 1) (tvCells zs ++ [.slice x.ba x.t.bs.length x.bc, .slice x.ra x.t.rs.length x.rc])) (hst : Stepped w w6 (ft ma) (ft a6)) :
    GotAt w0 w6 ts (us ++ [x.t]) la m lc vs a6 (k + 1) c6 (zs ++ [x]) := by
  refine ⟨own_kept h.own1 hst.kept (own_apart h.own1 h.own2 (by decide)), by rw [← tvCells_snoc]; exact ho, fun y hy => (h.each1 y hy).step h.own2 (by decide) (by decide) (by decide) hst.kept, fun y hy => ?_, h.ts1, by rw [List.map_append, h.ts2]; rfl, kept_up h.kept hst.kept h.fresh2, h.fresh1, fun b hb => ?_⟩
  · rcases List.mem_append.1 hy with hy | hy
    · exact (h.each2 y hy).step h.own2 (by decide) (by decide) (by decide) (by decide) hst.kept
    · rw [List.mem_singleton] at hy; subst hy
      exact hx.step h.own2 (by decide) (by decide) (by decide) (by decide) hst.kept
  · exact (hst.fresh b hb).elim (h.fresh2 b) (fun h1 => Nat.le_trans h.kept.size h1)
theorem row_tabs {e : TypeId} (ho : w.ownsRow 0 e 2 (.slice la m lc) m (tvCells vs)) (hv : ∀ x ∈ vs, x.at_ w ∧ x.t.ok) : SlTab w la vs ∧ vs.length = m := by
  have hl : (tvCells vs).length = m * 2 := ho.1
  rw [tvCells_length] at hl
  refine ⟨fun q hq => ?_, by omega⟩
  have hform : ∃ g, la = some ⟨g, 0, none⟩ := by
    rcases ho.2 with ⟨hv, h0⟩ | ⟨g, cap', cur, hv, _⟩
    · omega
    · injection hv with hv; exact ⟨g, hv⟩
  obtain ⟨g, rfl⟩ := hform
  have hc := fun i u (hi : (tvCells vs)[i]? = some u) => World.ownsRow.cells ho (g := g) rfl i u hi
  have hg := tvCells_get vs q _ (List.getElem?_eq_getElem hq)
  have h0 := hc _ _ hg.1
  have h1 := hc _ _ hg.2
  rw [add_at] at h0 h1
  have h2 := hv _ (List.getElem_mem hq)
  exact ⟨g, 0, rfl, by rw [← h0]; congr 2; omega, by rw [← h1]; congr 2; omega, h2.1, h2.2⟩
theorem GotAt.tabs1 (h : GotAt w0 w ts us la m lc vs ma k mc zs) : SlTab w la vs ∧ vs.length = m := row_tabs h.own1 fun x hx => ⟨(h.each1 x hx).1.tabV, (h.each1 x hx).2⟩
theorem GotAt.tabs2 (h : GotAt w0 w ts us la m lc vs ma k mc zs) : SlTab w ma zs ∧ zs.length = k := row_tabs h.own2 fun x hx => by
  obtain ⟨⟨ba, bc, h1⟩, h2, h3⟩ := h.each2 x hx
  exact ⟨h2.tab h1.tabV, h3⟩
def outCols (at_ : Int) (ts : List Tb) : List (List Nat) := if packBad ts = false ∧ packNone at_ ts = false then colsTo at_.toNat ts (bs0 ts).length else []
def erOf (at_ : Int) (ts : List Tb) : Int := if packBad ts = true then 1 else if packNone at_ ts = true then 6 else 0
theorem packs_val {at_ : Int} {ts : List Tb} {e : Ending} (h : PacksPost at_ ts W e w) : ∃ oa oc rs, e = .returned (.tuple #[.slice oa rs.length oc, .int .i64 (erOf at_ ts)]) ∧ SlW w oa rs ∧ rs.map (·.l) = outCols at_ ts ∧ (∀ r ∈ rs, r.l.length ≤ 64) ∧ rs.length ≤ 512 ∧ Kept [] W w := by
  rcases h with ⟨h1, rfl, hk⟩ | ⟨h1, h2, rfl, hk⟩ | ⟨h1, h2, oa, oc, rs, rfl, hr, hm, hk⟩
  · exact ⟨none, 0, [], by simp [erOf, h1], fun q hq => absurd hq (by simp), by simp [outCols, h1], by simp, by simp, hk⟩
  · exact ⟨none, 0, [], by simp [erOf, h1, h2], fun q hq => absurd hq (by simp), by simp [outCols, h1, h2], by simp, by simp, hk⟩
  · have hl := hr.len
    obtain ⟨p1, p2, p3⟩ := packBad_parts h1
    refine ⟨oa, oc, rs, by rw [hl]; simp [erOf, h1, h2], hr.slw, by rw [hm]; simp [outCols, h1, h2], fun r hrm => ?_, ?_, hk⟩
    · have h3 : r.l ∈ rs.map (·.l) := List.mem_map_of_mem hrm
      rw [hm] at h3
      obtain ⟨q, hq, hqe⟩ := List.mem_map.1 h3
      rw [← hqe]
      unfold packT
      rw [List.length_take]
      have := (col_fits h1 at_.toNat q (List.mem_range.1 hq)).1
      omega
    · rw [hl]
      have h4 := p3 _ (List.getElem_mem (show 0 < ts.length by omega))
      rw [← h4.2]
      exact (mayT_parts h4.1).2.2.2.1
end
section
open Go.ChangeShapes Go.WideShapes Go.ChangeAt Go.RowKit
set_option linter.unusedVariables false
set_option linter.unusedSimpArgs false
variable {w w' w1 W : World}
theorem tab_infoP : (Tryd.prog.info? 25).map (fun i => (i.zero, i.size, i.bytes)) = some (some (.agg #[.slice none 0 0, .slice none 0 0]), 2, 48) := by kernel_rfl
theorem rtab_infoP : (Tryd.prog.info? 42).map (fun i => (i.zero, i.size, i.bytes)) = some (some (.agg #[.slice none 0 0, .slice none 0 0]), 2, 48) := by kernel_rfl
theorem pks1_c (a b : Option Addr) (m m' c d : Nat) (l l' : List Nat) (w : World) (h1 : l.length = m) (h2 : l'.length = m') (hm : m ≤ 140737488351232) (hm' : m' ≤ 140737488351232) (ha : SlN w .u64 a l) (hb : SlN w .u64 b l') :
    Calls Tryd.prog 28 #[.slice a m c, .slice b m' d] w (EqIs (decide (l = l')) w) := by
  have HE := Lib.hid (eq_words a b m m' c d l l' w h1 h2 hm hm' ha hb)
  clear h1 h2 ha hb
  go_enter Tryd.func28, Tryd.ntmps28
  go_wp2_with fail
  refine HE.out.mono ?_
  rintro e w1 ⟨rfl, hk⟩
  have HK := Lib.hid hk
  clear hk
  go_wp2_with fail
  go_ret
  exact ⟨rfl, HK.out⟩
set_option maxHeartbeats 800000 in
theorem eq_rowsP (a b : Option Addr) (m m' c d : Nat) (l l' : List WR) (w : World) (h1 : l.length = m) (h2 : l'.length = m') (hm : m ≤ 140737488351232) (hm' : m' ≤ 140737488351232) (ha : SlW w a l) (hb : SlW w b l') (hs : ∀ r ∈ l, r.l.length ≤ 140737488351232) (hs' : ∀ r ∈ l', r.l.length ≤ 140737488351232) :
    Calls Tryd.prog 27 #[.slice a m c, .slice b m' d, .func (.func 28) #[] #[]] w (EqIs (decide (l.map (·.l) = l'.map (·.l))) w) := by
  have H1 := Lib.hid h1
  have H2 := Lib.hid h2
  have HA := Lib.hid ha
  have HB := Lib.hid hb
  have HS := Lib.hid hs
  have HS' := Lib.hid hs'
  clear h1 h2 ha hb hs hs'
  by_cases hmm : m = m'
  · subst hmm
    go_enter Tryd.func27, Tryd.ntmps27
    go_wp2_with fail
    go_loopw [17] (fun i wr => ∃ k q : Nat, k ≤ m ∧ i = .int .i64 k ∧ wr = w.drewN q ∧ (l.take k).map (·.l) = (l'.take k).map (·.l)) (fun i _ => m - (intOf i).toNat)
    case atStart => exact ⟨0, 0, Nat.zero_le _, rfl, rfl, rfl⟩
    case round =>
      obtain ⟨k, q, hk, rfl, rfl, htk⟩ := hrel
      have HT := Lib.hid htk
      clear htk
      by_cases hlt : k < m
      · have hl1 : k < l.length := by rw [H1.out]; exact hlt
        have hl2 : k < l'.length := by rw [H2.out]; exact hlt
        obtain ⟨b1, o1, rfl, x1, y1⟩ := HA.out k hl1
        obtain ⟨b2, o2, rfl, x2, y2⟩ := HB.out k hl2
        have hT1 := Lib.hid (show (l.take (k + 1)).map (·.l) = (l.take k).map (·.l) ++ [l[k].l] from by rw [List.take_succ_eq_append_getElem hl1, List.map_append]; rfl)
        have hT2 := Lib.hid (show (l'.take (k + 1)).map (·.l) = (l'.take k).map (·.l) ++ [l'[k].l] from by rw [List.take_succ_eq_append_getElem hl2, List.map_append]; rfl)
        have HNE := Lib.hid (show l[k].l ≠ l'[k].l → decide (l.map (·.l) = l'.map (·.l)) = false from fun h => by
          rw [decide_eq_false_iff_not]
          intro e
          have h3 : (l.map (·.l))[k]'(by simpa using hl1) = (l'.map (·.l))[k]'(by simpa using hl2) := by simp only [e]
          exact h (by simpa using h3))
        have HC := Lib.hid (fun (W : World) (hW : Kept [] w W) => pks1_c l[k].a l'[k].a l[k].l.length l'[k].l.length l[k].c l'[k].c l[k].l l'[k].l W rfl rfl (HS.out _ (List.getElem_mem hl1)) (HS'.out _ (List.getElem_mem hl2)) (y1.kept0 hW) (y2.kept0 hW))
        clear y1 y2
        generalize l[k] = u at *
        generalize l'[k] = v at *
        obtain ⟨l1, a1, c1⟩ := u
        obtain ⟨l2, a2, c2⟩ := v
        simp only at x1 x2
        generalize l1.length = n1 at *
        generalize l2.length = n2 at *
        by_cases huv : l1 = l2
        · have HUV := Lib.hid huv
          have hd : decide (l1 = l2) = true := by simp [huv]
          simp only [hd] at HC
          clear huv hd
          go_wp2_with fail
          refine (HC.out _ ((Kept.refl [] w).drewN q)).mono ?_
          rintro e w1 ⟨rfl, r, rfl⟩
          go_wp2_with fail
          go_roundw
          case rel => exact ⟨k + 1, q + r, by omega, by go_num, by first | rfl | rw [World.drewN_drewN], by rw [hT1.out, hT2.out, HT.out, HUV.out]⟩
          case measure => simp [intOf]; omega
        · have HRS := Lib.hid (HNE.out huv)
          have hd : decide (l1 = l2) = false := by simp [huv]
          simp only [hd] at HC
          clear huv hd
          go_wp2_with fail
          refine (HC.out _ ((Kept.refl [] w).drewN q)).mono ?_
          rintro e w1 ⟨rfl, r, rfl⟩
          go_wp2_with fail
          go_ret
          exact ⟨by rw [HRS.out]; rfl, q + r, by first | rfl | rw [World.drewN_drewN]⟩
      · obtain rfl : k = m := by omega
        have HRS := Lib.hid (show decide (l.map (·.l) = l'.map (·.l)) = true from by
          rw [decide_eq_true_eq]
          have := HT.out
          rwa [List.take_of_length_le (by rw [H1.out]; exact Nat.le_refl _), List.take_of_length_le (by rw [H2.out]; exact Nat.le_refl _)] at this)
        go_wp2_with fail
        go_ret
        exact ⟨by rw [HRS.out]; rfl, _, by first | rfl | rw [World.drewN_drewN]⟩
  · have HRS := Lib.hid (show decide (l.map (·.l) = l'.map (·.l)) = false from by
      rw [decide_eq_false_iff_not]
      intro e
      have := congrArg List.length e
      rw [List.length_map, List.length_map, H1.out, H2.out] at this
      exact hmm this)
    have hne : ((m : Int) != (m' : Int)) = true := by rw [bne_iff_ne]; omega
    go_enter Tryd.func27, Tryd.ntmps27
    go_wp2_with fail
    go_ret
    exact ⟨by rw [HRS.out]; rfl, 0, rfl⟩
set_option maxHeartbeats 6400000 in
set_option maxRecDepth 100000 in
theorem tps_c (at_ : Int) (a : Option Addr) (c : Nat) (l : List TV) (W : World) (hat1 : -9223372036854775808 ≤ at_) (hat2 : at_ ≤ 9223372036854775807) (hl : l.length ≤ 70368744177664) (hs : SlTab W a l) (hg : W.cell? ⟨3, 15, none⟩ = some (.int .u8 4)) :
    Calls Tryd.prog 6 #[.int .i64 at_, .slice a l.length c] W (BoolIs true W) := by
  have HG := Lib.hid hg
  have HS := Lib.hid hs
  obtain ⟨n, hn⟩ : ∃ n, n = l.length := ⟨_, rfl⟩
  have HL := Lib.hid hn.symm
  rw [← hn] at hl ⊢
  have HW := Lib.hid (fun W' (hk : Kept [] W W') => wakes_c W' (hk.cell HG.out (by simp)))
  clear hs hg hn
  go_enter Tryd.func6, Tryd.ntmps6
  go_wp2_with fail
  go_loopw [5, 6, 15] (fun lv mv iv wr => ∃ (j m : Nat) (la : Option Addr) (lc : Nat) (vs : List TV) (ma : Option Addr) (mc : Nat) (zs : List TV), j ≤ n ∧ m = min j 8 ∧ iv = .int .i64 j ∧ lv = .slice la m lc ∧ mv = .slice ma m mc ∧ GotAt W wr ((l.take m).map fun x => fewT x.t) ((l.take m).map fun x => fewT x.t) la m lc vs ma m mc zs) (fun _ _ iv _ => n - (intOf iv).toNat)
  case atStart => exact ⟨0, 0, none, 0, [], none, 0, [], Nat.zero_le _, rfl, rfl, rfl, rfl, GotAt.start W⟩
  case round =>
    obtain ⟨j, m, la, lc, vs, ma, mc, zs, hj, hm, rfl, rfl, rfl, hgot⟩ := hrel
    have HGT := Lib.hid hgot
    have HMN := Lib.hid hm
    have hm8 : m ≤ 8 := by omega
    by_cases hjn : j < n
    · have hjl : j < l.length := by rw [HL.out]; exact hjn
      obtain ⟨b, o, rfl, z0, z1, xt, xok⟩ := HS.out j hjl
      have HX := Lib.hid (And.intro xt xok)
      have z0 := hgot.kept.cell z0 (by simp)
      have z1 := hgot.kept.cell z1 (by simp)
      have HTK := Lib.hid (show ∀ h8 : j < 8, (l.take (m + 1)).map (fun x => fewT x.t) = (l.take m).map (fun x => fewT x.t) ++ [fewT l[j].t] from fun h8 => by
        obtain rfl : m = j := by omega
        rw [List.take_succ_eq_append_getElem hjl, List.map_append]
        rfl)
      clear hgot xt xok hm
      generalize l[j] = x at *
      obtain ⟨t, tba, tbc, tra, trc, twl⟩ := x
      simp only at z0 z1 HX HTK
      have HXV := Lib.hid (show TabV W tba t.bs.length tbc tra t.rs.length trc t twl from HX.out.1)
      obtain ⟨bn, hbn⟩ : ∃ q, q = t.bs.length := ⟨_, rfl⟩
      obtain ⟨rn, hrn⟩ : ∃ q, q = t.rs.length := ⟨_, rfl⟩
      rw [← hbn] at z0 HXV
      rw [← hrn] at z1 HXV
      clear hbn hrn hjl
      have HOKF := Lib.hid (few_ok HX.out.2)
      have HLNF := Lib.hid (fewT_lens t)
      have HF := Lib.hid (fun (V : World) (hV : Kept [] W V) => few_c (HXV.out.kept0 hV) HX.out.2)
      go_upto_region 6 with (fail)
      obtain ⟨w5, hw5⟩ : ∃ W, W = wr.alloc (.cells #[.slice tba bn tbc, .slice tra rn trc] 25) := ⟨_, rfl⟩
      obtain ⟨pt, hpt⟩ : ∃ q, q = wr.heap.size := ⟨_, rfl⟩
      have HPT := Lib.hid hpt
      have K5 := Lib.hid (show Kept [] wr w5 from by rw [hw5]; exact (Kept.refl [] wr).alloc _)
      have E5 := Lib.hid (show w5.cell? ⟨pt, 0, none⟩ = some (.slice tba bn tbc) ∧ w5.cell? ⟨pt, 1, none⟩ = some (.slice tra rn trc) from by
        rw [hw5, hpt]
        exact ⟨blk_cell (heap_alloc_new wr _) 0, blk_cell (heap_alloc_new wr _) 1⟩)
      try rw [← hpt]
      try rw [← hw5]
      clear hw5 hpt z0 z1
      have HG5 := Lib.hid (HGT.out.keep K5.out)
      have e0 := E5.out.1
      have e1 := E5.out.2
      by_cases h8 : j < 8
      · obtain rfl : m = j := by have := HMN.out; omega
        have HTK2 := Lib.hid (HTK.out h8)
        have HPL := Lib.hid (show pt ∉ ft la from fun hx => by have h1 := owns_lt HGT.out.own1 pt hx; have h2 := HPT.out; omega)
        clear HTK
        generalize fewT t = F at *
        go_wp2_with fail
        refine (HF.out _ HG5.out.kept).mono ?_
        rintro e u1 ⟨f1, g1, r1, q1, l1, rfl, ht1, hk1, hn1⟩
        have HGU := Lib.hid (HG5.out.keep hk1)
        have HV1 := Lib.hid (show VOk u1 ⟨F, f1, g1, r1, q1, l1⟩ from ⟨ht1, HOKF.out⟩)
        have EU := Lib.hid (And.intro (hk1.cell E5.out.1 (by simp)) (hk1.cell E5.out.2 (by simp)))
        clear ht1 hk1 hn1 e0 e1
        go_upto_region 8 with (at_builtin; refine wpList_push2 (w := u1) (news := [.slice f1 F.bs.length g1, .slice r1 F.rs.length q1]) rfl rfl Tryd.underlying59 tab_infoP rfl (by omega) rfl rfl rfl HGU.out.own1 rfl (by simp [Value.oneCell']) (by unfold maxLen; omega) (by omega) rfl ?_; intro a6 c6 u2 hown6 hst6)
        have HG2 := Lib.hid (HGU.out.push1 ⟨F, f1, g1, r1, q1, l1⟩ HV1.out hown6 hst6)
        have e0 := hst6.kept.cell EU.out.1 HPL.out
        have e1 := hst6.kept.cell EU.out.2 HPL.out
        clear hown6 hst6
        go_wp2_with fail
        refine (HF.out _ HG2.out.kept).mono ?_
        rintro e u3 ⟨f2, g2, r2, q2, l2, rfl, ht2, hk3, hn2⟩
        have HO := Lib.hid (of_c ht2.tabV HOKF.out (by have := HLNF.out.1; omega))
        have HT2 := Lib.hid ht2
        have HG3 := Lib.hid (HG2.out.keep hk3)
        clear ht2 hk3 hn2 e0 e1
        go_wp2_with fail
        refine HO.out.mono ?_
        rintro e u4 ⟨xa, xc, rfl, how, hk4, hf4⟩
        have HG4 := Lib.hid (HG3.out.keep hk4)
        have HU := Lib.hid (show UOk u4 ⟨F, xa, xc, r2, q2, l2⟩ from ⟨⟨f2, g2, HT2.out.kept0 hk4⟩, how, HOKF.out⟩)
        clear how hk4 hf4
        go_wp2_with (at_builtin; refine wpList_push2 (w := u4) (news := [.slice xa F.bs.length xc, .slice r2 F.rs.length q2]) rfl rfl Tryd.underlying63 rtab_infoP rfl (by omega) rfl rfl rfl HG4.out.own2 rfl (by simp [Value.oneCell']) (by unfold maxLen; omega) (by omega) rfl ?_; intro a7 c7 u5 hown7 hst7)
        have HG6 := Lib.hid (HG4.out.push2 ⟨F, xa, xc, r2, q2, l2⟩ HU.out hown7 hst7)
        clear hown7 hst7
        go_roundw
        case rel => exact ⟨m + 1, m + 1, a6, c6, _, a7, c7, _, by omega, by omega, by go_num, rfl, rfl, by rw [HTK2.out]; exact HG6.out⟩
        case measure => simp [intOf]; omega
      · go_wp2_with fail
        go_roundw
        case rel => exact ⟨j + 1, m, la, lc, vs, ma, mc, zs, by omega, by have := HMN.out; omega, by go_num, rfl, rfl, HG5.out⟩
        case measure => simp [intOf]; omega
    · obtain rfl : j = n := by omega
      obtain ⟨w2, rfl⟩ : ∃ v : World, v = wr := ⟨_, rfl⟩
      obtain ⟨ts, hts⟩ : ∃ q, q = (l.take m).map fun x => fewT x.t := ⟨_, rfl⟩
      rw [← hts] at HGT
      clear hgot hts
      obtain ⟨t1, t2⟩ := HGT.out.tabs1
      obtain ⟨t3, t4⟩ := HGT.out.tabs2
      have HP1 := Lib.hid (packs_c at_ la lc m vs w2 t2 (by omega) t1 ⟨hat1, hat2⟩)
      rw [HGT.out.ts1] at HP1
      have HP2 := Lib.hid (fun (V : World) (hV : Kept [] w2 V) => rpacks_c at_ ma mc m zs V t4 (by omega) (t3.kept0 hV) ⟨hat1, hat2⟩)
      rw [HGT.out.ts2] at HP2
      have KW := Lib.hid HGT.out.kept
      clear t1 t2 t3 t4 hm
      go_wp2_with fail
      refine HP1.out.mono ?_
      intro e v1 hp
      obtain ⟨oa, oc, rs, rfl, hs1, hr1, hl1, hn1, hk1⟩ := packs_val hp
      have H1 := Lib.hid (And.intro hs1 (And.intro hr1 hl1))
      have K1 := Lib.hid hk1
      clear hp hs1 hr1 hl1 hk1 HP1
      go_wp2_with fail
      refine (HP2.out _ K1.out).mono ?_
      intro e v2 hp
      obtain ⟨oa2, oc2, rs2, rfl, hs2, hr2, hl2, hn2, hk2⟩ := packs_val hp
      have K2 := Lib.hid (K1.out.trans hk2)
      have HEQ := Lib.hid (fun (V : World) (hV : Kept [] v2 V) => show Calls Tryd.prog 27 #[.slice oa rs.length oc, .slice oa2 rs2.length oc2, .func (.func 28) #[] #[]] V (BoolIs true V) from
        (eq_rowsP oa oa2 rs.length rs2.length oc oc2 rs rs2 V rfl rfl (by omega) (by omega) ((H1.out.1.kept0 hk2).kept0 hV) (hs2.kept0 hV) (fun r hr => by have := H1.out.2.2 r hr; omega) (fun r hr => by have := hl2 r hr; omega)).mono fun e w' h => by
          obtain ⟨rfl, q, rfl⟩ := h
          exact ⟨by rw [H1.out.2.1, hr2]; simp, (Kept.refl [] V).drewN q⟩)
      have KW2 := Lib.hid (KW.out.trans K2.out)
      generalize erOf at_ ts = er at *
      generalize rs.length = rl1 at *
      generalize rs2.length = rl2 at *
      clear hp hs2 hr2 hl2 hk2 HP2
      go_wp2_with fail
      refine (HEQ.out _ (Kept.refl [] v2)).mono ?_
      rintro e v3 ⟨rfl, k3⟩
      have K3 := Lib.hid k3
      clear k3
      go_wp2_with fail
      refine (HW.out _ (KW2.out.trans K3.out)).mono ?_
      rintro e v4 ⟨rfl, k4⟩
      have K4 := Lib.hid k4
      clear k4
      go_wp2_with fail
      go_ret
      exact ⟨by simp, (KW2.out.trans K3.out).trans K4.out⟩
end
open Go.ChangeShapes Go.WideShapes Go.ChangeAt Go.WideMaps Go.WideElems Go.RowKit Go.Deep Go.Joins
set_option linter.unusedVariables false
set_option linter.unusedSimpArgs false

section
variable {H : Type} {enc : TypeId × Value → H} {W : World} {base : Nat} {v : Value} {d : DataW H} {ps : List MemPlace}
set_option maxRecDepth 100000 in
/-- tables that came in -/
theorem open_tabs (hv : Value.okWide Tryd.prog W .any base 59 v) (h : DataW.Trod enc Tryd.prog W 0 (fun _ => true) true 59 v d ps) (hz : Sized Tryd.prog 59 d) :
    ∃ (a : Option Addr) (l : List TV) (c : Nat), v = .slice a l.length c ∧ l.length ≤ 70368744177664 ∧ SlTab W a l := by
  obtain ⟨a0, len0, cap0, rfl⟩ := okWide_slice Tryd.underlying59 hv
  obtain ⟨fuel, hf⟩ := h
  obtain ⟨a, len, cap, hvv, hlc, hcb, hnil, hat⟩ := open_recs (v := .slice a0 len0 cap0) Tryd.underlying59 Tryd.underlying25 (by kernel_rfl) (by kernel_rfl) hf hz
  injection hvv with h1 h2 h3
  subst h1 h2 h3
  have hb : Tryd.prog.bytesOf 25 = 48 := by kernel_rfl
  rw [hb] at hcb
  obtain ⟨l, hl, htabs⟩ := choose_list (n := len0) (p := fun k (x : TV) => ∃ b o, a0 = some ⟨b, o, none⟩ ∧ W.cell? ⟨b, o + k * 2, none⟩ = some (.slice x.ba x.t.bs.length x.bc) ∧ W.cell? ⟨b, o + k * 2 + 1, none⟩ = some (.slice x.ra x.t.rs.length x.rc) ∧ x.at_ W ∧ x.t.ok) fun i hi => by
    have h00 := hat 0 (by omega)
    obtain ⟨ad, m, rfl, hfields⟩ := hat i hi
    obtain ⟨u0, z0, hc0, ht0, hz0⟩ := hfields 0 _ rfl
    obtain ⟨u1, z1, hc1, ht1, hz1⟩ := hfields 1 _ rfl
    obtain ⟨ba, bs, bc, rfl, p1, p2, p3, p4⟩ := open_busesT ht0 hz0
    obtain ⟨ra, wl, rc, rfl, q1, q2, q3, q4⟩ := open_wrowsT ht1 hz1
    obtain ⟨ad2, m2, e2, hf2⟩ := h00
    injection e2 with e2
    subst e2
    obtain ⟨u7, z7, hc7, _, _⟩ := hf2 0 _ rfl
    obtain ⟨b, o, rfl⟩ := plain_spot (by simpa using hc7)
    rw [add_at] at hc0 hc1
    refine ⟨⟨⟨bs, wl.map (·.l)⟩, ba, bc, ra, rc, wl⟩, b, o, rfl, hc0, ?_, ?_, ?_⟩
    · rw [List.length_map]; exact hc1
    · exact ⟨rfl, by simp, rfl, p3, q3, p1, by simpa using q1, fun r hr => (q4 r hr).2.2⟩
    · exact ⟨p2, by simpa using q2, p4, fun r hr => by
        obtain ⟨x, hx, rfl⟩ := List.mem_map.1 hr
        exact ⟨(q4 x hx).1, by have := (q4 x hx).2.1; omega⟩⟩
  exact ⟨a0, l, cap0, by rw [hl], by omega, fun k hk => htabs k hk⟩
end
theorem tps_walk (at_ : Int) (a : Option Addr) (l : List TV) (c : Nat) (W : World) (hat1 : -9223372036854775808 ≤ at_) (hat2 : at_ ≤ 9223372036854775807) (hl : l.length ≤ 70368744177664) (hs : SlTab W a l) (hg : W.cell? ⟨3, 15, none⟩ = some (.int .u8 4)) :
    Calls Tryd.prog 6 #[.int .i64 at_, .slice a l.length c] W fun e w' => e = .returned (.bool true) ∧ Below W.heap.size W w' :=
  (tps_c at_ a c l W hat1 hat2 hl hs hg).mono fun _ _ h => ⟨h.1, h.2.below⟩

set_option maxRecDepth 100000 in
theorem tps_lifted (os : Os) (started : os.Started) (H : Type) (enc : TypeId × Value → H) :
    ReturnsInHanded {} Tryd.checked os 6 .any (fun w args => (Rows.tracePacksSpec.pre enc Tryd.prog Tryd.f6 [] false w args ∧ laidMetH Tryd.prog laid3 w) ∧ sizedMet enc Tryd.prog Tryd.f6 (OpenSpec.ofChange Rows.tracePacksSpec) false w args)
      (Rows.tracePacksSpec.post enc Tryd.prog Tryd.f6 false true false false) := by
  refine returnsInHanded_of_change_and (C := Tryd.checked) (X := fun w _ => laidMetH Tryd.prog laid3 w) (fun _ _ _ hh h => h.of_heap hh) own started (by kernel_rfl) Tryd.func6
    (ChangeSpec.witness_shaped (enc := enc) (C := Tryd.checked) (os := os) (X := fun w _ => laidMetH Tryd.prog laid3 w) false (World.doorLaid Tryd.prog 400 os) #[.int .i64 0, .slice none 0 0] 8 rfl (World.shaped_of_RefB (by kernel_rfl) (by kernel_rfl)) (by kernel_rfl) (by kernel_rfl) (by kernel_rfl) (door_met os _)) ?_
  intro W base args ds gs before hval0 hW _ hsz0 hL _
  have hg := laid_cell hL
  have hval : ∀ (j : Nat) t v, Tryd.f6.params[j]? = some t → args[j]? = some v → Value.okWide Tryd.prog W .any base t v := hval0
  have hend := fun W' (hb : Below W.heap.size W W') => law_post (s := Rows.tracePacksSpec) (fn := Tryd.f6) laidOut (by kernel_rfl) rfl ⟨4, rfl, Tryd.underlying4⟩ (fun l hl => by match l, hl with | [_, _], _ => rfl) hW hb
  obtain ⟨p, q, hA0, hV, rfl, hfz, hnd⟩ := hW
  have hA : DataW.TrodAll enc Tryd.prog W 0 (fun _ => true) true Tryd.f6.params.toList args.toList ds p := hA0
  have hsz : (DataW.weightsEach Tryd.prog (Tryd.f6.params.toList ++ Rows.tracePacksSpec.plain.varTypes Tryd.prog) (ds ++ gs)).all (· ≤ reachBytes) = true := hsz0
  rw [Tryd.params6] at hA hval hsz
  obtain ⟨v0, vs0, d0, ds0, p0, q0, hargs, rfl, rfl, h0, r0⟩ := trodAll_cons hA
  obtain ⟨v1, vs1, d1, ds1, p1, q1, rfl, rfl, rfl, h1, r1⟩ := trodAll_cons r0
  obtain ⟨rfl, rfl, rfl⟩ := trodAll_nil r1
  obtain rfl : args = #[v0, v1] := by cases args; simp_all
  obtain ⟨rfl, rfl⟩ := trodVars_none hV
  obtain ⟨a0, rfl, rfl, rfl, f0⟩ := open_int Tryd.underlying3 (hval 0 3 v0 rfl rfl) h0
  have w0 : -9223372036854775808 ≤ a0 ∧ a0 ≤ 9223372036854775807 := by simpa [Lit.wf, IntKind.min, IntKind.max, IntKind.signed, IntKind.bits] using f0
  obtain ⟨ta1, tl1, tc1, rfl, tm1, ts1⟩ := open_tabs (hval 1 59 v1 rfl rfl) h1 (Sized.arg (j := 1) hsz rfl rfl)
  refine (tps_walk a0 ta1 tl1 tc1 W w0.1 w0.2 tm1 ts1 hg).mono fun e W' ⟨he, hb⟩ => ?_
  subst he
  exact hend W' hb

theorem tps_over : Rows.tracePacksRow.holds Tryd.pinned (OpenSpec.ofChange Rows.tracePacksSpec) :=
  OpenClaim.holds_of_wide 6 Tryd.f6 rfl rfl rfl rfl rfl rfl rfl ⟨rfl, rfl, rfl, rfl, rfl⟩ rfl rfl rfl rfl rfl (by kernel_rfl) Tryd.func6 (by kernel_rfl)
    (of_decide_eq_true (by kernel_rfl)) (by unfold Func.isWrapper; first | (rw [if_pos (by decide +kernel)]; kernel_rfl) | (rw [if_neg (by decide +kernel)]; exact ⟨rfl, rfl⟩))
    (fun os started H enc _ => tps_lifted os started H enc)

theorem tracePacks_said : Rows.TracePacksSaid := tps_over
theorem tracePacks_holds : Rows.TracePacksCardSaid :=
  Claim7.holds_tied_plain_at .later [] [.data, .data, .data] true (true, "2859d36fb02e9bf1392a87112828a76f2a868c2c33f8cd9b4259cc1a5a91a5c6") true
    tracePacks_said (fun _ h => by cases h) (by kernel_rfl) (fun _ h => by cases h) tracePacks_row_tie rfl ⟨rfl, rfl⟩ (by kernel_rfl) rfl
    (fun f fn hf hfn => by
      obtain rfl : f = 6 := Option.some.inj ((show Tryd.prog.funcNamed "orrery/orrerylaw09.TracePacks" = some 6 by kernel_rfl).symm.trans hf) |>.symm
      obtain rfl : fn = Tryd.f6 := (Option.some.inj (Tryd.func6.symm.trans hfn)).symm
      exact ⟨by kernel_rfl, fun j t ht => by
        rw [Tryd.params6] at ht
        have hm : t ∈ ([3, 59] : List TypeId) := by simpa using Array.mem_of_getElem? ht
        have hall : (([3, 59] : List TypeId).all fun u => !Tryd.prog.wantsStandIn u) = true := by kernel_rfl
        exact (show Tryd.prog.wantsStandIn t = false by simpa using List.all_eq_true.1 hall t hm)⟩)
    (by kernel_rfl)
end Go.Proofs.YtjgcfncganleoaaDoor
