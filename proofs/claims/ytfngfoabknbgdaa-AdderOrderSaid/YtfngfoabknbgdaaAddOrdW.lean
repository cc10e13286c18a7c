/-
  AdderOrder: rows exchanged, opposite, nothing. For any options, width and numbers. No condition.
-/
import Derived.Test.YtfngfoabknbgdaaAddOrdM
import Derived.Test.YtfngfoabknbgdaaAddDeepW
import Derived.Test.YtfngfoabknbgdaaGiven
import Derived.Test.YtfngfoabknbgdaaCat
import Derived.Test.YtfngfoabknbgdaaMine
import Derived.Test.YtfngfoabknbgdaaAddSumW
namespace Go.Proofs.Ytfngfoabknbgdaa
open Go.ChangeShapes Go.WideShapes Go.ChangeAt Go.RowKit
open Go.Maps (Keyed)
open Go.WideMaps
set_option linter.unusedVariables false
set_option linter.unusedSimpArgs false

section
variable {w w' w1 : World} {p : Nat} {F F1 F' S : List Nat} {g g' : Gr}
theorem keep2 {w w' : World} {a0 a1 : Addr} {v0 v1 : Value} (hk : Kept [] w w') (h0 : w.cell? a0 = some v0) (h1 : w.cell? a1 = some v1) :
    Kept [] w w' ∧ w'.cell? a0 = some v0 ∧ w'.cell? a1 = some v1 :=
  ⟨hk, hk.cell h0 (by simp), hk.cell h1 (by simp)⟩
theorem kept_cat0 {W w4 : World} {a4 : Option Addr} (hkW : Kept [] w W) (h4 : Stepped W w4 (ft none) (ft a4)) : Kept [] w w4 := hkW.trans h4.kept
theorem fresh_cat {W w4 : World} {a4 : Option Addr} (hkW : Kept [] w W) (h4 : Stepped W w4 (ft none) (ft a4)) : ∀ b ∈ ft a4, w.heap.size ≤ b := fun b hb => by
  rcases h4.fresh b hb with h | h
  · simp [ft] at h
  · exact Nat.le_trans hkW.size h
theorem mine_news {b : Nat} {v : Value} {t : TypeId} (h : Mine w [] b (.cells #[v] t (0, 0))) : ∀ j u, [v][j]? = some u → w.cell? ((⟨b, 0, none⟩ : Addr).add j) = some u := news_blk (cs := [v]) h.heap
theorem cat_mine {W w4 : World} {a4 : Option Addr} (h : Stepped W w4 (ft none) (ft a4)) : Stepped W w4 [] [] := h.weak (fun _ h => h) (by simp)
theorem own_ons {a : Option Addr} {n c ou : Nat} {sm : List Nat} {e : TypeId} (h : w.ownsRow 0 e 1 (.slice a n c) n (nats .u32 sm ++ [.int .u32 (ou : Int)])) : Own w e a n c (nats .u32 (sm ++ [ou])) := by rw [← nats_append]; exact h
def NewRow (l : List Nat) (n : Nat) (w : World) (e : Ending) (w' : World) : Prop := ∃ g c, e = .returned (.slice (some ⟨g, 0, none⟩) n c) ∧ Own w' 45 (some ⟨g, 0, none⟩) n c (nats .u64 l) ∧ n ≤ c ∧ Kept [] w w'
set_option maxHeartbeats 1600000 in
set_option maxRecDepth 100000 in
theorem ask_c {b13 b29 n cs ou il ic : Nat} {s : Option Addr} {ia : Option Addr} {sm inp : List Nat} (hg : GraphAt w p F g) (hm : g.nodes.length ≤ 200000) (h13 : w.cell? ⟨b13, 0, none⟩ = some (.pointer (some ⟨p, 0, none⟩))) (h29 : w.cell? ⟨b29, 0, none⟩ = some (.slice ia il ic))
    (hi : SlN w .u64 ia inp) (hiw : Words inp) (hil : inp.length = il) (hins : il = (ins g.nodes).length) (hs : Own w 24 s n cs (nats .u32 sm)) (hsn : sm.length = n) (h1 : 1 ≤ n) (hn : n ≤ 64) (hok : ∀ x ∈ sm ++ [ou], g.ok x) :
    Calls Try.prog 37 #[.slice s n cs, .int .u32 ou, .pointer (some ⟨b13, 0, none⟩), .pointer (some ⟨b29, 0, none⟩)] w (NewRow ((sm ++ [ou]).map (lw inp g)) (n + 1) w) := by
  obtain ⟨gs, rfl⟩ := hs.form (by omega)
  have HN := Lib.hid (own_news hs)
  have HG := Lib.hid hg
  have HI := Lib.hid hi
  have HIW := Lib.hid hiw
  have HIL := Lib.hid hil
  have HINS := Lib.hid hins
  have HSN := Lib.hid hsn
  have HOK := Lib.hid hok
  clear hg hi hiw hil hins hs hsn hok
  go_enter Try.func37, Try.ntmps37
  go_wp2_with fail
  go_region_held3 (fun w' => Kept [] w w' ∧ w'.cell? ⟨b13, 0, none⟩ = some (.pointer (some ⟨p, 0, none⟩)) ∧ w'.cell? ⟨b29, 0, none⟩ = some (.slice ia il ic))
    (first
      | (refine keep2 ?_ h13 h29; (try go_split_ands); ((repeat (first | with_reducible exact Kept.refl _ _ | with_reducible assumption | with_reducible apply Kept.drew | with_reducible apply Kept.drewN | with_reducible apply Kept.alloc | with_reducible exact hk4 | with_reducible exact hk5 | refine Kept.trans ?_ hs6.kept))); done)
      | go_keep)
    (first
      | (refine step_cat (news := nats .u32 sm) (by rfl) (by rfl) Try.underlying34 lit_info rfl (by omega) (by rfl) (by rfl) (Own.nil _ 24) (by rw [nats_length, HSN.out, Nat.mul_one]) (fun j u hu => Kept.cell (F := []) (w := w) (by (try go_split_ands); (repeat (first | with_reducible exact Kept.refl _ _ | with_reducible assumption | with_reducible apply Kept.drew | with_reducible apply Kept.drewN | with_reducible apply Kept.alloc | with_reducible exact hk4 | with_reducible exact hk5 | refine Kept.trans ?_ hs6.kept))) (HN.out j u hu) (by simp)) (nats_one _ _) (by unfold maxLen; omega) (by omega) ?_; intro a4 c4 w4 hown4 hst4; simp only [Nat.zero_add, List.nil_append] at hown4 ⊢; have hk4 := kept_cat0 (w := w) (by (try go_split_ands); (repeat (first | with_reducible exact Kept.refl _ _ | with_reducible assumption | with_reducible apply Kept.drew | with_reducible apply Kept.drewN | with_reducible apply Kept.alloc | with_reducible exact hk4 | with_reducible exact hk5 | refine Kept.trans ?_ hs6.kept))) hst4; have hf4 := fresh_cat (w := w) (by (try go_split_ands); (repeat (first | with_reducible exact Kept.refl _ _ | with_reducible assumption | with_reducible apply Kept.drew | with_reducible apply Kept.drewN | with_reducible apply Kept.alloc | with_reducible exact hk4 | with_reducible exact hk5 | refine Kept.trans ?_ hs6.kept))) hst4)
      | (refine step_push (news := [.int .u32 (ou : Int)]) (by rfl) (by rfl) Try.underlying34 lit_info rfl (by omega) (by rfl) (by rfl) (own_kept (F := []) (w := w4) hown4 (by repeat (first | with_reducible exact Kept.refl _ _ | with_reducible apply Kept.drew | with_reducible apply Kept.alloc)) (by simp)) rfl (mine_news (t := 24) (by (repeat (first | (with_reducible refine Mine.new ?_ (by simp); focus (first | rfl | (simp; done))) | with_reducible apply Mine.drew | with_reducible apply Mine.alloc | with_reducible refine Mine.step ?_ (cat_mine hst4))))) (by simp [Value.oneCell']) (by unfold maxLen; omega) (by omega) ?_; intro a5 c5 w5 hown5 hst5; have hk5 := kept_up (S := ft a4) (w := w) (by (try go_split_ands); (repeat (first | with_reducible exact Kept.refl _ _ | with_reducible assumption | with_reducible apply Kept.drew | with_reducible apply Kept.drewN | with_reducible apply Kept.alloc | with_reducible exact hk4 | with_reducible exact hk5 | refine Kept.trans ?_ hs6.kept))) hst5.kept hf4)
      | (go_at_call 28; refine (cone_words (HG.out.kept0 (by (try go_split_ands); (repeat (first | with_reducible exact Kept.refl _ _ | with_reducible assumption | with_reducible apply Kept.drew | with_reducible apply Kept.drewN | with_reducible apply Kept.alloc | with_reducible exact hk4 | with_reducible exact hk5 | refine Kept.trans ?_ hs6.kept)))) hm ia ic il inp HIL.out HINS.out (HI.out.kept0 (by (try go_split_ands); (repeat (first | with_reducible exact Kept.refl _ _ | with_reducible assumption | with_reducible apply Kept.drew | with_reducible apply Kept.drewN | with_reducible apply Kept.alloc | with_reducible exact hk4 | with_reducible exact hk5 | refine Kept.trans ?_ hs6.kept)))) HIW.out _ _ _ (sm ++ [ou]) (by simp [HSN.out]) (by omega) (Own.sln (e := 24) (own_ons hown5)) HOK.out).mono ?_; rintro e w6 ⟨a6, c6, rfl, ho6, hs6⟩))
  all_goals
    obtain ⟨g6, rfl⟩ := ho6.form (by omega)
    go_wp2_with fail
    go_ret
    exact ⟨g6, c6, by simp [go_sem], ho6, ho6.cap, by (try go_split_ands); assumption⟩
end
theorem rowL_lits (k n : Nat) (h : k + n ≤ 1000000) : Lits (rowL k n) := fun x hx => by
  obtain ⟨i, h1, h2⟩ := rowL_mem hx
  omega
theorem constL_nil (n : Nat) : constL 0 n = List.replicate n 0 := by
  unfold constL
  apply List.ext_getElem (by simp)
  intro i h1 h2
  simp
set_option maxHeartbeats 6400000 in
set_option maxRecDepth 100000 in
theorem addord_walk (o1 o2 : Bool) (k : Nat) (ah : Bool) (ax : Option Addr) (cx : Nat) (xs : List Nat) (ay : Option Addr) (cy : Nat) (ys : List Nat) (w : World) (hk : k < 256) (hcx : xs.length ≤ cx) (zx : cx * 8 ≤ 140737488351232) (sx : SlN w .u64 ax xs) (mx : ∀ n ∈ xs, n < 18446744073709551616)
    (hcy : ys.length ≤ cy) (zy : cy * 8 ≤ 140737488351232) (sy : SlN w .u64 ay ys) (my : ∀ n ∈ ys, n < 18446744073709551616) :
    Calls Try.prog 10 #[.agg #[.bool o1, .bool o2], .int .u8 k, .bool ah, .slice ax xs.length cx, .slice ay ys.length cy] w fun e w' => e = .returned (.bool true) ∧ Below w.heap.size w w' := by
  obtain ⟨n, hn⟩ : ∃ n, n = 1 + k % 64 := ⟨_, rfl⟩
  have hnb : 1 ≤ n ∧ n ≤ 64 := by omega
  have hni : (1 : Int) + (k : Int) % 64 = (n : Int) := by omega
  have HNI := Lib.hid hni
  obtain ⟨n1, n64⟩ := hnb
  have SX := Lib.hid sx
  have SY := Lib.hid sy
  have MX := Lib.hid mx
  have MY := Lib.hid my
  clear hn hni sx sy mx my
  obtain ⟨lx, hlx⟩ : ∃ lx, lx = xs.length := ⟨_, rfl⟩
  obtain ⟨ly, hly⟩ : ∃ ly, ly = ys.length := ⟨_, rfl⟩
  rw [← hlx, ← hly]
  have HLX := Lib.hid hlx.symm
  have HLY := Lib.hid hly.symm
  have blx : lx ≤ 17592186043904 := by omega
  have bly : ly ≤ 17592186043904 := by omega
  clear hlx hly hcx hcy zx zy
  have HB := Lib.hid (show (w.alloc (.cells #[.bool o1, .bool o2] 32)).heap[w.heap.size]? = some (.cells #[.bool o1, .bool o2] 32 (0, 0)) from heap_alloc_new w _)
  go_enter Try.func10, Try.ntmps10; (try simp only [List.append])
  go_upto_if 40 with (fail)
  rw [HNI.out]
  clear HNI hk
  obtain ⟨w1, hw1⟩ : ∃ w1, w1 = w.alloc (.cells #[.bool o1, .bool o2] 32) := ⟨_, rfl⟩
  have HK1 := Lib.hid (show Kept [] w w1 from by rw [hw1]; exact (Kept.refl [] w).alloc _)
  rw [← hw1] at HB ⊢
  clear hw1
  go_cut [12] (fun s wx => ∃ how : Nat, (how = 1 ∨ how = 2) ∧ s = .int .i64 how ∧ wx = w1)
  case first =>
    cases ah
    · go_wp2_with fail
      go_meet
      exact ⟨1, .inl rfl, rfl, rfl⟩
    · go_wp2_with fail
      go_meet
      exact ⟨2, .inr rfl, rfl, rfl⟩
  case rest =>
    obtain ⟨how, hh, rfl, rfl⟩ := hcut
    obtain ⟨w1, rfl⟩ : ∃ w1 : World, w1 = wc := ⟨_, rfl⟩
    obtain ⟨g1, g2, g3, g4, s1, s2, s3, s4, x1, x2, x3, x4, hfour⟩ := four o1 o2 how n1 n64
    have l1 := hfour.l1
    have l2 := hfour.l2
    have l3 := hfour.l3
    have l4 := hfour.l4
    have FR := Lib.hid hfour
    clear hfour
    obtain ⟨c, hc⟩ : ∃ c : Nat, c = 2 * (1 + 2 * n) := ⟨_, rfl⟩
    have HC := Lib.hid hc
    clear hc
    have c0 : w1.cell? ⟨w.heap.size, 0, none⟩ = some (.bool o1) := blk_cell HB.out 0
    have c1 : w1.cell? ⟨w.heap.size, 1, none⟩ = some (.bool o2) := blk_cell HB.out 1
    go_wp2_with fail
    refine (fresh_c o1 o2 n _ n1 n64).mono ?_
    rintro e v1 ⟨p, F, a, ca, b, cb, he, hg, ho1, ho2, hst⟩
    rw [← HC.out] at he
    subst he
    have R1 := Lib.hid (fresh_rows hg ho1 ho2)
    have S1 := Lib.hid (Stepped.new HK1.out hst)
    clear hg ho1 ho2 hst c0 c1 HB
    go_wp2_with fail
    obtain ⟨v2, hv2⟩ : ∃ v2, v2 = v1.alloc (.cells #[.pointer (some ⟨p, 0, none⟩)] 22) := ⟨_, rfl⟩
    obtain ⟨b13, hb13⟩ : ∃ b13, b13 = v1.heap.size := ⟨_, rfl⟩
    have M2 := Lib.hid (show Mine v2 F b13 (.cells #[.pointer (some ⟨p, 0, none⟩)] 22 (0, 0)) from by rw [hv2]; exact Mine.new hb13 R1.out.graph.lt)
    have hkv : Kept [] v1 v2 := by rw [hv2]; exact (Kept.refl [] v1).alloc _
    have R2 := Lib.hid (R1.out.kept0 hkv)
    have S2 := Lib.hid (S1.out.keep hkv)
    rw [← hv2, ← hb13]
    clear hv2 hb13 hkv R1 S1
    -- the first sum
    have C1 := Lib.hid (rows_add (how := how) (c := c) R2.out hh n1 n64 (by rw [freshG_length]; omega) (freshG_ok _ _ (by rw [HC.out]; omega)))
    have e1 := FR.out.e1
    rw [← HC.out] at e1
    rw [e1] at C1
    clear e1
    refine C1.out.mono ?_
    rintro e v3 ⟨F3, sA, cA, rfl, h3, o3, hst3⟩
    have M3 := Lib.hid (M2.out.step hst3)
    have R3 := Lib.hid h3
    have OA3 := Lib.hid o3
    have S3 := Lib.hid (S2.out.trans hst3)
    clear h3 o3 hst3 C1 R2 S2 M2
    have q13 : v3.cell? ⟨b13, 0, none⟩ = some (.pointer (some ⟨p, 0, none⟩)) := blk_cell M3.out.heap 0
    go_wp2_with fail
    clear q13
    -- exchanged
    have C2 := Lib.hid (rows_add (how := how) (c := c) R3.out.turn hh n1 n64 (show g1.nodes.length ≤ 169000 by omega) (by rw [HC.out]; exact FR.out.k1))
    have e2 := FR.out.e2
    rw [← HC.out] at e2
    rw [e2] at C2
    clear e2
    refine C2.out.mono ?_
    rintro e v4 ⟨F4, sB, cB, rfl, h4, o4, hst4⟩
    have M4 := Lib.hid (M3.out.step hst4)
    have OA4 := Lib.hid (OA3.out.kept hst4.kept (OA3.out.apart_g R3.out.graph (by decide) (by decide) (by decide)))
    have R4 := Lib.hid h4.turn
    have OB4 := Lib.hid o4
    have S4 := Lib.hid (S3.out.trans hst4)
    clear h4 o4 hst4 C2 R3 S3 M3 OA3
    have q13 : v4.cell? ⟨b13, 0, none⟩ = some (.pointer (some ⟨p, 0, none⟩)) := blk_cell M4.out.heap 0
    go_wp2_with fail
    -- opposite
    have C3 := Lib.hid (fun (W : World) (at' : Option Addr) (ct : Nat) (hk : Kept [] v4 W) (ho : Own W 24 at' n ct (nats .u32 ((rowL 1 n).map ntL))) => (by
      have h := rows_add (how := how) (c := 1) (RowsAt.of (R4.out.graph.kept0 hk) (R4.out.oa.kept0 hk) ho R4.out.ka FR.out.a2') hh n1 n64 (show g2.nodes.length ≤ 169000 by omega) FR.out.k2
      rw [FR.out.e3] at h
      exact h : Calls Try.prog 22 #[.pointer (some ⟨p, 0, none⟩), .int .i64 how, .slice a n ca, .slice at' n ct, .int .u32 ((1 : Nat) : Int)] W (AddRows (g3, s3, x3) W p F4 n a ca (rowL 1 n) at' ct ((rowL 1 n).map ntL))))
    have T3 := Lib.hid (fun (W : World) (hk : Kept [] v4 W) => lit_turn a ca n (rowL 1 n) W (rowL_length 1 n) (by omega) (R4.out.oa.sln.kept0 hk) (rowL_lits 1 n (by omega)))
    go_region_held3 (fun w' => w'.cell? ⟨b13, 0, none⟩ = some (.pointer (some ⟨p, 0, none⟩)))
      (first | exact q13 | exact q5 | exact q6 | go_keep)
      (first
        | (go_at_call 24; refine (T3.out _ (by (repeat (first | with_reducible exact Kept.refl _ _ | with_reducible apply Kept.drew | with_reducible apply Kept.drewN | with_reducible apply Kept.alloc | with_reducible exact hs5.kept | refine Kept.trans ?_ hs5.kept)))).mono ?_; rintro e v5 ⟨a5, c5, rfl, o5, hs5⟩; have q5 := hs5.kept.cell (p := ⟨b13, 0, none⟩) (v := .pointer (some ⟨p, 0, none⟩)) q13 (by simp))
        | (go_at_call 22; have k5 := Kept.trans (F := []) (a := v4) (by (repeat (first | with_reducible exact Kept.refl _ _ | with_reducible apply Kept.drew | with_reducible apply Kept.drewN | with_reducible apply Kept.alloc | with_reducible exact hs5.kept | refine Kept.trans ?_ hs5.kept))) hs5.kept; refine (C3.out _ a5 c5 k5 o5).mono ?_; rintro e v6 ⟨F6, sC, cC, rfl, h6, o6, hst6⟩; have M6 := Lib.hid ((M4.out.step ((Stepped.refl v4 F4).keep k5)).step hst6); have q6 := blk_cell M6.out.heap 0))
    have R6 := Lib.hid h6
    have OC6 := Lib.hid o6
    have OA6 := Lib.hid (OA4.out.kept (k5.more (by simp) |>.trans hst6.kept) (OA4.out.apart_g R4.out.graph (by decide) (by decide) (by decide)))
    have OB6 := Lib.hid (OB4.out.kept (k5.more (by simp) |>.trans hst6.kept) (OB4.out.apart_g R4.out.graph (by decide) (by decide) (by decide)))
    have OW6 := Lib.hid (R4.out.ob.kept (k5.more (by simp) |>.trans hst6.kept) (R4.out.ob.apart_g R4.out.graph (by decide) (by decide) (by decide)))
    have S6 := Lib.hid ((S4.out.keep k5).trans hst6)
    clear h6 o6 hst6 C3 T3 R4 S4 M4 OA4 OB4 q13 q5 q6 k5 hs5 o5
    have q13 : v6.cell? ⟨b13, 0, none⟩ = some (.pointer (some ⟨p, 0, none⟩)) := blk_cell M6.out.heap 0
    go_wp2_with fail
    -- nothing added
    have C4 := Lib.hid (fun (W : World) (at' : Option Addr) (ct : Nat) (hk : Kept [] v6 W) (ho : Own W 24 at' n ct (nats .u32 (List.replicate n 0))) => (by
      have h := rows_add (how := how) (c := 0) (RowsAt.of (R6.out.graph.kept0 hk) (R6.out.oa.kept0 hk) ho FR.out.a3 FR.out.z3) hh n1 n64 (show g3.nodes.length ≤ 169000 by omega) FR.out.k3
      rw [FR.out.e4] at h
      exact h : Calls Try.prog 22 #[.pointer (some ⟨p, 0, none⟩), .int .i64 how, .slice a n ca, .slice at' n ct, .int .u32 ((0 : Nat) : Int)] W (AddRows (g4, s4, x4) W p F6 n a ca (rowL 1 n) at' ct (List.replicate n 0))))
    have T4 := Lib.hid (fun (W : World) => (by
      have h := c_const 0 n 0 n rfl W (by omega) (by omega)
      rw [constL_nil] at h
      exact h : Calls Try.prog 36 #[.int .u64 0, .int .i64 n] W fun e w' => ∃ a c, e = .returned (.slice a n c) ∧ Own w' 24 a n c (nats .u32 (List.replicate n 0)) ∧ Stepped W w' [] (ft a)))
    go_region_held3 (fun w' => w'.cell? ⟨b13, 0, none⟩ = some (.pointer (some ⟨p, 0, none⟩)))
      (first | exact q13 | exact q5 | exact q8 | go_keep)
      (first
        | (go_at_call 36; refine (T4.out _).mono ?_; rintro e v7 ⟨a7, c7, rfl, o7, hs5⟩; have q5 := hs5.kept.cell (p := ⟨b13, 0, none⟩) (v := .pointer (some ⟨p, 0, none⟩)) q13 (by simp))
        | (go_at_call 22; have k7 := Kept.trans (F := []) (a := v6) (by (repeat (first | with_reducible exact Kept.refl _ _ | with_reducible apply Kept.drew | with_reducible apply Kept.drewN | with_reducible apply Kept.alloc | with_reducible exact hs5.kept | refine Kept.trans ?_ hs5.kept))) hs5.kept; refine (C4.out _ a7 c7 k7 o7).mono ?_; rintro e v8 ⟨F8, sD, cD, rfl, h8, o8, hst8⟩; have M8 := Lib.hid ((M6.out.step ((Stepped.refl v6 F6).keep k7)).step hst8); have q8 := blk_cell M8.out.heap 0))
    have R8 := Lib.hid h8.graph
    have OD8 := Lib.hid o8
    have OA8 := Lib.hid (OA6.out.kept (k7.more (by simp) |>.trans hst8.kept) (OA6.out.apart_g R6.out.graph (by decide) (by decide) (by decide)))
    have OB8 := Lib.hid (OB6.out.kept (k7.more (by simp) |>.trans hst8.kept) (OB6.out.apart_g R6.out.graph (by decide) (by decide) (by decide)))
    have OC8 := Lib.hid (OC6.out.kept (k7.more (by simp) |>.trans hst8.kept) (OC6.out.apart_g R6.out.graph (by decide) (by decide) (by decide)))
    have KZ := Lib.hid ((S6.out.keep k7).trans hst8).kept
    clear h8 o8 hst8 C4 T4 R6 S6 M6 OA6 OB6 OC6 OW6 q13 q5 q8 k7 hs5 o7
    go_wp2_with fail
    refine (words12 ax cx lx xs n _ HLX.out (by omega) (SX.out.kept0 KZ.out) MX.out n1 n64).mono ?_
    rintro e y2 ⟨gx, l1', rfl, ll1, lw1, own1, k1, gx1⟩
    have K2 := Lib.hid k1
    have O1 := Lib.hid own1
    have LL1 := Lib.hid ll1
    have LW1 := Lib.hid lw1
    clear k1 own1 ll1 lw1
    go_wp2_with fail
    refine (words12 ay cy ly ys n _ HLY.out (by omega) ((SY.out.kept0 KZ.out).kept0 K2.out) MY.out n1 n64).mono ?_
    rintro e y3 ⟨gy, l2', rfl, ll2, ly2, own2, k2, gy1⟩
    have K3 := Lib.hid (K2.out.trans k2)
    have O12 := Lib.hid (O1.out.kept0 k2)
    have HNEWS := Lib.hid (own_news own2)
    have LL2 := Lib.hid ll2
    have LW2 := Lib.hid ly2
    clear k2 own2 ll2 ly2 O1 K2
    go_wp2_with (first
      | (at_builtin; refine wpList_cat (news := nats .u64 l2') rfl rfl Try.underlying48 u64_info2 rfl (by omega) rfl rfl O12.out (by rw [nats_length, LL2.out, Nat.mul_one]) HNEWS.out (nats_one _ _) (by unfold maxLen; omega) (by omega) ?_; intro a4 c4 y4 hown4 hst4)
      | (at_builtin; refine wpList_push rfl rfl Try.underlying48 u64_info2 rfl rfl rfl hown4 rfl (by unfold maxLen; omega) (by omega) ?_; intro a5 c5 y5 hown5 hst5))
    obtain ⟨inp, hinp⟩ : ∃ inp, inp = l1' ++ l2' ++ [23130] := ⟨_, rfl⟩
    have hgiven : Own y5 45 a5 (n + n + 1) c5 (nats .u64 inp) := by
      rw [hinp, ← nats_append, show nats .u64 (l1' ++ l2') = nats .u64 l1' ++ nats .u64 l2' from by simp [nats]]
      exact hown5
    have hil : inp.length = 2 * n + 1 := by rw [hinp]; simp [LL1.out, LL2.out]; omega
    have htop : inp.getD (2 * n) 0 = 23130 := by
      rw [hinp, List.getD_eq_getElem?_getD, List.getElem?_append_right (by simp [LL1.out, LL2.out]; omega)]
      rw [show 2 * n - (l1' ++ l2').length = 0 by simp [LL1.out, LL2.out]; omega]
      rfl
    have hiw : Words inp := by
      rw [hinp]
      intro x hx
      simp only [List.mem_append, List.mem_singleton] at hx
      rcases hx with (hx | hx) | hx
      · exact LW1.out x hx
      · exact LW2.out x hx
      · omega
    have hk5 : Kept [] v8 y5 := kept_up (S := [gx]) K3.out (show Kept [gx] y3 y5 from (hst4.trans hst5).kept) (fun b hb => by simp at hb; omega)
    obtain ⟨ga, rfl⟩ := hgiven.form (by omega)
    have hcap := hgiven.cap
    have GIV := Lib.hid hgiven.sln
    have HIL := Lib.hid hil
    have HIW := Lib.hid hiw
    have K5 := Lib.hid hk5
    clear hgiven hil hiw hk5 htop hinp hown4 hown5 hst4 hst5 HNEWS O12 K3 LL1 LL2 LW1 LW2 SX SY MX MY HLX HLY blx bly gx1 gy1
    obtain ⟨z0, hz0⟩ : ∃ z0, z0 = y5.alloc (.cells #[.slice (some ⟨ga, 0, none⟩) (n + n + 1) c5] 48) := ⟨_, rfl⟩
    obtain ⟨b29, hb29⟩ : ∃ b29, b29 = y5.heap.size := ⟨_, rfl⟩
    have h29 : z0.cell? ⟨b29, 0, none⟩ = some (.slice (some ⟨ga, 0, none⟩) (n + n + 1) c5) := by rw [hz0]; exact blk_cell (Mine.new (F := []) hb29 (by simp)).heap 0
    have hk0 : Kept [] y5 z0 := by rw [hz0]; exact (Kept.refl [] y5).alloc _
    have K0 := Lib.hid (K5.out.trans hk0)
    have GI := Lib.hid (GIV.out.kept0 hk0)
    rw [← hz0, ← hb29]
    clear hz0 hb29 hk0 K5 GIV
    have h13 : z0.cell? ⟨b13, 0, none⟩ = some (.pointer (some ⟨p, 0, none⟩)) := blk_cell (K0.out.heap M8.out.heap (by simp)) 0
    have R0 := Lib.hid (R8.out.kept0 K0.out)
    have OA := Lib.hid (OA8.out.kept0 K0.out)
    have OB := Lib.hid (OB8.out.kept0 K0.out)
    have OC := Lib.hid (OC8.out.kept0 K0.out)
    have OD := Lib.hid (OD8.out.kept0 K0.out)
    have KZ0 := Lib.hid (KZ.out.trans K0.out)
    clear R8 OA8 OB8 OC8 OD8 KZ K0 M8
    have W0 := Lib.hid (Kept.refl [] z0)
    have A1 := Lib.hid (ask_c (R0.out.kept0 W0.out) (by omega) (W0.out.cell h13 (by simp)) (W0.out.cell h29 (by simp)) (GI.out.kept0 W0.out) HIW.out (by rw [HIL.out]; omega) (by rw [FR.out.ins]; omega) (OA.out.kept0 W0.out) FR.out.n1 n1 n64 FR.out.q1)
    refine A1.out.mono ?_
    rintro e z1 ⟨d1, f1, rfl, od1, hf1, hk1⟩
    have OD1' := Lib.hid (show Own z1 45 (some ⟨d1, 0, none⟩) (n + 1) f1 (nats .u64 (wordsOf inp g4 s1 x1)) from od1)
    have W1 := Lib.hid (W0.out.trans hk1)
    have Q1 := Lib.hid hk1
    clear od1 hk1 A1
    go_wp2_with fail
    have A2 := Lib.hid (ask_c (R0.out.kept0 W1.out) (by omega) (W1.out.cell h13 (by simp)) (W1.out.cell h29 (by simp)) (GI.out.kept0 W1.out) HIW.out (by rw [HIL.out]; omega) (by rw [FR.out.ins]; omega) (OB.out.kept0 W1.out) FR.out.n2 n1 n64 FR.out.q2)
    refine A2.out.mono ?_
    rintro e z2 ⟨d2, f2, rfl, od2, hf2, hk2⟩
    have OD2' := Lib.hid (show Own z2 45 (some ⟨d2, 0, none⟩) (n + 1) f2 (nats .u64 (wordsOf inp g4 s2 x2)) from od2)
    have W2 := Lib.hid (W1.out.trans hk2)
    have Q2 := Lib.hid hk2
    clear od2 hk2 A2
    go_wp2_with fail
    have A3 := Lib.hid (ask_c (R0.out.kept0 W2.out) (by omega) (W2.out.cell h13 (by simp)) (W2.out.cell h29 (by simp)) (GI.out.kept0 W2.out) HIW.out (by rw [HIL.out]; omega) (by rw [FR.out.ins]; omega) (OC.out.kept0 W2.out) FR.out.n3 n1 n64 FR.out.q3)
    refine A3.out.mono ?_
    rintro e z3 ⟨d3, f3, rfl, od3, hf3, hk3⟩
    have OD3' := Lib.hid (show Own z3 45 (some ⟨d3, 0, none⟩) (n + 1) f3 (nats .u64 (wordsOf inp g4 s3 x3)) from od3)
    have W3 := Lib.hid (W2.out.trans hk3)
    have Q3 := Lib.hid hk3
    clear od3 hk3 A3
    go_wp2_with fail
    have A4 := Lib.hid (ask_c (R0.out.kept0 W3.out) (by omega) (W3.out.cell h13 (by simp)) (W3.out.cell h29 (by simp)) (GI.out.kept0 W3.out) HIW.out (by rw [HIL.out]; omega) (by rw [FR.out.ins]; omega) (OD.out.kept0 W3.out) FR.out.n4 n1 n64 FR.out.q4)
    refine A4.out.mono ?_
    rintro e z4 ⟨d4, f4, rfl, od4, hf4, hk4⟩
    have OD4' := Lib.hid (show Own z4 45 (some ⟨d4, 0, none⟩) (n + 1) f4 (nats .u64 (wordsOf inp g4 s4 x4)) from od4)
    have W4 := Lib.hid (W3.out.trans hk4)
    have Q4 := Lib.hid hk4
    clear od4 hk4 A4
    go_wp2_with fail
    have RA := Lib.hid (OD1'.out.kept0 ((Q2.out.trans Q3.out).trans Q4.out))
    have RB := Lib.hid (OD2'.out.kept0 (Q3.out.trans Q4.out))
    rw [← FR.out.same inp HIW.out] at RB
    have RC := Lib.hid (OD3'.out.kept0 Q4.out)
    have G4 := Lib.hid (GI.out.kept0 W4.out)
    have c29 : z4.cell? ⟨b29, 0, none⟩ = some (.slice (some ⟨ga, 0, none⟩) (n + n + 1) c5) := W4.out.cell h29 (by simp)
    have KZ4 := Lib.hid (KZ0.out.trans W4.out)
    have lA := Lib.hid (wordsOf_length (inp := inp) (g := g4) (o := x1) FR.out.n1)
    have lC := Lib.hid (wordsOf_length (inp := inp) (g := g4) (o := x3) FR.out.n3)
    have lD := Lib.hid (wordsOf_length (inp := inp) (g := g4) (o := x4) FR.out.n4)
    clear OD1' OD2' OD3' Q1 Q2 Q3 Q4 W0 W1 W2 W3 W4 OA OB OC OD R0 GI h13 h29 KZ0
    go_loopw [35] (fun v wr => ∃ i : Nat, v = .int .i64 i ∧ i ≤ n ∧ Kept [] z4 wr) (fun v _ => n - (intOf v).toNat)
    case atStart => exact ⟨0, rfl, by omega, Kept.refl _ _⟩
    case round =>
      obtain ⟨i, rfl, hi, hkr⟩ := hrel
      have HKR := Lib.hid hkr
      have q29 : wr.cell? ⟨b29, 0, none⟩ = some (.slice (some ⟨ga, 0, none⟩) (n + n + 1) c5) := hkr.cell c29 (by simp)
      have i1 : (i : Int) < (n : Int) + 1 := by omega
      have i2 : (i : Int) < (n : Int) + (n : Int) + 1 := by omega
      have q1 := own_cells_i (RA.out.kept0 hkr) i (by rw [lA.out]; omega)
      have q2 := own_cells_i (RB.out.kept0 hkr) i (by rw [lA.out]; omega)
      by_cases hlt : i < n
      · have q3 := own_cells_i (RC.out.kept0 hkr) i (by rw [lC.out]; omega)
        have q4 := own_cells_i (OD4'.out.kept0 hkr) i (by rw [lD.out]; omega)
        have q5 := row_cell (G4.out.kept0 hkr) i (by rw [HIL.out]; omega)
        rw [FR.out.low3 inp i HIW.out hlt] at q3
        rw [FR.out.low4 inp i HIW.out hlt] at q4
        have q3' : wr.cell? ⟨d3, i, none⟩ = some (.int .u64 0) := q3
        clear hkr q3
        generalize inp.getD i 0 = r0 at *
        generalize (wordsOf inp g4 s1 x1).getD i 0 = r1 at *
        go_wp2_with fail
        go_quiet (fail)
        go_wp2_with fail
        go_roundw
        case rel => exact ⟨i + 1, by go_num, by omega, HKR.out.drewN _⟩
        case measure => simp [intOf]; omega
      · obtain rfl : i = n := by omega
        have q3 := own_cells_i (RC.out.kept0 hkr) i (by rw [lC.out]; omega)
        have q4 := own_cells_i (OD4'.out.kept0 hkr) i (by rw [lD.out]; omega)
        rw [FR.out.top3 inp HIW.out] at q3
        rw [FR.out.top4 inp HIW.out] at q4
        have q3' : wr.cell? ⟨d3, i, none⟩ = some (.int .u64 18446744073709551615) := q3
        have q4' : wr.cell? ⟨d4, i, none⟩ = some (.int .u64 0) := q4
        clear hkr q3 q4
        generalize (wordsOf inp g4 s1 x1).getD i 0 = r1 at *
        go_wp2_with fail
        go_region_held3 (fun w' => w'.cell? ⟨d1, i, none⟩ = some (.int .u64 (r1 : Int)) ∧ w'.cell? ⟨d2, i, none⟩ = some (.int .u64 (r1 : Int)) ∧ w'.cell? ⟨d3, i, none⟩ = some (.int .u64 18446744073709551615) ∧ w'.cell? ⟨d4, i, none⟩ = some (.int .u64 0))
          (first | exact ⟨t1, t2, t3, t4⟩ | go_keep)
          (first | (go_at_call 26; refine (add_tells _).mono ?_; rintro e wt ⟨rfl, hkt⟩; have t1 := hkt.cell (p := ⟨d1, i, none⟩) q1 (by simp); have t2 := hkt.cell (p := ⟨d2, i, none⟩) q2 (by simp); have t3 := hkt.cell (p := ⟨d3, i, none⟩) q3' (by simp); have t4 := hkt.cell (p := ⟨d4, i, none⟩) q4' (by simp); have HKT := Lib.hid hkt; clear hkt))
        all_goals
          go_wp2_with fail
          go_ret
          exact ⟨rfl, ((KZ4.out.trans HKR.out).drew.trans HKT.out).below⟩

set_option maxRecDepth 100000 in
theorem addord_lifted (os : Os) (started : os.Started) (H : Type) (enc : TypeId × Value → H) :
    ReturnsInHanded {} Try.checked os 10 .any (Rows.adderOrderSpec.pre6 enc Try.prog Try.f10 Rows.adderOrderRow.domain false) (Rows.adderOrderSpec.post enc Try.prog Try.f10 false true false false) := by
  refine returnsInHanded_of_change_sized (C := Try.checked) own started (by kernel_rfl) Try.func10
    (ChangeSpec.witness6 (enc := enc) (C := Try.checked) false ⟨#[], #[.agg #[.bool false, .bool false], .int .u8 0, .bool false, .slice none 0 0, .slice none 0 0], []⟩ 8 (by kernel_rfl) (by kernel_rfl) (by kernel_rfl) (by kernel_rfl)) ?_
  intro W base args ds gs before hval0 hW _ hsz0 _
  have hval : ∀ (j : Nat) t v, Try.f10.params[j]? = some t → args[j]? = some v → Value.okWide Try.prog W .any base t v := hval0
  have hend := fun W' (hb : Below W.heap.size W W') => law_post (s := Rows.adderOrderSpec) (fn := Try.f10) laidOut (by kernel_rfl) rfl ⟨4, rfl, Try.underlying4⟩ (fun l hl => by match l, hl with | [_, _, _, _, _], _ => rfl) hW hb
  obtain ⟨p, q, hA0, hV, rfl, hfz, hnd⟩ := hW
  have hA : DataW.TrodAll enc Try.prog W 0 (fun _ => true) true Try.f10.params.toList args.toList ds p := hA0
  have hsz : (DataW.weightsEach Try.prog (Try.f10.params.toList ++ Rows.adderOrderSpec.plain.varTypes Try.prog) (ds ++ gs)).all (· ≤ reachBytes) = true := hsz0
  rw [Try.params10] at hA hval hsz
  obtain ⟨v0, vs0, d0, ds0, p0, q0, hargs, rfl, rfl, h0, r0⟩ := trodAll_cons hA
  obtain ⟨v1, vs1, d1, ds1, p1, q1, rfl, rfl, rfl, h1, r1⟩ := trodAll_cons r0
  obtain ⟨v2, vs2, d2, ds2, p2, q2, rfl, rfl, rfl, h2, r2⟩ := trodAll_cons r1
  obtain ⟨v3, vs3, d3, ds3, p3, q3, rfl, rfl, rfl, h3, r3⟩ := trodAll_cons r2
  obtain ⟨v4, vs4, d4, ds4, p4, q4, rfl, rfl, rfl, h4, r4⟩ := trodAll_cons r3
  obtain ⟨rfl, rfl, rfl⟩ := trodAll_nil r4
  obtain rfl : args = #[v0, v1, v2, v3, v4] := by cases args; simp_all
  obtain ⟨rfl, rfl⟩ := trodVars_none hV
  obtain ⟨oa0, ob0, rfl⟩ := open_opts (hval 0 32 v0 rfl rfl) h0 (Sized.arg (j := 0) hsz rfl rfl)
  obtain ⟨a1, rfl, rfl, rfl, f1⟩ := open_int Try.underlying5 (hval 1 5 v1 rfl rfl) h1
  obtain ⟨a1, rfl, w1⟩ := wf_nat (m := 256) rfl rfl f1
  obtain ⟨a2, rfl, rfl, rfl⟩ := open_bool Try.underlying4 (hval 2 4 v2 rfl rfl) h2
  obtain ⟨a3, cap3, l3, rfl, hc3, hs3, hm3, hd3⟩ := open_nats (m := 18446744073709551616) Try.underlying48 Try.underlying45 (by kernel_rfl) rfl rfl (hval 3 48 v3 rfl rfl) h3
  have z3 := cap_reach (bytes := 8) (j := 3) hsz rfl rfl Try.underlying48 (by kernel_rfl) hd3
  obtain ⟨a4, cap4, l4, rfl, hc4, hs4, hm4, hd4⟩ := open_nats (m := 18446744073709551616) Try.underlying48 Try.underlying45 (by kernel_rfl) rfl rfl (hval 4 48 v4 rfl rfl) h4
  have z4 := cap_reach (bytes := 8) (j := 4) hsz rfl rfl Try.underlying48 (by kernel_rfl) hd4
  refine (addord_walk oa0 ob0 a1 a2 a3 cap3 l3 a4 cap4 l4 W w1 hc3 z3 hs3 hm3 hc4 z4 hs4 hm4).mono fun e W' ⟨he, hb⟩ => ?_
  subst he
  exact hend W' hb

theorem addord_over : Rows.adderOrderRow.holds Try.pinned (OpenSpec.ofChange Rows.adderOrderSpec) :=
  OpenClaim.holds_of_wide 10 Try.f10 rfl rfl rfl rfl rfl rfl rfl ⟨rfl, rfl, rfl, rfl, rfl⟩ rfl rfl rfl rfl rfl (by kernel_rfl) Try.func10 (by kernel_rfl)
    (of_decide_eq_true (by kernel_rfl)) (by unfold Func.isWrapper; first | (rw [if_pos (by decide +kernel)]; kernel_rfl) | (rw [if_neg (by decide +kernel)]; exact ⟨rfl, rfl⟩))
    (fun os started H enc _ => addord_lifted os started H enc)

theorem adderOrder_holds : Rows.AdderOrderSaid := addord_over
end Go.Proofs.Ytfngfoabknbgdaa
