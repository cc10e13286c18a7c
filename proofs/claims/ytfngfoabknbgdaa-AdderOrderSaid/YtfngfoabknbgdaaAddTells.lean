/-
  Law 12: rows added, whichever way; the chapter's rows.
-/
import Derived.Test.YtfngfoabknbgdaaAddCall
import Derived.Test.YtfngfoabknbgdaaAddAhead
import Derived.Test.YtfngfoabknbgdaaAddGates
import Derived.Test.YtfngfoabknbgdaaCmpRows
import Derived.Test.YtfngfoabknbgdaaAigCopy
namespace Go.Proofs.Ytfngfoabknbgdaa
open Go.ChangeShapes Go.WideShapes Go.ChangeAt Go.RowKit
open Go.Maps (Keyed)
open Go.WideMaps
set_option linter.unusedVariables false

variable {w w' w1 : World} {p : Nat} {F F1 F' S : List Nat} {g g' : Gr} {a b : Option Addr} {n ca cb : Nat} {la lb : List Nat}

def addG (how : Nat) (g : Gr) (la lb : List Nat) (c n : Nat) : Gr × List Nat × Nat := if how = 1 then ripTo g la lb c n else aheadG g la lb c n
theorem addG_ok {how c : Nat} (hw : WF g.nodes) (ka : ∀ x ∈ la, g.ok x) (kb : ∀ x ∈ lb, g.ok x) (kc : g.ok c) (hla : la.length = n) (hlb : lb.length = n) (hn : n ≤ 64) : AddOk (9 * n + 1152) g la lb c n (addG how g la lb c n) := by
  unfold addG
  split
  · have h := rip_ok hw ka kb kc hla hlb
    exact ⟨h.wf, h.ext.mono (by omega), h.len, h.os, h.oc, h.val⟩
  · have h := ahead_ok hw ka kb kc hla hlb hn
    have h2 := wideTo_le n hn (rnds n)
    have h3 : rnds n ≤ 6 := by unfold rnds; repeat' split
                               all_goals omega
    exact ⟨h.wf, h.ext.mono (by omega), h.len, h.os, h.oc, h.val⟩
def AddRows (r : Gr × List Nat × Nat) (w : World) (p : Nat) (F : List Nat) (n : Nat) (a : Option Addr) (ca : Nat) (la : List Nat) (b : Option Addr) (cb : Nat) (lb : List Nat) (e : Ending) (w' : World) : Prop :=
  ∃ F' s cs, e = .returned (.tuple #[.slice s n cs, .int .u32 (r.2.2 : Nat), .int .i64 0]) ∧ RowsAt w' p F' r.1 n a ca la b cb lb ∧ Own w' 24 s n cs (nats .u32 r.2.1) ∧ Stepped w w' F F'
theorem rows_add {how c : Nat} (h : RowsAt w p F g n a ca la b cb lb) (hh : how = 1 ∨ how = 2) (h1 : 1 ≤ n) (hn : n ≤ 64) (hm : g.nodes.length ≤ 169000) (hc : g.ok c) :
    Calls Try.prog 22 #[.pointer (some ⟨p, 0, none⟩), .int .i64 how, .slice a n ca, .slice b n cb, .int .u32 c] w (AddRows (addG how g la lb c n) w p F n a ca la b cb lb) := by
  have hok := addG_ok (how := how) h.graph.wf h.ka h.kb hc h.lenA h.lenB hn
  refine (add_c hh h.graph hm h1 hn h.lenA h.lenB h.oa.sln h.ob.sln h.ka h.kb hc (h.oa.apart_g h.graph (by decide) (by decide) (by decide)) (h.ob.apart_g h.graph (by decide) (by decide) (by decide))).mono ?_
  rintro e w' ⟨F', s, cs, he, hg', hos, hst⟩
  have hst' : Stepped w w' F F' := hst.weak (fun _ h => h) (fun x hx => List.mem_append_left _ hx)
  exact ⟨F', s, cs, he, h.step hst' hg' hok.ext, hos, hst'⟩

theorem RowsAt.of (hg : GraphAt w p F g) (ho : Own w 24 a n ca (nats .u32 la)) (ho' : Own w 24 b n cb (nats .u32 lb)) (ka : ∀ x ∈ la, g.ok x) (kb : ∀ x ∈ lb, g.ok x) : RowsAt w p F g n a ca la b cb lb := ⟨hg, ho, ho', ka, kb⟩
theorem fresh_gates {o1 o2 : Bool} {c k m : Nat} {r : Gr} (hx : Ext c (freshG o1 o2 k) r) (hj : r.nodes.length = k + 1 + m) : gatesN r = (m : Int) := by
  unfold gatesN
  rw [hx.ins, (freshG_wf o1 o2 k).2, hj]
  omega
/-- a graph beside what is written -/
theorem keep_apart {w1 w2 : World} {G G' : List Nat} (hg : GraphAt w1 p F g) (hd : ∀ x ∈ F, x ∉ G) (hst : Stepped w1 w2 G G') : GraphAt w2 p F g ∧ ∀ x ∈ F, x ∉ G' :=
  ⟨hg.kept hst.kept hd, fun x hx hf => by
    rcases hst.fresh x hf with h | h
    · exact hd x hx h
    · have := hg.lt x hx; omega⟩
theorem swap_apart {G : List Nat} (h : ∀ x ∈ F, x ∉ G) : ∀ x ∈ G, x ∉ F := fun x hx hf => h x hf hx
theorem Stepped.new {w1 w2 w3 : World} {G : List Nat} (h : Kept [] w1 w2) (hst : Stepped w2 w3 [] G) : Stepped w1 w3 [] G := ((Stepped.refl w1 []).keep h).trans hst

set_option maxHeartbeats 1600000 in
set_option maxRecDepth 100000 in
theorem add_tells (w : World) : Calls Try.prog 26 #[] w fun e w' => e = .returned (.bool true) ∧ Kept [] w w' := by
  have e1 := Lib.hid (show addG 1 (g0 true false) (constL 3 3) (constL 6 3) 1 3 = (g0 true false, constL 2 3, 1) from by kernel_rfl)
  have en := Lib.hid (show numR (constL 2 3) = 2 ∧ numB (constL 2 3) = true from by constructor <;> kernel_rfl)
  have k3 := Lib.hid (show ∀ x ∈ constL 3 3, (g0 true false).ok x from by show ∀ x ∈ constL 3 3, x / 2 < 1; decide)
  have k6 := Lib.hid (show ∀ x ∈ constL 6 3, (g0 true false).ok x from by show ∀ x ∈ constL 6 3, x / 2 < 1; decide)
  have k1 := Lib.hid (show (g0 true false).ok 1 from by show 1 / 2 < 1; decide)
  go_enter Try.func26, Try.ntmps26; (try simp only [List.append])
  go_wp2_with fail
  refine (aig_new true false _).mono ?_
  rintro e v0 ⟨p, F, rfl, hg, hst⟩
  have HG := Lib.hid (show GraphAt v0 p F (g0 true false) from hg)
  have HST := Lib.hid (show Stepped w v0 [] F from hst)
  clear hg hst
  go_wp2_with fail
  refine (c_const 3 3 _ _ rfl _ (by omega) rfl).mono ?_
  rintro e v1 ⟨a1, c1, rfl, ho1, hs1⟩
  have HO1 := Lib.hid ho1
  have HS1 := Lib.hid hs1
  clear ho1 hs1
  go_wp2_with fail
  refine (c_const 6 3 _ _ rfl _ (by omega) rfl).mono ?_
  rintro e v2 ⟨a2, c2, rfl, ho2, hs2⟩
  have HO2 := Lib.hid ho2
  have HS2 := Lib.hid hs2
  clear ho2 hs2
  go_wp2_with fail
  have C1 := Lib.hid (rows_add (how := 1) (c := 1) (RowsAt.of ((HG.out.kept0 HS1.out.kept).kept0 HS2.out.kept) (HO1.out.kept0 HS2.out.kept) HO2.out k3.out k6.out) (.inl rfl) (by omega) (by omega) (by decide) k1.out)
  rw [e1.out] at C1
  refine C1.out.mono ?_
  rintro e v3 ⟨F3, s3, cs3, rfl, h3, os3, hst3⟩
  have HST3 := Lib.hid (((HST.out.keep HS1.out.kept).keep HS2.out.kept).trans hst3)
  have H3 := Lib.hid h3.graph
  have OS3 := Lib.hid os3
  clear HG HST HO1 HS1 HO2 HS2 hst3 h3 os3 C1
  go_wp2_with fail
  refine (lit_number _ _ 3 _ _ rfl (by omega) OS3.out.sln).mono ?_
  rw [en.out.1, en.out.2]
  rintro e w' ⟨rfl, rfl⟩
  go_wp2_with fail
  refine (fresh_c false false 4 _ (by omega) (by omega)).mono ?_
  rintro e v4 ⟨q, F4, b1, d1, b2, d2, rfl, hg4, o41, o42, hst4⟩
  have R4 := Lib.hid (fresh_rows hg4 o41 o42)
  have HST4 := Lib.hid (Stepped.new HST3.out.kept hst4)
  have H4 := Lib.hid (keep_apart H3.out (by simp) hst4)
  clear HST3 H3 OS3 hg4 o41 o42 hst4
  go_wp2_with fail
  refine (aig_copy R4.out.graph (by rw [freshG_length]; omega)).mono ?_
  rintro e v5 ⟨q2, F5, rfl, hg5, hst5⟩
  have A45 := Lib.hid (keep_apart R4.out.graph (by simp) hst5).2
  have A35 := Lib.hid (keep_apart H4.out.1 (by simp) hst5)
  have A34 := Lib.hid H4.out.2
  have R5 := Lib.hid (R4.out.kept0 hst5.kept)
  have G5 := Lib.hid hg5
  have HST5 := Lib.hid (HST4.out.keep hst5.kept)
  have N5 := Lib.hid (Stepped.new HST4.out.kept hst5)
  clear HST4 H4 R4 hg5 hst5
  go_wp2_with fail
  have kc := Lib.hid (show (freshG false false (2 * 4 + 1)).ok 18 from freshG_ok _ _ (by omega))
  have ok1 := Lib.hid (addG_ok (how := 1) R5.out.graph.wf R5.out.ka R5.out.kb kc.out R5.out.lenA R5.out.lenB (by omega))
  have ok2 := Lib.hid (addG_ok (how := 2) R5.out.graph.wf R5.out.ka R5.out.kb kc.out R5.out.lenA R5.out.lenB (by omega))
  have j1 := Lib.hid (show gatesN (addG 1 (freshG false false (2 * 4 + 1)) (rowL 1 4) (rowL (1 + 4) 4) 18 4).1 = 36 from by
    have h := rip_just (g := freshG false false (2 * 4 + 1)) rfl rfl (rowL 1 4) (rowL (1 + 4) 4) 18 4
    exact fresh_gates (m := 36) ok1.out.ext (by have := h.len; rw [freshG_length] at this; exact this))
  have j2 := Lib.hid (show gatesN (addG 2 (freshG false false (2 * 4 + 1)) (rowL 1 4) (rowL (1 + 4) 4) 18 4).1 = 51 from by
    have h := ahead_just (g := freshG false false (2 * 4 + 1)) rfl rfl (rowL 1 4) (rowL (1 + 4) 4) 18 4
    exact fresh_gates (m := 51) ok2.out.ext (by have := h.len; rw [freshG_length] at this; exact this))
  have z1 := ok1.out.ext.le
  have z2 := ok2.out.ext.le
  rw [freshG_length] at z1 z2
  have C1 := Lib.hid (rows_add (how := 1) (c := 18) R5.out (.inl rfl) (by omega) (by omega) (by rw [freshG_length]; omega) kc.out)
  have C2 := Lib.hid (fun (W : World) (h : RowsAt W q2 F5 (freshG false false (2 * 4 + 1)) 4 b1 d1 (rowL 1 4) b2 d2 (rowL (1 + 4) 4)) => rows_add (how := 2) (c := 18) h (.inr rfl) (by omega) (by omega) (by rw [freshG_length]; omega) kc.out)
  clear ok1 ok2
  generalize addG 1 (freshG false false (2 * 4 + 1)) (rowL 1 4) (rowL (1 + 4) 4) 18 4 = r1 at *
  generalize addG 2 (freshG false false (2 * 4 + 1)) (rowL 1 4) (rowL (1 + 4) 4) 18 4 = r2 at *
  refine C1.out.mono ?_
  rintro e v6 ⟨F6, s6, cs6, rfl, h6, os6, hst6⟩
  have S6 := Lib.hid (HST5.out.trans hst6)
  have G6 := Lib.hid (keep_apart G5.out (swap_apart A45.out) hst6)
  have P6 := Lib.hid (keep_apart A35.out.1 A34.out hst6).1
  have Q6 := Lib.hid h6.graph
  have N6 := Lib.hid (show Stepped w v6 [] F5 from ⟨S6.out.kept, N5.out.fresh⟩)
  have R6 := Lib.hid (RowsAt.of G6.out.1 h6.oa h6.ob R5.out.ka R5.out.kb)
  clear HST5 h6 os6 hst6 R5 G5 N5 S6 C1
  go_wp2_with fail
  refine (C2.out _ R6.out).mono ?_
  rintro e v7 ⟨F7, s7, cs7, rfl, h7, os7, hst7⟩
  have S7 := Lib.hid (N6.out.trans hst7)
  have P7 := Lib.hid (keep_apart P6.out A35.out.2 hst7).1
  have Q7 := Lib.hid (keep_apart Q6.out (swap_apart G6.out.2) hst7).1
  have R7 := Lib.hid h7.graph
  clear N6 h7 os7 hst7 R6 G6 P6 Q6 C2 A34 A35 A45
  go_wp2_with fail
  refine (aig_gates P7.out (by decide)).mono ?_
  rintro e w' ⟨rfl, k1, rfl⟩
  rw [show gatesN (g0 true false) = 0 from rfl]
  go_wp2_with fail
  refine (aig_gates (Q7.out.kept0 ((Kept.refl [] _).drewN _)) (by omega)).mono ?_
  rintro e w' ⟨rfl, k2, rfl⟩
  rw [j1.out]
  go_wp2_with fail
  refine (aig_gates (R7.out.kept0 ((Kept.refl [] _).drewN _)) (by omega)).mono ?_
  rintro e w' ⟨rfl, k3, rfl⟩
  rw [j2.out]
  go_wp2_with fail
  go_ret
  exact ⟨rfl, S7.out.kept.drewN _⟩
end Go.Proofs.Ytfngfoabknbgdaa
