/-
  Law 10: EmitTells, plain: no line holds a line's end. The document's package emit: a netlist's text. The document's package emit: a netlist's lines. The document's package emit: a number's digits; literals' words.
-/
import Derived.Test.YtnjoklcddodfeaaGreatDoorQEmitM
import Derived.Test.YtnjoklcddodfeaaGreatDoorP04
import Derived.Test.YtnjoklcddodfeaaGreatDoorP05
import Derived.Test.YtnjoklcddodfeaaGreatDoorP08
import Derived.Test.YtnjoklcddodfeaaGreatDoorQRSimAll
import Derived.Test.YtnjoklcddodfeaaGreatDoorQEmitI
import Derived.Deep.RegionHeld3
import Derived.Test.YtnjoklcddodfeaaGreatDoorQEmitP
import Derived.Lib.BufSteps
import Derived.Test.YtnjoklcddodfeaaGreatDoorP37
import Derived.Lib.Bytealg
namespace Go.Proofs.YtnjoklcddodfeaaGreatDoor
open Go.ChangeShapes Go.WideShapes Go.ChangeAt Go.RowKit
set_option linter.unusedVariables false
set_option linter.unusedSimpArgs false

variable {w w' w1 W : World}
def TxtR (l : List UInt8) (w : World) (e : Ending) (w' : World) : Prop := e = .returned (.string ⟨l.toArray⟩) ∧ Kept [] w w'
theorem one_str (w : World) (z : UInt8) : (convert 45 9 (.slice (some ⟨w.heap.size, 0, none⟩) 1 1)).run Tryz.prog (w.alloc (.cells #[.int .u8 (z.toNat : Int)] 5)) = .ok (.string ⟨#[z]⟩) (w.alloc (.cells #[.int .u8 (z.toNat : Int)] 5)) :=
  run_convert_bytes_back (P := Tryz.prog) _ 45 9 5 ⟨w.heap.size, 0, none⟩ 1 [z] Tryz.underlying45 Tryz.underlying5 Tryz.underlying9 (fun j hj => by
    obtain rfl : j = 0 := by simpa using hj
    have h := blk_cell (heap_alloc_new w (.cells #[.int .u8 (z.toNat : Int)] 5)) 0
    have e : ((⟨w.heap.size, 0, none⟩ : Addr).add 0) = ⟨w.heap.size, 0, none⟩ := by simp [Addr.add]
    rw [e, h]
    rfl)
theorem dec_big {m : Nat} (h : ¬ m < 10) : Lib.decDigits m = Lib.decDigits (m / 10) ++ [UInt8.ofNat (48 + m % 10)] := by
  rw [Lib.decDigits, dif_neg h]
theorem dec_small {m : Nat} (h : m < 10) : Lib.decDigits m = [UInt8.ofNat (48 + m)] := by
  rw [Lib.decDigits, dif_pos h]
set_option maxHeartbeats 1600000 in
set_option maxRecDepth 100000 in
theorem digits16 (u : Nat) (hu : u < 18446744073709551616) (w : World) : Calls Tryz.prog 88 #[.int .u64 (u : Int)] w (TxtR (Lib.decDigits u) w) := by
  have HLEN := Lib.hid (show (Lib.decDigits u).length ≤ 20 from by rw [Lib.decDigits_length]; exact Lib.nDigits_le20 u hu)
  go_enter Tryz.func88, Tryz.ntmps88
  go_wp2_with fail
  go_loopw [0, 3] (fun n s wr => ∃ (v : Nat) (T : List UInt8), n = .int .u64 (v : Int) ∧ s = .string ⟨T.toArray⟩ ∧ Lib.decDigits u = Lib.decDigits v ++ T ∧ v ≤ u ∧ Kept [] w wr) (fun n _ _ => (intOf n).toNat)
  case atStart => exact ⟨u, [], rfl, rfl, by simp, Nat.le_refl _, .refl _ _⟩
  case round =>
    obtain ⟨v, T, rfl, rfl, hdg, hvu, hkr⟩ := hrel
    have HD := Lib.hid hdg
    have KR := Lib.hid hkr
    have hT : T.length ≤ 20 := by
      have h := congrArg List.length hdg
      rw [List.length_append] at h
      have := HLEN.out
      omega
    clear hdg hkr
    by_cases hlt : v < 10
    · obtain ⟨z, hz⟩ : ∃ z, z = UInt8.ofNat (48 + v) := ⟨_, rfl⟩
      have hzn : z.toNat = 48 + v := by rw [hz, UInt8.toNat_ofNat']; omega
      have HDR := Lib.hid (show Lib.decDigits u = z :: T from by rw [HD.out, dec_small hlt, ← hz]; rfl)
      have hcv := one_str wr z
      have hcat := fun W => run_string_add_lists (P := Tryz.prog) W [z] T (by simp) (by omega)
      have hsm : (48 : Int) + (v : Int) = (z.toNat : Int) := by rw [hzn]; omega
      have hg : ¬ (9 : Int) < (v : Int) := by omega
      have hw1 : IntKind.u64.wrap (48 + (v : Int)) = (z.toNat : Int) := by rw [hsm]; exact IntWalk.u64_in _ (by omega)
      have hw2 : IntKind.u8.wrap (z.toNat : Int) = (z.toNat : Int) := IntWalk.u8_in _ (by omega)
      clear hz hzn hsm
      go_wp2_with fail
      go_ret
      exact ⟨by rw [HDR.out]; rfl, KR.out.trans ((Kept.refl [] wr).alloc _)⟩
    · obtain ⟨z, hz⟩ : ∃ z, z = UInt8.ofNat (48 + v % 10) := ⟨_, rfl⟩
      have hzn : z.toNat = 48 + v % 10 := by rw [hz, UInt8.toNat_ofNat']; omega
      have HDR := Lib.hid (show Lib.decDigits u = Lib.decDigits (v / 10) ++ (z :: T) from by rw [HD.out, dec_big hlt, ← hz, List.append_assoc]; rfl)
      have hcv := one_str wr z
      have hcat := fun W => run_string_add_lists (P := Tryz.prog) W [z] T (by simp) (by omega)
      have hmo : (v : Int) % 10 = ((v % 10 : Nat) : Int) := by omega
      have hsm : (48 : Int) + (v : Int) % 10 = (z.toNat : Int) := by rw [hzn]; omega
      have hg : (9 : Int) < (v : Int) := by omega
      have hw1 : IntKind.u64.wrap (48 + (v : Int) % 10) = (z.toNat : Int) := by rw [hsm]; exact IntWalk.u64_in _ (by omega)
      have hw2 : IntKind.u8.wrap (z.toNat : Int) = (z.toNat : Int) := IntWalk.u8_in _ (by omega)
      have HI := Lib.hid (Int.natCast_ediv v 10)
      clear hz hmo hzn hsm
      go_wp2_with fail
      go_roundw
      case rel => exact ⟨v / 10, z :: T, by go_num, rfl, HDR.out, by omega, KR.out.trans ((Kept.refl [] wr).alloc _)⟩
      case measure => simp [intOf]; omega
set_option maxHeartbeats 1600000 in
set_option maxRecDepth 100000 in
theorem words10 (a : Option Addr) (c n : Nat) (ls : List Nat) (w : World) (hn : ls.length = n) (hs : SlN w .u32 a ls) (hlt : ∀ x ∈ ls, x < 4294967296) (hlen : n ≤ 1000) : Calls Tryz.prog 43 #[.slice a n c] w (TxtR (wordsB ls) w) := by
  have HS := Lib.hid hs
  have HLT := Lib.hid hlt
  have HN := Lib.hid hn
  clear hs hlt hn
  go_enter Tryz.func43, Tryz.ntmps43
  go_wp2_with fail
  go_loopw [3, 4] (fun s v wr => ∃ k : Nat, k ≤ n ∧ v = .int .i64 k ∧ s = .string ⟨(wordsB (ls.take k)).toArray⟩ ∧ Kept [] w wr) (fun _ v _ => n - (intOf v).toNat)
  case atStart => exact ⟨0, Nat.zero_le _, rfl, rfl, .refl _ _⟩
  case round =>
    obtain ⟨k, hk, rfl, rfl, hkr⟩ := hrel
    have KR := Lib.hid hkr
    by_cases hltk : k < n
    · have hkl : k < ls.length := by rw [HN.out]; exact hltk
      obtain ⟨ad, rfl, hcell⟩ := HS.out k hkl
      have hc2 := hkr.cell hcell (by simp)
      have hx := HLT.out _ (List.getElem_mem hkl)
      have HT := Lib.hid (show wordsB (ls.take (k + 1)) = wordsB (ls.take k) ++ (32 :: Lib.decDigits ls[k]) from by
        rw [List.take_succ_eq_append_getElem hkl, wordsB_snoc])
      have hwl : (wordsB (ls.take k)).length ≤ 21 * k := by
        have := wordsB_len (ls.take k) fun y hy => HLT.out y (List.mem_of_mem_take hy)
        rw [List.length_take] at this
        have e : min k ls.length = k := by omega
        rwa [e] at this
      obtain ⟨x, hxx⟩ : ∃ x, x = ls[k] := ⟨_, rfl⟩
      rw [← hxx] at hc2 hx HT
      have HDG := Lib.hid (fun V => digits16 x (by omega) V)
      have hdl := dec_len hx
      have hcat1 := fun W => run_string_add_lists (P := Tryz.prog) W (wordsB (ls.take k)) [32] (by omega) (by simp)
      have hcat2 := fun W => run_string_add_lists (P := Tryz.prog) W (wordsB (ls.take k) ++ [32]) (Lib.decDigits x) (by simp; omega) (by omega)
      have q0 : (0 : Int) ≤ (k : Int) := by omega
      have q1 : (k : Int) < (n : Int) := by omega
      clear hxx hkl hcell hkr
      go_wp2_with fail
      refine (HDG.out _).mono ?_
      rintro e w3 ⟨rfl, k3⟩
      have K3 := Lib.hid (KR.out.trans k3)
      clear k3 hc2
      go_wp2_with fail
      go_roundw
      case rel => exact ⟨k + 1, by omega, by go_num, by rw [HT.out], K3.out⟩
      case measure => simp [intOf]; omega
    · obtain rfl : k = n := by omega
      have HTK := Lib.hid (show ls.take k = ls from by rw [← HN.out]; exact List.take_length)
      rw [HTK.out]
      go_wp2_with fail
      go_ret
      exact ⟨rfl, KR.out⟩
end Go.Proofs.YtnjoklcddodfeaaGreatDoor

namespace Go.Proofs.YtnjoklcddodfeaaGreatDoor
open Go.ChangeShapes Go.WideShapes Go.ChangeAt Go.RowKit
set_option linter.unusedVariables false
set_option linter.unusedSimpArgs false

variable {w w' w0 w1 W W' : World} {p n k q : Nat} {F R S : List Nat} {g : Gr} {N : Nt}
theorem strg_info : (Tryz.prog.info? 9).map (fun i => (i.zero, i.size, i.bytes)) = some (some (.string ⟨#[]⟩), 1, 16) := by kernel_rfl
def strV (l : List (List UInt8)) : List Value := l.map fun s => .string ⟨s.toArray⟩
/-- a row of lines of one's own -/
def OutAt (w0 w : World) (a : Option Addr) (m c : Nat) (l : List (List UInt8)) : Prop := Own w 9 a m c (strV l) ∧ Kept [] w0 w ∧ ∀ b ∈ ft a, w0.heap.size ≤ b
theorem OutAt.nil (hk : Kept [] w0 w) : OutAt w0 w none 0 0 [] := ⟨Own.nil _ _, hk, by simp [ft]⟩
theorem OutAt.keep {a : Option Addr} {m c : Nat} {l : List (List UInt8)} (h : OutAt w0 W a m c l) (hk : Kept [] W W') : OutAt w0 W' a m c l := ⟨h.1.kept0 hk, h.2.1.trans hk, h.2.2⟩
theorem OutAt.push {a a' : Option Addr} {m c c' : Nat} {l : List (List UInt8)} {s : List UInt8} {V V' : World} (h : OutAt w0 W a m c l) (hk : Kept [] W V) (ho : V'.ownsRow 0 9 1 (.slice a' (m + 1) c') (m + 1) (strV l ++ [.string ⟨s.toArray⟩])) (hs : Stepped V V' (ft a) (ft a')) : OutAt w0 V' a' (m + 1) c' (l ++ [s]) := by
  refine ⟨?_, kept_up (h.2.1.trans hk) hs.kept h.2.2, fun b hb => (hs.fresh b hb).elim (h.2.2 b) (Nat.le_trans (h.2.1.trans hk).size)⟩
  have e : strV (l ++ [s]) = strV l ++ [.string ⟨s.toArray⟩] := by simp [strV]
  rw [e]
  exact ho
theorem ref_at3 (hg : RefAt w q R g) : ∃ gb cn, w.cell? ⟨q, 2, none⟩ = some (.slice (some ⟨gb, 0, none⟩) g.nodes.length cn) ∧ ∀ (k : Nat) (p : Nat × Nat), g.nodes[k]? = some p → ∀ j, j < 3 → w.cell? ⟨gb, k * 3 + j, none⟩ = (rnV k p)[j]? := by
  have hp := hg.wf.pos
  obtain ⟨an, cn, rfl, hc⟩ := hg
  have c2 := hc.c2
  obtain ⟨gb, rfl, hcell⟩ := own3_form hc.nodes (by omega)
  refine ⟨gb, cn, c2, fun k p hk j hj => ?_⟩
  have h := rcells_get hk j hj
  have hl : j < (rnV k p).length := by rw [rnV_length]; exact hj
  rw [List.getElem?_eq_getElem hl] at h ⊢
  rw [show 3 * k = k * 3 by omega] at h
  exact hcell _ _ h
theorem name_pos {s : ByteArray} (h : mayB s = true) : bytesL s ≠ [] := by
  intro he
  unfold mayB at h
  simp only [Bool.and_eq_true, decide_eq_true_eq] at h
  have e : (bytesL s).length = s.size := rfl
  rw [he] at e
  have := h.1.1
  simp at e this
  omega
theorem line_name {word : List UInt8} {s : ByteArray} (h : mayB s = true) (l : List Nat) : lineB word (bytesL s) l = (word ++ [32]) ++ bytesL s ++ wordsB l := by
  unfold lineB nameB1
  rw [if_neg (name_pos h)]
  simp
theorem cat_name (A : List UInt8) (s : ByteArray) (ha : A.length ≤ 1000) (hs : (bytesL s).length ≤ 1000) (W : World) : (Op.stringOp .add ⟨A.toArray⟩ s).run Tryz.prog W = .ok (.string ⟨(A ++ bytesL s).toArray⟩) W :=
  run_string_add_lists (P := Tryz.prog) W A (bytesL s) (by omega) (by omega)
def LinesIs (N : Nt) (w : World) (e : Ending) (w' : World) : Prop := ∃ a m c, e = .returned (.slice a m c) ∧ m = (linesN N).length ∧ OutAt w w' a m c (linesN N)
theorem bus_take (word : List UInt8) (l : List Bus) (k : Nat) (h : k < l.length) : (l.take (k + 1)).map (busL word) = (l.take k).map (busL word) ++ [busL word l[k]] := by
  rw [List.take_succ_eq_append_getElem h, List.map_append]
  rfl
set_option maxHeartbeats 6400000 in
set_option maxRecDepth 100000 in
theorem lines10 {kk : Nat} (h : RNetAt w n F R N) (hf : NtFine kk N) (hk : kk ≤ 60) : Calls Tryz.prog 17 #[.pointer (some ⟨n, 0, none⟩)] w (LinesIs N w) := by
  have HCK := Lib.hid (check06g h hf (by omega))
  obtain ⟨pp, ia, ic, ra, rc, oa, oc, ri, ro, hp⟩ := rnet_parts h
  obtain ⟨G, hg⟩ := hp.gr
  have HP := Lib.hid hp
  have HG := Lib.hid hg
  have HF := Lib.hid hf
  have l1 := hf.ok.len
  have l2 := hf.ok.ik
  have l3 := hf.ok.rk
  have l4 := hf.ok.ok
  have hir : ri.length = N.inb.length := by have := congrArg List.length hp.im; simpa using this
  have hor : ro.length = N.outb.length := by have := congrArg List.length hp.om; simpa using this
  by_cases hck : checkN N = 0
  · have HLI := Lib.hid (show linesN N = bodyL N from by unfold linesN; rw [if_pos hck])
    rw [hck] at HCK
    clear hck h hf hp hg
    go_enter Tryz.func17, Tryz.ntmps17; (try simp only [List.append])
    go_wp2_with fail
    refine HCK.out.mono ?_
    rintro e w1 ⟨rfl, k1⟩
    have K1 := Lib.hid k1
    have c1 := k1.cell HP.out.c1 (by simp)
    clear k1
    obtain ⟨x0, hx0⟩ : ∃ x, x = wModel ++ [32] ++ bytesL N.name := ⟨_, rfl⟩
    have HX0 := Lib.hid (show lineB wModel (bytesL N.name) [] = x0 from by rw [line_name HF.out.nm, hx0]; simp [wordsB])
    have hcm : ∀ W, (Op.stringOp .add ⟨#[46, 109, 111, 100, 101, 108, 32]⟩ N.name).run Tryz.prog W = .ok (.string ⟨x0.toArray⟩) W := fun W => by rw [hx0]; exact cat_name (wModel ++ [32]) N.name (by decide) (by have := mayB_len HF.out.nm; omega) W
    clear hx0
    have how := (Own.nil w1 9)
    go_wp2_with (at_builtin; go_loud (refine wpList_push2 (news := [.string ⟨x0.toArray⟩]) rfl rfl Tryz.underlying55 strg_info rfl Nat.one_pos rfl rfl rfl how rfl ?h1 ?h2 ?h3 rfl ?_); (case h1 => simp [Value.oneCell']); (case h2 => (unfold maxLen; omega)); (case h3 => omega); intro a2 c2' w2 hown2 hst2)
    have O2 := Lib.hid (show OutAt w w2 a2 1 c2' [x0] from by
      have h := (OutAt.nil (w0 := w) K1.out).push (s := x0) (.refl [] _) hown2 hst2
      simpa using h)
    clear hown2 hst2 how c1 hcm
    have HBI := Lib.hid (fun b (hb : b ∈ N.inb) => HF.out.ok.il b hb)
    have HBO := Lib.hid (fun b (hb : b ∈ N.outb) => HF.out.ok.ol b hb)
    have c2 := (HP.out.kept0 O2.out.2.1).c2
    go_wp2_with fail
    go_loopw [3, 4] (fun o v wr => ∃ (k : Nat) (a c : _), k ≤ N.inb.length ∧ v = .int .i64 k ∧ o = .slice a (k + 1) c ∧ OutAt w wr a (k + 1) c ([x0] ++ (N.inb.take k).map (busL wInput))) (fun _ v _ => N.inb.length - (intOf v).toNat)
    case atStart => exact ⟨0, a2, c2', Nat.zero_le _, rfl, rfl, by simpa using O2.out⟩
    case round =>
      clear c2
      obtain ⟨k, a, c, hk', rfl, rfl, ho⟩ := hrel
      have O := Lib.hid ho
      have KR := Lib.hid ho.2.1
      have c2 := (HP.out.kept0 ho.2.1).c2
      clear ho
      by_cases hlt : k < N.inb.length
      · have hkr : k < ri.length := by omega
        obtain ⟨bb, hia, h1, h2⟩ := HP.out.ib k hkr
        have hrb : ri[k].b = N.inb[k] := by
          have e := congrArg (fun l => l[k]?) HP.out.im
          simp only [List.getElem?_map, List.getElem?_eq_getElem hkr, Option.map_some, List.getElem?_eq_getElem hlt] at e
          exact Option.some.inj e
        have hrow := (HP.out.ir _ (List.getElem_mem hkr)).kept0 KR.out
        have z2 := HP.out.c2
        have HTK := Lib.hid (bus_take wInput N.inb k hlt)
        obtain ⟨i1, i2, i3, i4⟩ := HBI.out _ (List.getElem_mem hlt)
        rw [hrb] at h1 h2 hrow
        have HLTX := Lib.hid (show ∀ x ∈ N.inb[k].lits, x < 4294967296 from fun x hx => ok_lt32 HF.out.ok (by omega) (i4 x hx))
        have HROW := Lib.hid hrow
        have hwl := wordsB_len _ HLTX.out
        have hnl := mayB_len i3
        obtain ⟨x1, hx1⟩ : ∃ x, x = wInput ++ [32] ++ bytesL N.inb[k].name := ⟨_, rfl⟩
        obtain ⟨x2, hx2⟩ : ∃ x, x = x1 ++ wordsB N.inb[k].lits := ⟨_, rfl⟩
        have HX2 := Lib.hid (show busL wInput N.inb[k] = x2 from by rw [hx2, hx1]; exact line_name i3 _)
        have hxl : x1.length ≤ 100 := by rw [hx1]; simp [wInput]; omega
        have hcm : ∀ W, (Op.stringOp .add ⟨#[46, 105, 110, 112, 117, 116, 32]⟩ N.inb[k].name).run Tryz.prog W = .ok (.string ⟨x1.toArray⟩) W := fun W => by rw [hx1]; exact cat_name (wInput ++ [32]) N.inb[k].name (by decide) (by omega) W
        have hcn : ∀ W, (Op.stringOp .add ⟨x1.toArray⟩ ⟨(wordsB N.inb[k].lits).toArray⟩).run Tryz.prog W = .ok (.string ⟨x2.toArray⟩) W := fun W => by rw [hx2]; exact run_string_add_lists (P := Tryz.prog) W x1 _ (by omega) (by omega)
        clear hx1 hx2 hrow hrb i4
        generalize ri[k].a = ra2 at *
        generalize ri[k].c = rc2 at *
        generalize N.inb[k] = B at *
        obtain ⟨nm, lits⟩ := B
        simp only at *
        obtain ⟨ln, hln⟩ : ∃ ln, ln = lits.length := ⟨_, rfl⟩
        rw [← hln] at h2 i1 i2
        have HW := Lib.hid (fun (V : World) (hV : Kept [] wr V) => words10 ra2 rc2 ln lits V hln.symm (HROW.out.kept0 hV) HLTX.out (by omega))
        subst hia
        clear hln
        have KA := Kept.refl [] wr
        have how := O.out.1
        have q0 : (0 : Int) ≤ (k : Int) := by omega
        have q1 : (k : Int) < (N.inb.length : Int) := by omega
        have KEEP := Lib.hid (fun (V : World) (hV : Kept [] w V) => (⟨hV.cell z2 (by simp), hV.cell h1 (by simp), hV.cell h2 (by simp)⟩ : V.cell? ⟨n, 2, none⟩ = some (.slice (some ⟨bb, 0, none⟩) N.inb.length ic) ∧ V.cell? ⟨bb, k * 2, none⟩ = some (.string nm) ∧ V.cell? ⟨bb, k * 2 + 1, none⟩ = some (.slice ra2 ln rc2)))
        have KEEP2 := Lib.hid (fun (V V' : World) (a' : Option Addr) (hV : Kept [] wr V) (hst : Stepped V V' (ft a) (ft a')) => KEEP.out V' (kept_up (KR.out.trans hV) hst.kept O.out.2.2))
        obtain ⟨y2, y3, y4⟩ := KEEP.out wr KR.out
        clear z2 h1 h2 c2
        go_wp2_with fail
        go_region_held3 (fun V => V.cell? ⟨n, 2, none⟩ = some (.slice (some ⟨bb, 0, none⟩) N.inb.length ic) ∧ V.cell? ⟨bb, k * 2, none⟩ = some (.string nm) ∧ V.cell? ⟨bb, k * 2 + 1, none⟩ = some (.slice ra2 ln rc2))
          (first | (with_reducible refine KEEP2.out _ _ _ ?_ hst9; (repeat (first | with_reducible exact KA | with_reducible apply Kept.drew | with_reducible apply Kept.drewN | with_reducible apply Kept.alloc)); done) | (refine KEEP.out _ (KR.out.trans ?_); (repeat (first | with_reducible exact KA | with_reducible apply Kept.drew | with_reducible apply Kept.drewN | with_reducible apply Kept.alloc)); done) | go_keep)
          (first
            | (go_at_call 43; (with_reducible refine (HW.out _ ?kk).mono ?_); (case kk => (repeat (first | with_reducible exact KA | with_reducible apply Kept.drew | with_reducible apply Kept.drewN | with_reducible apply Kept.alloc))); rintro e w5 ⟨rfl, k5⟩; have KA := (show Kept [] wr _ from (by (repeat (first | with_reducible exact KA | with_reducible apply Kept.drew | with_reducible apply Kept.drewN | with_reducible apply Kept.alloc)))).trans k5)
            | (refine step_push (a := a) (n := k + 1) (cap := c) (by rfl) (by rfl) Tryz.underlying55 strg_info rfl (by omega) (by rfl) (by rfl) (news := [.string ⟨x2.toArray⟩]) (how.kept0 (by (repeat (first | with_reducible exact KA | with_reducible apply Kept.drew | with_reducible apply Kept.drewN | with_reducible apply Kept.alloc)))) rfl (news_blk (t := 9) (by exact heap_alloc_new _ _)) (by simp [Value.oneCell']) (by unfold maxLen; omega) (by omega) ?_; intro a1 c1 w9 hown9 hst9))
        all_goals
          have O9 := Lib.hid (O.out.push (s := x2) (by (repeat (first | with_reducible exact KA | with_reducible apply Kept.drew | with_reducible apply Kept.drewN | with_reducible apply Kept.alloc))) hown9 hst9)
          clear hown9 hst9 how y2 y3 y4
          go_wp2_with fail
          go_roundw
          case rel => exact ⟨k + 1, a1, c1, by omega, by go_num, rfl, by rw [HTK.out, HX2.out, ← List.append_assoc]; exact O9.out⟩
          case measure => simp [intOf]; omega
      · obtain rfl : k = N.inb.length := by omega
        have O3 := Lib.hid (show OutAt w wr a (N.inb.length + 1) c (lineB wModel (bytesL N.name) [] :: N.inb.map (busL wInput)) from by
          have h := O.out
          rw [List.take_length] at h
          rw [HX0.out]
          exact h)
        clear O HBI HX0
        have c3 := (HP.out.kept0 KR.out).c3
        obtain ⟨L1, hL1⟩ : ∃ L, L = lineB wModel (bytesL N.name) [] :: N.inb.map (busL wInput) := ⟨_, rfl⟩
        obtain ⟨m1, hm1⟩ : ∃ m, m = N.inb.length + 1 := ⟨_, rfl⟩
        rw [← hm1, ← hL1] at O3
        rw [← hm1]
        have hmb1 : m1 ≤ 61 := by omega
        have HL1 := Lib.hid hL1
        clear hL1 hm1
        go_wp2_with fail
        clear c2
        go_loopw [3, 5] (fun o v wr => ∃ (k : Nat) (a c : _), k ≤ N.regs.length ∧ v = .int .i64 k ∧ o = .slice a (k + m1) c ∧ OutAt w wr a (k + m1) c (L1 ++ (N.regs.take k).map latchL)) (fun _ v _ => N.regs.length - (intOf v).toNat)
        case atStart => exact ⟨0, a, c, Nat.zero_le _, rfl, by rw [Nat.zero_add], by rw [Nat.zero_add]; simpa using O3.out⟩
        case round =>
          clear c3 O3
          obtain ⟨k, a, c, hk', rfl, rfl, ho⟩ := hrel
          have O := Lib.hid ho
          have KR := Lib.hid ho.2.1
          have c3 := (HP.out.kept0 ho.2.1).c3
          clear ho
          by_cases hlt : k < N.regs.length
          · obtain ⟨bb, hia, y0, y1, y2, y3⟩ := (HP.out.rb.kept0 KR.out) k hlt
            have HTK := Lib.hid (show (N.regs.take (k + 1)).map latchL = (N.regs.take k).map latchL ++ [latchL N.regs[k]] from by rw [List.take_succ_eq_append_getElem hlt, List.map_append]; rfl)
            have hrl := HF.out.ok.rl _ (List.getElem_mem hlt)
            have HLB := Lib.hid (show N.regs[k].q < 4294967296 ∧ N.regs[k].d < 4294967296 ∧ N.regs[k].en < 4294967296 from ⟨ok_lt32 HF.out.ok (by omega) hrl.1, ok_lt32 HF.out.ok (by omega) hrl.2.1, ok_lt32 HF.out.ok (by omega) hrl.2.2⟩)
            clear hrl
            generalize N.regs[k] = r at *
            obtain ⟨x, y, z, bi⟩ := r
            simp only at y0 y1 y2 y3 HLB
            subst hia
            have q0 : (0 : Int) ≤ (k : Int) := by omega
            have q1 : (k : Int) < (N.regs.length : Int) := by omega
            have how := O.out.1
            obtain ⟨iv, hiv⟩ : ∃ iv : Nat, iv = if bi then 1 else 0 := ⟨_, rfl⟩
            have hivb : iv < 4294967296 := by rw [hiv]; split <;> omega
            have HLT4 := Lib.hid (show ∀ u ∈ [x, y, z, iv], u < 4294967296 from fun u hu => by
              simp only [List.mem_cons, List.not_mem_nil, or_false] at hu
              have := HLB.out
              rcases hu with rfl | rfl | rfl | rfl <;> omega)
            obtain ⟨x2, hx2⟩ : ∃ x2, x2 = wLatch ++ wordsB [x, y, z, iv] := ⟨_, rfl⟩
            have HX2 := Lib.hid (show latchL ⟨x, y, z, bi⟩ = x2 from by rw [hx2, hiv]; simp [latchL, lineB, nameB1])
            have hwl := wordsB_len _ HLT4.out
            have hcn : ∀ W, (Op.stringOp .add ⟨#[46, 108, 97, 116, 99, 104]⟩ ⟨(wordsB [x, y, z, iv]).toArray⟩).run Tryz.prog W = .ok (.string ⟨x2.toArray⟩) W := fun W => by rw [hx2]; exact run_string_add_lists (P := Tryz.prog) W wLatch _ (by decide) (by simp at hwl; omega)
            have HW := Lib.hid (fun (V : World) (qa : Nat) (hqa : qa = V.heap.size) => (show Calls Tryz.prog 43 #[.slice (some ⟨qa, 0, none⟩) 4 4] (V.alloc (.cells #[.int .u32 (x : Int), .int .u32 (y : Int), .int .u32 (z : Int), .int .u32 (iv : Int)] 38)) (TxtR (wordsB [x, y, z, iv]) (V.alloc (.cells #[.int .u32 (x : Int), .int .u32 (y : Int), .int .u32 (z : Int), .int .u32 (iv : Int)] 38))) from by
              subst hqa
              exact words10 _ 4 4 [x, y, z, iv] _ rfl (sln_new V .u32 [x, y, z, iv] 38) HLT4.out (by decide)))
            clear hx2 hwl
            cases bi with
            | false =>
              obtain rfl : iv = 0 := hiv
              go_wp2_with fail
              refine (HW.out _ _ (by simp)).mono ?_
              rintro e w5 ⟨rfl, k5⟩
              have K5 := Lib.hid (show Kept [] wr w5 from (((Kept.refl [] wr).alloc _).alloc _).trans k5)
              have how5 := how.kept0 K5.out
              clear k5 how y0 y1 y2 y3 c3
              go_wp2_with (at_builtin; refine wpList_push2 (news := [.string ⟨x2.toArray⟩]) rfl rfl Tryz.underlying55 strg_info rfl Nat.one_pos rfl rfl rfl how5 rfl (by simp [Value.oneCell']) (by unfold maxLen; omega) (by omega) rfl ?_; intro a1 c1 w9 hown9 hst9)
              have O9 := Lib.hid (O.out.push (s := x2) K5.out hown9 hst9)
              have e9 : k + 1 + m1 = k + m1 + 1 := by omega
              clear hown9 hst9 how5
              go_roundw
              case rel => exact ⟨k + 1, a1, c1, by omega, by go_num, by rw [e9], by rw [e9, HTK.out, HX2.out, ← List.append_assoc]; exact O9.out⟩
              case measure => simp [intOf]; omega
            | true =>
              obtain rfl : iv = 1 := hiv
              go_wp2_with fail
              refine (HW.out _ _ (by simp)).mono ?_
              rintro e w5 ⟨rfl, k5⟩
              have K5 := Lib.hid (show Kept [] wr w5 from (((Kept.refl [] wr).alloc _).alloc _).trans k5)
              have how5 := how.kept0 K5.out
              clear k5 how y0 y1 y2 y3 c3
              go_wp2_with (at_builtin; refine wpList_push2 (news := [.string ⟨x2.toArray⟩]) rfl rfl Tryz.underlying55 strg_info rfl Nat.one_pos rfl rfl rfl how5 rfl (by simp [Value.oneCell']) (by unfold maxLen; omega) (by omega) rfl ?_; intro a1 c1 w9 hown9 hst9)
              have O9 := Lib.hid (O.out.push (s := x2) K5.out hown9 hst9)
              have e9 : k + 1 + m1 = k + m1 + 1 := by omega
              clear hown9 hst9 how5
              go_roundw
              case rel => exact ⟨k + 1, a1, c1, by omega, by go_num, by rw [e9], by rw [e9, HTK.out, HX2.out, ← List.append_assoc]; exact O9.out⟩
              case measure => simp [intOf]; omega
          · obtain rfl : k = N.regs.length := by omega
            obtain ⟨L2, hL2⟩ : ∃ L, L = L1 ++ N.regs.map latchL := ⟨_, rfl⟩
            obtain ⟨m2, hm2⟩ : ∃ m, m = N.regs.length + m1 := ⟨_, rfl⟩
            have O3 := Lib.hid (show OutAt w wr a m2 c L2 from by
              have h := O.out
              rw [List.take_length, ← hL2, ← hm2] at h
              exact h)
            rw [← hm2]
            have hmb2 : m2 ≤ 121 := by omega
            have HL2 := Lib.hid hL2
            clear O hL2 hm2
            have c0 := (HP.out.kept0 KR.out).c0
            obtain ⟨gb, cn, g2, gn⟩ := ref_at3 (HG.out.kept0 KR.out)
            have hpos := HF.out.ok.wf.pos
            clear gn
            go_wp2_with fail
            clear c3 g2 c0
            go_loopw [3, 8] (fun o v wr => ∃ (k : Nat) (a c m : _), 1 ≤ k ∧ k ≤ N.g.nodes.length ∧ m ≤ k + m2 ∧ v = .int .i64 k ∧ o = .slice a m c ∧ OutAt w wr a m c (L2 ++ gatesL N.g k)) (fun _ v _ => N.g.nodes.length - (intOf v).toNat)
            case atStart =>
              have hg1 : gatesL N.g 1 = [] := by
                rw [gatesL_succ]
                have h0 : gateAt N.g 0 = none := by unfold gateAt; rw [HF.out.ok.wf.zero]; rfl
                rw [h0]
                rfl
              exact ⟨1, a, c, m2, by omega, by omega, by omega, rfl, rfl, by rw [hg1, List.append_nil]; exact O3.out⟩
            case round =>
              clear O3
              obtain ⟨k, a, c, m, hk1, hk', hm, rfl, rfl, ho⟩ := hrel
              have O := Lib.hid ho
              have KR := Lib.hid ho.2.1
              have c0 := (HP.out.kept0 ho.2.1).c0
              obtain ⟨gb, cn, g2, gn⟩ := ref_at3 (HG.out.kept0 ho.2.1)
              clear ho
              by_cases hlt : k < N.g.nodes.length
              · obtain ⟨⟨x, y⟩, hab⟩ : ∃ y, N.g.nodes[k]? = some y := ⟨_, List.getElem?_eq_getElem hlt⟩
                have n0 := gn k (x, y) hab 0 (by omega)
                have n1 := gn k (x, y) hab 1 (by omega)
                have n2 := gn k (x, y) hab 2 (by omega)
                have HSC := Lib.hid (gatesL_succ N.g k)
                have q0 : (0 : Int) ≤ (k : Int) := by omega
                have q1 : (k : Int) < (N.g.nodes.length : Int) := by omega
                clear gn
                rw [Nat.add_zero] at n0
                by_cases hin : x / 2 = k
                · have hga : gateAt N.g k = none := by unfold gateAt; rw [hab]; simp [hin]
                  unfold rnV at n0 n1 n2
                  rw [if_pos hin] at n0 n1 n2
                  have hk0 : decide (k ≠ 0) = true := by simp; omega
                  rw [hk0] at n0
                  simp only [List.getElem?_cons_zero, List.getElem?_cons_succ] at n0 n1 n2
                  have HG1 := Lib.hid (show gatesL N.g (k + 1) = gatesL N.g k from by rw [HSC.out, hga]; simp)
                  clear hin hab hga hk0
                  go_wp2_with fail
                  go_roundw
                  case rel => exact ⟨k + 1, a, c, m, by omega, by omega, by omega, by go_num, rfl, by rw [HG1.out]; exact O.out.keep ((Kept.refl [] wr).alloc _)⟩
                  case measure => simp [intOf]; omega
                · have hga : gateAt N.g k = some (x, y) := by unfold gateAt; rw [hab]; simp [hin]
                  obtain ⟨g1', g2', g3'⟩ := gateAt_lt HF.out.ok.wf hga
                  unfold rnV at n0 n1 n2
                  rw [if_neg hin] at n0 n1 n2
                  simp only [List.getElem?_cons_zero, List.getElem?_cons_succ] at n0 n1 n2
                  obtain ⟨k2, hk2⟩ : ∃ k2, k2 = 2 * k := ⟨_, rfl⟩
                  have HLT3 := Lib.hid (show ∀ u ∈ [k2, x, y], u < 4294967296 from fun u hu => by
                    simp only [List.mem_cons, List.not_mem_nil, or_false] at hu
                    simp only at g2' g3'
                    rcases hu with rfl | rfl | rfl <;> omega)
                  obtain ⟨x2, hx2⟩ : ∃ x2, x2 = wAnd ++ wordsB [k2, x, y] := ⟨_, rfl⟩
                  have HG1 := Lib.hid (show gatesL N.g (k + 1) = gatesL N.g k ++ [x2] from by rw [HSC.out, hga, hx2, hk2]; simp [lineB, nameB1])
                  have hwl := wordsB_len _ HLT3.out
                  have hcn : ∀ W, (Op.stringOp .add ⟨#[46, 97, 110, 100]⟩ ⟨(wordsB [k2, x, y]).toArray⟩).run Tryz.prog W = .ok (.string ⟨x2.toArray⟩) W := fun W => by rw [hx2]; exact run_string_add_lists (P := Tryz.prog) W wAnd _ (by decide) (by simp at hwl; omega)
                  have HW := Lib.hid (fun (V : World) (qa : Nat) (hqa : qa = V.heap.size) => (show Calls Tryz.prog 43 #[.slice (some ⟨qa, 0, none⟩) 3 3] (V.alloc (.cells #[.int .u32 (k2 : Int), .int .u32 (x : Int), .int .u32 (y : Int)] 38)) (TxtR (wordsB [k2, x, y]) (V.alloc (.cells #[.int .u32 (k2 : Int), .int .u32 (x : Int), .int .u32 (y : Int)] 38))) from by
                    subst hqa
                    exact words10 _ 3 3 [k2, x, y] _ rfl (sln_new V .u32 [k2, x, y] 38) HLT3.out (by decide)))
                  have u1 : IntKind.i64.wrap (2 * (k : Int)) = (k2 : Int) := by rw [show (2 : Int) * (k : Int) = (k2 : Int) from by omega]; exact IntWalk.i64_in _ (by omega)
                  have u2 : IntKind.u32.wrap (k2 : Int) = (k2 : Int) := by simp only [IntKind.wrap_u32]; omega
                  have how := O.out.1
                  clear hx2 hwl hin hab hga hk2 g1' g2' g3'
                  go_wp2_with fail
                  refine (HW.out _ _ (by simp)).mono ?_
                  rintro e w5 ⟨rfl, k5⟩
                  have K5 := Lib.hid (show Kept [] wr w5 from (((Kept.refl [] wr).alloc _).alloc _).trans k5)
                  have how5 := how.kept0 K5.out
                  clear k5 how n0 n1 n2 c0 g2 u1 u2
                  go_wp2_with (at_builtin; refine wpList_push2 (news := [.string ⟨x2.toArray⟩]) rfl rfl Tryz.underlying55 strg_info rfl Nat.one_pos rfl rfl rfl how5 rfl (by simp [Value.oneCell']) (by unfold maxLen; omega) (by omega) rfl ?_; intro a1 c1 w9 hown9 hst9)
                  have O9 := Lib.hid (O.out.push (s := x2) K5.out hown9 hst9)
                  clear hown9 hst9 how5
                  go_roundw
                  case rel => exact ⟨k + 1, a1, c1, m + 1, by omega, by omega, by omega, by go_num, rfl, by rw [HG1.out, ← List.append_assoc]; exact O9.out⟩
                  case measure => simp [intOf]; omega
              · obtain rfl : k = N.g.nodes.length := by omega
                obtain ⟨L3, hL3⟩ : ∃ L, L = L2 ++ gatesL N.g N.g.nodes.length := ⟨_, rfl⟩
                have O3 := Lib.hid (show OutAt w wr a m c L3 from by rw [hL3]; exact O.out)
                have HL3 := Lib.hid hL3
                have hmb3 : m ≤ 10000 := by omega
                clear O hL3 gn
                have c4 := (HP.out.kept0 KR.out).c4
                go_wp2_with fail
                clear c0 g2
                go_loopw [3, 10] (fun o v wr => ∃ (k : Nat) (a c : _), k ≤ N.outb.length ∧ v = .int .i64 k ∧ o = .slice a (k + m) c ∧ OutAt w wr a (k + m) c (L3 ++ (N.outb.take k).map (busL wOutput))) (fun _ v _ => N.outb.length - (intOf v).toNat)
                case atStart => exact ⟨0, a, c, Nat.zero_le _, rfl, by rw [Nat.zero_add], by rw [Nat.zero_add]; simpa using O3.out⟩
                case round =>
                  clear c4 O3
                  obtain ⟨k, a, c, hk', rfl, rfl, ho⟩ := hrel
                  have O := Lib.hid ho
                  have KR := Lib.hid ho.2.1
                  have c4 := (HP.out.kept0 ho.2.1).c4
                  clear ho
                  by_cases hlt : k < N.outb.length
                  · have hkr : k < ro.length := by omega
                    obtain ⟨bb, hia, h1, h2⟩ := HP.out.ob k hkr
                    have hrb : ro[k].b = N.outb[k] := by
                      have e := congrArg (fun l => l[k]?) HP.out.om
                      simp only [List.getElem?_map, List.getElem?_eq_getElem hkr, Option.map_some, List.getElem?_eq_getElem hlt] at e
                      exact Option.some.inj e
                    have hrow := (HP.out.or _ (List.getElem_mem hkr)).kept0 KR.out
                    have z2 := HP.out.c4
                    have HTK := Lib.hid (bus_take wOutput N.outb k hlt)
                    obtain ⟨i1, i2, i3, i4⟩ := HBO.out _ (List.getElem_mem hlt)
                    rw [hrb] at h1 h2 hrow
                    have HLTX := Lib.hid (show ∀ x ∈ N.outb[k].lits, x < 4294967296 from fun x hx => ok_lt32 HF.out.ok (by omega) (i4 x hx))
                    have HROW := Lib.hid hrow
                    have hwl := wordsB_len _ HLTX.out
                    have hnl := mayB_len i3
                    obtain ⟨x1, hx1⟩ : ∃ x, x = wOutput ++ [32] ++ bytesL N.outb[k].name := ⟨_, rfl⟩
                    obtain ⟨x2, hx2⟩ : ∃ x, x = x1 ++ wordsB N.outb[k].lits := ⟨_, rfl⟩
                    have HX2 := Lib.hid (show busL wOutput N.outb[k] = x2 from by rw [hx2, hx1]; exact line_name i3 _)
                    have hxl : x1.length ≤ 100 := by rw [hx1]; simp [wOutput]; omega
                    have hcm : ∀ W, (Op.stringOp .add ⟨#[46, 111, 117, 116, 112, 117, 116, 32]⟩ N.outb[k].name).run Tryz.prog W = .ok (.string ⟨x1.toArray⟩) W := fun W => by rw [hx1]; exact cat_name (wOutput ++ [32]) N.outb[k].name (by decide) (by omega) W
                    have hcn : ∀ W, (Op.stringOp .add ⟨x1.toArray⟩ ⟨(wordsB N.outb[k].lits).toArray⟩).run Tryz.prog W = .ok (.string ⟨x2.toArray⟩) W := fun W => by rw [hx2]; exact run_string_add_lists (P := Tryz.prog) W x1 _ (by omega) (by omega)
                    clear hx1 hx2 hrow hrb i4
                    generalize ro[k].a = ra2 at *
                    generalize ro[k].c = rc2 at *
                    generalize N.outb[k] = B at *
                    obtain ⟨nm, lits⟩ := B
                    simp only at *
                    obtain ⟨ln, hln⟩ : ∃ ln, ln = lits.length := ⟨_, rfl⟩
                    rw [← hln] at h2 i1 i2
                    have HW := Lib.hid (fun (V : World) (hV : Kept [] wr V) => words10 ra2 rc2 ln lits V hln.symm (HROW.out.kept0 hV) HLTX.out (by omega))
                    subst hia
                    clear hln
                    have KA := Kept.refl [] wr
                    have how := O.out.1
                    have q0 : (0 : Int) ≤ (k : Int) := by omega
                    have q1 : (k : Int) < (N.outb.length : Int) := by omega
                    have KEEP := Lib.hid (fun (V : World) (hV : Kept [] w V) => (⟨hV.cell z2 (by simp), hV.cell h1 (by simp), hV.cell h2 (by simp)⟩ : V.cell? ⟨n, 4, none⟩ = some (.slice (some ⟨bb, 0, none⟩) N.outb.length oc) ∧ V.cell? ⟨bb, k * 2, none⟩ = some (.string nm) ∧ V.cell? ⟨bb, k * 2 + 1, none⟩ = some (.slice ra2 ln rc2)))
                    have KEEP2 := Lib.hid (fun (V V' : World) (a' : Option Addr) (hV : Kept [] wr V) (hst : Stepped V V' (ft a) (ft a')) => KEEP.out V' (kept_up (KR.out.trans hV) hst.kept O.out.2.2))
                    obtain ⟨y2, y3, y4⟩ := KEEP.out wr KR.out
                    clear z2 h1 h2 c4
                    go_wp2_with fail
                    go_region_held3 (fun V => V.cell? ⟨n, 4, none⟩ = some (.slice (some ⟨bb, 0, none⟩) N.outb.length oc) ∧ V.cell? ⟨bb, k * 2, none⟩ = some (.string nm) ∧ V.cell? ⟨bb, k * 2 + 1, none⟩ = some (.slice ra2 ln rc2))
                      (first | (with_reducible refine KEEP2.out _ _ _ ?_ hst9; (repeat (first | with_reducible exact KA | with_reducible apply Kept.drew | with_reducible apply Kept.drewN | with_reducible apply Kept.alloc)); done) | (refine KEEP.out _ (KR.out.trans ?_); (repeat (first | with_reducible exact KA | with_reducible apply Kept.drew | with_reducible apply Kept.drewN | with_reducible apply Kept.alloc)); done) | go_keep)
                      (first
                        | (go_at_call 43; (with_reducible refine (HW.out _ ?kk).mono ?_); (case kk => (repeat (first | with_reducible exact KA | with_reducible apply Kept.drew | with_reducible apply Kept.drewN | with_reducible apply Kept.alloc))); rintro e w5 ⟨rfl, k5⟩; have KA := (show Kept [] wr _ from (by (repeat (first | with_reducible exact KA | with_reducible apply Kept.drew | with_reducible apply Kept.drewN | with_reducible apply Kept.alloc)))).trans k5)
                        | (refine step_push (a := a) (n := k + m) (cap := c) (by rfl) (by rfl) Tryz.underlying55 strg_info rfl (by omega) (by rfl) (by rfl) (news := [.string ⟨x2.toArray⟩]) (how.kept0 (by (repeat (first | with_reducible exact KA | with_reducible apply Kept.drew | with_reducible apply Kept.drewN | with_reducible apply Kept.alloc)))) rfl (news_blk (t := 9) (by exact heap_alloc_new _ _)) (by simp [Value.oneCell']) (by unfold maxLen; omega) (by omega) ?_; intro a1 c1 w9 hown9 hst9))
                    all_goals
                      have O9 := Lib.hid (O.out.push (s := x2) (by (repeat (first | with_reducible exact KA | with_reducible apply Kept.drew | with_reducible apply Kept.drewN | with_reducible apply Kept.alloc))) hown9 hst9)
                      clear hown9 hst9 how y2 y3 y4
                      go_wp2_with fail
                      go_roundw
                      have e9 : k + 1 + m = k + m + 1 := by omega
                      case rel => exact ⟨k + 1, a1, c1, by omega, by go_num, by rw [e9], by rw [e9, HTK.out, HX2.out, ← List.append_assoc]; exact O9.out⟩
                      case measure => simp [intOf]; omega
                  · obtain rfl : k = N.outb.length := by omega
                    have O5 := Lib.hid (show OutAt w wr a (N.outb.length + m) c (L3 ++ N.outb.map (busL wOutput)) from by
                      have h := O.out
                      rw [List.take_length] at h
                      exact h)
                    obtain ⟨L4, hL4⟩ : ∃ L, L = L3 ++ N.outb.map (busL wOutput) := ⟨_, rfl⟩
                    obtain ⟨m4, hm4⟩ : ∃ m4, m4 = N.outb.length + m := ⟨_, rfl⟩
                    rw [← hm4, ← hL4] at O5
                    rw [← hm4]
                    have hmb4 : m4 ≤ 20000 := by omega
                    have HL4 := Lib.hid hL4
                    have how := O5.out.1
                    clear O HBO hL4 hm4
                    go_wp2_with (at_builtin; refine wpList_push2 (news := [.string ⟨wEnd.toArray⟩]) rfl rfl Tryz.underlying55 strg_info rfl Nat.one_pos rfl rfl rfl how rfl (by simp [Value.oneCell']) (by unfold maxLen; omega) (by omega) rfl ?_; intro a1 c1 w9 hown9 hst9)
                    have O9 := O5.out.push (s := wEnd) (.refl [] _) hown9 hst9
                    have HBD := Lib.hid (show linesN N = L4 ++ [wEnd] from by rw [HLI.out, HL4.out, HL3.out, HL2.out, HL1.out]; simp [bodyL])
                    clear hown9 hst9 how
                    go_ret
                    exact ⟨a1, m4 + 1, c1, rfl, by
                      rw [HBD.out]
                      have h := O9.1.len
                      simpa [strV] using h.symm, by rw [HBD.out]; exact O9⟩
  · have HLI := Lib.hid (show linesN N = [] from by unfold linesN; rw [if_neg hck])
    have HCE := Lib.hid (show ((checkN N : Nat) : Int) ≠ 0 from by omega)
    obtain ⟨cn, hcn⟩ : ∃ cn, cn = checkN N := ⟨_, rfl⟩
    have g0 : ((cn : Int) == 0) = false := by rw [beq_eq_false_iff_ne, hcn]; exact HCE.out
    have g1 : ((cn : Int) != 0) = true := by rw [bne_iff_ne, hcn]; exact HCE.out
    rw [← hcn] at HCK
    clear hck h hf hp hg hcn
    go_enter Tryz.func17, Tryz.ntmps17; (try simp only [List.append])
    go_wp2_with fail
    refine HCK.out.mono ?_
    rintro e w1 ⟨rfl, k1⟩
    go_wp2_with fail
    go_ret
    exact ⟨none, 0, 0, rfl, by rw [HLI.out]; rfl, by rw [HLI.out]; exact .nil k1⟩
end Go.Proofs.YtnjoklcddodfeaaGreatDoor

namespace Go.Proofs.YtnjoklcddodfeaaGreatDoor
open Go.ChangeShapes Go.WideShapes Go.ChangeAt Go.RowKit
set_option linter.unusedVariables false
set_option linter.unusedSimpArgs false

variable {w w' w0 w1 W W' : World} {p n k q : Nat} {F R S : List Nat} {g : Gr} {N : Nt}
theorem ownsRowF_any {B : Nat} {e : TypeId} {size : Nat} {v : Value} {m : Nat} {xs : List Value} (h : W.ownsRowF B e size v m xs) : ∃ ad cap, v = .slice ad m cap := by
  rcases h.2 with ⟨rfl, h0⟩ | ⟨g, cap, _, _, rfl, _⟩
  · exact ⟨none, 0, by rw [h0]⟩
  · exact ⟨_, cap, rfl⟩
set_option maxRecDepth 100000 in
theorem own_strF {B m cap : Nat} {ad : Option Addr} {l : List UInt8} (h : w.ownsRowF B 5 1 (.slice ad m cap) m (Lib.byteCells l)) (hl : l.length = m) : (convert 45 9 (.slice ad m cap)).run Tryz.prog w = .ok (.string ⟨l.toArray⟩) w := by
  rcases h.2 with ⟨hv, h0⟩ | ⟨g, cap', cur, fz, hv, _⟩
  · injection hv with h1 h2 h3
    subst h1
    rw [h0] at hl ⊢
    rw [List.eq_nil_of_length_eq_zero hl]
    exact run_convert_bytes_nil (P := Tryz.prog) w 45 5 Tryz.underlying45 Tryz.underlying5 0 cap 9 Tryz.underlying9
  · injection hv with h1 h2 h3
    subst h1 h3
    have := run_convert_bytes_back (P := Tryz.prog) w 45 9 5 ⟨g, 0, none⟩ cap l Tryz.underlying45 Tryz.underlying5 Tryz.underlying9 (fun j hj => World.ownsRowF.cells h (g := g) rfl j _ (by
      simp [Lib.byteCells, List.getElem?_eq_getElem hj]))
    rw [hl] at this
    exact this
theorem textL_takes (l : List (List UInt8)) (k : Nat) (h : k < l.length) : textL (l.take (k + 1)) = (textL (l.take k) ++ l[k]) ++ [10] := by
  rw [List.take_succ_eq_append_getElem h, textL_snoc, List.append_assoc]
theorem textL_take_le (l : List (List UInt8)) (k : Nat) : (textL (l.take k)).length ≤ (textL l).length := by
  have e : textL l = textL (l.take k) ++ textL (l.drop k) := by
    unfold textL
    rw [← List.flatMap_append, List.take_append_drop]
  rw [e, List.length_append]
  omega
def All10 (N : Nt) (w : World) (e : Ending) (w' : World) : Prop := ∃ v B, e = .returned (.tuple #[v, .int .i64 (checkN N : Nat)]) ∧ w'.ownsRowF B 5 1 v (textL (linesN N)).length (Lib.byteCells (textL (linesN N))) ∧ Kept [] w w'
set_option maxHeartbeats 3200000 in
set_option maxRecDepth 100000 in
theorem all10 {kk : Nat} (h : RNetAt w n F R N) (hf : NtFine kk N) (hk : kk ≤ 60) : Calls Tryz.prog 15 #[.pointer (some ⟨n, 0, none⟩)] w (All10 N w) := by
  have HCK := Lib.hid (check06g h hf (by omega))
  have HLN := Lib.hid (fun (V : World) (hV : Kept [] w V) => lines10 (h.kept0 hV) hf hk)
  have HLE := Lib.hid (lines_each hf hk)
  by_cases hck : checkN N = 0
  · have HCE := Lib.hid hck
    rw [hck] at HCK
    clear h hf hck
    go_enter Tryz.func15, Tryz.ntmps15; (try simp only [List.append])
    go_wp2_with fail
    refine HCK.out.mono ?_
    rintro e w1 ⟨rfl, k1⟩
    have K1 := Lib.hid k1
    clear k1
    go_wp2_with fail
    refine (HLN.out w1 K1.out).mono ?_
    rintro e w2 ⟨a, m, c, rfl, hm, ho⟩
    have O := Lib.hid ho
    have K2 := Lib.hid (show Kept [] w w2 from K1.out.trans ho.2.1)
    have HM := Lib.hid hm
    have hl1 := HLE.out.2.2
    have hl2 := HLE.out.2.1
    rw [← hm] at hl2
    obtain ⟨L, hL⟩ : ∃ L, L = linesN N := ⟨_, rfl⟩
    have HL := Lib.hid hL
    have HEA := Lib.hid HLE.out.1
    rw [← hL] at hl1 hm HEA O
    clear ho hL
    go_wp2_with fail
    go_loopw [5, 7] (fun b v wr => ∃ k : Nat, k ≤ m ∧ v = .int .i64 k ∧ Lib.OwnBuf w2.heap.size 5 b (textL (L.take k)).length (Lib.byteCells (textL (L.take k))) w2 wr) (fun _ v _ => m - (intOf v).toNat)
    case atStart => exact ⟨0, Nat.zero_le _, rfl, World.ownsRowF_nil _ _ _ _, Below.refl _ _, Nat.le_refl _⟩
    case round =>
      obtain ⟨k, hk', rfl, hob⟩ := hrel
      obtain ⟨bd, bc, rfl⟩ := ownsRowF_any hob.1
      have OB := Lib.hid hob
      have hts := textL_take_le L k
      by_cases hlt : k < m
      · have hkl : k < L.length := by omega
        have hts1 := textL_take_le L (k + 1)
        have HTT := Lib.hid (textL_takes L k hkl)
        rw [HTT.out, List.length_append, List.length_append, List.length_singleton] at hts1
        obtain ⟨g, rfl, hcell⟩ := own3_form O.out.1 (by omega)
        have hce := hcell k (.string ⟨L[k].toArray⟩) (by simp [strV, List.getElem?_eq_getElem hkl])
        have hcw : wr.cell? ⟨g, k, none⟩ = some (.string ⟨L[k].toArray⟩) := (hob.2.1.cell (p := ⟨g, k, none⟩) (O.out.1.lt g (by simp [ft]))).trans hce
        obtain ⟨iu, hi, hz, hs, hb⟩ := u8_all
        generalize L[k] = x at *
        have q0 : (0 : Int) ≤ (k : Int) := by omega
        have q1 : (k : Int) < (m : Int) := by omega
        have b1 : (textL (L.take k)).length + (⟨x.toArray⟩ : ByteArray).size ≤ 140737488355328 := by show _ + x.length ≤ _; omega
        have b2 : (textL (L.take k)).length + x.length + 1 ≤ 140737488355328 := by omega
        clear hcell hce hob
        go_wp2_with (first
          | (at_builtin; refine Lib.wpList_append_text rfl (.tmp 21) (.tmp 25) 45 9 rfl w2.heap.size 5 iu Tryz.underlying45 Tryz.underlying9 hi hz hs hb _ _ _ rfl w2 OB.out ⟨x.toArray⟩ rfl b1 ?_; intro v1 w3 ob0; have ob1 : Lib.OwnBuf w2.heap.size 5 v1 ((textL (L.take k)).length + x.length) (Lib.byteCells (textL (L.take k) ++ x)) w2 w3 := by (rw [← str_cells]; exact ob0)
             obtain ⟨d1, e1, rfl⟩ := ownsRowF_any ob1.1)
          | (at_builtin; refine Lib.wpList_append_byte rfl (.tmp 27) (.tmp 28) 45 rfl w2.heap.size 5 iu Tryz.underlying45 hi hz hs hb _ _ _ rfl w2 w3 10 ob1 rfl b2 ?_; intro v2 w4 ob2; obtain ⟨d2, e2, rfl⟩ := ownsRowF_any ob2.1))
        have OB2 := Lib.hid ob2
        clear ob2 ob1 ob0
        go_roundw
        case rel =>
          refine ⟨k + 1, by omega, by go_num, ?_⟩
          rw [HTT.out]
          have e : Lib.byteCells ((textL (L.take k) ++ x) ++ [10]) = Lib.byteCells (textL (L.take k) ++ x) ++ [Value.int .u8 10] := by simp [Lib.byteCells]
          rw [e, List.length_append, List.length_append]
          exact OB2.out
        case measure => simp [intOf]; omega
      · obtain rfl : k = m := by omega
        have HTK := Lib.hid (show L.take k = L from by rw [hm]; exact List.take_length)
        rw [HTK.out] at OB hts ⊢
        have hnl : ¬ (16777216 : Int) < ((textL L).length : Int) := by omega
        clear hob
        go_wp2_with fail
        go_ret2
        refine ⟨.slice bd (textL L).length bc, w2.heap.size, by rw [HCE.out]; rfl, ?_, K2.out.trans (.of_below OB.out.2.1)⟩
        rw [← HL.out]
        exact OB.out.1
  · have HLI := Lib.hid (show linesN N = [] from by unfold linesN; rw [if_neg hck])
    have HCE := Lib.hid (show ((checkN N : Nat) : Int) ≠ 0 from by omega)
    obtain ⟨cn, hcn⟩ : ∃ cn, cn = checkN N := ⟨_, rfl⟩
    have g0 : ((cn : Int) == 0) = false := by rw [beq_eq_false_iff_ne, hcn]; exact HCE.out
    have g1 : ((cn : Int) != 0) = true := by rw [bne_iff_ne, hcn]; exact HCE.out
    have HCN := Lib.hid hcn
    rw [← hcn] at HCK
    clear hck h hf hcn
    go_enter Tryz.func15, Tryz.ntmps15; (try simp only [List.append])
    go_wp2_with fail
    refine HCK.out.mono ?_
    rintro e w1 ⟨rfl, k1⟩
    go_wp2_with fail
    go_ret2
    refine ⟨.slice none 0 0, 0, by rw [← HCN.out]; rfl, ?_, k1⟩
    rw [HLI.out]
    exact World.ownsRowF_nil _ _ _ _
end Go.Proofs.YtnjoklcddodfeaaGreatDoor

namespace Go.Proofs.YtnjoklcddodfeaaGreatDoor
open Go.ChangeShapes Go.WideShapes Go.ChangeAt Go.RowKit
set_option linter.unusedVariables false
set_option linter.unusedSimpArgs false

variable {k : Nat} {N : Nt}
theorem dec_ge (u : Nat) : ∀ b ∈ Lib.decDigits u, 48 ≤ b.toNat := by
  induction u using Nat.strongRecOn with
  | _ u ih =>
    intro b hb
    by_cases h : u < 10
    · rw [dec_small h, List.mem_singleton] at hb
      subst hb
      rw [UInt8.toNat_ofNat']
      omega
    · rw [dec_big h, List.mem_append, List.mem_singleton] at hb
      rcases hb with hb | rfl
      · exact ih (u / 10) (by omega) b hb
      · rw [UInt8.toNat_ofNat']
        omega
theorem words_no (l : List Nat) : (10 : UInt8) ∉ wordsB l := by
  unfold wordsB
  intro h
  obtain ⟨x, _, hx⟩ := List.mem_flatMap.1 h
  rcases List.mem_cons.1 hx with h1 | h1
  · exact absurd h1 (by decide)
  · exact absurd (dec_ge x 10 h1) (by decide)
theorem name_no {s : ByteArray} (h : mayB s = true) : (10 : UInt8) ∉ bytesL s := by
  unfold mayB at h
  rw [Bool.and_eq_true] at h
  have h2 := h.2
  unfold allOk at h2
  rw [List.all_eq_true] at h2
  intro hm
  exact absurd (h2 10 hm) (by decide)
theorem line_no {word : List UInt8} {s : List UInt8} (hw : (10 : UInt8) ∉ word) (hs : (10 : UInt8) ∉ s) (l : List Nat) : (10 : UInt8) ∉ lineB word s l := by
  unfold lineB nameB1
  rw [List.mem_append, List.mem_append]
  rintro ((h | h) | h)
  · exact hw h
  · split at h
    · simp at h
    · rcases List.mem_cons.1 h with h | h
      · exact absurd h (by decide)
      · exact hs h
  · exact words_no l h
theorem lines_no (h : NtFine k N) : ∀ s ∈ linesN N, (10 : UInt8) ∉ s := by
  intro s hs
  unfold linesN at hs
  split at hs
  · unfold bodyL at hs
    simp only [List.mem_cons, List.mem_append, List.mem_map, List.not_mem_nil, or_false] at hs
    rcases hs with rfl | ⟨b, hb, rfl⟩ | ⟨r, hr, rfl⟩ | hs | ⟨b, hb, rfl⟩ | rfl
    · exact line_no (by decide) (name_no h.nm) _
    · exact line_no (by decide) (name_no (h.ok.il b hb).2.2.1) _
    · exact line_no (by decide) (by simp) _
    · unfold gatesL at hs
      obtain ⟨j, hj, h1⟩ := List.mem_filterMap.1 hs
      cases hg : gateAt N.g j with
      | none => rw [hg] at h1; cases h1
      | some p =>
        rw [hg] at h1
        injection h1 with h1
        subst h1
        exact line_no (by decide) (by simp) _
    · exact line_no (by decide) (name_no (h.ok.ol b hb).2.2.1) _
    · decide
  · simp at hs
theorem index_no {l : List UInt8} (h : (10 : UInt8) ∉ l) : decide (0 ≤ Lib.indexByte l 10) = false := by
  have e : Lib.indexByte l 10 = -1 := by
    induction l with
    | nil => rfl
    | cons b l ih =>
      rw [List.mem_cons, not_or] at h
      unfold Lib.indexByte
      have hb : (b == 10) = false := by rw [beq_eq_false_iff_ne]; exact fun e => h.1 e.symm
      rw [hb, ih h.2]
      rfl
  rw [e]
  decide
end Go.Proofs.YtnjoklcddodfeaaGreatDoor
