/-
  TokParts: the walk.
-/
import Derived.Test.YtjnjldbegngooaaDoorTokCard
import Derived.Test.YtjnjldbegngooaaDoorTokPal
import Derived.Test.YtjnjldbegngooaaDoorTokPb
import Derived.Test.YtjnjldbegngooaaDoorTokFaW
import Derived.Test.YtjnjldbegngooaaDoorShelf
import Derived.Lib.ConvBytes
namespace Go.Proofs.YtjnjldbegngooaaDoor
open Go.ChangeShapes Go.WideShapes Go.ChangeAt Go.RowKit
set_option linter.unusedVariables false
set_option linter.unusedSimpArgs false

variable {w w' w1 W : World}
/-- bytes made of a string -/
theorem conv_bt2 (w : World) (l : List UInt8) : ∃ c W', (convert 9 22 (.string ⟨l.toArray⟩)).run Tryd.prog w = .ok (.slice (some ⟨w.heap.size, 0, none⟩) l.length c) W' ∧ Bt W' (some ⟨w.heap.size, 0, none⟩) l ∧ Kept [] w W' := by
  have h := Lib.run_convert_string_bytes (P := Tryd.prog) w 9 22 5 ⟨l.toArray⟩ (u := .string) Tryd.underlying9 Tryd.underlying22 Tryd.underlying5
  have hz := Lib.bytesWorld_size w 5 ⟨l.toArray⟩
  refine ⟨_, _, h, fun k hk => ⟨_, rfl, ?_⟩, ⟨?_, ?_, ?_, by omega, fun k hk _ => Lib.bytesWorld_at_old w _ _ k hk⟩⟩
  · rw [add_at', Lib.bytesWorld_cell w _ ⟨l.toArray⟩ _ (by show 0 + k < l.length; omega)]
    simp [List.getD, List.getElem?_eq_getElem hk]
  · simp [Lib.bytesWorld, World.freeze]; rfl
  · simp [Lib.bytesWorld, World.freeze]
  · simp [Lib.bytesWorld, World.freeze]; rfl
/-- a drawn region whose operations read and whose callees make new memory alone -/
theorem wp_region_kept2 {id : Nat} {Q : Exit → Act → World → Prop} {a : Act} {w : World} {l : List Oper} (hB : Region.lexB .any l.toArray = true)
    (h : wpQuiet Tryd.prog l.toArray (fun V => Kept [] w V) (fun a' => ∀ w', Kept [] w w' → Q .normal a' w') l a) : (Code.region id l.toArray true).wp Tryd.prog Q a w :=
  wp_region_quiet (C := fun V => Kept [] w V) (by kernel_rfl) hB (Kept.refl [] w).drew (by simpa using h)
theorem str_info : (Tryd.prog.info? 9).map (fun i => (i.zero, i.size, i.bytes)) = some (some (.string ⟨#[]⟩), 1, 16) := by kernel_rfl
/-- a part of a row of bytes -/
theorem slice_bt (a : Option Addr) (n c i j : Nat) (l : List UInt8) (hij : i ≤ j) (hjn : j ≤ l.length) (hn : n = l.length) (hc : n ≤ c) (hb : Bt w a l) :
    ∃ a', (∀ V : World, (Instr.sliceAt 22 (.slice a n c) (some (.int .i64 (i : Int))) (some (.int .i64 (j : Int))) none).run Tryd.prog V = .ok (.slice a' (j - i) (c - i)) V) ∧ Bt w a' ((l.drop i).take (j - i)) := by
  have hs : ∀ V, (Instr.sliceAt 22 (.slice a n c) (some (.int .i64 (i : Int))) (some (.int .i64 (j : Int))) none).run Tryd.prog V = .ok (sliced a i j c 1) V := fun V => by
    have he : Tryd.prog.elem 22 = 5 := by kernel_rfl
    rw [run_sliceAt_slice (P := Tryd.prog) V _ _ _ _ _ (by rw [he]; exact Tryd.underlying22), run_slice_lh (P := Tryd.prog) V _ a n c (by rw [he]; exact Tryd.underlying22) .i64 .i64 (i : Int) (j : Int) (by omega) (by omega) (by omega), he]
    have hz : (sizeOf 5).run Tryd.prog V = .ok 1 V := by kernel_rfl
    rw [hz]
    simp only [Result.andThen_ok, Int.toNat_natCast]
  unfold sliced at hs
  refine ⟨_, hs, fun k hk => ?_⟩
  have hk2 : i + k < l.length := by rw [List.length_take, List.length_drop] at hk; omega
  obtain ⟨ad, rfl, h2⟩ := hb (i + k) hk2
  rw [if_neg (by omega)]
  refine ⟨ad.add (i * 1), rfl, ?_⟩
  rw [Nat.mul_one, add_add, h2, List.getElem_take, List.getElem_drop]
theorem bt_str3 {a : Option Addr} {l : List UInt8} (n c : Nat) (hn : n = l.length) (h : Bt w a l) : (convert 22 9 (.slice a n c)).run Tryd.prog w = .ok (.string ⟨l.toArray⟩) w := by
  subst hn
  exact bt_str c h
theorem tk_row2 {q : Nat} {x y : Tk} (h : w.heap[q]? = some (.cells (cellsT x ++ cellsT y) 37 (0, 0))) : TkAt w (some ⟨q, 0, none⟩) [x, y] := fun k hk => by
  refine ⟨q, rfl, fun j hj => ?_⟩
  rw [blk_cell h]
  match k, hk with
  | 0, _ =>
    match j, hj with
    | 0, _ => rfl
    | 1, _ => rfl
    | 2, _ => rfl
    | 3, _ => rfl
    | 4, _ => rfl
    | 5, _ => rfl
    | 6, _ => rfl
  | 1, _ =>
    match j, hj with
    | 0, _ => rfl
    | 1, _ => rfl
    | 2, _ => rfl
    | 3, _ => rfl
    | 4, _ => rfl
    | 5, _ => rfl
    | 6, _ => rfl
theorem take_map_snoc {α β : Type} (f : α → β) (l : List α) (k : Nat) (h : k < l.length) : (l.take (k + 1)).map f = (l.take k).map f ++ [f (l[k]'h)] := by
  rw [take_snoc l k h, List.map_append]
  rfl
def txV (x : Tk) : Value := .string ⟨x.text.toArray⟩
/-- joined texts have the same tokens -/
theorem join_allR {sep : List UInt8} (hs : Sep sep) (hsl : sep.length ≤ 7) {M : List UInt8} {xs : List Tk} (hM : M.length ≤ 1000) (h : allB M = .ok xs) : ∃ ys, allR (joinL sep (xs.map (·.text))) = .ok ys ∧ ys.map noAt = xs.map noAt ∧ (joinL sep (xs.map (·.text))).length ≤ 10000 := by
  obtain ⟨ys, h1, h2⟩ := parts_join hs h
  have h3 := chain_join_len sep (chain_of M.length M 0 xs (Nat.le_refl _) h)
  have h4 := allB_len h
  have h5 : (joinL sep (xs.map (·.text))).length ≤ 10000 := by
    have : sep.length * xs.length ≤ 7 * 1001 := Nat.mul_le_mul hsl (by omega)
    omega
  exact ⟨ys, by rw [allR_of _ (by omega), h1], h2, h5⟩
/-- the texts where they lie -/
theorem join_c (a : Option Addr) (c : Nat) (xs : List Tk) (sep : List UInt8) (w : World) (hx : 0 < xs.length) (ho : Own w 9 a xs.length c (xs.map txV)) (hl : (joinL sep (xs.map (·.text))).length ≤ 10000) (hn : xs.length ≤ 1001) :
    Calls Tryd.prog 21 #[.slice a xs.length c, .string ⟨sep.toArray⟩] w fun e w' => e = .returned (.string ⟨(joinL sep (xs.map (·.text))).toArray⟩) ∧ Kept [] w w' := by
  rcases ho.2 with ⟨hv, hn0⟩ | ⟨g, cap', cur, hv, hb, hg, hrest⟩
  · omega
  · injection hv with hv hv2 hv3
    subst hv
    have hcells : ∀ (j : Nat) x, (xs.map fun x => (⟨x.text.toArray⟩ : ByteArray))[j]? = some x → w.cell? ⟨g, 0 + j, none⟩ = some (.string x) := fun j x hj => by
      rw [List.getElem?_map] at hj
      cases hq : xs[j]? with
      | none => rw [hq] at hj; cases hj
      | some t =>
        rw [hq] at hj
        injection hj with hj
        subst hj
        have hjl : j < xs.length := (List.getElem?_eq_some_iff.1 hq).1
        obtain ⟨ad, h1, h2⟩ := Own.cell ho (k := j) (by simpa using hjl)
        injection h1 with h1
        subst h1
        rw [add_at'] at h2
        rw [h2, List.getElem_map, (List.getElem?_eq_some_iff.1 hq).2]
        rfl
    have hmap : (xs.map fun x => (⟨x.text.toArray⟩ : ByteArray)).map (·.data.toList) = xs.map (·.text) := by
      rw [List.map_map]
      rfl
    have h := Tryd.strings_Join g 0 c (xs.map fun x => (⟨x.text.toArray⟩ : ByteArray)) ⟨sep.toArray⟩ w hcells (blk_lt hg) (by simp; omega) (by simp; omega) (by rw [hmap, join_lib]; show (joinL sep _).length ≤ _; omega)
    rw [List.length_map, hmap, join_lib] at h
    exact h.mono fun e w' h => ⟨h.1, .of_below h.2⟩
set_option maxHeartbeats 6400000 in
set_option maxRecDepth 100000 in
theorem parts_c (a : Option Addr) (c : Nat) (L : List UInt8) (w : World) (hc : L.length ≤ c) (hz : c ≤ 140737488351232) (hb : Bt w a L) (hL : Laid w) :
    Calls Tryd.prog 8 #[.slice a L.length c] w (BoolIs true w) := by
  have HL := Lib.hid hL
  have HBT := Lib.hid (hb.take 1000)
  obtain ⟨M, hM⟩ : ∃ M, M = L.take 1000 := ⟨_, rfl⟩
  have hMl : M.length = min L.length 1000 := by rw [hM, List.length_take, Nat.min_comm]
  have hM1 : M.length ≤ 1000 := by omega
  have hM2 : M.length ≤ L.length := by omega
  rw [← hM] at HBT
  have hmin : min ((L.length : Nat) : Int) 1000 = (M.length : Int) := by omega
  have HMA := Lib.hid (all_c M a c w HL.out HBT.out (by omega))
  have hMc : M.length ≤ c := by omega
  have HWK := Lib.hid (fun W hW => wakes_c W hW)
  clear hL hb hM hMl
  cases hr : allB M with
  | error p =>
    have HR := Lib.hid (show allR M = .error (20, p) from by rw [allR_of M (by omega), hr])
    have hp := err_in hr
    clear hr
    go_enter Tryd.func8, Tryd.ntmps8
    go_wp2_with fail
    refine HMA.out.mono ?_
    intro e w1 hpo
    rw [HR.out] at hpo
    obtain ⟨k1, he⟩ := hpo
    have he' : e = .returned (.tuple #[.slice none 0 0, .agg #[.int .i64 20, .int .i64 (p : Int)]]) := he
    subst he'
    have K1 := Lib.hid (k1.alloc (.cells #[.int .i64 20, .int .i64 (p : Int)] 26))
    clear k1 he hmin
    have q1 : ¬ (p : Int) < 0 := by omega
    have q2 : (p : Int) < (M.length : Int) := by omega
    go_wp2_with fail
    refine (HWK.out _ (HL.out.kept0 K1.out)).mono ?_
    rintro e w2 ⟨rfl, k2⟩
    have K2 := Lib.hid k2
    clear k2
    go_wp2_with fail
    go_ret
    exact ⟨rfl, K1.out.trans K2.out⟩
  | ok xs =>
    have HR := Lib.hid (show allR M = .ok xs from by rw [allR_of M (by omega), hr])
    have HAT := Lib.hid (at_start hr)
    have hxl := allB_len hr
    have hxp := (chain_of M.length M 0 xs (Nat.le_refl _) hr).pos
    have HJ1 := Lib.hid (join_allR sep_one (by decide) hM1 hr)
    have HJ2 := Lib.hid (join_allR sep_com (by decide) hM1 hr)
    clear hr
    obtain ⟨n, hn⟩ : ∃ n, n = xs.length := ⟨_, rfl⟩
    have HN := Lib.hid hn
    rw [← hn] at hxl hxp
    clear hn
    go_enter Tryd.func8, Tryd.ntmps8
    go_wp2_with fail
    refine HMA.out.mono ?_
    intro e w1 hpo
    rw [HR.out] at hpo
    obtain ⟨k1, a1, c1, rfl, ho1, hal1⟩ := hpo
    have HO1 := Lib.hid ho1
    rw [← HN.out]
    have K1 := Lib.hid k1
    clear k1 ho1 hal1 hmin
    go_wp2_with fail
    obtain ⟨w2, hw2⟩ : ∃ V, V = w1.alloc (.cells #[.int .i64 0, .int .i64 0] 26) := ⟨_, rfl⟩
    have K2 := Lib.hid (show Kept [] w w2 from hw2 ▸ K1.out.alloc _)
    have HO2 := Lib.hid (show TkOwn w2 a1 c1 xs from hw2 ▸ HO1.out.kept0 ((Kept.refl [] w1).alloc _))
    rw [← hw2]
    clear hw2
    go_loopw [5, 6, 53] (fun pv tv kv wr => ∃ (k p : Nat) (a6 : Option Addr) (c6 : Nat), pv = .int .i64 p ∧ tv = .slice a6 k c6 ∧ kv = .int .i64 k ∧ k ≤ n ∧ p ≤ M.length ∧ AtTk M xs k p ∧ Own wr 9 a6 k c6 ((xs.take k).map txV) ∧ (∀ b ∈ ft a6, w2.heap.size ≤ b) ∧ Kept [] w2 wr) (fun _ _ kv _ => n - (intOf kv).toNat)
    case atStart => exact ⟨0, 0, none, 0, rfl, rfl, rfl, Nat.zero_le _, Nat.zero_le _, HAT.out, Own.nil _ _, by simp [ft], .refl _ _⟩
    case round =>
      obtain ⟨k, p, a6, c6, rfl, rfl, rfl, hk, hpM, hat, how, hal, kr⟩ := hrel
      have HATK := Lib.hid hat
      have HOW := Lib.hid how
      have HAL := Lib.hid hal
      have KR := Lib.hid kr
      clear hat how hal kr
      by_cases hlt : k < n
      · have h1 : k < xs.length := by rw [← HN.out]; exact hlt
        obtain ⟨g, hg, hca⟩ := (HO2.out.at.kept0 KR.out).seven k h1
        have HF := Lib.hid (at_tk HATK.out h1)
        have HTM := Lib.hid (take_map_snoc txV xs k h1)
        obtain ⟨y, hy⟩ : ∃ y, y = xs[k]'h1 := ⟨_, rfl⟩
        rw [← hy] at hca HF HTM
        clear h1 hy
        obtain ⟨kind, text, at_, num, ty⟩ := y
        have q00 : (0 : Int) ≤ (k : Int) := by omega
        have q01 : (k : Int) < (n : Int) := by omega
        have g1 : p ≤ at_ := HF.out.ge
        have g2 : at_ + text.length ≤ M.length := HF.out.le
        have HTX := Lib.hid (show (M.drop at_).take text.length = text from HF.out.txt)
        have HBK := Lib.hid (show blkB ((M.drop p).take (at_ - p)) = true from HF.out.blk)
        have HL7 := Lib.hid (show kind = 7 ↔ k + 1 = n from by rw [HN.out]; exact HF.out.lst)
        have HE7 := Lib.hid (show text = [] ↔ kind = 7 from HF.out.emp)
        have HNX := Lib.hid (show AtTk M xs (k + 1) (at_ + text.length) from HF.out.nxt)
        have hone : ∃ zs, allB text = .ok zs ∧ (kind ≠ 7 → zs.map noAt = [noAt ⟨kind, text, at_, num, ty⟩, noAt (endTk 0)]) := HF.out.one
        obtain ⟨zs, hz1, hz2⟩ := hone
        have HZ1 := Lib.hid (show allR text = .ok zs from by rw [allR_of text (by omega), hz1])
        have HZ2 := Lib.hid hz2
        have hzl := allB_len hz1
        clear HF hz1 hz2
        have hd := hca wr (.refl _ _)
        unfold Tk7 at hd
        obtain ⟨q0, q1, q2, q3, q4, q5, q6⟩ := hd
        simp only at q0 q1 q2 q3 q4 q5 q6
        obtain ⟨ta, hta1, hta2⟩ := slice_bt a M.length c at_ (at_ + text.length) M (by omega) g2 rfl hMc HBT.out
        obtain ⟨tb, htb1, htb2⟩ := slice_bt a M.length c p at_ M g1 (by omega) rfl hMc HBT.out
        rw [Nat.add_sub_cancel_left] at hta1 hta2
        rw [HTX.out] at hta2
        have HS1 := Lib.hid hta1
        have HS2 := Lib.hid htb1
        rw [Int.natCast_add] at HS1
        obtain ⟨bl, hbl⟩ : ∃ bl, bl = (M.drop p).take (at_ - p) := ⟨_, rfl⟩
        have hbll : at_ - p = bl.length := by rw [hbl, List.length_take, List.length_drop]; omega
        rw [← hbl] at htb2 HBK
        have HBL := Lib.hid (fun V => (show Calls Tryd.prog 19 #[.string ⟨bl.toArray⟩] V (BoolIs true V) from by
          have h := tblank_c bl (by omega) V
          rwa [HBK.out] at h))
        obtain ⟨q, hq⟩ : ∃ q, q = wr.heap.size := ⟨_, rfl⟩
        obtain ⟨wx, hwx⟩ : ∃ V, V = wr.alloc (.cells (cellsT ⟨kind, text, at_, num, ty⟩) 37) := ⟨_, rfl⟩
        have KX := Lib.hid (show Kept [] wr wx from hwx ▸ (Kept.refl [] wr).alloc _)
        have HX := Lib.hid (show wx.heap[q]? = some (.cells (cellsT ⟨kind, text, at_, num, ty⟩) 37 (0, 0)) from by rw [hwx, hq]; exact heap_alloc_new wr _)
        have HC1 := Lib.hid (fun V (hV : Kept [] wx V) => bt_str3 text.length (c - at_) rfl (hta2.kept0 ((((K2.out.trans KR.out).trans KX.out).trans hV))))
        have HC2 := Lib.hid (fun V (hV : Kept [] wx V) => bt_str3 (at_ - p) (c - p) hbll (htb2.kept0 ((((K2.out.trans KR.out).trans KX.out).trans hV))))
        have HCL := Lib.hid (fun V (hV : Kept [] wx V) => (show V.cell? ⟨q, 0, none⟩ = some (.int .i64 (kind : Int)) ∧ V.cell? ⟨q, 1, none⟩ = some (.string ⟨text.toArray⟩) ∧ V.cell? ⟨q, 2, none⟩ = some (.int .i64 (at_ : Int)) ∧ V.cell? ⟨q, 3, none⟩ = some (.int .u64 (num : Int)) ∧ V.cell? ⟨q, 4, none⟩ = some (.bool ty.b) ∧ V.cell? ⟨q, 5, none⟩ = some (.bool ty.sg) ∧ V.cell? ⟨q, 6, none⟩ = some (.int .i64 ty.w) from
          have h := hV.heap HX.out (by simp)
          ⟨blk_cell h 0, blk_cell h 1, blk_cell h 2, blk_cell h 3, blk_cell h 4, blk_cell h 5, blk_cell h 6⟩))
        subst hg
        clear hca hta1 hta2 htb1 htb2 hbl hbll
        go_upto_region 10 with (fail)
        unfold cellsT at hwx
        rw [← hq, ← hwx]
        clear hq hwx q0 q1 q2 q3 q4 q5 q6
        have n1 : decide (at_ < p) = false := decide_eq_false (by omega)
        have n1' : decide ((at_ : Int) < (p : Int)) = false := decide_eq_false (by omega)
        have n2 : decide (M.length < at_ + text.length) = false := decide_eq_false (by omega)
        have n2' : decide ((M.length : Int) < (at_ : Int) + (text.length : Int)) = false := decide_eq_false (by omega)
        have s1 : IntKind.i64.wrap ((at_ : Int) + (text.length : Int)) = (at_ : Int) + (text.length : Int) := IntWalk.i64_in _ (by omega)
        have s2 : IntKind.i64.wrap ((k : Int) + 1) = (k : Int) + 1 := IntWalk.i64_in _ (by omega)
        by_cases h7 : kind = 7
        · have htx := HE7.out.2 h7
          have hkn := HL7.out.1 h7
          subst h7 htx
          have e2 : ((k : Int) + 1 == (n : Int)) = true := by rw [beq_iff_eq]; omega
          have s3 : IntKind.i64.wrap (at_ : Int) = (at_ : Int) := IntWalk.i64_in _ (by omega)
          have HS1 := Lib.hid (fun V => (show (Instr.sliceAt 22 (.slice a M.length c) (some (.int .i64 (at_ : Int))) (some (.int .i64 (at_ : Int))) none).run Tryd.prog V = .ok (.slice ta 0 (c - at_)) V from by
            have h := HS1.out V
            simpa using h))
          have HC1 := Lib.hid (fun V (hV : Kept [] wx V) => (show (convert 22 9 (.slice ta 0 (c - at_))).run Tryd.prog V = .ok (.string ⟨#[]⟩) V from HC1.out V hV))
          have n3 : decide (M.length < at_) = false := decide_eq_false (by omega)
          have n3' : decide ((M.length : Int) < (at_ : Int)) = false := decide_eq_false (by omega)
          clear HL7 HE7 HZ2
          refine wp_region_kept2 (by kernel_rfl) ?_
          (go_big_quiet_want; apply Exists.intro; refine ⟨fun V hV => ?_, ?_⟩; rotate_left; go_big_quiet_on; (try simp only [Act.put, List.setIfInBounds_toArray, List.set_cons_zero, List.set_cons_succ]); rotate_right)
          · obtain ⟨q0, q1, q2, q3, q4, q5, q6⟩ := HCL.out V hV
            go_simp
            exact rfl
          (go_big_quiet_want; apply Exists.intro; refine ⟨fun V hV => ?_, ?_⟩; rotate_left; go_big_quiet_on; (try simp only [Act.put, List.setIfInBounds_toArray, List.set_cons_zero, List.set_cons_succ]); rotate_right)
          · obtain ⟨q0, q1, q2, q3, q4, q5, q6⟩ := HCL.out V hV
            go_simp
            exact rfl
          (go_big_quiet_want; apply Exists.intro; refine ⟨fun V hV => ?_, ?_⟩; rotate_left; go_big_quiet_on; (try simp only [Act.put, List.setIfInBounds_toArray, List.set_cons_zero, List.set_cons_succ]); rotate_right)
          · obtain ⟨q0, q1, q2, q3, q4, q5, q6⟩ := HCL.out V hV
            go_simp
            exact rfl
          (go_big_quiet_want; apply Exists.intro; refine ⟨fun V hV => ?_, ?_⟩; rotate_left; go_big_quiet_on; (try simp only [Act.put, List.setIfInBounds_toArray, List.set_cons_zero, List.set_cons_succ]); rotate_right)
          · obtain ⟨q0, q1, q2, q3, q4, q5, q6⟩ := HCL.out V hV
            go_simp
            exact rfl
          (go_big_quiet_want; apply Exists.intro; refine ⟨fun V hV => ?_, ?_⟩; rotate_left; go_big_quiet_on; (try simp only [Act.put, List.setIfInBounds_toArray, List.set_cons_zero, List.set_cons_succ]); rotate_right)
          · obtain ⟨q0, q1, q2, q3, q4, q5, q6⟩ := HCL.out V hV
            go_simp
            exact rfl
          (go_big_quiet_want; apply Exists.intro; refine ⟨fun V hV => ?_, ?_⟩; rotate_left; go_big_quiet_on; (try simp only [Act.put, List.setIfInBounds_toArray, List.set_cons_zero, List.set_cons_succ]); rotate_right)
          · obtain ⟨q0, q1, q2, q3, q4, q5, q6⟩ := HCL.out V hV
            go_simp
            exact rfl
          (go_big_quiet_want; apply Exists.intro; refine ⟨fun V hV => ?_, ?_⟩; rotate_left; go_big_quiet_on; (try simp only [Act.put, List.setIfInBounds_toArray, List.set_cons_zero, List.set_cons_succ]); rotate_right)
          · obtain ⟨q0, q1, q2, q3, q4, q5, q6⟩ := HCL.out V hV
            go_simp
            exact rfl
          (go_big_quiet_want; apply Exists.intro; refine ⟨fun V hV => ?_, ?_⟩; rotate_left; go_big_quiet_on; (try simp only [Act.put, List.setIfInBounds_toArray, List.set_cons_zero, List.set_cons_succ]); rotate_right)
          · obtain ⟨q0, q1, q2, q3, q4, q5, q6⟩ := HCL.out V hV
            go_simp
            exact rfl
          (go_big_quiet_want; apply Exists.intro; refine ⟨fun V hV => ?_, ?_⟩; rotate_left; go_big_quiet_on; (try simp only [Act.put, List.setIfInBounds_toArray, List.set_cons_zero, List.set_cons_succ]); rotate_right)
          · obtain ⟨q0, q1, q2, q3, q4, q5, q6⟩ := HCL.out V hV
            go_simp
            exact rfl
          (go_big_quiet_want; apply Exists.intro; refine ⟨fun V hV => ?_, ?_⟩; rotate_left; go_big_quiet_on; (try simp only [Act.put, List.setIfInBounds_toArray, List.set_cons_zero, List.set_cons_succ]); rotate_right)
          · obtain ⟨q0, q1, q2, q3, q4, q5, q6⟩ := HCL.out V hV
            go_simp
            exact rfl
          (go_big_quiet_want; apply Exists.intro; refine ⟨fun V hV => ?_, ?_⟩; rotate_left; go_big_quiet_on; (try simp only [Act.put, List.setIfInBounds_toArray, List.set_cons_zero, List.set_cons_succ]); rotate_right)
          · obtain ⟨q0, q1, q2, q3, q4, q5, q6⟩ := HCL.out V hV
            go_simp
            exact rfl
          (go_big_quiet_want; apply Exists.intro; refine ⟨fun V hV => ?_, ?_⟩; rotate_left; go_big_quiet_on; (try simp only [Act.put, List.setIfInBounds_toArray, List.set_cons_zero, List.set_cons_succ]); rotate_right)
          · obtain ⟨q0, q1, q2, q3, q4, q5, q6⟩ := HCL.out V hV
            go_simp
            exact rfl
          (go_big_quiet_want; apply Exists.intro; refine ⟨fun V hV => ?_, ?_⟩; rotate_left; go_big_quiet_on; (try simp only [Act.put, List.setIfInBounds_toArray, List.set_cons_zero, List.set_cons_succ]); rotate_right)
          · obtain ⟨q0, q1, q2, q3, q4, q5, q6⟩ := HCL.out V hV
            go_simp
            exact rfl
          (go_big_quiet_want; apply Exists.intro; refine ⟨fun V hV => ?_, ?_⟩; rotate_left; go_big_quiet_on; (try simp only [Act.put, List.setIfInBounds_toArray, List.set_cons_zero, List.set_cons_succ]); rotate_right)
          · obtain ⟨q0, q1, q2, q3, q4, q5, q6⟩ := HCL.out V hV
            go_simp
            exact rfl
          (go_big_quiet_want; apply Exists.intro; refine ⟨fun V hV => ?_, ?_⟩; rotate_left; go_big_quiet_on; (try simp only [Act.put, List.setIfInBounds_toArray, List.set_cons_zero, List.set_cons_succ]); rotate_right)
          · obtain ⟨q0, q1, q2, q3, q4, q5, q6⟩ := HCL.out V hV
            go_simp
            exact rfl
          (go_big_quiet_want; apply Exists.intro; refine ⟨fun V hV => ?_, ?_⟩; rotate_left; go_big_quiet_on; (try simp only [Act.put, List.setIfInBounds_toArray, List.set_cons_zero, List.set_cons_succ]); rotate_right)
          · obtain ⟨q0, q1, q2, q3, q4, q5, q6⟩ := HCL.out V hV
            go_simp
            exact rfl
          (go_big_quiet_want; apply Exists.intro; refine ⟨fun V hV => ?_, ?_⟩; rotate_left; go_big_quiet_on; (try simp only [Act.put, List.setIfInBounds_toArray, List.set_cons_zero, List.set_cons_succ]); rotate_right)
          · obtain ⟨q0, q1, q2, q3, q4, q5, q6⟩ := HCL.out V hV
            go_simp
            exact rfl
          (go_big_quiet_want; apply Exists.intro; refine ⟨fun V hV => ?_, ?_⟩; rotate_left; go_big_quiet_on; (try simp only [Act.put, List.setIfInBounds_toArray, List.set_cons_zero, List.set_cons_succ]); rotate_right)
          · obtain ⟨q0, q1, q2, q3, q4, q5, q6⟩ := HCL.out V hV
            go_simp
            exact rfl
          (go_big_quiet_want; apply Exists.intro; refine ⟨fun V hV => ?_, ?_⟩; rotate_left; go_big_quiet_on; (try simp only [Act.put, List.setIfInBounds_toArray, List.set_cons_zero, List.set_cons_succ]); rotate_right)
          · obtain ⟨q0, q1, q2, q3, q4, q5, q6⟩ := HCL.out V hV
            go_simp
            exact rfl
          (go_big_quiet_want; apply Exists.intro; refine ⟨fun V hV => ?_, ?_⟩; rotate_left; go_big_quiet_on; (try simp only [Act.put, List.setIfInBounds_toArray, List.set_cons_zero, List.set_cons_succ]); rotate_right)
          · obtain ⟨q0, q1, q2, q3, q4, q5, q6⟩ := HCL.out V hV
            go_simp
            exact rfl
          (go_big_quiet_want; apply Exists.intro; refine ⟨fun V hV => ?_, ?_⟩; rotate_left; go_big_quiet_on; (try simp only [Act.put, List.setIfInBounds_toArray, List.set_cons_zero, List.set_cons_succ]); rotate_right)
          · obtain ⟨q0, q1, q2, q3, q4, q5, q6⟩ := HCL.out V hV
            go_simp
            exact rfl
          (go_big_quiet_want; apply Exists.intro; refine ⟨fun V hV => ?_, ?_⟩; rotate_left; go_big_quiet_on; (try simp only [Act.put, List.setIfInBounds_toArray, List.set_cons_zero, List.set_cons_succ]); rotate_right)
          · obtain ⟨q0, q1, q2, q3, q4, q5, q6⟩ := HCL.out V hV
            go_simp
            exact rfl
          (go_big_quiet_want; apply Exists.intro; refine ⟨fun V hV => ?_, ?_⟩; rotate_left; go_big_quiet_on; (try simp only [Act.put, List.setIfInBounds_toArray, List.set_cons_zero, List.set_cons_succ]); rotate_right)
          · obtain ⟨q0, q1, q2, q3, q4, q5, q6⟩ := HCL.out V hV
            go_simp
            exact rfl
          (go_big_quiet_want; apply Exists.intro; refine ⟨fun V hV => ?_, ?_⟩; rotate_left; go_big_quiet_on; (try simp only [Act.put, List.setIfInBounds_toArray, List.set_cons_zero, List.set_cons_succ]); rotate_right)
          · obtain ⟨q0, q1, q2, q3, q4, q5, q6⟩ := HCL.out V hV
            go_simp
            exact rfl
          (go_big_quiet_want; apply Exists.intro; refine ⟨fun V hV => ?_, ?_⟩; rotate_left; go_big_quiet_on; (try simp only [Act.put, List.setIfInBounds_toArray, List.set_cons_zero, List.set_cons_succ]); rotate_right)
          · obtain ⟨q0, q1, q2, q3, q4, q5, q6⟩ := HCL.out V hV
            go_simp
            exact rfl
          (go_big_quiet_want; apply Exists.intro; refine ⟨fun V hV => ?_, ?_⟩; rotate_left; go_big_quiet_on; (try simp only [Act.put, List.setIfInBounds_toArray, List.set_cons_zero, List.set_cons_succ]); rotate_right)
          · have hs := HS1.out V
            go_simp
            exact rfl
          (go_big_quiet_want; apply Exists.intro; refine ⟨fun V hV => ?_, ?_⟩; rotate_left; go_big_quiet_on; (try simp only [Act.put, List.setIfInBounds_toArray, List.set_cons_zero, List.set_cons_succ]); rotate_right)
          · have hs := HC1.out V hV
            go_simp
            exact rfl
          (go_big_quiet_want; apply Exists.intro; refine ⟨fun V hV => ?_, ?_⟩; rotate_left; go_big_quiet_on; (try simp only [Act.put, List.setIfInBounds_toArray, List.set_cons_zero, List.set_cons_succ]); rotate_right)
          · obtain ⟨q0, q1, q2, q3, q4, q5, q6⟩ := HCL.out V hV
            go_simp
            exact rfl
          (go_big_quiet_want; apply Exists.intro; refine ⟨fun V hV => ?_, ?_⟩; rotate_left; go_big_quiet_on; (try simp only [Act.put, List.setIfInBounds_toArray, List.set_cons_zero, List.set_cons_succ]); rotate_right)
          · obtain ⟨q0, q1, q2, q3, q4, q5, q6⟩ := HCL.out V hV
            go_simp
            exact rfl
          (go_big_quiet_want; apply Exists.intro; refine ⟨fun V hV => ?_, ?_⟩; rotate_left; go_big_quiet_on; (try simp only [Act.put, List.setIfInBounds_toArray, List.set_cons_zero, List.set_cons_succ]); rotate_right)
          · obtain ⟨q0, q1, q2, q3, q4, q5, q6⟩ := HCL.out V hV
            go_simp
            exact rfl
          (go_big_quiet_want; apply Exists.intro; refine ⟨fun V hV => ?_, ?_⟩; rotate_left; go_big_quiet_on; (try simp only [Act.put, List.setIfInBounds_toArray, List.set_cons_zero, List.set_cons_succ]); rotate_right)
          · obtain ⟨q0, q1, q2, q3, q4, q5, q6⟩ := HCL.out V hV
            go_simp
            exact rfl
          (go_big_quiet_want; apply Exists.intro; refine ⟨fun V hV => ?_, ?_⟩; rotate_left; go_big_quiet_on; (try simp only [Act.put, List.setIfInBounds_toArray, List.set_cons_zero, List.set_cons_succ]); rotate_right)
          · obtain ⟨q0, q1, q2, q3, q4, q5, q6⟩ := HCL.out V hV
            go_simp
            exact rfl
          (go_big_quiet_want; apply Exists.intro; refine ⟨fun V hV => ?_, ?_⟩; rotate_left; go_big_quiet_on; (try simp only [Act.put, List.setIfInBounds_toArray, List.set_cons_zero, List.set_cons_succ]); rotate_right)
          · obtain ⟨q0, q1, q2, q3, q4, q5, q6⟩ := HCL.out V hV
            go_simp
            exact rfl
          (go_big_quiet_want; apply Exists.intro; refine ⟨fun V hV => ?_, ?_⟩; rotate_left; go_big_quiet_on; (try simp only [Act.put, List.setIfInBounds_toArray, List.set_cons_zero, List.set_cons_succ]); rotate_right)
          · obtain ⟨q0, q1, q2, q3, q4, q5, q6⟩ := HCL.out V hV
            go_simp
            exact rfl
          (go_big_quiet_want; apply Exists.intro; refine ⟨fun V hV => ?_, ?_⟩; rotate_left; go_big_quiet_on; (try simp only [Act.put, List.setIfInBounds_toArray, List.set_cons_zero, List.set_cons_succ]); rotate_right)
          · obtain ⟨q0, q1, q2, q3, q4, q5, q6⟩ := HCL.out V hV
            go_simp
            exact rfl
          (go_big_quiet_want; apply Exists.intro; refine ⟨fun V hV => ?_, ?_⟩; rotate_left; go_big_quiet_on; (try simp only [Act.put, List.setIfInBounds_toArray, List.set_cons_zero, List.set_cons_succ]); rotate_right)
          · obtain ⟨q0, q1, q2, q3, q4, q5, q6⟩ := HCL.out V hV
            go_simp
            exact rfl
          (go_big_quiet_want; apply Exists.intro; refine ⟨fun V hV => ?_, ?_⟩; rotate_left; go_big_quiet_on; (try simp only [Act.put, List.setIfInBounds_toArray, List.set_cons_zero, List.set_cons_succ]); rotate_right)
          · have hs := HS2.out V
            go_simp
            exact rfl
          (go_big_quiet_want; apply Exists.intro; refine ⟨fun V hV => ?_, ?_⟩; rotate_left; go_big_quiet_on; (try simp only [Act.put, List.setIfInBounds_toArray, List.set_cons_zero, List.set_cons_succ]); rotate_right)
          · have hs := HC2.out V hV
            go_simp
            exact rfl
          (go_big_quiet_want; apply Exists.intro; refine ⟨fun V hV => ?_, ?_⟩; rotate_left; go_big_quiet_on; (try simp only [Act.put, List.setIfInBounds_toArray, List.set_cons_zero, List.set_cons_succ]); rotate_right)
          · go_simp
            exact (HBL.out V).mono fun e V' h => ⟨h.1, hV.trans h.2⟩
          (go_big_quiet_want; apply Exists.intro; refine ⟨fun V hV => ?_, ?_⟩; rotate_left; go_big_quiet_on; (try simp only [Act.put, List.setIfInBounds_toArray, List.set_cons_zero, List.set_cons_succ]); rotate_right)
          · obtain ⟨q0, q1, q2, q3, q4, q5, q6⟩ := HCL.out V hV
            go_simp
            exact rfl
          (go_big_quiet_want; apply Exists.intro; refine ⟨fun V hV => ?_, ?_⟩; rotate_left; go_big_quiet_on; (try simp only [Act.put, List.setIfInBounds_toArray, List.set_cons_zero, List.set_cons_succ]); rotate_right)
          · obtain ⟨q0, q1, q2, q3, q4, q5, q6⟩ := HCL.out V hV
            go_simp
            exact rfl
          (go_big_quiet_want; apply Exists.intro; refine ⟨fun V hV => ?_, ?_⟩; rotate_left; go_big_quiet_on; (try simp only [Act.put, List.setIfInBounds_toArray, List.set_cons_zero, List.set_cons_succ]); rotate_right)
          · obtain ⟨q0, q1, q2, q3, q4, q5, q6⟩ := HCL.out V hV
            go_simp
            exact rfl
          (go_big_quiet_want; apply Exists.intro; refine ⟨fun V hV => ?_, ?_⟩; rotate_left; go_big_quiet_on; (try simp only [Act.put, List.setIfInBounds_toArray, List.set_cons_zero, List.set_cons_succ]); rotate_right)
          · obtain ⟨q0, q1, q2, q3, q4, q5, q6⟩ := HCL.out V hV
            go_simp
            exact rfl
          (go_big_quiet_want; apply Exists.intro; refine ⟨fun V hV => ?_, ?_⟩; rotate_left; go_big_quiet_on; (try simp only [Act.put, List.setIfInBounds_toArray, List.set_cons_zero, List.set_cons_succ]); rotate_right)
          · obtain ⟨q0, q1, q2, q3, q4, q5, q6⟩ := HCL.out V hV
            go_simp
            exact rfl
          (go_big_quiet_want; apply Exists.intro; refine ⟨fun V hV => ?_, ?_⟩; rotate_left; go_big_quiet_on; (try simp only [Act.put, List.setIfInBounds_toArray, List.set_cons_zero, List.set_cons_succ]); rotate_right)
          · obtain ⟨q0, q1, q2, q3, q4, q5, q6⟩ := HCL.out V hV
            go_simp
            exact rfl
          (go_big_quiet_want; apply Exists.intro; refine ⟨fun V hV => ?_, ?_⟩; rotate_left; go_big_quiet_on; (try simp only [Act.put, List.setIfInBounds_toArray, List.set_cons_zero, List.set_cons_succ]); rotate_right)
          · obtain ⟨q0, q1, q2, q3, q4, q5, q6⟩ := HCL.out V hV
            go_simp
            exact rfl
          (go_big_quiet_want; apply Exists.intro; refine ⟨fun V hV => ?_, ?_⟩; rotate_left; go_big_quiet_on; (try simp only [Act.put, List.setIfInBounds_toArray, List.set_cons_zero, List.set_cons_succ]); rotate_right)
          · obtain ⟨q0, q1, q2, q3, q4, q5, q6⟩ := HCL.out V hV
            go_simp
            exact rfl
          (go_big_quiet_want; apply Exists.intro; refine ⟨fun V hV => ?_, ?_⟩; rotate_left; go_big_quiet_on; (try simp only [Act.put, List.setIfInBounds_toArray, List.set_cons_zero, List.set_cons_succ]); rotate_right)
          · obtain ⟨q0, q1, q2, q3, q4, q5, q6⟩ := HCL.out V hV
            go_simp
            exact rfl
          (go_big_quiet_want; apply Exists.intro; refine ⟨fun V hV => ?_, ?_⟩; rotate_left; go_big_quiet_on; (try simp only [Act.put, List.setIfInBounds_toArray, List.set_cons_zero, List.set_cons_succ]); rotate_right)
          · obtain ⟨q0, q1, q2, q3, q4, q5, q6⟩ := HCL.out V hV
            go_simp
            exact rfl
          (go_big_quiet_want; apply Exists.intro; refine ⟨fun V hV => ?_, ?_⟩; rotate_left; go_big_quiet_on; (try simp only [Act.put, List.setIfInBounds_toArray, List.set_cons_zero, List.set_cons_succ]); rotate_right)
          · obtain ⟨q0, q1, q2, q3, q4, q5, q6⟩ := HCL.out V hV
            go_simp
            exact rfl
          (go_big_quiet_want; apply Exists.intro; refine ⟨fun V hV => ?_, ?_⟩; rotate_left; go_big_quiet_on; (try simp only [Act.put, List.setIfInBounds_toArray, List.set_cons_zero, List.set_cons_succ]); rotate_right)
          · obtain ⟨q0, q1, q2, q3, q4, q5, q6⟩ := HCL.out V hV
            go_simp
            exact rfl
          (go_big_quiet_want; apply Exists.intro; refine ⟨fun V hV => ?_, ?_⟩; rotate_left; go_big_quiet_on; (try simp only [Act.put, List.setIfInBounds_toArray, List.set_cons_zero, List.set_cons_succ]); rotate_right)
          · obtain ⟨q0, q1, q2, q3, q4, q5, q6⟩ := HCL.out V hV
            go_simp
            exact rfl
          (go_big_quiet_want; apply Exists.intro; refine ⟨fun V hV => ?_, ?_⟩; rotate_left; go_big_quiet_on; (try simp only [Act.put, List.setIfInBounds_toArray, List.set_cons_zero, List.set_cons_succ]); rotate_right)
          · obtain ⟨q0, q1, q2, q3, q4, q5, q6⟩ := HCL.out V hV
            go_simp
            exact rfl
          (go_big_quiet_want; apply Exists.intro; refine ⟨fun V hV => ?_, ?_⟩; rotate_left; go_big_quiet_on; (try simp only [Act.put, List.setIfInBounds_toArray, List.set_cons_zero, List.set_cons_succ]); rotate_right)
          · obtain ⟨q0, q1, q2, q3, q4, q5, q6⟩ := HCL.out V hV
            go_simp
            exact rfl
          (go_big_quiet_want; apply Exists.intro; refine ⟨fun V hV => ?_, ?_⟩; rotate_left; go_big_quiet_on; (try simp only [Act.put, List.setIfInBounds_toArray, List.set_cons_zero, List.set_cons_succ]); rotate_right)
          · obtain ⟨q0, q1, q2, q3, q4, q5, q6⟩ := HCL.out V hV
            go_simp
            exact rfl
          (go_big_quiet_want; apply Exists.intro; refine ⟨fun V hV => ?_, ?_⟩; rotate_left; go_big_quiet_on; (try simp only [Act.put, List.setIfInBounds_toArray, List.set_cons_zero, List.set_cons_succ]); rotate_right)
          · obtain ⟨q0, q1, q2, q3, q4, q5, q6⟩ := HCL.out V hV
            go_simp
            exact rfl
          (go_big_quiet_want; apply Exists.intro; refine ⟨fun V hV => ?_, ?_⟩; rotate_left; go_big_quiet_on; (try simp only [Act.put, List.setIfInBounds_toArray, List.set_cons_zero, List.set_cons_succ]); rotate_right)
          · obtain ⟨q0, q1, q2, q3, q4, q5, q6⟩ := HCL.out V hV
            go_simp
            exact rfl
          (go_big_quiet_want; apply Exists.intro; refine ⟨fun V hV => ?_, ?_⟩; rotate_left; go_big_quiet_on; (try simp only [Act.put, List.setIfInBounds_toArray, List.set_cons_zero, List.set_cons_succ]); rotate_right)
          · obtain ⟨q0, q1, q2, q3, q4, q5, q6⟩ := HCL.out V hV
            go_simp
            exact rfl
          (go_big_quiet_want; apply Exists.intro; refine ⟨fun V hV => ?_, ?_⟩; rotate_left; go_big_quiet_on; (try simp only [Act.put, List.setIfInBounds_toArray, List.set_cons_zero, List.set_cons_succ]); rotate_right)
          · obtain ⟨q0, q1, q2, q3, q4, q5, q6⟩ := HCL.out V hV
            go_simp
            exact rfl
          (go_big_quiet_want; apply Exists.intro; refine ⟨fun V hV => ?_, ?_⟩; rotate_left; go_big_quiet_on; (try simp only [Act.put, List.setIfInBounds_toArray, List.set_cons_zero, List.set_cons_succ]); rotate_right)
          · obtain ⟨q0, q1, q2, q3, q4, q5, q6⟩ := HCL.out V hV
            go_simp
            exact rfl
          (go_big_quiet_want; apply Exists.intro; refine ⟨fun V hV => ?_, ?_⟩; rotate_left; go_big_quiet_on; (try simp only [Act.put, List.setIfInBounds_toArray, List.set_cons_zero, List.set_cons_succ]); rotate_right)
          · obtain ⟨q0, q1, q2, q3, q4, q5, q6⟩ := HCL.out V hV
            go_simp
            exact rfl
          refine wpQuiet_nil ?_
          intro w9 k9
          have K9 := Lib.hid k9
          clear k9
          have KW9 := Lib.hid (KX.out.trans K9.out)
          have HX9 := Lib.hid (K9.out.heap HX.out (by simp))
          have how := HOW.out.kept0 KW9.out
          have HQ6 := Lib.hid (show q ∉ ft a6 from blk_apart HX9.out how (by decide))
          obtain ⟨q0, q1, q2, q3, q4, q5, q6⟩ := HCL.out w9 K9.out
          clear s1 s2 n1 n1' n2 n2' e2 n3 n3' s3
          go_wp2_with (at_builtin; refine wpList_push2 (news := [.string ⟨#[]⟩]) rfl rfl Tryd.underlying49 str_info rfl (by decide) rfl rfl rfl how rfl (by simp [Value.oneCell']) (by unfold maxLen; omega) (by omega) rfl ?_; intro a7 c7 w10 hown hst; obtain ⟨c8, W1, hcv, hbt, hk⟩ := conv_bt2 w10 []; have hx10 := hst.kept.heap HX9.out HQ6.out; have z0 := blk_cell hx10 0; have z1 := blk_cell hx10 1; simp only [cellsT, List.getElem?_toArray, List.getElem?_cons_zero, List.getElem?_cons_succ] at z0 z1)
          have K10 := Lib.hid (show Kept [] w2 w10 from kept_mix (KR.out.trans KW9.out) hst.kept (fun b hb => .inr (HAL.out b hb)))
          have HFR := Lib.hid (fun b (hb : b ∈ ft a7) => (show w2.heap.size ≤ b from by
            rcases hst.fresh b hb with h | h
            · exact HAL.out b h
            · have := (KR.out.trans KW9.out).size
              omega))
          have HOWN := Lib.hid hown
          have HX10 := Lib.hid hx10
          have HK := Lib.hid hk
          have HA := Lib.hid (all_c [] (some ⟨w10.heap.size, 0, none⟩) c8 W1 (HL.out.kept0 (K2.out.trans (K10.out.trans hk))) hbt (by simp))
          clear hown hst hbt hk hx10 z0 z1 hcv q0 q1 q2 q3 q4 q5 q6 how
          refine HA.out.mono ?_
          intro e w11 hpo
          rw [HZ1.out] at hpo
          obtain ⟨k11, a8, c9, rfl, ho8, hal8⟩ := hpo
          have HO8 := Lib.hid ho8
          have K11 := Lib.hid (HK.out.trans k11)
          have hx11 := K11.out.heap HX10.out (by simp)
          have HX11 := Lib.hid hx11
          have hlx := blk_lt hx11
          have y0 := blk_cell hx11 0
          have y1 := blk_cell hx11 1
          have y2 := blk_cell hx11 2
          have y3 := blk_cell hx11 3
          have y4 := blk_cell hx11 4
          have y5 := blk_cell hx11 5
          have y6 := blk_cell hx11 6
          simp only [cellsT, List.getElem?_toArray, List.getElem?_cons_zero, List.getElem?_cons_succ] at y0 y1 y2 y3 y4 y5 y6
          clear k11 ho8 hal8 hx11
          go_wp2_with fail
          go_roundw
          case rel =>
            refine ⟨k + 1, at_ + 0, a7, c7, by go_num, by first | rfl | rw [hkn], by first | go_num | (rw [← hkn]; go_num), by omega, by omega, HNX.out, ?_, HFR.out, ?_⟩
            · rw [HTM.out]
              exact Own.kept0 HOWN.out (K11.out.alloc _)
            · exact K10.out.trans (K11.out.alloc _)
          case measure => simp [intOf]; omega
        · have htx : text ≠ [] := fun h => h7 (HE7.out.1 h)
          have hkn : k + 1 ≠ n := fun h => h7 (HL7.out.2 h)
          have HZ3 := Lib.hid (HZ2.out h7)
          have e1 : ((kind : Int) == 7) = false := by rw [beq_eq_false_iff_ne]; omega
          have e2 : ((k : Int) + 1 == (n : Int)) = false := by rw [beq_eq_false_iff_ne]; omega
          have t0 : (text == []) = false := by rw [beq_eq_false_iff_ne]; exact htx
          have t1 : text.isEmpty = false := by
            cases text with
            | nil => exact absurd rfl htx
            | cons c m => rfl
          clear HL7 HE7 HZ2 h7 htx hkn
          refine wp_region_kept2 (by kernel_rfl) ?_
          (go_big_quiet_want; apply Exists.intro; refine ⟨fun V hV => ?_, ?_⟩; rotate_left; go_big_quiet_on; (try simp only [Act.put, List.setIfInBounds_toArray, List.set_cons_zero, List.set_cons_succ]); rotate_right)
          · obtain ⟨q0, q1, q2, q3, q4, q5, q6⟩ := HCL.out V hV
            go_simp
            exact rfl
          (go_big_quiet_want; apply Exists.intro; refine ⟨fun V hV => ?_, ?_⟩; rotate_left; go_big_quiet_on; (try simp only [Act.put, List.setIfInBounds_toArray, List.set_cons_zero, List.set_cons_succ]); rotate_right)
          · obtain ⟨q0, q1, q2, q3, q4, q5, q6⟩ := HCL.out V hV
            go_simp
            exact rfl
          (go_big_quiet_want; apply Exists.intro; refine ⟨fun V hV => ?_, ?_⟩; rotate_left; go_big_quiet_on; (try simp only [Act.put, List.setIfInBounds_toArray, List.set_cons_zero, List.set_cons_succ]); rotate_right)
          · obtain ⟨q0, q1, q2, q3, q4, q5, q6⟩ := HCL.out V hV
            go_simp
            exact rfl
          (go_big_quiet_want; apply Exists.intro; refine ⟨fun V hV => ?_, ?_⟩; rotate_left; go_big_quiet_on; (try simp only [Act.put, List.setIfInBounds_toArray, List.set_cons_zero, List.set_cons_succ]); rotate_right)
          · obtain ⟨q0, q1, q2, q3, q4, q5, q6⟩ := HCL.out V hV
            go_simp
            exact rfl
          (go_big_quiet_want; apply Exists.intro; refine ⟨fun V hV => ?_, ?_⟩; rotate_left; go_big_quiet_on; (try simp only [Act.put, List.setIfInBounds_toArray, List.set_cons_zero, List.set_cons_succ]); rotate_right)
          · obtain ⟨q0, q1, q2, q3, q4, q5, q6⟩ := HCL.out V hV
            go_simp
            exact rfl
          (go_big_quiet_want; apply Exists.intro; refine ⟨fun V hV => ?_, ?_⟩; rotate_left; go_big_quiet_on; (try simp only [Act.put, List.setIfInBounds_toArray, List.set_cons_zero, List.set_cons_succ]); rotate_right)
          · obtain ⟨q0, q1, q2, q3, q4, q5, q6⟩ := HCL.out V hV
            go_simp
            exact rfl
          (go_big_quiet_want; apply Exists.intro; refine ⟨fun V hV => ?_, ?_⟩; rotate_left; go_big_quiet_on; (try simp only [Act.put, List.setIfInBounds_toArray, List.set_cons_zero, List.set_cons_succ]); rotate_right)
          · obtain ⟨q0, q1, q2, q3, q4, q5, q6⟩ := HCL.out V hV
            go_simp
            exact rfl
          (go_big_quiet_want; apply Exists.intro; refine ⟨fun V hV => ?_, ?_⟩; rotate_left; go_big_quiet_on; (try simp only [Act.put, List.setIfInBounds_toArray, List.set_cons_zero, List.set_cons_succ]); rotate_right)
          · obtain ⟨q0, q1, q2, q3, q4, q5, q6⟩ := HCL.out V hV
            go_simp
            exact rfl
          (go_big_quiet_want; apply Exists.intro; refine ⟨fun V hV => ?_, ?_⟩; rotate_left; go_big_quiet_on; (try simp only [Act.put, List.setIfInBounds_toArray, List.set_cons_zero, List.set_cons_succ]); rotate_right)
          · obtain ⟨q0, q1, q2, q3, q4, q5, q6⟩ := HCL.out V hV
            go_simp
            exact rfl
          (go_big_quiet_want; apply Exists.intro; refine ⟨fun V hV => ?_, ?_⟩; rotate_left; go_big_quiet_on; (try simp only [Act.put, List.setIfInBounds_toArray, List.set_cons_zero, List.set_cons_succ]); rotate_right)
          · obtain ⟨q0, q1, q2, q3, q4, q5, q6⟩ := HCL.out V hV
            go_simp
            exact rfl
          (go_big_quiet_want; apply Exists.intro; refine ⟨fun V hV => ?_, ?_⟩; rotate_left; go_big_quiet_on; (try simp only [Act.put, List.setIfInBounds_toArray, List.set_cons_zero, List.set_cons_succ]); rotate_right)
          · obtain ⟨q0, q1, q2, q3, q4, q5, q6⟩ := HCL.out V hV
            go_simp
            exact rfl
          (go_big_quiet_want; apply Exists.intro; refine ⟨fun V hV => ?_, ?_⟩; rotate_left; go_big_quiet_on; (try simp only [Act.put, List.setIfInBounds_toArray, List.set_cons_zero, List.set_cons_succ]); rotate_right)
          · obtain ⟨q0, q1, q2, q3, q4, q5, q6⟩ := HCL.out V hV
            go_simp
            exact rfl
          (go_big_quiet_want; apply Exists.intro; refine ⟨fun V hV => ?_, ?_⟩; rotate_left; go_big_quiet_on; (try simp only [Act.put, List.setIfInBounds_toArray, List.set_cons_zero, List.set_cons_succ]); rotate_right)
          · obtain ⟨q0, q1, q2, q3, q4, q5, q6⟩ := HCL.out V hV
            go_simp
            exact rfl
          (go_big_quiet_want; apply Exists.intro; refine ⟨fun V hV => ?_, ?_⟩; rotate_left; go_big_quiet_on; (try simp only [Act.put, List.setIfInBounds_toArray, List.set_cons_zero, List.set_cons_succ]); rotate_right)
          · obtain ⟨q0, q1, q2, q3, q4, q5, q6⟩ := HCL.out V hV
            go_simp
            exact rfl
          (go_big_quiet_want; apply Exists.intro; refine ⟨fun V hV => ?_, ?_⟩; rotate_left; go_big_quiet_on; (try simp only [Act.put, List.setIfInBounds_toArray, List.set_cons_zero, List.set_cons_succ]); rotate_right)
          · obtain ⟨q0, q1, q2, q3, q4, q5, q6⟩ := HCL.out V hV
            go_simp
            exact rfl
          (go_big_quiet_want; apply Exists.intro; refine ⟨fun V hV => ?_, ?_⟩; rotate_left; go_big_quiet_on; (try simp only [Act.put, List.setIfInBounds_toArray, List.set_cons_zero, List.set_cons_succ]); rotate_right)
          · obtain ⟨q0, q1, q2, q3, q4, q5, q6⟩ := HCL.out V hV
            go_simp
            exact rfl
          (go_big_quiet_want; apply Exists.intro; refine ⟨fun V hV => ?_, ?_⟩; rotate_left; go_big_quiet_on; (try simp only [Act.put, List.setIfInBounds_toArray, List.set_cons_zero, List.set_cons_succ]); rotate_right)
          · obtain ⟨q0, q1, q2, q3, q4, q5, q6⟩ := HCL.out V hV
            go_simp
            exact rfl
          (go_big_quiet_want; apply Exists.intro; refine ⟨fun V hV => ?_, ?_⟩; rotate_left; go_big_quiet_on; (try simp only [Act.put, List.setIfInBounds_toArray, List.set_cons_zero, List.set_cons_succ]); rotate_right)
          · obtain ⟨q0, q1, q2, q3, q4, q5, q6⟩ := HCL.out V hV
            go_simp
            exact rfl
          (go_big_quiet_want; apply Exists.intro; refine ⟨fun V hV => ?_, ?_⟩; rotate_left; go_big_quiet_on; (try simp only [Act.put, List.setIfInBounds_toArray, List.set_cons_zero, List.set_cons_succ]); rotate_right)
          · obtain ⟨q0, q1, q2, q3, q4, q5, q6⟩ := HCL.out V hV
            go_simp
            exact rfl
          (go_big_quiet_want; apply Exists.intro; refine ⟨fun V hV => ?_, ?_⟩; rotate_left; go_big_quiet_on; (try simp only [Act.put, List.setIfInBounds_toArray, List.set_cons_zero, List.set_cons_succ]); rotate_right)
          · obtain ⟨q0, q1, q2, q3, q4, q5, q6⟩ := HCL.out V hV
            go_simp
            exact rfl
          (go_big_quiet_want; apply Exists.intro; refine ⟨fun V hV => ?_, ?_⟩; rotate_left; go_big_quiet_on; (try simp only [Act.put, List.setIfInBounds_toArray, List.set_cons_zero, List.set_cons_succ]); rotate_right)
          · obtain ⟨q0, q1, q2, q3, q4, q5, q6⟩ := HCL.out V hV
            go_simp
            exact rfl
          (go_big_quiet_want; apply Exists.intro; refine ⟨fun V hV => ?_, ?_⟩; rotate_left; go_big_quiet_on; (try simp only [Act.put, List.setIfInBounds_toArray, List.set_cons_zero, List.set_cons_succ]); rotate_right)
          · obtain ⟨q0, q1, q2, q3, q4, q5, q6⟩ := HCL.out V hV
            go_simp
            exact rfl
          (go_big_quiet_want; apply Exists.intro; refine ⟨fun V hV => ?_, ?_⟩; rotate_left; go_big_quiet_on; (try simp only [Act.put, List.setIfInBounds_toArray, List.set_cons_zero, List.set_cons_succ]); rotate_right)
          · obtain ⟨q0, q1, q2, q3, q4, q5, q6⟩ := HCL.out V hV
            go_simp
            exact rfl
          (go_big_quiet_want; apply Exists.intro; refine ⟨fun V hV => ?_, ?_⟩; rotate_left; go_big_quiet_on; (try simp only [Act.put, List.setIfInBounds_toArray, List.set_cons_zero, List.set_cons_succ]); rotate_right)
          · obtain ⟨q0, q1, q2, q3, q4, q5, q6⟩ := HCL.out V hV
            go_simp
            exact rfl
          (go_big_quiet_want; apply Exists.intro; refine ⟨fun V hV => ?_, ?_⟩; rotate_left; go_big_quiet_on; (try simp only [Act.put, List.setIfInBounds_toArray, List.set_cons_zero, List.set_cons_succ]); rotate_right)
          · obtain ⟨q0, q1, q2, q3, q4, q5, q6⟩ := HCL.out V hV
            go_simp
            exact rfl
          (go_big_quiet_want; apply Exists.intro; refine ⟨fun V hV => ?_, ?_⟩; rotate_left; go_big_quiet_on; (try simp only [Act.put, List.setIfInBounds_toArray, List.set_cons_zero, List.set_cons_succ]); rotate_right)
          · have hs := HS1.out V
            go_simp
            exact rfl
          (go_big_quiet_want; apply Exists.intro; refine ⟨fun V hV => ?_, ?_⟩; rotate_left; go_big_quiet_on; (try simp only [Act.put, List.setIfInBounds_toArray, List.set_cons_zero, List.set_cons_succ]); rotate_right)
          · have hs := HC1.out V hV
            go_simp
            exact rfl
          (go_big_quiet_want; apply Exists.intro; refine ⟨fun V hV => ?_, ?_⟩; rotate_left; go_big_quiet_on; (try simp only [Act.put, List.setIfInBounds_toArray, List.set_cons_zero, List.set_cons_succ]); rotate_right)
          · obtain ⟨q0, q1, q2, q3, q4, q5, q6⟩ := HCL.out V hV
            go_simp
            exact rfl
          (go_big_quiet_want; apply Exists.intro; refine ⟨fun V hV => ?_, ?_⟩; rotate_left; go_big_quiet_on; (try simp only [Act.put, List.setIfInBounds_toArray, List.set_cons_zero, List.set_cons_succ]); rotate_right)
          · obtain ⟨q0, q1, q2, q3, q4, q5, q6⟩ := HCL.out V hV
            go_simp
            exact rfl
          (go_big_quiet_want; apply Exists.intro; refine ⟨fun V hV => ?_, ?_⟩; rotate_left; go_big_quiet_on; (try simp only [Act.put, List.setIfInBounds_toArray, List.set_cons_zero, List.set_cons_succ]); rotate_right)
          · obtain ⟨q0, q1, q2, q3, q4, q5, q6⟩ := HCL.out V hV
            go_simp
            exact rfl
          (go_big_quiet_want; apply Exists.intro; refine ⟨fun V hV => ?_, ?_⟩; rotate_left; go_big_quiet_on; (try simp only [Act.put, List.setIfInBounds_toArray, List.set_cons_zero, List.set_cons_succ]); rotate_right)
          · obtain ⟨q0, q1, q2, q3, q4, q5, q6⟩ := HCL.out V hV
            go_simp
            exact rfl
          (go_big_quiet_want; apply Exists.intro; refine ⟨fun V hV => ?_, ?_⟩; rotate_left; go_big_quiet_on; (try simp only [Act.put, List.setIfInBounds_toArray, List.set_cons_zero, List.set_cons_succ]); rotate_right)
          · obtain ⟨q0, q1, q2, q3, q4, q5, q6⟩ := HCL.out V hV
            go_simp
            exact rfl
          (go_big_quiet_want; apply Exists.intro; refine ⟨fun V hV => ?_, ?_⟩; rotate_left; go_big_quiet_on; (try simp only [Act.put, List.setIfInBounds_toArray, List.set_cons_zero, List.set_cons_succ]); rotate_right)
          · obtain ⟨q0, q1, q2, q3, q4, q5, q6⟩ := HCL.out V hV
            go_simp
            exact rfl
          (go_big_quiet_want; apply Exists.intro; refine ⟨fun V hV => ?_, ?_⟩; rotate_left; go_big_quiet_on; (try simp only [Act.put, List.setIfInBounds_toArray, List.set_cons_zero, List.set_cons_succ]); rotate_right)
          · obtain ⟨q0, q1, q2, q3, q4, q5, q6⟩ := HCL.out V hV
            go_simp
            exact rfl
          (go_big_quiet_want; apply Exists.intro; refine ⟨fun V hV => ?_, ?_⟩; rotate_left; go_big_quiet_on; (try simp only [Act.put, List.setIfInBounds_toArray, List.set_cons_zero, List.set_cons_succ]); rotate_right)
          · obtain ⟨q0, q1, q2, q3, q4, q5, q6⟩ := HCL.out V hV
            go_simp
            exact rfl
          (go_big_quiet_want; apply Exists.intro; refine ⟨fun V hV => ?_, ?_⟩; rotate_left; go_big_quiet_on; (try simp only [Act.put, List.setIfInBounds_toArray, List.set_cons_zero, List.set_cons_succ]); rotate_right)
          · obtain ⟨q0, q1, q2, q3, q4, q5, q6⟩ := HCL.out V hV
            go_simp
            exact rfl
          (go_big_quiet_want; apply Exists.intro; refine ⟨fun V hV => ?_, ?_⟩; rotate_left; go_big_quiet_on; (try simp only [Act.put, List.setIfInBounds_toArray, List.set_cons_zero, List.set_cons_succ]); rotate_right)
          · have hs := HS2.out V
            go_simp
            exact rfl
          (go_big_quiet_want; apply Exists.intro; refine ⟨fun V hV => ?_, ?_⟩; rotate_left; go_big_quiet_on; (try simp only [Act.put, List.setIfInBounds_toArray, List.set_cons_zero, List.set_cons_succ]); rotate_right)
          · have hs := HC2.out V hV
            go_simp
            exact rfl
          (go_big_quiet_want; apply Exists.intro; refine ⟨fun V hV => ?_, ?_⟩; rotate_left; go_big_quiet_on; (try simp only [Act.put, List.setIfInBounds_toArray, List.set_cons_zero, List.set_cons_succ]); rotate_right)
          · go_simp
            exact (HBL.out V).mono fun e V' h => ⟨h.1, hV.trans h.2⟩
          (go_big_quiet_want; apply Exists.intro; refine ⟨fun V hV => ?_, ?_⟩; rotate_left; go_big_quiet_on; (try simp only [Act.put, List.setIfInBounds_toArray, List.set_cons_zero, List.set_cons_succ]); rotate_right)
          · obtain ⟨q0, q1, q2, q3, q4, q5, q6⟩ := HCL.out V hV
            go_simp
            exact rfl
          (go_big_quiet_want; apply Exists.intro; refine ⟨fun V hV => ?_, ?_⟩; rotate_left; go_big_quiet_on; (try simp only [Act.put, List.setIfInBounds_toArray, List.set_cons_zero, List.set_cons_succ]); rotate_right)
          · obtain ⟨q0, q1, q2, q3, q4, q5, q6⟩ := HCL.out V hV
            go_simp
            exact rfl
          (go_big_quiet_want; apply Exists.intro; refine ⟨fun V hV => ?_, ?_⟩; rotate_left; go_big_quiet_on; (try simp only [Act.put, List.setIfInBounds_toArray, List.set_cons_zero, List.set_cons_succ]); rotate_right)
          · obtain ⟨q0, q1, q2, q3, q4, q5, q6⟩ := HCL.out V hV
            go_simp
            exact rfl
          (go_big_quiet_want; apply Exists.intro; refine ⟨fun V hV => ?_, ?_⟩; rotate_left; go_big_quiet_on; (try simp only [Act.put, List.setIfInBounds_toArray, List.set_cons_zero, List.set_cons_succ]); rotate_right)
          · obtain ⟨q0, q1, q2, q3, q4, q5, q6⟩ := HCL.out V hV
            go_simp
            exact rfl
          (go_big_quiet_want; apply Exists.intro; refine ⟨fun V hV => ?_, ?_⟩; rotate_left; go_big_quiet_on; (try simp only [Act.put, List.setIfInBounds_toArray, List.set_cons_zero, List.set_cons_succ]); rotate_right)
          · obtain ⟨q0, q1, q2, q3, q4, q5, q6⟩ := HCL.out V hV
            go_simp
            exact rfl
          (go_big_quiet_want; apply Exists.intro; refine ⟨fun V hV => ?_, ?_⟩; rotate_left; go_big_quiet_on; (try simp only [Act.put, List.setIfInBounds_toArray, List.set_cons_zero, List.set_cons_succ]); rotate_right)
          · obtain ⟨q0, q1, q2, q3, q4, q5, q6⟩ := HCL.out V hV
            go_simp
            exact rfl
          (go_big_quiet_want; apply Exists.intro; refine ⟨fun V hV => ?_, ?_⟩; rotate_left; go_big_quiet_on; (try simp only [Act.put, List.setIfInBounds_toArray, List.set_cons_zero, List.set_cons_succ]); rotate_right)
          · obtain ⟨q0, q1, q2, q3, q4, q5, q6⟩ := HCL.out V hV
            go_simp
            exact rfl
          (go_big_quiet_want; apply Exists.intro; refine ⟨fun V hV => ?_, ?_⟩; rotate_left; go_big_quiet_on; (try simp only [Act.put, List.setIfInBounds_toArray, List.set_cons_zero, List.set_cons_succ]); rotate_right)
          · obtain ⟨q0, q1, q2, q3, q4, q5, q6⟩ := HCL.out V hV
            go_simp
            exact rfl
          (go_big_quiet_want; apply Exists.intro; refine ⟨fun V hV => ?_, ?_⟩; rotate_left; go_big_quiet_on; (try simp only [Act.put, List.setIfInBounds_toArray, List.set_cons_zero, List.set_cons_succ]); rotate_right)
          · obtain ⟨q0, q1, q2, q3, q4, q5, q6⟩ := HCL.out V hV
            go_simp
            exact rfl
          (go_big_quiet_want; apply Exists.intro; refine ⟨fun V hV => ?_, ?_⟩; rotate_left; go_big_quiet_on; (try simp only [Act.put, List.setIfInBounds_toArray, List.set_cons_zero, List.set_cons_succ]); rotate_right)
          · obtain ⟨q0, q1, q2, q3, q4, q5, q6⟩ := HCL.out V hV
            go_simp
            exact rfl
          (go_big_quiet_want; apply Exists.intro; refine ⟨fun V hV => ?_, ?_⟩; rotate_left; go_big_quiet_on; (try simp only [Act.put, List.setIfInBounds_toArray, List.set_cons_zero, List.set_cons_succ]); rotate_right)
          · obtain ⟨q0, q1, q2, q3, q4, q5, q6⟩ := HCL.out V hV
            go_simp
            exact rfl
          (go_big_quiet_want; apply Exists.intro; refine ⟨fun V hV => ?_, ?_⟩; rotate_left; go_big_quiet_on; (try simp only [Act.put, List.setIfInBounds_toArray, List.set_cons_zero, List.set_cons_succ]); rotate_right)
          · obtain ⟨q0, q1, q2, q3, q4, q5, q6⟩ := HCL.out V hV
            go_simp
            exact rfl
          (go_big_quiet_want; apply Exists.intro; refine ⟨fun V hV => ?_, ?_⟩; rotate_left; go_big_quiet_on; (try simp only [Act.put, List.setIfInBounds_toArray, List.set_cons_zero, List.set_cons_succ]); rotate_right)
          · obtain ⟨q0, q1, q2, q3, q4, q5, q6⟩ := HCL.out V hV
            go_simp
            exact rfl
          (go_big_quiet_want; apply Exists.intro; refine ⟨fun V hV => ?_, ?_⟩; rotate_left; go_big_quiet_on; (try simp only [Act.put, List.setIfInBounds_toArray, List.set_cons_zero, List.set_cons_succ]); rotate_right)
          · obtain ⟨q0, q1, q2, q3, q4, q5, q6⟩ := HCL.out V hV
            go_simp
            exact rfl
          (go_big_quiet_want; apply Exists.intro; refine ⟨fun V hV => ?_, ?_⟩; rotate_left; go_big_quiet_on; (try simp only [Act.put, List.setIfInBounds_toArray, List.set_cons_zero, List.set_cons_succ]); rotate_right)
          · obtain ⟨q0, q1, q2, q3, q4, q5, q6⟩ := HCL.out V hV
            go_simp
            exact rfl
          (go_big_quiet_want; apply Exists.intro; refine ⟨fun V hV => ?_, ?_⟩; rotate_left; go_big_quiet_on; (try simp only [Act.put, List.setIfInBounds_toArray, List.set_cons_zero, List.set_cons_succ]); rotate_right)
          · obtain ⟨q0, q1, q2, q3, q4, q5, q6⟩ := HCL.out V hV
            go_simp
            exact rfl
          (go_big_quiet_want; apply Exists.intro; refine ⟨fun V hV => ?_, ?_⟩; rotate_left; go_big_quiet_on; (try simp only [Act.put, List.setIfInBounds_toArray, List.set_cons_zero, List.set_cons_succ]); rotate_right)
          · obtain ⟨q0, q1, q2, q3, q4, q5, q6⟩ := HCL.out V hV
            go_simp
            exact rfl
          (go_big_quiet_want; apply Exists.intro; refine ⟨fun V hV => ?_, ?_⟩; rotate_left; go_big_quiet_on; (try simp only [Act.put, List.setIfInBounds_toArray, List.set_cons_zero, List.set_cons_succ]); rotate_right)
          · obtain ⟨q0, q1, q2, q3, q4, q5, q6⟩ := HCL.out V hV
            go_simp
            exact rfl
          (go_big_quiet_want; apply Exists.intro; refine ⟨fun V hV => ?_, ?_⟩; rotate_left; go_big_quiet_on; (try simp only [Act.put, List.setIfInBounds_toArray, List.set_cons_zero, List.set_cons_succ]); rotate_right)
          · obtain ⟨q0, q1, q2, q3, q4, q5, q6⟩ := HCL.out V hV
            go_simp
            exact rfl
          (go_big_quiet_want; apply Exists.intro; refine ⟨fun V hV => ?_, ?_⟩; rotate_left; go_big_quiet_on; (try simp only [Act.put, List.setIfInBounds_toArray, List.set_cons_zero, List.set_cons_succ]); rotate_right)
          · obtain ⟨q0, q1, q2, q3, q4, q5, q6⟩ := HCL.out V hV
            go_simp
            exact rfl
          (go_big_quiet_want; apply Exists.intro; refine ⟨fun V hV => ?_, ?_⟩; rotate_left; go_big_quiet_on; (try simp only [Act.put, List.setIfInBounds_toArray, List.set_cons_zero, List.set_cons_succ]); rotate_right)
          · obtain ⟨q0, q1, q2, q3, q4, q5, q6⟩ := HCL.out V hV
            go_simp
            exact rfl
          (go_big_quiet_want; apply Exists.intro; refine ⟨fun V hV => ?_, ?_⟩; rotate_left; go_big_quiet_on; (try simp only [Act.put, List.setIfInBounds_toArray, List.set_cons_zero, List.set_cons_succ]); rotate_right)
          · obtain ⟨q0, q1, q2, q3, q4, q5, q6⟩ := HCL.out V hV
            go_simp
            exact rfl
          refine wpQuiet_nil ?_
          intro w9 k9
          have K9 := Lib.hid k9
          clear k9
          have KW9 := Lib.hid (KX.out.trans K9.out)
          have HX9 := Lib.hid (K9.out.heap HX.out (by simp))
          have how := HOW.out.kept0 KW9.out
          have HQ6 := Lib.hid (show q ∉ ft a6 from blk_apart HX9.out how (by decide))
          obtain ⟨q0, q1, q2, q3, q4, q5, q6⟩ := HCL.out w9 K9.out
          clear s1 s2 n1 n1' n2 n2' e2
          have e1' : ((kind : Int) != 7) = true := by rw [bne_iff_ne]; intro h; rw [h] at e1; exact absurd e1 (by decide)
          go_wp2_with (at_builtin; refine wpList_push2 (news := [.string ⟨text.toArray⟩]) rfl rfl Tryd.underlying49 str_info rfl (by decide) rfl rfl rfl how rfl (by simp [Value.oneCell']) (by unfold maxLen; omega) (by omega) rfl ?_; intro a7 c7 w10 hown hst; obtain ⟨c8, W1, hcv, hbt, hk⟩ := conv_bt2 w10 text; have hx10 := hst.kept.heap HX9.out HQ6.out; have z0 := blk_cell hx10 0; have z1 := blk_cell hx10 1; simp only [cellsT, List.getElem?_toArray, List.getElem?_cons_zero, List.getElem?_cons_succ] at z0 z1)
          have K10 := Lib.hid (show Kept [] w2 w10 from kept_mix (KR.out.trans KW9.out) hst.kept (fun b hb => .inr (HAL.out b hb)))
          have HFR := Lib.hid (fun b (hb : b ∈ ft a7) => (show w2.heap.size ≤ b from by
            rcases hst.fresh b hb with h | h
            · exact HAL.out b h
            · have := (KR.out.trans KW9.out).size
              omega))
          have HOWN := Lib.hid hown
          have HX10 := Lib.hid hx10
          have HK := Lib.hid hk
          have HA := Lib.hid (all_c text (some ⟨w10.heap.size, 0, none⟩) c8 W1 (HL.out.kept0 (K2.out.trans (K10.out.trans hk))) hbt (by omega))
          clear hown hst hbt hk hx10 z0 z1 hcv q0 q1 q2 q3 q4 q5 q6 how
          refine HA.out.mono ?_
          intro e w11 hpo
          rw [HZ1.out] at hpo
          obtain ⟨k11, a8, c9, rfl, ho8, hal8⟩ := hpo
          have HO8 := Lib.hid ho8
          have K11 := Lib.hid (HK.out.trans k11)
          have hx11 := K11.out.heap HX10.out (by simp)
          have HX11 := Lib.hid hx11
          have hlx := blk_lt hx11
          have y0 := blk_cell hx11 0
          have y1 := blk_cell hx11 1
          have y2 := blk_cell hx11 2
          have y3 := blk_cell hx11 3
          have y4 := blk_cell hx11 4
          have y5 := blk_cell hx11 5
          have y6 := blk_cell hx11 6
          simp only [cellsT, List.getElem?_toArray, List.getElem?_cons_zero, List.getElem?_cons_succ] at y0 y1 y2 y3 y4 y5 y6
          clear k11 ho8 hal8 hx11
          go_wp2_with fail
          refine (alike_c a8 (some ⟨w11.heap.size + 1, 0, none⟩) c9 2 zs [⟨kind, text, at_, num, ty⟩, endTk 0] _ ?_ ?_ HZ3.out (by omega)).mono ?_
          · exact HO8.out.at.kept0 (((Kept.refl [] w11).alloc _).alloc _)
          · refine tk_row2 ?_
            have h := heap_alloc_new (w11.alloc (.cells #[.int .i64 0, .int .i64 0] 26)) (.cells (cellsT ⟨kind, text, at_, num, ty⟩ ++ cellsT (endTk 0)) 37)
            rw [show (w11.alloc (.cells #[.int .i64 0, .int .i64 0] 26)).heap.size = w11.heap.size + 1 from by simp] at h
            exact h
          rintro e w12 ⟨rfl, k12⟩
          have K12 := Lib.hid (show Kept [] w11 w12 from (((Kept.refl [] w11).alloc (.cells #[.int .i64 0, .int .i64 0] 26)).alloc (.cells (cellsT ⟨kind, text, at_, num, ty⟩ ++ cellsT (endTk 0)) 37)).trans k12)
          clear k12
          go_wp2_with fail
          go_roundw
          case rel =>
            refine ⟨k + 1, at_ + text.length, a7, c7, by go_num, by first | rfl | rw [hkn], by first | go_num | (rw [← hkn]; go_num), by omega, by omega, HNX.out, ?_, HFR.out, ?_⟩
            · rw [HTM.out]
              exact Own.kept0 HOWN.out (K11.out.trans K12.out)
            · exact K10.out.trans (K11.out.trans K12.out)
          case measure => simp [intOf]; omega
      · obtain rfl : k = n := by omega
        have hpm : p = M.length := by
          rcases HATK.out with ⟨h, _⟩ | ⟨_, h⟩
          · have := HN.out
            omega
          · exact h
        subst hpm
        obtain ⟨J1, hJ1⟩ : ∃ J, J = joinL [32] (xs.map (·.text)) := ⟨_, rfl⟩
        obtain ⟨J2, hJ2⟩ : ∃ J, J = joinL [32, 45, 45, 32, 120, 10, 9] (xs.map (·.text)) := ⟨_, rfl⟩
        obtain ⟨ys1, hy1, hy2, hy3⟩ := HJ1.out
        obtain ⟨ys2, hz1, hz2, hz3⟩ := HJ2.out
        have HOA := Lib.hid (show Own wr 9 a6 xs.length c6 (xs.map txV) from by
          have h := HOW.out
          have e : xs.take k = xs := by rw [HN.out]; exact List.take_length
          rw [e] at h
          rw [← HN.out]
          exact h)
        have HC1 := Lib.hid (fun W (hW : Kept [] wr W) => (show Calls Tryd.prog 21 #[.slice a6 k c6, .string ⟨#[32]⟩] W fun e w' => e = .returned (.string ⟨J1.toArray⟩) ∧ Kept [] W w' from by
          have h := join_c a6 c6 xs [32] W (by have := HN.out; omega) (HOA.out.kept0 hW) hy3 (by have := HN.out; omega)
          rw [← HN.out, ← hJ1] at h
          exact h))
        have HC2 := Lib.hid (fun W (hW : Kept [] wr W) => (show Calls Tryd.prog 21 #[.slice a6 k c6, .string ⟨#[32, 45, 45, 32, 120, 10, 9]⟩] W fun e w' => e = .returned (.string ⟨J2.toArray⟩) ∧ Kept [] W w' from by
          have h := join_c a6 c6 xs [32, 45, 45, 32, 120, 10, 9] W (by have := HN.out; omega) (HOA.out.kept0 hW) hz3 (by have := HN.out; omega)
          rw [← HN.out, ← hJ2] at h
          exact h))
        rw [← hJ1] at hy1 hy3
        rw [← hJ2] at hz1 hz3
        have HY1 := Lib.hid hy1
        have HY2 := Lib.hid hy2
        have HZ1 := Lib.hid hz1
        have HZ2 := Lib.hid hz2
        have HKW := Lib.hid (K2.out.trans KR.out)
        have HXA := Lib.hid (HO2.out.at.kept0 KR.out)
        clear hJ1 hJ2 hy1 hy2 hz1 hz2
        go_wp2_with fail
        refine (HC1.out _ (.refl _ _)).mono ?_
        rintro e w3 ⟨rfl, k3⟩
        obtain ⟨c3, W3, hcv3, hbt3, hk3⟩ := conv_bt2 w3 J1
        have K3 := Lib.hid k3
        have HK3 := Lib.hid (k3.trans hk3)
        have HA3 := Lib.hid (all_c J1 (some ⟨w3.heap.size, 0, none⟩) c3 W3 (HL.out.kept0 (HKW.out.trans (k3.trans hk3))) hbt3 (by omega))
        clear k3 hk3 hbt3
        go_wp2_with fail
        refine HA3.out.mono ?_
        intro e w4 hpo
        rw [HY1.out] at hpo
        obtain ⟨k4, a4, c4, rfl, ho4, hal4⟩ := hpo
        have HO4 := Lib.hid ho4
        have K4 := Lib.hid (show Kept [] wr (w4.alloc (.cells #[.int .i64 0, .int .i64 0] 26)) from (HK3.out.trans k4).alloc _)
        have HF4 := Lib.hid (heap_alloc_new w4 (.cells #[.int .i64 0, .int .i64 0] 26))
        clear k4 ho4 hal4 hcv3
        go_wp2_with fail
        refine (HC2.out _ K4.out).mono ?_
        rintro e w5 ⟨rfl, k5⟩
        obtain ⟨c5, W5, hcv5, hbt5, hk5⟩ := conv_bt2 w5 J2
        have HK5 := Lib.hid (show Kept [] (w4.alloc (.cells #[.int .i64 0, .int .i64 0] 26)) W5 from k5.trans hk5)
        have HA5 := Lib.hid (all_c J2 (some ⟨w5.heap.size, 0, none⟩) c5 W5 (HL.out.kept0 (HKW.out.trans (K4.out.trans (k5.trans hk5)))) hbt5 (by omega))
        clear k5 hk5 hbt5
        go_wp2_with fail
        refine HA5.out.mono ?_
        intro e w6 hpo
        rw [HZ1.out] at hpo
        obtain ⟨k6, a5, c6', rfl, ho6, hal6⟩ := hpo
        have HO6 := Lib.hid ho6
        have K6 := Lib.hid (show Kept [] (w4.alloc (.cells #[.int .i64 0, .int .i64 0] 26)) w6 from HK5.out.trans k6)
        have hf6 := K6.out.heap HF4.out (by simp)
        have d0 := blk_cell hf6 0
        simp only [List.getElem?_toArray, List.getElem?_cons_zero, List.getElem?_cons_succ] at d0
        have hl6 := blk_lt hf6
        have KA := Lib.hid (K4.out.trans K6.out)
        have H46 := Lib.hid (show Kept [] w4 w6 from ((Kept.refl [] w4).alloc _).trans K6.out)
        clear k6 ho6 hal6 hf6 hcv5
        go_wp2_with fail
        have HAL1 := Lib.hid (fun W (hW : Kept [] w6 W) => (show Calls Tryd.prog 20 #[.slice a1 k c1, .slice a4 ys1.length c4] W (BoolIs true W) from by
          have h := alike_c a1 a4 c1 c4 xs ys1 W (HXA.out.kept0 (KA.out.trans hW)) (HO4.out.at.kept0 (H46.out.trans hW)) HY2.out.symm (by have := HN.out; omega)
          rw [← HN.out] at h
          exact h))
        have HAL2 := Lib.hid (fun W (hW : Kept [] w6 W) => (show Calls Tryd.prog 20 #[.slice a1 k c1, .slice a5 ys2.length c6'] W (BoolIs true W) from by
          have h := alike_c a1 a5 c1 c6' xs ys2 W (HXA.out.kept0 (KA.out.trans hW)) (HO6.out.at.kept0 hW) HZ2.out.symm (by have := HN.out; omega)
          rw [← HN.out] at h
          exact h))
        refine (HAL1.out _ ((Kept.refl [] w6).alloc _)).mono ?_
        rintro e w7 ⟨rfl, k7⟩
        have K7 := Lib.hid (show Kept [] w6 w7 from ((Kept.refl [] w6).alloc (.cells #[.int .i64 0, .int .i64 0] 26)).trans k7)
        clear k7
        go_wp2_with fail
        refine (HAL2.out _ K7.out).mono ?_
        rintro e w8 ⟨rfl, k8⟩
        have K8 := Lib.hid (K7.out.trans k8)
        clear k8
        go_wp2_with fail
        refine (HWK.out _ (HL.out.kept0 (HKW.out.trans (KA.out.trans K8.out)))).mono ?_
        rintro e w9 ⟨rfl, k9⟩
        have K9 := Lib.hid (K8.out.trans k9)
        clear k9
        go_wp2_with fail
        go_ret
        exact ⟨rfl, HKW.out.trans (KA.out.trans K9.out)⟩
end Go.Proofs.YtjnjldbegngooaaDoor
