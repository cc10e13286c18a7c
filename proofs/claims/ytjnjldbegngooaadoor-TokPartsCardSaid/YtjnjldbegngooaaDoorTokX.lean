/-
  Law 15: All.
-/
import Derived.Test.YtjnjldbegngooaaDoorTokW
import Derived.Test.YtjnjldbegngooaaDoorTokO
namespace Go.Proofs.YtjnjldbegngooaaDoor
open Go.ChangeShapes Go.WideShapes Go.ChangeAt Go.RowKit
set_option linter.unusedVariables false
set_option linter.unusedSimpArgs false

variable {w w' w1 W : World}
theorem add_blk (a : Addr) (k : Nat) : (a.add k).block = a.block := by unfold Addr.add; split <;> rfl
/-- bytes where they lie -/
def Bt (w : World) (a : Option Addr) (l : List UInt8) : Prop := ∀ k (h : k < l.length), ∃ ad, a = some ad ∧ w.cell? (ad.add k) = some (.int .u8 ((l[k].toNat : Nat) : Int))
theorem Bt.kept {F : List Nat} {a : Option Addr} {l : List UInt8} (h : Bt w a l) (hk : Kept F w w') (hF : ∀ b ∈ ft a, b ∉ F) : Bt w' a l := fun k hk' => by
  obtain ⟨ad, rfl, x0⟩ := h k hk'
  exact ⟨ad, rfl, hk.cell x0 (by rw [add_blk]; exact hF _ (by simp [ft]))⟩
theorem Bt.kept0 {a : Option Addr} {l : List UInt8} (h : Bt w a l) (hk : Kept [] w w') : Bt w' a l := h.kept hk (by simp)
theorem bt_str {a : Option Addr} {l : List UInt8} (c : Nat) (h : Bt w a l) : (convert 22 9 (.slice a l.length c)).run Tryd.prog w = .ok (.string ⟨l.toArray⟩) w := by
  cases a with
  | some ad =>
    exact run_convert_bytes_back (P := Tryd.prog) w 22 9 5 ad c l Tryd.underlying22 Tryd.underlying5 Tryd.underlying9 (fun j hj => by
      obtain ⟨ad', h1, h2⟩ := h j hj
      injection h1 with h1
      subst h1
      exact h2)
  | none =>
    cases l with
    | nil => exact run_convert_bytes_nil (P := Tryd.prog) w 22 5 Tryd.underlying22 Tryd.underlying5 0 c 9 Tryd.underlying9
    | cons x l =>
      obtain ⟨ad', h1, h2⟩ := h 0 (by simp)
      cases h1
def tkCells (x : Tk) : List Value := [.int .i64 (x.kind : Int), .string ⟨x.text.toArray⟩, .int .i64 (x.at_ : Int), .int .u64 (x.n : Int), .bool x.ty.b, .bool x.ty.sg, .int .i64 x.ty.w]
def TkOwn (w : World) (a : Option Addr) (c : Nat) (xs : List Tk) : Prop := w.ownsRow 0 37 7 (.slice a xs.length c) xs.length (xs.flatMap tkCells)
/-- what All tells -/
def allR (l : List UInt8) : Except (Nat × Nat) (List Tk) := if 65536 < l.length then .error (3, 0) else match allB l with
  | .error p => .error (20, p)
  | .ok xs => .ok xs
def AllPost (r : Except (Nat × Nat) (List Tk)) (w : World) (e : Ending) (w' : World) : Prop := Kept [] w w' ∧ match r with
  | .error p => e = .returned (.tuple #[.slice none 0 0, .agg #[.int .i64 (p.1 : Int), .int .i64 (p.2 : Int)]])
  | .ok xs => ∃ a c, e = .returned (.tuple #[.slice a xs.length c, .agg #[.int .i64 0, .int .i64 0]]) ∧ TkOwn w' a c xs ∧ (∀ b ∈ ft a, w.heap.size ≤ b)
theorem tk_info : (Tryd.prog.info? 37).map (fun i => (i.zero, i.size, i.bytes)) = some (some (.agg #[.int .i64 0, .string ⟨#[]⟩, .int .i64 0, .int .u64 0, .bool false, .bool false, .int .i64 0]), 7, 56) := by kernel_rfl
theorem TkOwn.kept0 {a : Option Addr} {c : Nat} {xs : List Tk} (h : TkOwn w a c xs) (hk : Kept [] w w') : TkOwn w' a c xs := own_kept h hk (by simp)
theorem oneB_cons (c : UInt8) (r : List UInt8) : oneB (c :: r) = if dgB c then numB (c :: r) else if bgB c then nameB (c :: r) else signB (c :: r) := rfl
theorem flat_tk (xs : List Tk) (x : Tk) : (xs ++ [x]).flatMap tkCells = xs.flatMap tkCells ++ tkCells x := by simp
set_option maxHeartbeats 3200000 in
set_option maxRecDepth 100000 in
theorem all_c (l : List UInt8) (a : Option Addr) (c : Nat) (w : World) (hL : Laid w) (hb : Bt w a l) (hl : l.length ≤ 140737488351232) :
    Calls Tryd.prog 9 #[.slice a l.length c] w (AllPost (allR l) w) := by
  by_cases hlong : 65536 < l.length
  · have HR := Lib.hid (show allR l = .error (3, 0) from by unfold allR; rw [if_pos hlong])
    have g1 : ¬ ((l.length : Nat) : Int) ≤ 65536 := by omega
    have g2 : ¬ l.length ≤ 65536 := by omega
    clear hb hlong
    go_enter Tryd.func9, Tryd.ntmps9
    go_wp2_with fail
    refine bodyPost_ret (v := .tuple #[.slice none 0 0, .agg #[.int .i64 3, .int .i64 0]]) (by simp [results, Tryd.results9, go_sem]) rfl ?_
    rw [HR.out]
    exact ⟨(Kept.refl [] w).alloc _, rfl⟩
  · have HR := Lib.hid (show allR l = match allB l with
      | .error p => .error (20, p)
      | .ok xs => .ok xs from by unfold allR; rw [if_neg hlong])
    have g1 : l.length ≤ 65536 := by omega
    have hconv := bt_str c (hb.kept0 ((Kept.refl [] w).alloc (.cells #[.int .i64 0, .int .i64 0] 26)))
    have HL := Lib.hid hL
    obtain ⟨S, hS⟩ : ∃ S : ByteArray, S = ⟨l.toArray⟩ := ⟨_, rfl⟩
    have HS := Lib.hid hS
    have hSz : S.size = l.length := by rw [hS]; rfl
    have HSZ := Lib.hid hSz
    rw [← hS] at hconv
    have HSL := Lib.hid (show S.data.toList = l from by rw [hS])
    clear hb hlong hS hSz hL
    go_enter Tryd.func9, Tryd.ntmps9
    go_wp2_with fail
    have hr0 : RdS ((w.alloc (.cells #[.int .i64 0, .int .i64 0] 26)).alloc (.cells #[.string S, .int .i64 0] 54)) (w.heap.size + 1) S 0 := by
      have := heap_alloc_new (w.alloc (.cells #[.int .i64 0, .int .i64 0] 26)) (.cells #[.string S, .int .i64 ((0 : Nat) : Int)] 54)
      rw [show (w.alloc (.cells #[.int .i64 0, .int .i64 0] 26)).heap.size = w.heap.size + 1 from by simp] at this
      exact this
    refine (blank_c (w.heap.size + 1) S 0 _ hr0 (Nat.zero_le _) (by rw [HSZ.out]; exact hl)).mono ?_
    rintro e w1 ⟨rfl, p0, hp0, hp1, hr1, hd1, k1⟩
    have K1 := Lib.hid (kept_mix (((Kept.refl [] w).alloc (.cells #[.int .i64 0, .int .i64 0] 26)).alloc (.cells #[.string S, .int .i64 0] 54)) k1 (by simp))
    have HF1 := Lib.hid (show w1.heap[w.heap.size]? = some (.cells #[.int .i64 0, .int .i64 0] 26 (0, 0)) from k1.heap (((Kept.refl [] _).alloc _).heap (heap_alloc_new w _) (by simp)) (by simp))
    have HRD1 := Lib.hid hr1
    have HLEN := Lib.hid (show S.data.toList.length = S.size from rfl)
    have HD1 := Lib.hid (show blankB (S.data.toList.drop p0) = S.data.toList.drop p0 from by rw [hd1, blankB_idem])
    have HI1 := Lib.hid (show allB l = preTk [] (allP p0 (S.data.toList.drop p0)) from by
      rw [preTk_nil]
      show allP 0 l = _
      have hb2 := blankB_len l
      have hd2 := congrArg List.length hd1
      rw [List.drop_zero, HSL.out] at hd1 hd2
      rw [List.length_drop] at hd2
      rw [allP_skip 0 l, HSL.out, hd1]
      congr 1
      have := HSZ.out
      omega)
    clear hr0 hr1 hd1 k1 hp0 hconv
    rw [← HSZ.out] at g1
    go_wp2_with fail
    go_loopw [5] (fun lv wr => ∃ (xs : List Tk) (p : Nat) (a' : Option Addr) (c' : Nat), lv = .slice a' xs.length c' ∧ TkOwn wr a' c' xs ∧ (∀ b ∈ ft a', w.heap.size ≤ b) ∧ p ≤ S.size ∧ xs.length ≤ p ∧ RdS wr (w.heap.size + 1) S p ∧ Kept [] w wr ∧ wr.heap[w.heap.size]? = some (.cells #[.int .i64 0, .int .i64 0] 26 (0, 0)) ∧ blankB (S.data.toList.drop p) = S.data.toList.drop p ∧ allB l = preTk xs (allP p (S.data.toList.drop p))) (fun _ W => S.size - (intOf ((W.cell? ⟨w.heap.size + 1, 1, none⟩).getD (.int .i64 0))).toNat)
    case atStart => exact ⟨[], p0, none, 0, rfl, World.ownsRow_nil _ _ _ _, by simp [ft], hp1, Nat.zero_le _, HRD1.out, K1.out, HF1.out, HD1.out, HI1.out⟩
    case round =>
      obtain ⟨xs, p, a', c', rfl, how, hal, hp, hxp, hrr, kr, hfb, hbl, hinv⟩ := hrel
      have HOW := Lib.hid how
      have HAL := Lib.hid hal
      have HRR := Lib.hid hrr
      have KR := Lib.hid kr
      have HFB := Lib.hid hfb
      have HBL := Lib.hid hbl
      have HINV := Lib.hid hinv
      have c0 : wr.cell? ⟨w.heap.size + 1, 0, none⟩ = some (.string S) := blk_cell hrr 0
      have c1 : wr.cell? ⟨w.heap.size + 1, 1, none⟩ = some (.int .i64 (p : Int)) := blk_cell hrr 1
      clear how hal hrr kr hfb hbl hinv
      by_cases hlt : p < S.size
      · have HDR := Lib.hid (drop_head S p hlt)
        go_wp2_with fail
        go_quiet (fail)
        obtain ⟨wq, hwq⟩ : ∃ V, V = wr.drewN nq := ⟨_, rfl⟩
        have HKQ := Lib.hid (show Kept [] wr wq from hwq ▸ (Kept.refl [] wr).drewN nq)
        rw [← hwq]
        have q0 : wq.cell? ⟨w.heap.size + 1, 0, none⟩ = some (.string S) := HKQ.out.cell c0 (by simp)
        have q1 : wq.cell? ⟨w.heap.size + 1, 1, none⟩ = some (.int .i64 (p : Int)) := HKQ.out.cell c1 (by simp)
        clear hwq c0 c1 nq
        go_wp2_with fail
        go_quiet (fail)
        obtain ⟨wz, hwz⟩ : ∃ V, V = wq.drewN nq := ⟨_, rfl⟩
        have hkz : Kept [] wr wz := hwz ▸ HKQ.out.drewN nq
        rw [← hwz]
        have HRZ := Lib.hid (HRR.out.kept hkz (by simp))
        have KZ := Lib.hid (KR.out.trans hkz)
        have HFZ := Lib.hid (hkz.heap HFB.out (by simp))
        have HOZ := Lib.hid (HOW.out.kept0 hkz)
        clear hwz hkz q0 q1 HKQ nq
        have HDG := Lib.hid (fun W => (show Calls Tryd.prog 24 #[.int .u8 ((S[p]'hlt).toNat : Int)] W (QIs (dgB (S[p]'hlt)) W) from by
          have := digit_c (S[p]'hlt).toNat (UInt8.toNat_lt _) W
          rwa [UInt8.ofNat_toNat] at this))
        have HBG := Lib.hid (fun W => (show Calls Tryd.prog 26 #[.int .u8 ((S[p]'hlt).toNat : Int)] W (QIs (bgB (S[p]'hlt)) W) from by
          have := begins_c (S[p]'hlt).toNat (UInt8.toNat_lt _) W
          rwa [UInt8.ofNat_toNat] at this))
        obtain ⟨o, ho⟩ : ∃ o, o = oneB (S.data.toList.drop p) := ⟨_, rfl⟩
        have HO := Lib.hid ho
        have h3 : (dgB (S[p]'hlt) = true ∧ o = numB (S.data.toList.drop p)) ∨ (dgB (S[p]'hlt) = false ∧ bgB (S[p]'hlt) = true ∧ o = nameB (S.data.toList.drop p)) ∨ (dgB (S[p]'hlt) = false ∧ bgB (S[p]'hlt) = false ∧ o = signB (S.data.toList.drop p)) := by
          rw [ho, HDR.out, oneB_cons]
          cases dgB (S[p]'hlt) <;> cases bgB (S[p]'hlt) <;> simp
        have HNU := Lib.hid (fun (W : World) (hk : Kept [] wz W) (hd : dgB (S[p]'hlt) = true) => number_c (w.heap.size + 1) S p W (HL.out.kept0 (KZ.out.trans hk)) (HRZ.out.kept hk (by simp)) hlt (by omega) hd)
        have HNA := Lib.hid (fun (W : World) (hk : Kept [] wz W) => name_c (w.heap.size + 1) S p W (HL.out.kept0 (KZ.out.trans hk)) (HRZ.out.kept hk (by simp)) hp (by omega))
        have HSI := Lib.hid (fun (W : World) (hk : Kept [] wz W) => sign_c (w.heap.size + 1) S p W (HL.out.kept0 (KZ.out.trans hk)) (HRZ.out.kept hk (by simp)) hp (by omega))
        clear ho
        go_wp2_with fail
        refine (HDG.out _).mono ?_
        rintro e w2 ⟨rfl, hw2⟩
        have HK2 := Lib.hid (show Kept [] wz w2 from hw2 ▸ .refl _ _)
        clear hw2
        rcases h3 with ⟨h3, h4⟩ | ⟨h3, h4, h5⟩ | ⟨h3, h4, h5⟩
        · have HC := Lib.hid (show Calls Tryd.prog 25 #[.pointer (some ⟨w.heap.size + 1, 0, none⟩)] w2 (OnePost o w2) from h4 ▸ HNU.out w2 HK2.out h3)
          rw [h3]
          clear h3 h4
          go_wp2_with fail
          refine HC.out.mono ?_
          rintro e w3 ⟨⟨x, rfl, hx⟩, k3⟩
          have HK3 := Lib.hid (HK2.out.trans k3)
          clear k3
          have HRD3 := Lib.hid (HRZ.out.kept HK3.out (by simp))
          have HF3 := Lib.hid (HK3.out.heap HFZ.out (by simp))
          have HO3 := Lib.hid (HOZ.out.kept0 HK3.out)
          have c0 := blk_cell HRD3.out 0
          have c1 := blk_cell HRD3.out 1
          have fr1 := blk_free HRD3.out 1
          have d0 := blk_cell HF3.out 0
          have d1 := blk_cell HF3.out 1
          have f0 := blk_free HF3.out 0
          have f1 := blk_free HF3.out 1
          have hl3 := blk_lt HRD3.out
          have hl4 := blk_lt HF3.out
          simp only [List.getElem?_toArray, List.getElem?_cons_zero, List.getElem?_cons_succ] at c0 c1 d0 d1
          cases o with
          | none =>
            have HE := Lib.hid (show allR l = .error (20, p) from by
              rw [HR.out, HINV.out, allP_fail HBL.out (by rw [HDR.out]; simp) HO.out.symm]
              rfl)
            simp only [tkV, Option.isSome_none]
            clear hx
            go_wp2_with fail
            go_region
            go_wp2_with fail
            refine bodyPost_ret (v := .tuple #[.slice none 0 0, .agg #[.int .i64 20, .int .i64 (p : Int)]]) (by simp [results, Tryd.results9, go_sem, d0, d1, hl4]) rfl ?_
            rw [HE.out]
            exact ⟨((((KZ.out.trans HK3.out).setCell (.inr (Nat.le_refl _)) _).setCell (.inr (Nat.le_refl _)) _).alloc _).drew, rfl⟩
          | some y =>
            obtain rfl := hx y rfl
            have hxp1 := oneB_pos HO.out.symm
            have hxl : p + x.text.length ≤ S.size := by
              have h1 := oneB_len HO.out.symm
              rw [List.length_drop] at h1
              have h2 := HLEN.out
              omega
            have HE := Lib.hid (show allB l = preTk (xs ++ [{ x with at_ := p }]) (allP (p + x.text.length) (S.data.toList.drop (p + x.text.length))) from by
              rw [HINV.out, allP_step HBL.out HO.out.symm, preTk_snoc, List.drop_drop])
            simp only [tkV, Option.isSome_some]
            clear hx
            go_wp2_with fail
            go_region
            obtain ⟨w4, hw4⟩ : ∃ V, V = ((w3.setCell ⟨w.heap.size + 1, 1, none⟩ (.int .i64 ((p : Int) + (x.text.length : Int)))).alloc (.cells #[.int .i64 (x.kind : Int), .string ⟨x.text.toArray⟩, .int .i64 (p : Int), .int .u64 (x.n : Int), .bool x.ty.b, .bool x.ty.sg, .int .i64 x.ty.w] 37)).drew := ⟨_, rfl⟩
            rw [← hw4]
            have HK4 := Lib.hid (show Kept [w.heap.size + 1] w3 w4 from by
              rw [hw4]
              exact (((Kept.refl [w.heap.size + 1] w3).setCell (.inl (by simp)) _).alloc _).drew)
            have HR4 := Lib.hid (show RdS w4 (w.heap.size + 1) S (p + x.text.length) from by
              rw [hw4]
              exact ((Kept.refl [] _).alloc _).drew.heap (HRD3.out.set' (by go_num)) (by simp))
            have hx4 : w4.heap[w3.heap.size]? = some (.cells #[.int .i64 (x.kind : Int), .string ⟨x.text.toArray⟩, .int .i64 (p : Int), .int .u64 (x.n : Int), .bool x.ty.b, .bool x.ty.sg, .int .i64 x.ty.w] 37 (0, 0)) := by
              have h1 := heap_alloc_new (w3.setCell ⟨w.heap.size + 1, 1, none⟩ (.int .i64 ((p : Int) + (x.text.length : Int)))) (.cells #[.int .i64 (x.kind : Int), .string ⟨x.text.toArray⟩, .int .i64 (p : Int), .int .u64 (x.n : Int), .bool x.ty.b, .bool x.ty.sg, .int .i64 x.ty.w] 37)
              rw [show (w3.setCell ⟨w.heap.size + 1, 1, none⟩ (.int .i64 ((p : Int) + (x.text.length : Int)))).heap.size = w3.heap.size from by simp] at h1
              rw [hw4]
              exact h1
            have y0 := blk_cell hx4 0
            have y1 := blk_cell hx4 1
            have y2 := blk_cell hx4 2
            have y3 := blk_cell hx4 3
            have y4 := blk_cell hx4 4
            have y5 := blk_cell hx4 5
            have y6 := blk_cell hx4 6
            simp only [List.getElem?_toArray, List.getElem?_cons_zero, List.getElem?_cons_succ] at y0 y1 y2 y3 y4 y5 y6
            have HSP := Lib.hid (show w.heap.size ∉ ft a' ∧ w.heap.size + 1 ∉ ft a' from ⟨blk_apart HF3.out HO3.out (by decide), blk_apart HRD3.out HO3.out (by decide)⟩)
            have how := own_kept HO3.out HK4.out (fun b hb => by simp; rintro rfl; exact HSP.out.2 hb)
            have HF4 := Lib.hid (HK4.out.heap HF3.out (by simp))
            obtain ⟨nx, hnx⟩ : ∃ nx, nx = xs.length := ⟨_, rfl⟩
            have HNX := Lib.hid hnx
            rw [← hnx] at hxp how ⊢
            clear hnx hw4 hx4 c0 c1 fr1 d0 d1 f0 f1 hl3 hl4
            go_wp2_with (at_builtin; refine wpList_push2 (news := [.int .i64 (x.kind : Int), .string ⟨x.text.toArray⟩, .int .i64 (p : Int), .int .u64 (x.n : Int), .bool x.ty.b, .bool x.ty.sg, .int .i64 x.ty.w]) rfl rfl Tryd.underlying23 tk_info rfl (by omega) rfl rfl rfl how rfl (by simp [Value.oneCell']) (by unfold maxLen; omega) (by omega) rfl ?_; intro a5 c5 w5 hown5 hst5)
            have HK5 := Lib.hid (kept_mix (kept_mix (KZ.out.trans HK3.out) HK4.out (by simp)) hst5.kept (fun b hb => .inr (HAL.out b hb)))
            have HR5 := Lib.hid (hst5.kept.heap HR4.out HSP.out.2)
            have HF5 := Lib.hid (hst5.kept.heap HF4.out HSP.out.1)
            have HFR := Lib.hid (fun b (hb : b ∈ ft a5) => (show w.heap.size ≤ b from by
              rcases hst5.fresh b hb with h | h
              · exact HAL.out b h
              · have := ((KZ.out.trans HK3.out).size)
                have := HK4.out.size
                omega))
            have HOW5 := Lib.hid hown5
            clear hown5 hst5 how y0 y1 y2 y3 y4 y5 y6
            go_wp2_with fail
            refine (blank_c (w.heap.size + 1) S (p + x.text.length) w5 HR5.out hxl (by omega)).mono ?_
            rintro e w6 ⟨rfl, p2, hp2, hp3, hr6, hd6, k6⟩
            have HR6 := Lib.hid hr6
            have HD6 := Lib.hid hd6
            have HK6 := Lib.hid k6
            clear hr6 hd6 k6
            have hne5 : w.heap.size + 1 ∉ ft a5 := blk_apart HR5.out HOW5.out (by decide)
            have HNE5 := Lib.hid hne5
            clear hne5
            have HE2 := Lib.hid (show allB l = preTk (xs ++ [{ x with at_ := p }]) (allP p2 (S.data.toList.drop p2)) from by
              rw [HE.out, allP_skip (p + x.text.length), ← HD6.out]
              congr 2
              have h1 := congrArg List.length HD6.out
              rw [List.length_drop, List.length_drop, HLEN.out]
              omega)
            go_wp2_with fail
            go_roundw
            case rel =>
              refine ⟨xs ++ [{ x with at_ := p }], p2, a5, c5, by rw [List.length_append, ← HNX.out]; rfl, ?_, HFR.out, hp3, by rw [List.length_append, ← HNX.out]; simp; omega, HR6.out, kept_mix HK5.out HK6.out (by simp), HK6.out.heap HF5.out (by simp), by rw [HD6.out, blankB_idem], HE2.out⟩
              show World.ownsRow _ _ _ _ _ _ _
              rw [flat_tk, List.length_append, ← HNX.out]
              exact own_kept HOW5.out HK6.out (fun b hb => by simp; rintro rfl; exact HNE5.out hb)
            case measure =>
              have e1 := blk_cell HR6.out 1
              have e2 := blk_cell HRR.out 1
              rw [e1, e2]
              simp [intOf]
              omega
        · have HC := Lib.hid (show ∀ W, Kept [] wz W → Calls Tryd.prog 27 #[.pointer (some ⟨w.heap.size + 1, 0, none⟩)] W (OnePost o W) from fun W hW => h5 ▸ HNA.out W hW)
          rw [h3]
          have HB4 := Lib.hid h4
          clear h3 h4 h5
          go_wp2_with fail
          refine (HBG.out _).mono ?_
          rintro e w2' ⟨rfl, hw2'⟩
          have HK2' := Lib.hid (show Kept [] wz w2' from hw2' ▸ HK2.out)
          clear hw2'
          rw [HB4.out]
          go_wp2_with fail
          refine (HC.out _ HK2'.out).mono ?_
          rintro e w3 ⟨⟨x, rfl, hx⟩, k3⟩
          have HK3 := Lib.hid (HK2'.out.trans k3)
          clear k3
          have HRD3 := Lib.hid (HRZ.out.kept HK3.out (by simp))
          have HF3 := Lib.hid (HK3.out.heap HFZ.out (by simp))
          have HO3 := Lib.hid (HOZ.out.kept0 HK3.out)
          have c0 := blk_cell HRD3.out 0
          have c1 := blk_cell HRD3.out 1
          have fr1 := blk_free HRD3.out 1
          have d0 := blk_cell HF3.out 0
          have d1 := blk_cell HF3.out 1
          have f0 := blk_free HF3.out 0
          have f1 := blk_free HF3.out 1
          have hl3 := blk_lt HRD3.out
          have hl4 := blk_lt HF3.out
          simp only [List.getElem?_toArray, List.getElem?_cons_zero, List.getElem?_cons_succ] at c0 c1 d0 d1
          cases o with
          | none =>
            have HE := Lib.hid (show allR l = .error (20, p) from by
              rw [HR.out, HINV.out, allP_fail HBL.out (by rw [HDR.out]; simp) HO.out.symm]
              rfl)
            simp only [tkV, Option.isSome_none]
            clear hx
            go_wp2_with fail
            go_region
            go_wp2_with fail
            refine bodyPost_ret (v := .tuple #[.slice none 0 0, .agg #[.int .i64 20, .int .i64 (p : Int)]]) (by simp [results, Tryd.results9, go_sem, d0, d1, hl4]) rfl ?_
            rw [HE.out]
            exact ⟨((((KZ.out.trans HK3.out).setCell (.inr (Nat.le_refl _)) _).setCell (.inr (Nat.le_refl _)) _).alloc _).drew, rfl⟩
          | some y =>
            obtain rfl := hx y rfl
            have hxp1 := oneB_pos HO.out.symm
            have hxl : p + x.text.length ≤ S.size := by
              have h1 := oneB_len HO.out.symm
              rw [List.length_drop] at h1
              have h2 := HLEN.out
              omega
            have HE := Lib.hid (show allB l = preTk (xs ++ [{ x with at_ := p }]) (allP (p + x.text.length) (S.data.toList.drop (p + x.text.length))) from by
              rw [HINV.out, allP_step HBL.out HO.out.symm, preTk_snoc, List.drop_drop])
            simp only [tkV, Option.isSome_some]
            clear hx
            go_wp2_with fail
            go_region
            obtain ⟨w4, hw4⟩ : ∃ V, V = ((w3.setCell ⟨w.heap.size + 1, 1, none⟩ (.int .i64 ((p : Int) + (x.text.length : Int)))).alloc (.cells #[.int .i64 (x.kind : Int), .string ⟨x.text.toArray⟩, .int .i64 (p : Int), .int .u64 (x.n : Int), .bool x.ty.b, .bool x.ty.sg, .int .i64 x.ty.w] 37)).drew := ⟨_, rfl⟩
            rw [← hw4]
            have HK4 := Lib.hid (show Kept [w.heap.size + 1] w3 w4 from by
              rw [hw4]
              exact (((Kept.refl [w.heap.size + 1] w3).setCell (.inl (by simp)) _).alloc _).drew)
            have HR4 := Lib.hid (show RdS w4 (w.heap.size + 1) S (p + x.text.length) from by
              rw [hw4]
              exact ((Kept.refl [] _).alloc _).drew.heap (HRD3.out.set' (by go_num)) (by simp))
            have hx4 : w4.heap[w3.heap.size]? = some (.cells #[.int .i64 (x.kind : Int), .string ⟨x.text.toArray⟩, .int .i64 (p : Int), .int .u64 (x.n : Int), .bool x.ty.b, .bool x.ty.sg, .int .i64 x.ty.w] 37 (0, 0)) := by
              have h1 := heap_alloc_new (w3.setCell ⟨w.heap.size + 1, 1, none⟩ (.int .i64 ((p : Int) + (x.text.length : Int)))) (.cells #[.int .i64 (x.kind : Int), .string ⟨x.text.toArray⟩, .int .i64 (p : Int), .int .u64 (x.n : Int), .bool x.ty.b, .bool x.ty.sg, .int .i64 x.ty.w] 37)
              rw [show (w3.setCell ⟨w.heap.size + 1, 1, none⟩ (.int .i64 ((p : Int) + (x.text.length : Int)))).heap.size = w3.heap.size from by simp] at h1
              rw [hw4]
              exact h1
            have y0 := blk_cell hx4 0
            have y1 := blk_cell hx4 1
            have y2 := blk_cell hx4 2
            have y3 := blk_cell hx4 3
            have y4 := blk_cell hx4 4
            have y5 := blk_cell hx4 5
            have y6 := blk_cell hx4 6
            simp only [List.getElem?_toArray, List.getElem?_cons_zero, List.getElem?_cons_succ] at y0 y1 y2 y3 y4 y5 y6
            have HSP := Lib.hid (show w.heap.size ∉ ft a' ∧ w.heap.size + 1 ∉ ft a' from ⟨blk_apart HF3.out HO3.out (by decide), blk_apart HRD3.out HO3.out (by decide)⟩)
            have how := own_kept HO3.out HK4.out (fun b hb => by simp; rintro rfl; exact HSP.out.2 hb)
            have HF4 := Lib.hid (HK4.out.heap HF3.out (by simp))
            obtain ⟨nx, hnx⟩ : ∃ nx, nx = xs.length := ⟨_, rfl⟩
            have HNX := Lib.hid hnx
            rw [← hnx] at hxp how ⊢
            clear hnx hw4 hx4 c0 c1 fr1 d0 d1 f0 f1 hl3 hl4
            go_wp2_with (at_builtin; refine wpList_push2 (news := [.int .i64 (x.kind : Int), .string ⟨x.text.toArray⟩, .int .i64 (p : Int), .int .u64 (x.n : Int), .bool x.ty.b, .bool x.ty.sg, .int .i64 x.ty.w]) rfl rfl Tryd.underlying23 tk_info rfl (by omega) rfl rfl rfl how rfl (by simp [Value.oneCell']) (by unfold maxLen; omega) (by omega) rfl ?_; intro a5 c5 w5 hown5 hst5)
            have HK5 := Lib.hid (kept_mix (kept_mix (KZ.out.trans HK3.out) HK4.out (by simp)) hst5.kept (fun b hb => .inr (HAL.out b hb)))
            have HR5 := Lib.hid (hst5.kept.heap HR4.out HSP.out.2)
            have HF5 := Lib.hid (hst5.kept.heap HF4.out HSP.out.1)
            have HFR := Lib.hid (fun b (hb : b ∈ ft a5) => (show w.heap.size ≤ b from by
              rcases hst5.fresh b hb with h | h
              · exact HAL.out b h
              · have := ((KZ.out.trans HK3.out).size)
                have := HK4.out.size
                omega))
            have HOW5 := Lib.hid hown5
            clear hown5 hst5 how y0 y1 y2 y3 y4 y5 y6
            go_wp2_with fail
            refine (blank_c (w.heap.size + 1) S (p + x.text.length) w5 HR5.out hxl (by omega)).mono ?_
            rintro e w6 ⟨rfl, p2, hp2, hp3, hr6, hd6, k6⟩
            have HR6 := Lib.hid hr6
            have HD6 := Lib.hid hd6
            have HK6 := Lib.hid k6
            clear hr6 hd6 k6
            have hne5 : w.heap.size + 1 ∉ ft a5 := blk_apart HR5.out HOW5.out (by decide)
            have HNE5 := Lib.hid hne5
            clear hne5
            have HE2 := Lib.hid (show allB l = preTk (xs ++ [{ x with at_ := p }]) (allP p2 (S.data.toList.drop p2)) from by
              rw [HE.out, allP_skip (p + x.text.length), ← HD6.out]
              congr 2
              have h1 := congrArg List.length HD6.out
              rw [List.length_drop, List.length_drop, HLEN.out]
              omega)
            go_wp2_with fail
            go_roundw
            case rel =>
              refine ⟨xs ++ [{ x with at_ := p }], p2, a5, c5, by rw [List.length_append, ← HNX.out]; rfl, ?_, HFR.out, hp3, by rw [List.length_append, ← HNX.out]; simp; omega, HR6.out, kept_mix HK5.out HK6.out (by simp), HK6.out.heap HF5.out (by simp), by rw [HD6.out, blankB_idem], HE2.out⟩
              show World.ownsRow _ _ _ _ _ _ _
              rw [flat_tk, List.length_append, ← HNX.out]
              exact own_kept HOW5.out HK6.out (fun b hb => by simp; rintro rfl; exact HNE5.out hb)
            case measure =>
              have e1 := blk_cell HR6.out 1
              have e2 := blk_cell HRR.out 1
              rw [e1, e2]
              simp [intOf]
              omega
        · have HC := Lib.hid (show ∀ W, Kept [] wz W → Calls Tryd.prog 23 #[.pointer (some ⟨w.heap.size + 1, 0, none⟩)] W (OnePost o W) from fun W hW => h5 ▸ HSI.out W hW)
          rw [h3]
          have HB4 := Lib.hid h4
          clear h3 h4 h5
          go_wp2_with fail
          refine (HBG.out _).mono ?_
          rintro e w2' ⟨rfl, hw2'⟩
          have HK2' := Lib.hid (show Kept [] wz w2' from hw2' ▸ HK2.out)
          clear hw2'
          rw [HB4.out]
          go_wp2_with fail
          refine (HC.out _ HK2'.out).mono ?_
          rintro e w3 ⟨⟨x, rfl, hx⟩, k3⟩
          have HK3 := Lib.hid (HK2'.out.trans k3)
          clear k3
          have HRD3 := Lib.hid (HRZ.out.kept HK3.out (by simp))
          have HF3 := Lib.hid (HK3.out.heap HFZ.out (by simp))
          have HO3 := Lib.hid (HOZ.out.kept0 HK3.out)
          have c0 := blk_cell HRD3.out 0
          have c1 := blk_cell HRD3.out 1
          have fr1 := blk_free HRD3.out 1
          have d0 := blk_cell HF3.out 0
          have d1 := blk_cell HF3.out 1
          have f0 := blk_free HF3.out 0
          have f1 := blk_free HF3.out 1
          have hl3 := blk_lt HRD3.out
          have hl4 := blk_lt HF3.out
          simp only [List.getElem?_toArray, List.getElem?_cons_zero, List.getElem?_cons_succ] at c0 c1 d0 d1
          cases o with
          | none =>
            have HE := Lib.hid (show allR l = .error (20, p) from by
              rw [HR.out, HINV.out, allP_fail HBL.out (by rw [HDR.out]; simp) HO.out.symm]
              rfl)
            simp only [tkV, Option.isSome_none]
            clear hx
            go_wp2_with fail
            go_region
            go_wp2_with fail
            refine bodyPost_ret (v := .tuple #[.slice none 0 0, .agg #[.int .i64 20, .int .i64 (p : Int)]]) (by simp [results, Tryd.results9, go_sem, d0, d1, hl4]) rfl ?_
            rw [HE.out]
            exact ⟨((((KZ.out.trans HK3.out).setCell (.inr (Nat.le_refl _)) _).setCell (.inr (Nat.le_refl _)) _).alloc _).drew, rfl⟩
          | some y =>
            obtain rfl := hx y rfl
            have hxp1 := oneB_pos HO.out.symm
            have hxl : p + x.text.length ≤ S.size := by
              have h1 := oneB_len HO.out.symm
              rw [List.length_drop] at h1
              have h2 := HLEN.out
              omega
            have HE := Lib.hid (show allB l = preTk (xs ++ [{ x with at_ := p }]) (allP (p + x.text.length) (S.data.toList.drop (p + x.text.length))) from by
              rw [HINV.out, allP_step HBL.out HO.out.symm, preTk_snoc, List.drop_drop])
            simp only [tkV, Option.isSome_some]
            clear hx
            go_wp2_with fail
            go_region
            obtain ⟨w4, hw4⟩ : ∃ V, V = ((w3.setCell ⟨w.heap.size + 1, 1, none⟩ (.int .i64 ((p : Int) + (x.text.length : Int)))).alloc (.cells #[.int .i64 (x.kind : Int), .string ⟨x.text.toArray⟩, .int .i64 (p : Int), .int .u64 (x.n : Int), .bool x.ty.b, .bool x.ty.sg, .int .i64 x.ty.w] 37)).drew := ⟨_, rfl⟩
            rw [← hw4]
            have HK4 := Lib.hid (show Kept [w.heap.size + 1] w3 w4 from by
              rw [hw4]
              exact (((Kept.refl [w.heap.size + 1] w3).setCell (.inl (by simp)) _).alloc _).drew)
            have HR4 := Lib.hid (show RdS w4 (w.heap.size + 1) S (p + x.text.length) from by
              rw [hw4]
              exact ((Kept.refl [] _).alloc _).drew.heap (HRD3.out.set' (by go_num)) (by simp))
            have hx4 : w4.heap[w3.heap.size]? = some (.cells #[.int .i64 (x.kind : Int), .string ⟨x.text.toArray⟩, .int .i64 (p : Int), .int .u64 (x.n : Int), .bool x.ty.b, .bool x.ty.sg, .int .i64 x.ty.w] 37 (0, 0)) := by
              have h1 := heap_alloc_new (w3.setCell ⟨w.heap.size + 1, 1, none⟩ (.int .i64 ((p : Int) + (x.text.length : Int)))) (.cells #[.int .i64 (x.kind : Int), .string ⟨x.text.toArray⟩, .int .i64 (p : Int), .int .u64 (x.n : Int), .bool x.ty.b, .bool x.ty.sg, .int .i64 x.ty.w] 37)
              rw [show (w3.setCell ⟨w.heap.size + 1, 1, none⟩ (.int .i64 ((p : Int) + (x.text.length : Int)))).heap.size = w3.heap.size from by simp] at h1
              rw [hw4]
              exact h1
            have y0 := blk_cell hx4 0
            have y1 := blk_cell hx4 1
            have y2 := blk_cell hx4 2
            have y3 := blk_cell hx4 3
            have y4 := blk_cell hx4 4
            have y5 := blk_cell hx4 5
            have y6 := blk_cell hx4 6
            simp only [List.getElem?_toArray, List.getElem?_cons_zero, List.getElem?_cons_succ] at y0 y1 y2 y3 y4 y5 y6
            have HSP := Lib.hid (show w.heap.size ∉ ft a' ∧ w.heap.size + 1 ∉ ft a' from ⟨blk_apart HF3.out HO3.out (by decide), blk_apart HRD3.out HO3.out (by decide)⟩)
            have how := own_kept HO3.out HK4.out (fun b hb => by simp; rintro rfl; exact HSP.out.2 hb)
            have HF4 := Lib.hid (HK4.out.heap HF3.out (by simp))
            obtain ⟨nx, hnx⟩ : ∃ nx, nx = xs.length := ⟨_, rfl⟩
            have HNX := Lib.hid hnx
            rw [← hnx] at hxp how ⊢
            clear hnx hw4 hx4 c0 c1 fr1 d0 d1 f0 f1 hl3 hl4
            go_wp2_with (at_builtin; refine wpList_push2 (news := [.int .i64 (x.kind : Int), .string ⟨x.text.toArray⟩, .int .i64 (p : Int), .int .u64 (x.n : Int), .bool x.ty.b, .bool x.ty.sg, .int .i64 x.ty.w]) rfl rfl Tryd.underlying23 tk_info rfl (by omega) rfl rfl rfl how rfl (by simp [Value.oneCell']) (by unfold maxLen; omega) (by omega) rfl ?_; intro a5 c5 w5 hown5 hst5)
            have HK5 := Lib.hid (kept_mix (kept_mix (KZ.out.trans HK3.out) HK4.out (by simp)) hst5.kept (fun b hb => .inr (HAL.out b hb)))
            have HR5 := Lib.hid (hst5.kept.heap HR4.out HSP.out.2)
            have HF5 := Lib.hid (hst5.kept.heap HF4.out HSP.out.1)
            have HFR := Lib.hid (fun b (hb : b ∈ ft a5) => (show w.heap.size ≤ b from by
              rcases hst5.fresh b hb with h | h
              · exact HAL.out b h
              · have := ((KZ.out.trans HK3.out).size)
                have := HK4.out.size
                omega))
            have HOW5 := Lib.hid hown5
            clear hown5 hst5 how y0 y1 y2 y3 y4 y5 y6
            go_wp2_with fail
            refine (blank_c (w.heap.size + 1) S (p + x.text.length) w5 HR5.out hxl (by omega)).mono ?_
            rintro e w6 ⟨rfl, p2, hp2, hp3, hr6, hd6, k6⟩
            have HR6 := Lib.hid hr6
            have HD6 := Lib.hid hd6
            have HK6 := Lib.hid k6
            clear hr6 hd6 k6
            have hne5 : w.heap.size + 1 ∉ ft a5 := blk_apart HR5.out HOW5.out (by decide)
            have HNE5 := Lib.hid hne5
            clear hne5
            have HE2 := Lib.hid (show allB l = preTk (xs ++ [{ x with at_ := p }]) (allP p2 (S.data.toList.drop p2)) from by
              rw [HE.out, allP_skip (p + x.text.length), ← HD6.out]
              congr 2
              have h1 := congrArg List.length HD6.out
              rw [List.length_drop, List.length_drop, HLEN.out]
              omega)
            go_wp2_with fail
            go_roundw
            case rel =>
              refine ⟨xs ++ [{ x with at_ := p }], p2, a5, c5, by rw [List.length_append, ← HNX.out]; rfl, ?_, HFR.out, hp3, by rw [List.length_append, ← HNX.out]; simp; omega, HR6.out, kept_mix HK5.out HK6.out (by simp), HK6.out.heap HF5.out (by simp), by rw [HD6.out, blankB_idem], HE2.out⟩
              show World.ownsRow _ _ _ _ _ _ _
              rw [flat_tk, List.length_append, ← HNX.out]
              exact own_kept HOW5.out HK6.out (fun b hb => by simp; rintro rfl; exact HNE5.out hb)
            case measure =>
              have e1 := blk_cell HR6.out 1
              have e2 := blk_cell HRR.out 1
              rw [e1, e2]
              simp [intOf]
              omega
      · obtain rfl : p = S.size := by omega
        have HEND := Lib.hid (show allB l = .ok (xs ++ [endTk S.size]) from by
          rw [HINV.out]
          have h0 : S.data.toList.drop S.size = [] := List.drop_eq_nil_of_le (Nat.le_refl _)
          rw [h0, allP_end]; rfl)
        have HSP := Lib.hid (show w.heap.size ∉ ft a' ∧ w.heap.size + 1 ∉ ft a' from ⟨blk_apart HFB.out HOW.out (by decide), blk_apart HRR.out HOW.out (by decide)⟩)
        obtain ⟨nx, hnx⟩ : ∃ nx, nx = xs.length := ⟨_, rfl⟩
        have how : wr.ownsRow 0 37 7 (.slice a' nx c') nx (xs.flatMap tkCells) := by rw [hnx]; exact HOW.out
        have HNX := Lib.hid hnx
        rw [← hnx] at hxp ⊢
        clear hnx
        go_wp2_with fail
        go_quiet (fail)
        obtain ⟨wq, hwq⟩ : ∃ V, V = wr.drewN nq := ⟨_, rfl⟩
        have HKQ := Lib.hid (show Kept [] wr wq from hwq ▸ (Kept.refl [] wr).drewN nq)
        rw [← hwq]
        have q0 : wq.cell? ⟨w.heap.size + 1, 0, none⟩ = some (.string S) := HKQ.out.cell c0 (by simp)
        have q1 : wq.cell? ⟨w.heap.size + 1, 1, none⟩ = some (.int .i64 (S.size : Int)) := HKQ.out.cell c1 (by simp)
        have hlq := blk_lt (HKQ.out.heap HRR.out (by simp))
        have HFQ := Lib.hid (HKQ.out.heap HFB.out (by simp))
        have how := own_kept how HKQ.out (by simp)
        clear hwq c0 c1
        go_wp2_with (at_builtin; refine wpList_push2 (news := [.int .i64 7, .string ⟨#[]⟩, .int .i64 (S.size : Int), .int .u64 0, .bool false, .bool false, .int .i64 0]) rfl rfl Tryd.underlying23 tk_info rfl (by omega) rfl rfl rfl how rfl (by simp [Value.oneCell']) (by unfold maxLen; omega) (by omega) rfl ?_; intro a5 c5 w5 hown5 hst5; have hf5 := hst5.kept.heap (b := w.heap.size) HFQ.out HSP.out.1; have d0 := blk_cell hf5 0; have d1 := blk_cell hf5 1; have f0 := blk_free hf5 0; have f1 := blk_free hf5 1; have hlf := blk_lt hf5; simp only [List.getElem?_toArray, List.getElem?_cons_zero, List.getElem?_cons_succ] at d0 d1)
        refine bodyPost_ret (v := .tuple #[.slice a5 (nx + 1) c5, .agg #[.int .i64 0, .int .i64 0]]) (by simp [results, Tryd.results9, go_sem, d0, d1, hlf]) rfl ?_
        have HE := Lib.hid (show allR l = .ok (xs ++ [endTk S.size]) from by rw [HR.out, HEND.out])
        rw [HE.out]
        have hk5 := kept_mix (KR.out.trans HKQ.out) hst5.kept (fun b hb => .inr (HAL.out b hb))
        refine ⟨(hk5.setCell (.inr (Nat.le_refl _)) _).setCell (.inr (Nat.le_refl _)) _, a5, c5, ?_, ?_, fun b hb => ?_⟩
        · rw [List.length_append, ← HNX.out]; rfl
        · show World.ownsRow _ _ _ _ _ _ _
          rw [flat_tk, List.length_append, ← HNX.out]
          have hne : w.heap.size ∉ ft a5 := blk_apart hf5 hown5 (by decide)
          exact own_kept hown5 (((Kept.refl [w.heap.size] w5).setCell (.inl (by simp)) _).setCell (.inl (by simp)) _) (fun b hb => by simp; rintro rfl; exact hne hb)
        · rcases hst5.fresh b hb with h | h
          · exact HAL.out b h
          · have := (KR.out.trans HKQ.out).size
            omega
end Go.Proofs.YtjnjldbegngooaaDoor
