/-
  Law 08: given, same.
-/
import Derived.Test.YtielfgngdhcpfaaGreatP34
import Derived.BigQuiet
namespace Go.Proofs.YtielfgngdhcpfaaGreat
open Go.ChangeShapes Go.WideShapes Go.ChangeAt Go.RowKit
open Go.Maps (Keyed)
open Go.WideMaps
set_option linter.unusedVariables false
set_option linter.unusedSimpArgs false

variable {w w' : World} {s p n : Nat} {F R S : List Nat} {g : Gr} {N : Nt} {σ : Sm}
def givenRow (l : List Nat) (at' n : Nat) : List Nat := (List.range n).map fun i => l.getD (at' + i) 0
theorem givenRow_succ (l : List Nat) (at' n : Nat) : givenRow l at' (n + 1) = givenRow l at' n ++ [l.getD (at' + n) 0] := by simp [givenRow, List.range_succ]
theorem givenRow_length (l : List Nat) (at' n : Nat) : (givenRow l at' n).length = n := by simp [givenRow]
def givenTo (b : List Bus) (l : List Nat) (k : Nat) : List (List Nat) := (List.range k).map fun j => givenRow l (offB b j) ((b[j]?).map (·.lits.length) |>.getD 0)
theorem givenTo_succ {b : List Bus} (l : List Nat) {k : Nat} {x : Bus} (h : b[k]? = some x) : givenTo b l (k + 1) = givenTo b l k ++ [givenRow l (offB b k) x.lits.length] := by simp [givenTo, List.range_succ, h]
def givenN (b : List Bus) (l : List Nat) (more : Nat) : List (List Nat) := givenTo b l b.length ++ List.replicate more [1]
theorem givenTo_lens (b : List Bus) (l : List Nat) (k : Nat) (h : k ≤ b.length) : (givenTo b l k).map List.length = (b.take k).map (·.lits.length) := by
  induction k with
  | zero => simp [givenTo]
  | succ k ih =>
    have hk : k < b.length := by omega
    rw [givenTo_succ l (List.getElem?_eq_getElem hk), List.map_append, ih (by omega), List.take_add_one, List.map_append, List.getElem?_eq_getElem hk]
    simp [givenRow_length]
theorem given_fits (b : List Bus) (l : List Nat) : fitB b (givenN b l 0) = true := by
  unfold fitB givenN
  rw [decide_eq_true_eq]
  simp only [List.replicate_zero, List.append_nil]
  rw [givenTo_lens b l b.length (Nat.le_refl _), List.take_length]
theorem given_not (b : List Bus) (l : List Nat) : fitB b (givenN b l 1) = false := by
  cases h : fitB b (givenN b l 1) with
  | false => rfl
  | true =>
    have := fitB_len h
    have h2 := congrArg List.length (givenTo_lens b l b.length (Nat.le_refl _))
    simp [givenN] at this h2
    omega
theorem givenTo_words {b : List Bus} {l : List Nat} (hl : Words l) (k : Nat) : ∀ r ∈ givenTo b l k, Words r := by
  intro r hr x hx
  obtain ⟨j, _, rfl⟩ := List.mem_map.1 hr
  obtain ⟨i, _, rfl⟩ := List.mem_map.1 hx
  exact words_getD hl _
theorem given_words {b : List Bus} {l : List Nat} (hl : Words l) (more : Nat) : ∀ r ∈ givenN b l more, Words r := by
  intro r hr
  rcases List.mem_append.1 hr with hr | hr
  · exact givenTo_words hl _ r hr
  · rw [(List.mem_replicate.1 hr).2]
    intro x hx
    rw [List.mem_singleton.1 hx]
    omega
theorem su64_info' : (Tryz.prog.info? 35).map (fun i => (i.zero, i.size, i.bytes)) = some (some (.slice none 0 0), 1, 24) := by kernel_rfl
theorem own_fresh (w : World) (e : TypeId) (K : IntKind) (l : List Nat) (h : l.length ≤ maxLen) : Own (w.alloc (.cells (nats K l).toArray e)) e (some ⟨w.heap.size, 0, none⟩) l.length l.length (nats K l) :=
  ⟨by simp [nats], .inr ⟨w.heap.size, l.length, _, rfl, Nat.zero_le _, heap_alloc_new w _, Nat.le_refl _, h, by simp [nats], List.take_of_length_le (by simp [nats])⟩⟩
/-- rows of words, new -/
def NewRows (rows : List (List Nat)) (w : World) (e : Ending) (w' : World) : Prop :=
  ∃ a n c rs, e = .returned (.slice a n c) ∧ WRows w' a n c rs ∧ rs.map (·.l) = rows ∧ Kept [] w w' ∧ ∀ b ∈ ft a ++ wrBlocks rs, w.heap.size ≤ b
set_option maxHeartbeats 3200000 in
set_option maxRecDepth 100000 in
theorem given_c {NF NR : List Nat} (h : NetAt w n NF NR N) (hi : N.inb.length ≤ 10000) (hil : ∀ b ∈ N.inb, b.lits.length ≤ 1000) (la : Option Addr) (lc ll : Nat) (l : List Nat) (hl : l.length = ll) (hlm : ll ≤ 140737488351232) (hs : SlN w .u64 la l) (more : Nat) (hmore : more ≤ 10) :
    Calls Tryz.prog 11 #[.pointer (some ⟨n, 0, none⟩), .slice la ll lc, .int .i64 (more : Int)] w (NewRows (givenN N.inb l more) w) := by
  obtain ⟨p, G, ia, ic, xa, xc, oa, oc, ri, ro, rfl, rfl, hn⟩ := h
  have HIB := Lib.hid hn.ib
  have n2 := hn.c2
  obtain ⟨nI, hnI⟩ : ∃ k, k = N.inb.length := ⟨_, rfl⟩
  have HNI := Lib.hid hnI
  rw [← hnI] at n2 hi
  have HIL := Lib.hid hil
  have HL := Lib.hid hl
  have HS := Lib.hid hs
  have HGN := Lib.hid (show givenN N.inb l more = givenTo N.inb l nI ++ List.replicate more [1] from by unfold givenN; rw [hnI])
  clear hn hnI hil hl hs
  go_enter Tryz.func11, Tryz.ntmps11
  go_wp2_with fail
  go_loopw [7, 8, 19] (fun v t i w' => ∃ (k : Nat) (a' : Option Addr) (c' : Nat) (rs' : List WR), k ≤ nI ∧ i = .int .i64 k ∧ t = .int .i64 (offB N.inb k : Nat) ∧ offB N.inb k ≤ 1000 * k ∧ v = .slice a' k c' ∧ WRows w' a' k c' rs' ∧ rs'.map (·.l) = givenTo N.inb l k ∧ Kept [] w w' ∧ (∀ b ∈ ft a', w.heap.size ≤ b) ∧ ∀ b ∈ wrBlocks rs', w.heap.size ≤ b ∧ b ∉ ft a') (fun _ _ i _ => nI - (intOf i).toNat)
  case atStart => exact ⟨0, none, 0, [], Nat.zero_le _, rfl, rfl, by simp [offB], rfl, WRows.nil _, by simp [givenTo], .refl _ _, by simp [ft], by simp [wrBlocks]⟩
  case round =>
    obtain ⟨d, a', c', rs', hd, rfl, rfl, hoff, rfl, hwr, hmp, hkz, hfa, hfb⟩ := hrel
    have HWR := Lib.hid hwr
    have HMP := Lib.hid hmp
    have KZ := Lib.hid hkz
    have HFA' := Lib.hid hfa
    have HFB' := Lib.hid hfb
    clear hwr hmp hkz hfa hfb n2
    obtain ⟨wA, rfl⟩ : ∃ v : World, v = wr := ⟨_, rfl⟩
    by_cases hlt4 : d < nI
    · have hkb : d < N.inb.length := by rw [← HNI.out]; exact hlt4
      have hkr1 : d < ri.length := by
        have h2 : ri.length = N.inb.length := by rw [← HIB.out.is]; simp
        omega
      obtain ⟨bb, rfl, b0, b1⟩ := ((HIB.out.kept KZ.out (by simp) (by simp)).slb) d hkr1
      have hrib : N.inb[d]? = some ri[d].b := by
        have h1 : (ri.map (·.b))[d]? = some ri[d].b := by rw [List.getElem?_map, List.getElem?_eq_getElem hkr1]; rfl
        rw [HIB.out.is] at h1
        exact h1
      have hl64 := HIL.out _ (List.mem_of_getElem? hrib)
      have HGT := Lib.hid (givenTo_succ l hrib)
      have HOS := Lib.hid (offB_succ hrib)
      clear hrib
      generalize ri[d].b.name = nm at *
      generalize ri[d].a = ba at *
      generalize ri[d].c = bc at *
      obtain ⟨ln, hln⟩ : ∃ k, k = ri[d].b.lits.length := ⟨_, rfl⟩
      rw [← hln] at b1 hl64 HGT HOS
      clear hln
      have HOFD := Lib.hid hoff
      generalize offB N.inb d = of at *
      go_wp2_with fail
      obtain ⟨wB, hwB⟩ : ∃ W, W = wA.alloc (.cells #[.string nm, .slice ba ln bc] 47) := ⟨_, rfl⟩
      rw [← hwB]
      have KB := Lib.hid (show Kept [] wA wB from by rw [hwB]; exact (Kept.refl [] wA).alloc _)
      clear hwB b0 b1
      go_loopw [8, 11, 26] (fun t v i w' => ∃ (j : Nat) (a5 : Option Addr) (c5 : Nat), j ≤ ln ∧ i = .int .i64 j ∧ t = .int .i64 ((of : Int) + (j : Int)) ∧ v = .slice a5 j c5 ∧ Own w' 34 a5 j c5 (nats .u64 (givenRow l of j)) ∧ Stepped wB w' [] (ft a5)) (fun _ _ i _ => ln - (intOf i).toNat)
      case atStart => exact ⟨0, none, 0, Nat.zero_le _, rfl, by simp, rfl, Own.nil _ _, .refl _ _⟩
      case round =>
        obtain ⟨j, a5, c5, hj, rfl, rfl, rfl, ho5, hst5⟩ := hrel
        have HO5 := Lib.hid ho5
        have HST5 := Lib.hid hst5
        clear ho5 hst5
        have hof : of ≤ 10000000 := by have := HOFD.out; omega
        have hw1 : IntKind.i64.wrap ((of : Int) + (j : Int) + 1) = (of : Int) + (j : Int) + 1 := IntWalk.i64_in _ (by omega)
        have HGS := Lib.hid (givenRow_succ l of j)
        by_cases hlt5 : j < ln
        · by_cases hin : of + j < ll
          · have hkl : of + j < l.length := by rw [HL.out]; exact hin
            obtain ⟨ad, rfl, hcx⟩ := ((HS.out.kept0 KZ.out).kept0 KB.out).kept0 HST5.out.kept (of + j) hkl
            have hin' : (of : Int) + (j : Int) < (ll : Int) := by omega
            have h0 : (0 : Int) ≤ (of : Int) + (j : Int) := by omega
            have hix : ((of : Int) + (j : Int)).toNat = of + j := by omega
            have HGV := Lib.hid (show l.getD (of + j) 0 = l[of + j] from by simp [List.getD_eq_getElem?_getD, List.getElem?_eq_getElem hkl])
            generalize l[of + j] = x at *
            have hown := HO5.out
            go_wp2_with (at_builtin; refine wpList_push rfl rfl Tryz.underlying35 u64_info rfl rfl rfl hown rfl (by unfold maxLen; omega) (by omega) ?_; intro a6 c6 w6 hown6 hst6)
            go_roundw
            case rel => exact ⟨j + 1, a6, c6, by omega, by go_num, by go_num, rfl, by rw [HGS.out, HGV.out, ← nats_append]; exact hown6, HST5.out.trans hst6⟩
            case measure => simp [intOf]; omega
          · have hin' : ¬ (of : Int) + (j : Int) < (ll : Int) := by omega
            have HGV := Lib.hid (show l.getD (of + j) 0 = 0 from by rw [List.getD_eq_getElem?_getD, List.getElem?_eq_none (by rw [HL.out]; omega)]; rfl)
            have hown := HO5.out
            go_wp2_with (at_builtin; refine wpList_push rfl rfl Tryz.underlying35 u64_info rfl rfl rfl hown rfl (by unfold maxLen; omega) (by omega) ?_; intro a6 c6 w6 hown6 hst6)
            go_roundw
            case rel => exact ⟨j + 1, a6, c6, by omega, by go_num, by go_num, rfl, by rw [HGS.out, HGV.out, ← nats_append]; exact hown6, HST5.out.trans hst6⟩
            case measure => simp [intOf]; omega
        · obtain rfl : j = ln := by omega
          have K5 := Lib.hid (KB.out.trans HST5.out.kept)
          have FR5 := Lib.hid (show ∀ b ∈ ft a5, wA.heap.size ≤ b from fun b hb => (HST5.out.fresh b hb).elim (by simp) (fun h => Nat.le_trans KB.out.size h))
          have hown10 := HWR.out.own.kept0 K5.out
          have hlen5 := givenRow_length l of j
          have HL5 := Lib.hid hlen5
          clear hlen5
          go_wp2_with (at_builtin; refine wpList_push rfl rfl Tryz.underlying25 su64_info' rfl rfl rfl hown10 rfl (by unfold maxLen; omega) (by omega) ?_; intro a1 c1 w11 hown11 hst11)
          have HSN := Lib.hid (WRows.snoc (w0 := wA) (r := ⟨givenRow l of j, a5, c5⟩) HWR.out K5.out (by show Own _ _ _ _ _ (wrCells rs' ++ [.slice a5 (givenRow l of j).length c5]); rw [HL5.out]; exact hown11) hst11 HO5.out.sln (fun b hb => ⟨HO5.out.lt b hb, fun hx => by have h1 := HWR.out.lt.1 b hx; have h2 := FR5.out b hb; omega⟩) (fun b hb => (HFB'.out b hb).2))
          have K11 := Lib.hid (show Kept [] w w11 from kept_up (KZ.out.trans K5.out) hst11.kept HFA'.out)
          have FA11 := Lib.hid (show ∀ b ∈ ft a1, w.heap.size ≤ b from fun b hb => (hst11.fresh b hb).elim (HFA'.out b) (fun h => Nat.le_trans (KZ.out.trans K5.out).size h))
          have FB11 := Lib.hid (show ∀ b ∈ wrBlocks (rs' ++ [⟨givenRow l of j, a5, c5⟩]), w.heap.size ≤ b from fun b hb => by
            obtain ⟨r, hr, hb⟩ := mem_wrBlocks.1 hb
            rcases List.mem_append.1 hr with hr | hr
            · exact (HFB'.out b (mem_wrBlocks.2 ⟨r, hr, hb⟩)).1
            · rw [List.mem_singleton] at hr
              subst hr
              have h1 := FR5.out b hb
              have h2 := KZ.out.size
              omega)
          clear hown11 hst11 hown10
          go_roundw
          case rel => exact ⟨d + 1, a1, c1, rs' ++ [⟨givenRow l of j, a5, c5⟩], by omega, by go_num, by rw [HOS.out]; go_num, by have := HOS.out; have := HOFD.out; omega, rfl, HSN.out.1, by rw [List.map_append, HMP.out, HGT.out]; rfl, K11.out, FA11.out, fun b hb => ⟨FB11.out b hb, HSN.out.2 b hb⟩⟩
          case measure => simp [intOf]; omega
    · obtain rfl : d = nI := by omega
      go_wp2_with fail
      go_loopw [7, 13] (fun v i w' => ∃ (t : Nat) (a' : Option Addr) (c' : Nat) (rs' : List WR), t ≤ more ∧ i = .int .i64 t ∧ v = .slice a' (d + t) c' ∧ WRows w' a' (d + t) c' rs' ∧ rs'.map (·.l) = givenTo N.inb l d ++ List.replicate t [1] ∧ Kept [] w w' ∧ (∀ b ∈ ft a', w.heap.size ≤ b) ∧ ∀ b ∈ wrBlocks rs', w.heap.size ≤ b ∧ b ∉ ft a') (fun _ i _ => more - (intOf i).toNat)
      case atStart => exact ⟨0, a', c', rs', Nat.zero_le _, rfl, rfl, HWR.out, by rw [HMP.out]; simp, KZ.out, HFA'.out, HFB'.out⟩
      case round =>
        obtain ⟨t, a', c', rs', ht, rfl, rfl, hwr, hmp, hkz, hfa, hfb⟩ := hrel
        have HWR := Lib.hid hwr
        have HMP := Lib.hid hmp
        have KZ := Lib.hid hkz
        have HFA' := Lib.hid hfa
        have HFB' := Lib.hid hfb
        clear hwr hmp hkz hfa hfb
        by_cases hlt : t < more
        · have hon := own_fresh wr 34 .u64 [1] (by decide)
          have HON := Lib.hid (show Own (wr.alloc (.cells #[.int .u64 1] 34)) 34 (some ⟨wr.heap.size, 0, none⟩) 1 1 (nats .u64 [1]) from hon)
          have hown10 := HWR.out.own.kept0 ((Kept.refl [] wr).alloc (.cells #[.int .u64 1] 34))
          have K5 := Lib.hid ((Kept.refl [] wr).alloc (.cells #[.int .u64 1] 34))
          clear hon
          go_wp2_with (at_builtin; refine wpList_push2 (g := wr.heap.size + 1) (news := [.slice (some ⟨wr.heap.size, 0, none⟩) 1 1]) rfl rfl Tryz.underlying25 su64_info' rfl (by omega) rfl (by simp) rfl hown10 rfl (by simp [Value.oneCell']) (by unfold maxLen; omega) (by omega) rfl ?_; intro a1 c1 w11 hown11 hst11)
          have HSN := Lib.hid (WRows.snoc (w0 := wr) (r := ⟨[1], some ⟨wr.heap.size, 0, none⟩, 1⟩) HWR.out K5.out hown11 hst11 HON.out.sln (fun b hb => ⟨HON.out.lt b hb, fun hx => by have h1 := HWR.out.lt.1 b hx; rw [mem_ft] at hb; simp at hb; omega⟩) (fun b hb => (HFB'.out b hb).2))
          have K11 := Lib.hid (show Kept [] w w11 from kept_up (KZ.out.trans K5.out) hst11.kept HFA'.out)
          have FA11 := Lib.hid (show ∀ b ∈ ft a1, w.heap.size ≤ b from fun b hb => (hst11.fresh b hb).elim (HFA'.out b) (fun h => Nat.le_trans (KZ.out.trans K5.out).size h))
          have FB11 := Lib.hid (show ∀ b ∈ wrBlocks (rs' ++ [⟨[1], some ⟨wr.heap.size, 0, none⟩, 1⟩]), w.heap.size ≤ b from fun b hb => by
            obtain ⟨r, hr, hb⟩ := mem_wrBlocks.1 hb
            rcases List.mem_append.1 hr with hr | hr
            · exact (HFB'.out b (mem_wrBlocks.2 ⟨r, hr, hb⟩)).1
            · rw [List.mem_singleton] at hr
              subst hr
              have h2 := KZ.out.size
              rw [mem_ft] at hb
              simp at hb
              omega)
          clear hown11 hst11 hown10
          go_wp2_with fail
          go_roundw
          case rel => exact ⟨t + 1, a1, c1, rs' ++ [⟨[1], some ⟨wr.heap.size, 0, none⟩, 1⟩], by omega, by go_num, rfl, HSN.out.1, by rw [List.map_append, HMP.out, List.replicate_succ', List.append_assoc]; rfl, K11.out, FA11.out, fun b hb => ⟨FB11.out b hb, HSN.out.2 b hb⟩⟩
          case measure => simp [intOf]; omega
        · obtain rfl : t = more := by omega
          go_wp2_with fail
          go_ret
          exact ⟨a', d + t, c', rs', rfl, HWR.out, by rw [HMP.out, HGN.out], KZ.out, fun b hb => (List.mem_append.1 hb).elim (HFA'.out b) (fun h => (HFB'.out b h).1)⟩
set_option maxHeartbeats 800000 in
/-- the same words -/
theorem same_eq (a b : Option Addr) (m m' c d : Nat) (l l' : List Nat) (w : World) (h1 : l.length = m) (h2 : l'.length = m') (hm : m ≤ 1000000) (hm' : m' ≤ 1000000) (ha : SlN w .u64 a l) (hb : SlN w .u64 b l') :
    Calls Tryz.prog 15 #[.slice a m c, .slice b m' d] w fun e w' => e = .returned (.bool (decide (l = l'))) ∧ ∃ k, w' = w.drewN k := by
  have H1 := Lib.hid h1
  have H2 := Lib.hid h2
  have HA := Lib.hid ha
  have HB := Lib.hid hb
  clear h1 h2 ha hb
  by_cases hmm : m = m'
  · subst hmm
    go_enter Tryz.func15, Tryz.ntmps15
    go_wp2_with fail
    go_loopw [5] (fun i wr => ∃ k q : Nat, k ≤ m ∧ i = .int .i64 k ∧ wr = w.drewN q ∧ l.take k = l'.take k) (fun i _ => m - (intOf i).toNat)
    case atStart => exact ⟨0, 0, Nat.zero_le _, rfl, rfl, rfl⟩
    case round =>
      obtain ⟨k, q, hk, rfl, rfl, htk⟩ := hrel
      have HT := Lib.hid htk
      clear htk
      by_cases hlt : k < m
      · have hl1 : k < l.length := by rw [H1.out]; exact hlt
        have hl2 : k < l'.length := by rw [H2.out]; exact hlt
        obtain ⟨a1, rfl, x1⟩ := HA.out k hl1
        obtain ⟨b1, rfl, x2⟩ := HB.out k hl2
        have hT1 := Lib.hid (show l.take (k + 1) = l.take k ++ [l[k]] from by rw [List.take_succ_eq_append_getElem hl1])
        have hT2 := Lib.hid (show l'.take (k + 1) = l'.take k ++ [l'[k]] from by rw [List.take_succ_eq_append_getElem hl2])
        have HNE := Lib.hid (show l[k] ≠ l'[k] → decide (l = l') = false from fun h => by
          rw [decide_eq_false_iff_not]
          intro e
          exact h (by simp only [e]))
        generalize l[k] = u at *
        generalize l'[k] = v at *
        by_cases huv : u = v
        · have HUV := Lib.hid huv
          have hne : ((u : Int) != (v : Int)) = false := by rw [huv]; simp
          clear huv
          go_wp2_with fail
          go_quiet (fail)
          go_wp2_with fail
          go_roundw
          case rel => exact ⟨k + 1, _, by omega, by go_num, by first | rfl | rw [World.drewN_drewN], by rw [hT1.out, hT2.out, HT.out, HUV.out]⟩
          case measure => simp [intOf]; omega
        · have HRS := Lib.hid (HNE.out huv)
          have hne : ((u : Int) != (v : Int)) = true := by rw [bne_iff_ne]; omega
          clear huv
          go_wp2_with fail
          go_quiet (fail)
          go_wp2_with fail
          go_ret
          exact ⟨by rw [HRS.out]; rfl, _, by first | rfl | rw [World.drewN_drewN]⟩
      · obtain rfl : k = m := by omega
        have HRS := Lib.hid (show decide (l = l') = true from by
          rw [decide_eq_true_eq]
          have := HT.out
          rwa [List.take_of_length_le (by rw [H1.out]; exact Nat.le_refl _), List.take_of_length_le (by rw [H2.out]; exact Nat.le_refl _)] at this)
        go_wp2_with fail
        go_ret
        exact ⟨by rw [HRS.out]; rfl, _, by first | rfl | rw [World.drewN_drewN]⟩
  · have HRS := Lib.hid (show decide (l = l') = false from by
      rw [decide_eq_false_iff_not]
      intro e
      have := congrArg List.length e
      rw [H1.out, H2.out] at this
      exact hmm this)
    have hne : ((m : Int) != (m' : Int)) = true := by rw [bne_iff_ne]; omega
    go_enter Tryz.func15, Tryz.ntmps15
    go_wp2_with fail
    go_ret
    exact ⟨by rw [HRS.out]; rfl, 0, rfl⟩
end Go.Proofs.YtielfgngdhcpfaaGreat
