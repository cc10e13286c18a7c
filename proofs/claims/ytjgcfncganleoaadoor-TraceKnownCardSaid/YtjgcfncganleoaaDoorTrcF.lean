/-
  Package trace: Column; the first bus of a kind.
-/
import Derived.Test.YtjgcfncganleoaaDoorTrcE
namespace Go.Proofs.YtjgcfncganleoaaDoor
open Go.ChangeShapes Go.WideShapes Go.ChangeAt Go.RowKit
open Go.Maps (Keyed)
open Go.WideMaps
set_option linter.unusedVariables false
set_option linter.unusedSimpArgs false

variable {w w' : World} {S : List Nat}
def idxV (o : Option Nat) : Int := match o with | some k => (k : Int) | none => -1
def IdxPost (o : Option Nat) (w : World) (e : Ending) (w' : World) : Prop := e = .returned (.int .i64 (idxV o)) ∧ Kept [] w w'
theorem findIdx_some {α : Type} {l : List α} {p : α → Bool} {k : Nat} (h : k < l.length) (hp : p l[k] = true) (hn : ∀ j, j < k → ∃ h : j < l.length, p l[j] = false) : l.findIdx? p = some k := by
  rw [List.findIdx?_eq_some_iff_getElem]
  refine ⟨h, hp, fun j hj => ?_⟩
  obtain ⟨_, h2⟩ := hn j hj
  simp [h2]
theorem findIdx_none {α : Type} {l : List α} {p : α → Bool} (hn : ∀ j, j < l.length → ∃ h : j < l.length, p l[j] = false) : l.findIdx? p = none := by
  rw [List.findIdx?_eq_none_iff]
  intro x hx
  obtain ⟨j, hj, rfl⟩ := List.getElem_of_mem hx
  exact (hn j hj).2
set_option maxHeartbeats 800000 in
set_option maxRecDepth 100000 in
/-- the first bus of which a closure with one captured value says yes -/
theorem index_bus (fid : FuncId) (hF : ∀ xs w, (callFunc fid xs).run Tryd.prog w = .ok (Next.enter fid xs) w) (cap : Value) (P : ByteArray × Int → Bool) (a : Option Addr) (c len : Nat) (l : List (ByteArray × Int)) (w : World) (hl : l.length = len) (hlm : len ≤ 140737488351232) (hs : SlBus w a l)
    (HC : ∀ x ∈ l, ∀ W, Kept [] w W → Calls Tryd.prog fid #[.agg #[.string x.1, .int .i64 x.2], cap] W (BoolIs (P x) W)) :
    Calls Tryd.prog 38 #[.slice a len c, .func (.func fid) #[] #[cap]] w (IdxPost (l.findIdx? P) w) := by
  have HL := Lib.hid hl; clear hl
  have HF := Lib.hid HC; clear HC
  have HS := Lib.hid hs
  clear hs
  go_enter Tryd.func38, Tryd.ntmps38
  go_wp2_with fail
  go_loopw [8] (fun i wr => ∃ k : Nat, k ≤ len ∧ i = .int .i64 k ∧ Kept [] w wr ∧ ∀ j, j < k → ∃ h : j < l.length, P l[j] = false) (fun i _ => len - (intOf i).toNat)
  case atStart => exact ⟨0, Nat.zero_le _, rfl, .refl _ _, fun j hj => by omega⟩
  case round =>
    obtain ⟨k, hk, rfl, hkr, hall⟩ := hrel
    have HA := Lib.hid hall
    have KR := Lib.hid hkr
    clear hall hkr
    by_cases hlt : k < len
    · have hkl : k < l.length := by have := HL.out; omega
      obtain ⟨gb, go_, rfl, x0, x1⟩ := (HS.out.kept0 KR.out) k hkl
      have HX := Lib.hid (HF.out _ (List.getElem_mem hkl) wr KR.out)
      cases hp : P l[k] with
      | true =>
        rw [hp] at HX
        have HB := Lib.hid (findIdx_some hkl hp HA.out)
        clear hp
        generalize l[k] = x at *
        obtain ⟨nm, xw⟩ := x
        simp only at x0 x1
        go_wp2_with fail
        refine HX.out.mono ?_
        rintro e w1 ⟨rfl, k1⟩
        have K1 := Lib.hid k1
        clear k1
        go_wp2_with fail
        go_ret
        exact ⟨by rw [HB.out]; rfl, KR.out.trans K1.out⟩
      | false =>
        rw [hp] at HX
        have HB := Lib.hid (show ∀ j, j < k + 1 → ∃ h : j < l.length, P l[j] = false from fun j hj => by
          by_cases h : j < k
          · exact HA.out j h
          · obtain rfl : j = k := by omega
            exact ⟨hkl, hp⟩)
        clear hp
        generalize l[k] = x at *
        obtain ⟨nm, xw⟩ := x
        simp only at x0 x1
        go_wp2_with fail
        refine HX.out.mono ?_
        rintro e w1 ⟨rfl, k1⟩
        have K1 := Lib.hid k1
        clear k1
        go_wp2_with fail
        go_roundw
        case rel => exact ⟨k + 1, by omega, by go_num, KR.out.trans K1.out, HB.out⟩
        case measure => simp [intOf]; omega
    · obtain rfl : len = k := by omega
      have HB := Lib.hid (findIdx_none (l := l) (p := P) (fun j hj => HA.out j (by rw [← HL.out]; exact hj)))
      go_wp2_with fail
      go_ret
      exact ⟨by rw [HB.out]; rfl, KR.out⟩
theorem col1_c (b : ByteArray × Int) (q : Nat) (nm : ByteArray) (w : World) (hq : w.cell? ⟨q, 0, none⟩ = some (.string nm)) :
    Calls Tryd.prog 39 #[.agg #[.string b.1, .int .i64 b.2], .pointer (some ⟨q, 0, none⟩)] w (BoolIs (decide (b.1 = nm)) w) := by
  obtain ⟨s, x⟩ := b
  have hq2 := cell_alloc hq (.cells #[.string s, .int .i64 x] 35)
  have HE := Lib.hid (bytes_beq s nm)
  show Calls _ _ #[.agg #[.string s, .int .i64 x], _] _ _
  clear hq
  go_enter Tryd.func39, Tryd.ntmps39
  go_wp2_with fail
  go_ret
  exact ⟨by rw [← HE.out]; rfl, (Kept.refl [] w).alloc _⟩
/-- a bus's numbers -/
def columnT (t : Tb) (nm : ByteArray) : List Nat × Bool :=
  if mayT t = true then match t.bs.findIdx? (fun b => decide (b.1 = nm)) with | some k => (t.rs.map fun r => r.getD k 0, true) | none => ([], false) else ([], false)
def ColPost (r : List Nat × Bool) (w : World) (e : Ending) (w' : World) : Prop :=
  ∃ a n c, e = .returned (.tuple #[.slice a n c, .bool r.2]) ∧ Own w' 27 a n c (nats .u64 r.1) ∧ Kept [] w w' ∧ ∀ b ∈ ft a, w.heap.size ≤ b
set_option maxHeartbeats 1600000 in
set_option maxRecDepth 100000 in
theorem column_c {ba ra : Option Addr} {bn bc rn rc : Nat} {t : Tb} {wl : List WR} (nm : ByteArray) (h : TabV w ba bn bc ra rn rc t wl) (hok : t.ok) :
    Calls Tryd.prog 14 #[.agg #[.slice ba bn bc, .slice ra rn rc], .string nm] w (ColPost (columnT t nm) w) := by
  have HT := Lib.hid h
  have HOK := Lib.hid hok
  have hbm : bn ≤ 140737488351232 := by rw [← h.bl]; exact hok.bl
  have hrm : rn ≤ 140737488351232 := by rw [← h.rlen]; exact hok.rl
  have HM := Lib.hid (fun (W : World) (hW : Kept [] w W) => may_c (h.kept0 hW) hok)
  have HI := Lib.hid (fun (W : World) (hW : Kept [] w W) (q : Nat) (hq : W.cell? ⟨q, 0, none⟩ = some (.string nm)) => index_bus 39 Tryd.call39 (.pointer (some ⟨q, 0, none⟩)) (fun b => decide (b.1 = nm)) ba bc bn t.bs W h.bl hbm (h.bs.kept0 hW) (fun x hx W' hW' => col1_c x q nm W' (hW'.cell hq (by simp))))
  have hmf : ∀ (fn : Fn) (first cap : Array Value) (w : World), (Instr.makeFunc fn first cap).run Tryd.prog w = .ok (.func fn first cap) w := fun _ _ _ _ => rfl
  clear h hok
  go_enter Tryd.func14, Tryd.ntmps14; (try simp only [List.append])
  go_upto_region 1 with (fail)
  obtain ⟨p, hp⟩ : ∃ q, q = w.heap.size := ⟨_, rfl⟩
  obtain ⟨p', hp'⟩ : ∃ q, q = w.heap.size + 1 := ⟨_, rfl⟩
  obtain ⟨w2, hw2⟩ : ∃ W, W = (w.alloc (.cells #[.slice ba bn bc, .slice ra rn rc] 25)).alloc (.cells #[.string nm] 9) := ⟨_, rfl⟩
  have K2 := Lib.hid (show Kept [] w w2 from by rw [hw2]; exact ((Kept.refl [] w).alloc _).alloc _)
  have C0 := Lib.hid (show (w2.cell? ⟨p, 0, none⟩ = some (.slice ba bn bc) ∧ w2.cell? ⟨p, 1, none⟩ = some (.slice ra rn rc)) ∧ w2.cell? ⟨p', 0, none⟩ = some (.string nm) from by
    rw [hw2, hp, hp']
    refine ⟨⟨cell_alloc (blk_cell (heap_alloc_new w _) 0) _, cell_alloc (blk_cell (heap_alloc_new w _) 1) _⟩, ?_⟩
    have h := heap_alloc_new (w.alloc (.cells #[.slice ba bn bc, .slice ra rn rc] 25)) (.cells #[.string nm] 9)
    have hs : (w.alloc (.cells #[.slice ba bn bc, .slice ra rn rc] 25)).heap.size = w.heap.size + 1 := by simp
    rw [hs] at h
    exact blk_cell h 0)
  try rw [← hp']
  try rw [← hp]
  try rw [← hw2]
  clear hp hp' hw2
  have c0 := C0.out.1.1
  have c1 := C0.out.1.2
  go_wp2_with fail
  refine (HI.out w2 K2.out p' C0.out.2).mono ?_
  rintro e w3 ⟨rfl, k3⟩
  have K3 := Lib.hid (K2.out.trans k3)
  have d0 := k3.cell c0 (by simp)
  have d1 := k3.cell c1 (by simp)
  clear k3 c0 c1
  obtain ⟨o, ho⟩ : ∃ o, o = t.bs.findIdx? (fun b => decide (b.1 = nm)) := ⟨_, rfl⟩
  have HO := Lib.hid ho
  rw [← ho]
  clear ho
  cases hm : mayT t with
  | false =>
    rw [hm] at HM
    have HR := Lib.hid (show columnT t nm = ([], false) from by unfold columnT; rw [hm]; rfl)
    clear hm
    go_wp2_with fail
    refine (HM.out _ K3.out).mono ?_
    rintro e w4 ⟨rfl, k4⟩
    have K4 := Lib.hid (K3.out.trans k4)
    clear k4
    go_wp2_with fail
    go_ret2
    rw [HR.out]
    exact ⟨none, 0, 0, rfl, Own.nil _ _, K4.out, by simp [ft]⟩
  | true =>
    rw [hm] at HM
    have Hm := Lib.hid hm
    clear hm
    cases o with
    | none =>
      have HR := Lib.hid (show columnT t nm = ([], false) from by unfold columnT; rw [if_pos Hm.out, ← HO.out])
      have hn : idxV none = -1 := rfl
      rw [hn]
      go_wp2_with fail
      refine (HM.out _ K3.out).mono ?_
      rintro e w4 ⟨rfl, k4⟩
      have K4 := Lib.hid (K3.out.trans k4)
      clear k4
      go_wp2_with fail
      go_ret2
      rw [HR.out]
      exact ⟨none, 0, 0, rfl, Own.nil _ _, K4.out, by simp [ft]⟩
    | some k =>
      have HR := Lib.hid (show columnT t nm = (t.rs.map fun r => r.getD k 0, true) from by unfold columnT; rw [if_pos Hm.out, ← HO.out])
      have hn : idxV (some k) = (k : Int) := rfl
      have HK := Lib.hid (show k < bn from by
        rw [← HT.out.bl]
        exact (List.findIdx?_eq_some_iff_getElem.1 HO.out.symm).1)
      rw [hn]
      have hk0 : decide ((k : Int) < 0) = false := by rw [decide_eq_false_iff_not]; omega
      have hr4 : rn ≤ 4096 := by rw [← HT.out.rlen]; exact (mayT_parts Hm.out).2.2.2.2
      clear hn HI
      go_wp2_with fail
      refine (HM.out _ K3.out).mono ?_
      rintro e w4 ⟨rfl, k4⟩
      have K4 := Lib.hid (K3.out.trans k4)
      have e1 := k4.cell d1 (by simp)
      clear k4 d0 d1 HM
      go_wp2_with fail
      clear e1 hk0
      go_loopw [7, 24] (fun v i wr => ∃ (j : Nat) (a : Option Addr) (c : Nat), j ≤ rn ∧ i = .int .i64 j ∧ v = .slice a j c ∧ Own wr 27 a j c (nats .u64 ((t.rs.take j).map fun r => r.getD k 0)) ∧ Stepped w4 wr [] (ft a)) (fun _ i _ => rn - (intOf i).toNat)
      case atStart => exact ⟨0, none, 0, Nat.zero_le _, rfl, rfl, by simpa [nats] using Own.nil _ _, .refl _ _⟩
      case round =>
        obtain ⟨j, a, c, hj, rfl, rfl, hown, hst⟩ := hrel
        by_cases hlt : j < rn
        · have hjl : j < wl.length := by rw [HT.out.rl]; exact hlt
          obtain ⟨gr, gro, rfl, x0, x1⟩ := ((HT.out.rs.kept0 K4.out).kept0 hst.kept) j hjl
          have HRW := Lib.hid (HT.out.row j hjl)
          have hjr : j < t.rs.length := by rw [HT.out.rlen]; exact hlt
          have HLN := Lib.hid (show wl[j].l.length = bn from by rw [mayT_row Hm.out _ (List.mem_of_getElem? HRW.out), HT.out.bl])
          have HTK := Lib.hid (show (t.rs.take (j + 1)).map (fun r => r.getD k 0) = (t.rs.take j).map (fun r => r.getD k 0) ++ [wl[j].l.getD k 0] from by
            rw [take_snoc _ _ hjr, List.map_append]
            have := HRW.out
            rw [List.getElem?_eq_getElem hjr] at this
            rw [Option.some.inj this]
            rfl)
          generalize wl[j] = u at *
          obtain ⟨l, la, lc⟩ := u
          simp only at x0 x1 HLN HTK
          have hkl : k < l.length := by rw [HLN.out]; exact HK.out
          obtain ⟨ad, rfl, y⟩ := x1 k hkl
          rw [show l.getD k 0 = l[k] from by rw [List.getD_eq_getElem?_getD, List.getElem?_eq_getElem hkl]; rfl] at HTK
          rw [HLN.out] at x0
          have hkb := HK.out
          generalize l[k] = z at *
          clear x1
          go_wp2_with (at_builtin; refine wpList_push rfl rfl Tryd.underlying33 u64_info rfl rfl rfl hown rfl (by unfold maxLen; omega) (by omega) ?_; intro a1 c1 w5 hown5 hst5)
          go_roundw
          case rel => exact ⟨j + 1, a1, c1, by omega, by go_num, rfl, by rw [HTK.out, ← nats_append]; exact hown5, hst.trans hst5⟩
          case measure => simp [intOf]; omega
        · obtain rfl : rn = j := by omega
          have HTA := Lib.hid (show t.rs.take rn = t.rs from List.take_of_length_le (by rw [HT.out.rlen]; exact Nat.le_refl _))
          rw [HTA.out] at hown
          go_wp2_with fail
          go_ret2
          rw [HR.out]
          exact ⟨a, rn, c, rfl, hown, K4.out.trans hst.kept, fun b hb => (hst.fresh b hb).elim (fun h => by simp at h) (fun h => Nat.le_trans K4.out.size h)⟩
end Go.Proofs.YtjgcfncganleoaaDoor
