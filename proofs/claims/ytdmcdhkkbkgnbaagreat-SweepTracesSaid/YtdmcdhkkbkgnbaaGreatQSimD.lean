/-
  Package sim: Step, its closure, its refusal.
-/
import Derived.Test.YtdmcdhkkbkgnbaaGreatQSimC
import Derived.Test.YtdmcdhkkbkgnbaaGreatQSimP
namespace Go.Proofs.YtdmcdhkkbkgnbaaGreat
open Go.ChangeShapes Go.WideShapes Go.ChangeAt Go.RowKit
open Go.Maps (Keyed)
open Go.WideMaps
set_option linter.unusedVariables false
set_option linter.unusedSimpArgs false

variable {w w' : World} {s p n : Nat} {F R S : List Nat} {g : Gr} {N : Nt} {σ : Sm}
set_option maxHeartbeats 800000 in
theorem step1_c (r : Rg) (was b : Nat) (wa : Option Addr) (wc wn : Nat) (ws : List Nat) (w : World) (hn : ws.length = wn) (hs : SlN w .u64 wa ws) (hw : Words ws) (hd : r.d < 4294967296) (he : r.en < 4294967296) (hwas : was < 18446744073709551616)
    (hb : w.cell? ⟨b, 0, none⟩ = some (.slice wa wn wc)) :
    Calls Tryz.prog 85 #[.agg #[.int .u32 (r.q : Int), .int .u32 (r.d : Int), .int .u32 (r.en : Int), .bool r.init], .int .u64 (was : Int), .pointer (some ⟨b, 0, none⟩)] w fun e w' => e = .returned (.int .u64 (nextR ws r was : Nat)) ∧ Kept [] w w' := by
  have HW := Lib.hid (fun (x : Nat) (hx : x < 4294967296) (W : World) (hk : Kept [] w W) => lit_word x wa wc wn ws W hn hx (hs.kept0 hk) hw)
  have HX := Lib.hid (show nextR ws r was = (wd ws r.d &&& wd ws r.en) ||| (was &&& noW (wd ws r.en)) from rfl)
  have l1 := wd_lt hw r.d
  have l2 := wd_lt hw r.en
  have hb' := fun o => cell_alloc hb o
  clear hn hs hw hb
  obtain ⟨xq, xd, xe, xi⟩ := r
  simp only at *
  have H1 := Lib.hid (HW.out xe he)
  have H2 := Lib.hid (HW.out xd hd)
  generalize nextR ws ⟨xq, xd, xe, xi⟩ was = res at *
  generalize wd ws xd = D at *
  generalize wd ws xe = E at *
  have e1 : bits .and .u64 (D : Int) (E : Int) = ((D &&& E : Nat) : Int) := u64_and_nat D E l1 l2
  have e2 : bits .andNot .u64 (was : Int) (E : Int) = ((was &&& noW E : Nat) : Int) := u64_andNot_nat was E hwas l2
  have e3 : bits .or .u64 ((D &&& E : Nat) : Int) ((was &&& noW E : Nat) : Int) = (res : Int) := by rw [u64_or_nat (D &&& E) (was &&& noW E) (and_word l1) (and_word hwas), HX.out]
  clear HW HX l1 l2
  go_enter Tryz.func85, Tryz.ntmps85
  go_wp2_with fail
  refine (H1.out _ ((Kept.refl [] w).alloc _)).mono ?_
  rintro e w2 ⟨rfl, rfl⟩
  go_wp2_with fail
  refine (H2.out _ ((Kept.refl [] w).alloc _)).mono ?_
  rintro e w2 ⟨rfl, rfl⟩
  generalize D &&& E = A1 at *
  generalize was &&& noW E = A2 at *
  go_wp2_with fail
  go_ret
  exact ⟨rfl, (Kept.refl [] w).alloc _⟩
/-- what is handed in does not fit -/
def StepBad (w : World) (e : Ending) (w' : World) : Prop := e = .returned (.tuple #[.slice none 0 0, .int .i64 1]) ∧ Kept [] w w'
set_option maxHeartbeats 1600000 in
set_option maxRecDepth 100000 in
theorem sim_step_bad {a : Option Addr} {m c : Nat} {rs : List WR} (h : SimAt w s F R σ) (hi : σ.N.inb.length ≤ 1000000) (hm : m ≤ 1000000) (hr : WRows w a m c rs) (hb : fitB σ.N.inb (rs.map (·.l)) = false) :
    Calls Tryz.prog 31 #[.pointer (some ⟨s, 0, none⟩), .slice a m c] w (StepBad w) := by
  obtain ⟨n, NF, NR, ra, rc, mm, f, wa, wc, rfl, rfl, hc⟩ := h
  have HN := Lib.hid (sim_none hc.c0)
  have HF := Lib.hid (fits_c hc.c0 hc.net hi hm hr)
  rw [hb] at HF
  clear hc hr hb
  go_enter Tryz.func31, Tryz.ntmps31; (try simp only [List.append])
  go_wp2_with fail
  refine HN.out.mono ?_
  rintro e w' ⟨rfl, rfl⟩
  go_wp2_with fail
  refine HF.out.mono ?_
  rintro e w2 ⟨rfl, hk2⟩
  have K2 := Lib.hid hk2
  clear hk2
  go_wp2_with fail
  refine bodyPost_ret (v := .tuple #[.slice none 0 0, .int .i64 1]) (by simp [results, Tryz.results31, go_sem]) rfl ⟨rfl, K2.out⟩
end Go.Proofs.YtdmcdhkkbkgnbaaGreat
