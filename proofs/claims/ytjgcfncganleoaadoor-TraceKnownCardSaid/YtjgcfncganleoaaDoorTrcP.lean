/-
  Package trace: the reader's takes, over a closure that goes on from state to state.
-/
import Derived.Test.YtjgcfncganleoaaDoorTrcO
import Derived.BigQuiet
namespace Go.Proofs.YtjgcfncganleoaaDoor
open Go.ChangeShapes Go.WideShapes Go.ChangeAt Go.RowKit
set_option linter.unusedVariables false
set_option linter.unusedSimpArgs false

variable {w w' w1 W : World}
/-- what is read of a text: a value and what is left of the text, or an error's number -/
abbrev PR (α : Type) := Except Nat (α × List UInt8)
/-- byte by byte: a closure that goes on (a new state), stops, or finds a fault -/
def runT {σ : Type} (st : σ → Nat → Option (Option σ)) : σ → List UInt8 → PR σ
  | _, [] => .error 4
  | x, b :: l => match st x b.toNat with
    | none => .error 5
    | some none => .ok (x, b :: l)
    | some (some y) => runT st y l
def ClPost {σ : Type} (I I' : σ → World → Prop) (F : List Nat) (x : σ) (r : Option (Option σ)) (w : World) (e : Ending) (w' : World) : Prop := match r with
  | none => Dies 5 F w e w'
  | some none => e = .returned (.bool false) ∧ Kept F w w' ∧ I' x w'
  | some (some y) => e = .returned (.bool true) ∧ Kept F w w' ∧ I y w'
def TakesPost {σ : Type} (I' : σ → World → Prop) (F : List Nat) (q : Nat) (a : Option Addr) (c : Nat) (s : List UInt8) (pos : Nat) (r : PR σ) (w : World) (e : Ending) (w' : World) : Prop := match r with
  | .error k => Dies k (q :: F) w e w'
  | .ok (x, l) => ∃ pos', e = .returned (.string ⟨((s.drop pos).take (pos' - pos)).toArray⟩) ∧ pos ≤ pos' ∧ s.drop pos' = l ∧ RdAt w' q a c s pos' ∧ I' x w' ∧ Kept (q :: F) w w'
theorem runT_nil {σ : Type} (st : σ → Nat → Option (Option σ)) (x : σ) : runT st x [] = .error 4 := rfl
theorem runT_form {σ : Type} {st : σ → Nat → Option (Option σ)} {x : σ} {b : UInt8} {l : List UInt8} (h : st x b.toNat = none) : runT st x (b :: l) = .error 5 := by
  simp [runT, h]
theorem runT_stop {σ : Type} {st : σ → Nat → Option (Option σ)} {x : σ} {b : UInt8} {l : List UInt8} (h : st x b.toNat = some none) : runT st x (b :: l) = .ok (x, b :: l) := by
  simp [runT, h]
theorem runT_go {σ : Type} {st : σ → Nat → Option (Option σ)} {x y : σ} {b : UInt8} {l : List UInt8} (h : st x b.toNat = some (some y)) : runT st x (b :: l) = runT st y l := by
  simp [runT, h]
theorem string_of (s : List UInt8) (pos pos' : Nat) (h : pos' ≤ s.length) : (s.take pos').drop pos = (s.drop pos).take (pos' - pos) := by
  rw [List.drop_take]
set_option maxHeartbeats 3200000 in
set_option maxRecDepth 100000 in
theorem takes_c {σ : Type} (fid : FuncId) (hF : ∀ xs w, (callFunc fid xs).run Tryd.prog w = .ok (Next.enter fid xs) w) (caps : Array Value) (F : List Nat) (st : σ → Nat → Option (Option σ)) (I I' : σ → World → Prop) (x0 : σ) {q c pos : Nat} {a : Option Addr} {s : List UInt8} (w : World) (h : RdAt w q a c s pos) (h0 : I x0 w) (hq : q ∉ F) (hfa : s ≠ [] → ∀ b ∈ ft a, b ∉ F)
    (hIk : ∀ x W W', I x W → Kept [q] W W' → I x W') (hIk' : ∀ x W W', I' x W → Kept [] W W' → I' x W')
    (HC : ∀ x (b : UInt8) W, I x W → Calls Tryd.prog fid (#[.int .u8 (b.toNat : Int)] ++ caps) W (ClPost I I' F x (st x b.toNat) W)) :
    Calls Tryd.prog 97 #[.pointer (some ⟨q, 0, none⟩), .func (.func fid) #[] caps] w (TakesPost I' F q a c s pos (runT st x0 (s.drop pos)) w) := by
  have HH := Lib.hid h
  have HCC := Lib.hid HC
  have HI := Lib.hid hIk
  have HI' := Lib.hid hIk'
  have HI0 := Lib.hid h0
  have HFA := Lib.hid hfa
  have c0 : w.cell? ⟨q, 1, none⟩ = some (.int .i64 (pos : Int)) := blk_cell h.blk 1
  clear h HC hIk hIk' h0 hfa
  go_enter Tryd.func97, Tryd.ntmps97
  go_wp2_with fail
  go_loopw [10] (fun _ wr => ∃ (k : Nat) (x : σ), pos + k ≤ s.length ∧ RdAt wr q a c s (pos + k) ∧ I x wr ∧ Kept (q :: F) w wr ∧ runT st x0 (s.drop pos) = runT st x (s.drop (pos + k))) (fun _ W => s.length - (intOf ((W.cell? ⟨q, 1, none⟩).getD (.int .i64 0))).toNat)
  case atStart => exact ⟨0, x0, HH.out.pos, HH.out, HI0.out, .refl _ _, rfl⟩
  case round =>
    obtain ⟨k, x, hk, hr, hi, hkr, hrun⟩ := hrel
    have HR := Lib.hid hr
    have HIR := Lib.hid hi
    have KR := Lib.hid hkr
    have HRUN := Lib.hid hrun
    clear hr hi hkr hrun
    by_cases hend : pos + k = s.length
    · have HN := Lib.hid (next_end wr (show RdAt wr q a c s s.length from hend ▸ HR.out))
      have HRUN2 := Lib.hid (show runT st x0 (s.drop pos) = .error 4 from by rw [HRUN.out, hend, List.drop_length]; rfl)
      have HE := Lib.hid hend
      clear hend HRUN
      go_wp2_with fail
      refine HN.out.mono ?_
      rintro e w1 ⟨rfl, k1⟩
      have K1 := Lib.hid k1
      clear k1
      go_wp2_with fail
      refine ⟨rfl, ?_⟩
      rw [HRUN2.out]
      exact ⟨rfl, KR.out.trans (K1.out.more (by simp))⟩
    have hps : pos + k < s.length := by omega
    have HN0 := Lib.hid (next_c wr HR.out hps)
    have HPS := Lib.hid hps
    obtain ⟨b, hb⟩ : ∃ b : UInt8, b = s[pos + k] := ⟨_, rfl⟩
    have HD := Lib.hid (show s.drop (pos + k) = b :: s.drop (pos + k + 1) from by rw [hb]; exact List.drop_eq_getElem_cons hps)
    have HN := Lib.hid (show Calls Tryd.prog 102 #[.pointer (some ⟨q, 0, none⟩)] wr fun e w' => e = .returned (.int .u8 (b.toNat : Int)) ∧ Kept [] wr w' from by rw [hb]; exact HN0.out)
    have HC1 := Lib.hid (fun W hW => HCC.out x b W hW)
    clear HN0 hps hb hend
    go_wp2_with fail
    refine HN.out.mono ?_
    rintro e w1 ⟨rfl, k1⟩
    have K1 := Lib.hid k1
    have HC2 := Lib.hid (HC1.out w1 (HI.out x wr w1 HIR.out (k1.more (by simp))))
    clear k1
    go_wp2_with fail
    refine HC2.out.mono ?_
    rintro e w2 hp
    have hkeep : ∀ W2, Kept F w1 W2 → RdAt W2 q a c s (pos + k) := fun W2 k2 =>
      have h1 := HR.out.kept K1.out
      ⟨k2.heap h1.blk hq, fun j hj => by
        obtain ⟨ad, rfl, x0⟩ := h1.txt j hj
        exact ⟨ad, rfl, k2.cell x0 (by rw [add_block]; exact HFA.out (ne_of_lt hj) _ (by simp [ft]))⟩, h1.len, h1.pos, h1.ap, h1.cp⟩
    have HKE := Lib.hid hkeep
    clear hkeep
    rcases hst : st x b.toNat with _ | _ | y
    · have HRUN2 := Lib.hid (show runT st x0 (s.drop pos) = .error 5 from by rw [HRUN.out, HD.out]; exact runT_form hst)
      rw [hst] at hp
      obtain ⟨rfl, k2⟩ := hp
      have K2 := Lib.hid k2
      clear hst k2
      go_wp2_with fail
      refine ⟨rfl, ?_⟩
      rw [HRUN2.out]
      exact ⟨rfl, (KR.out.trans (K1.out.more (by simp))).trans (K2.out.more (fun b hb => by simp [hb]))⟩
    · have HRUN2 := Lib.hid (show runT st x0 (s.drop pos) = .ok (x, s.drop (pos + k)) from by rw [HRUN.out, HD.out]; exact runT_stop hst)
      rw [hst] at hp
      obtain ⟨rfl, k2, i2⟩ := hp
      have K2 := Lib.hid k2
      have I2 := Lib.hid i2
      have HR2 := Lib.hid (HKE.out w2 k2)
      clear hst k2 i2
      obtain ⟨ad, rfl, xx⟩ := HR2.out.txt (pos + k) HPS.out
      clear xx
      obtain ⟨pk, hpk⟩ : ∃ pk, pk = pos + k := ⟨_, rfl⟩
      have hpp : pos ≤ pk := by omega
      have hpc : pk < c := by have := Nat.lt_of_lt_of_le HPS.out HR2.out.cp; omega
      have hpl : pk < s.length := by have := HPS.out; omega
      have hsc : s.length ≤ c := HR2.out.cp
      have hb16 : pk < 16777216 := by have h1 := HR2.out.len; omega
      have HRUN3 := Lib.hid (show runT st x0 (s.drop pos) = .ok (x, s.drop pk) from hpk ▸ HRUN2.out)
      have HR3 := Lib.hid (show RdAt w2 q (some ad) c s pk from hpk ▸ HR2.out)
      have hcv : ∀ n, (convert 44 9 (.slice (some (ad.add pos)) (pk - pos) (c - pos))).run Tryd.prog (w2.drewN n) = .ok (.string ⟨((s.drop pos).take (pk - pos)).toArray⟩) (w2.drewN n) := by
        intro n
        have hl : ((s.drop pos).take (pk - pos)).length = pk - pos := by rw [List.length_take, List.length_drop]; omega
        have := run_convert_bytes_back (P := Tryd.prog) (w2.drewN n) 44 9 5 (ad.add pos) (c - pos) ((s.drop pos).take (pk - pos)) Tryd.underlying44 Tryd.underlying5 Tryd.underlying9 (fun j hj => by
          obtain ⟨ad2, he, hx⟩ := HR3.out.txt (pos + j) (by rw [hl] at hj; omega)
          injection he with he; subst he
          rw [Go.Deep.add_add]
          rw [List.getElem_take, List.getElem_drop]
          exact hx)
        rw [hl] at this
        exact this
      have hcv := Lib.hid hcv
      have d0 : w2.cell? ⟨q, 0, none⟩ = some (.slice (some ad) s.length c) := blk_cell HR3.out.blk 0
      have d1 : w2.cell? ⟨q, 1, none⟩ = some (.int .i64 (pk : Int)) := blk_cell HR3.out.blk 1
      clear hk hpk
      generalize hn : s.length = n at d0 hsc hpl
      clear hn
      go_wp2_with fail
      have hcv := hcv.out
      go_quiet (fail)
      go_wp2_with fail
      go_ret
      rw [HRUN3.out]
      exact ⟨pk, rfl, hpp, rfl, HR3.out.kept ((Kept.refl [] w2).drewN _), HI'.out _ _ _ I2.out ((Kept.refl [] w2).drewN _), ((KR.out.trans (K1.out.more (by simp))).trans (K2.out.more (fun b hb => by simp [hb]))).trans (((Kept.refl [] w2).drewN _).more (by simp))⟩
    · have HRUN2 := Lib.hid (show runT st x0 (s.drop pos) = runT st y (s.drop (pos + k + 1)) from by rw [HRUN.out, HD.out]; exact runT_go hst)
      rw [hst] at hp
      obtain ⟨rfl, k2, i2⟩ := hp
      have K2 := Lib.hid k2
      have I2 := Lib.hid i2
      have HR2 := Lib.hid (HKE.out w2 k2)
      have d1 : w2.cell? ⟨q, 1, none⟩ = some (.int .i64 ((pos + k : Nat) : Int)) := blk_cell HR2.out.blk 1
      have d2 := blk_free HR2.out.blk 1
      have hb16 : pos + k < 16777216 := by have h1 := HR2.out.len; have h2 := HPS.out; omega
      clear hst k2 i2
      go_wp2_with fail
      have hpk : (pos : Int) + (k : Int) + 1 = ((pos + k + 1 : Nat) : Int) := by omega
      go_roundw
      case rel =>
        have hs := HR2.out.step HPS.out
        have kq : Kept [q] w2 (w2.setCell ⟨q, 1, none⟩ (.int .i64 ((pos + k + 1 : Nat) : Int))) := (Kept.refl [q] w2).setCell (.inl (by simp)) _
        rw [hpk]
        exact ⟨k + 1, y, HPS.out, hs, HI.out y w2 _ I2.out kq, ((KR.out.trans (K1.out.more (by simp))).trans (K2.out.more (fun b hb => by simp [hb]))).trans (kq.more (by simp)), HRUN2.out⟩
      case measure =>
        have hs := HR2.out.step HPS.out
        have e1 := blk_cell hs.blk 1
        have e2 := blk_cell HR.out.blk 1
        rw [hpk, e1, e2]
        simp [intOf]
        have := HPS.out
        omega
end Go.Proofs.YtjgcfncganleoaaDoor
