/-
  Law 10: EmitOnce, plain: what differs has another text.
-/
import Derived.Test.YtnjoklcddodfeaaGreatDoorQEmOnP
namespace Go.Proofs.YtnjoklcddodfeaaGreatDoor
open Go.ChangeShapes Go.WideShapes Go.ChangeAt Go.RowKit
set_option linter.unusedVariables false
set_option linter.unusedSimpArgs false

variable {k k' : Nat} {N N' : Nt}
theorem lines_body (h : checkN N = 0) : linesN N = bodyL N := by unfold linesN; rw [if_pos h]
/-- one text, one row of lines -/
theorem text_inj (hf : NtFine k N) (hf' : NtFine k' N') (h0 : checkN N = 0) (h1 : checkN N' = 0) (h : textL (linesN N) = textL (linesN N')) : bodyL N = bodyL N' := by
  have e0 : linesN N ≠ [] := by rw [lines_body h0]; simp [bodyL]
  have e1 : linesN N' ≠ [] := by rw [lines_body h1]; simp [bodyL]
  rw [textL_join _ e0, textL_join _ e1] at h
  have h2 := List.append_cancel_right h
  have h3 := congrArg (fun l => Lib.split l [10]) h2
  rw [split_join 10 _ e0 (lines_no hf), split_join 10 _ e1 (lines_no hf')] at h3
  rw [← lines_body h0, ← lines_body h1]
  exact h3
theorem dec_inj {x y : Nat} (hx : x < 4294967296) (hy : y < 4294967296) (h : Lib.decDigits x = Lib.decDigits y) : x = y := by
  have h1 := parse_back x hx
  rw [h, parse_back y hy] at h1
  injection h1 with h1
  exact h1.symm
theorem decs_inj {l m : List Nat} (hl : ∀ x ∈ l, x < 4294967296) (hm : ∀ x ∈ m, x < 4294967296) (h : l.map Lib.decDigits = m.map Lib.decDigits) : l = m := by
  induction l generalizing m with
  | nil => cases m with
    | nil => rfl
    | cons y m => simp at h
  | cons x l ih => cases m with
    | nil => simp at h
    | cons y m =>
      simp only [List.map_cons, List.cons.injEq] at h
      rw [dec_inj (hl x (by simp)) (hm y (by simp)) h.1, ih (fun z hz => hl z (by simp [hz])) (fun z hz => hm z (by simp [hz])) h.2]
/-- one line, one row of numbers -/
theorem line_inj {word name : List UInt8} {l m : List Nat} (hw : (32 : UInt8) ∉ word) (hn : (32 : UInt8) ∉ name) (hl : ∀ x ∈ l, x < 4294967296) (hm : ∀ x ∈ m, x < 4294967296) (h : lineB word name l = lineB word name m) : l = m := by
  have h2 := congrArg (fun l => Lib.split l [32]) h
  rw [lineB_split word name l hw hn, lineB_split word name m hw hn] at h2
  injection h2 with _ h2
  exact decs_inj hl hm (List.append_cancel_left h2)
/-- one line, one name -/
theorem name_inj {word n1 n2 : List UInt8} (hw : (32 : UInt8) ∉ word) (h1 : (32 : UInt8) ∉ n1) (h2 : (32 : UInt8) ∉ n2) (e1 : n1 ≠ []) (e2 : n2 ≠ []) (h : lineB word n1 [] = lineB word n2 []) : n1 = n2 := by
  have h3 := congrArg (fun l => Lib.split l [32]) h
  rw [lineB_split word n1 [] hw h1, lineB_split word n2 [] hw h2, if_neg e1, if_neg e2] at h3
  injection h3 with _ h3
  simpa using h3
/-- a register that differs -/
theorem reg_text {j : Nat} {r r' : Rg} (hf : NtFine k N) (hf' : NtFine k' N') (hk : k ≤ 700) (hk' : k' ≤ 700) (h0 : checkN N = 0) (h1 : checkN N' = 0) (hi : N.inb = N'.inb) (hlen : N.regs.length = N'.regs.length) (hr : N.regs[j]? = some r) (hr' : N'.regs[j]? = some r') (h : textL (linesN N) = textL (linesN N')) : [r.q, r.d, r.en, if r.init then 1 else 0] = [r'.q, r'.d, r'.en, if r'.init then 1 else 0] := by
  have hb := text_inj hf hf' h0 h1 h
  unfold bodyL at hb
  injection hb with _ hb
  rw [hi] at hb
  have hb2 := List.append_cancel_left hb
  have hb3 := congrArg (fun l => l[j]?) hb2
  have hj := (List.getElem?_eq_some_iff.1 hr).1
  have hj' := (List.getElem?_eq_some_iff.1 hr').1
  rw [List.getElem?_append_left (by simpa using hj), List.getElem?_append_left (by simpa using hj'), List.getElem?_map, List.getElem?_map, hr, hr'] at hb3
  simp only [Option.map_some, Option.some.injEq] at hb3
  have hin : r ∈ N.regs := List.mem_of_getElem? hr
  have hin' : r' ∈ N'.regs := List.mem_of_getElem? hr'
  have b1 := hf.ok.rl r hin
  have b2 := hf'.ok.rl r' hin'
  refine line_inj (word := wLatch) (name := []) (by decide) (by simp) ?_ ?_ hb3
  · intro x hx
    simp only [List.mem_cons, List.not_mem_nil, or_false] at hx
    rcases hx with rfl | rfl | rfl | rfl
    · exact ok_lt32 hf.ok hk b1.1
    · exact ok_lt32 hf.ok hk b1.2.1
    · exact ok_lt32 hf.ok hk b1.2.2
    · split <;> omega
  · intro x hx
    simp only [List.mem_cons, List.not_mem_nil, or_false] at hx
    rcases hx with rfl | rfl | rfl | rfl
    · exact ok_lt32 hf'.ok hk' b2.1
    · exact ok_lt32 hf'.ok hk' b2.2.1
    · exact ok_lt32 hf'.ok hk' b2.2.2
    · split <;> omega
/-- another name -/
theorem name_text (hf : NtFine k N) (hf' : NtFine k' N') (h0 : checkN N = 0) (h1 : checkN N' = 0) (h : textL (linesN N) = textL (linesN N')) : bytesL N.name = bytesL N'.name := by
  have hb := text_inj hf hf' h0 h1 h
  unfold bodyL at hb
  injection hb with hb _
  exact name_inj (word := wModel) (by decide) (name_no32 hf.nm) (name_no32 hf'.nm) (name_pos hf.nm) (name_pos hf'.nm) hb
/-- an output that differs -/
theorem out_text {j : Nat} {b b' : Bus} (hf : NtFine k N) (hf' : NtFine k' N') (hk : k ≤ 700) (hk' : k' ≤ 700) (h0 : checkN N = 0) (h1 : checkN N' = 0) (hi : N.inb = N'.inb) (hr : N.regs = N'.regs) (hg : N.g = N'.g) (hb1 : N.outb[j]? = some b) (hb2 : N'.outb[j]? = some b') (hn : b.name = b'.name) (h : textL (linesN N) = textL (linesN N')) : b.lits = b'.lits := by
  have hb := text_inj hf hf' h0 h1 h
  unfold bodyL at hb
  injection hb with _ hb
  rw [hi, hr, hg] at hb
  have e := congrArg (fun l => l[j]?) (List.append_cancel_right (List.append_cancel_left (List.append_cancel_left (List.append_cancel_left hb))))
  simp only [List.getElem?_map, hb1, hb2, Option.map_some, Option.some.injEq] at e
  have i1 := hf.ok.ol b (List.mem_of_getElem? hb1)
  have i2 := hf'.ok.ol b' (List.mem_of_getElem? hb2)
  unfold busL at e
  rw [hn] at e
  exact line_inj (by decide) (name_no32 i2.2.2.1) (fun x hx => ok_lt32 hf.ok hk (i1.2.2.2 x hx)) (fun x hx => ok_lt32 hf'.ok hk' (i2.2.2.2 x hx)) e
end Go.Proofs.YtnjoklcddodfeaaGreatDoor
