/-
  Law 15: what the rows' laid variables give; a type's text; a row of right bytes.
-/
import Derived.Test.YtjnjldbegngooaaDoorTokA
namespace Go.Proofs.YtjnjldbegngooaaDoor
open Go.ChangeShapes Go.WideShapes Go.ChangeAt Go.RowKit
set_option linter.unusedVariables false
set_option linter.unusedSimpArgs false

variable {w w' w1 W : World}
def LookR (w : World) (bm : Nat) : Prop := ∃ es cl, w.heap[bm]? = some (.map es cl) ∧ ∀ (V : World) (s : ByteArray), V.heap[bm]? = some (.map es cl) → s.size ≤ 140737488351232 → (Instr.lookup 65 (.map (some bm)) (.string s) false).run Tryd.prog V = .ok (.bool (resB s.data.toList)) V
/-- the signs, as they lie -/
def signsV : Array Value := #[.string ⟨#[45, 62]⟩, .string ⟨#[60, 60]⟩, .string ⟨#[62, 62]⟩, .string ⟨#[60, 61]⟩, .string ⟨#[62, 61]⟩, .string ⟨#[60, 62]⟩, .string ⟨#[40]⟩, .string ⟨#[41]⟩, .string ⟨#[44]⟩, .string ⟨#[59]⟩, .string ⟨#[58]⟩, .string ⟨#[61]⟩, .string ⟨#[60]⟩, .string ⟨#[62]⟩, .string ⟨#[43]⟩, .string ⟨#[45]⟩, .string ⟨#[42]⟩]
set_option maxRecDepth 100000 in
theorem signs_ix (k : Nat) (h : k < 17) (w : World) : (Instr.index 80 (.agg signsV) (.int .i64 (k : Int))).run Tryd.prog w = .ok (.string ⟨(signsL[k]'h).toArray⟩) w := by
  match k, h with
  | 0, _ => rfl
  | 1, _ => rfl
  | 2, _ => rfl
  | 3, _ => rfl
  | 4, _ => rfl
  | 5, _ => rfl
  | 6, _ => rfl
  | 7, _ => rfl
  | 8, _ => rfl
  | 9, _ => rfl
  | 10, _ => rfl
  | 11, _ => rfl
  | 12, _ => rfl
  | 13, _ => rfl
  | 14, _ => rfl
  | 15, _ => rfl
  | 16, _ => rfl
  | k + 17, h => exact absurd h (by omega)
/-- the variables as the program's text lays them -/
structure Laid (w : World) : Prop where
  signs : ∃ t fr, w.heap[1]? = some (.cells signsV t fr)
  res : ∃ bm, w.cell? ⟨0, 0, none⟩ = some (.map (some bm)) ∧ LookR w bm
  syn : ∃ ev, w.cell? ⟨2, 0, none⟩ = some ev ∧ (ev = .nilIface ∨ ∃ te pe, ev = .iface te pe)
  rng : ∃ ev, w.cell? ⟨3, 0, none⟩ = some ev ∧ (ev = .nilIface ∨ ∃ te pe, ev = .iface te pe)
theorem Laid.kept {F : List Nat} (h : Laid w) (hk : Kept F w w') (hF : ∀ b ∈ F, 3 < b ∧ ∀ bm, w.cell? ⟨0, 0, none⟩ = some (.map (some bm)) → b ≠ bm) : Laid w' := by
  have hn : ∀ g, g ≤ 3 → g ∉ F := fun g hg hm => by have := (hF g hm).1; omega
  refine ⟨by obtain ⟨t, fr, h1⟩ := h.signs; exact ⟨t, fr, hk.heap h1 (hn _ (by decide))⟩, ?_, ?_, ?_⟩
  · obtain ⟨bm, h1, es, cl, h2, h3⟩ := h.res
    refine ⟨bm, hk.cell h1 (hn _ (by decide)), es, cl, hk.heap h2 (fun hm => (hF bm hm).2 bm h1 rfl), h3⟩
  · obtain ⟨ev, h1, h2⟩ := h.syn
    exact ⟨ev, hk.cell h1 (hn _ (by decide)), h2⟩
  · obtain ⟨ev, h1, h2⟩ := h.rng
    exact ⟨ev, hk.cell h1 (hn _ (by decide)), h2⟩
theorem Laid.kept0 (h : Laid w) (hk : Kept [] w w') : Laid w' := h.kept hk (by simp)
theorem str_add (l m : List UInt8) : (⟨l.toArray⟩ : ByteArray) ++ ⟨m.toArray⟩ = ⟨(l ++ m).toArray⟩ := by
  have h : ((⟨l.toArray⟩ : ByteArray) ++ ⟨m.toArray⟩).data = l.toArray ++ m.toArray := ByteArray.data_append
  rw [List.append_toArray] at h
  exact congrArg ByteArray.mk h
theorem dec2_len (n : Nat) : (dec2 n).length ≤ 2 := by unfold dec2; split <;> simp
def strV (l : List UInt8) : Value := .string ⟨l.toArray⟩
def StrIs (l : List UInt8) (w : World) (e : Ending) (w' : World) : Prop := e = .returned (strV l) ∧ Kept [] w w'
end Go.Proofs.YtjnjldbegngooaaDoor
