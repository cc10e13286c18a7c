/-
  Package sweep, plain: the same traces, however often it is swept.
-/
import Derived.Test.YtdmcdhkkbkgnbaaGreatP29
namespace Go.Proofs.YtdmcdhkkbkgnbaaGreat
set_option linter.unusedVariables false
set_option linter.unusedSimpArgs false

variable {N M L : Nt} {k : Nat}
def stS (N : Nt) (c : Nat → List (List Nat)) : Nat → List Nat
  | 0 => resetN N
  | i + 1 => nextN N (wordsN N (c i) (stS N c i)) (stS N c i)
def outS (N : Nt) (c : Nat → List (List Nat)) (i : Nat) : List (List Nat) := outN N (wordsN N (c i) (stS N c i))
def fitC (N : Nt) (c : Nat → List (List Nat)) : Prop := ∀ i, (c i).map List.length = N.inb.map (·.lits.length) ∧ ∀ r ∈ c i, Words r
structure SameTr (N M : Nt) : Prop where
  fit : M.inb.map (·.lits.length) = N.inb.map (·.lits.length)
  ni : M.inb.map (·.name) = N.inb.map (·.name)
  no : M.outb.map (·.name) = N.outb.map (·.name)
  lo : M.outb.map (·.lits.length) = N.outb.map (·.lits.length)
  tr : ∀ c, fitC N c → ∀ i, outS M c i = outS N c i
theorem SameTr.trans (h : SameTr N M) (h2 : SameTr M L) : SameTr N L :=
  ⟨h2.fit.trans h.fit, h2.ni.trans h.ni, h2.no.trans h.no, h2.lo.trans h.lo, fun c hc i => (h2.tr c (fun j => ⟨(hc j).1.trans h.fit.symm, (hc j).2⟩) i).trans (h.tr c hc i)⟩
theorem inRows_lens (a : Nat) (l : List Bus) : (inRows a l).map (·.lits.length) = l.map (·.lits.length) := by
  induction l generalizing a with
  | nil => rfl
  | cons b l ih => simp only [inRows, List.map_cons, rowFrom_length]; rw [ih]
theorem step_all (hf : NtFine k N) (hz : checkN N = 0) {c : Nat → List (List Nat)} (hc : fitC N c) : ∀ i, InStep N (stS N c i) (stS (onceN N) c i) := by
  intro i
  induction i with
  | zero => exact reset_step N
  | succ i ih => exact next_step hf ih (hc i).1 (hc i).2 hz
theorem once_same (hf : NtFine k N) (hz : checkN N = 0) : SameTr N (onceN N) := by
  refine ⟨inRows_lens 1 N.inb, inRows_names 1 N.inb, ?_, ?_, fun c hc i => once_out hf (step_all hf hz hc i) (hc i).1 (hc i).2 hz⟩
  · show (N.outb.map fun b => (⟨b.name, b.lits.map (overL (copyN N).2)⟩ : Bus)).map (fun b => b.name) = _
    rw [List.map_map]
    rfl
  · show (N.outb.map fun b => (⟨b.name, b.lits.map (overL (copyN N).2)⟩ : Bus)).map (fun b => b.lits.length) = _
    rw [List.map_map]
    apply List.map_congr_left
    intro b _
    simp
theorem swept_same (hf : NtFine k N) (hz : checkN N = 0) : SameTr N (sweptN N) :=
  (swept_ind hf (SameTr N) (once_same hf hz) (fun M hm hm0 h => h.trans (once_same hm hm0))).1
theorem outS_words (hf : NtFine k N) {c : Nat → List (List Nat)} (hc : fitC N c) (i : Nat) : ∀ r ∈ outS N c i, Words r := by
  have hst : ∀ i, Words (stS N c i) := by
    intro i
    induction i with
    | zero => exact resetN_words N
    | succ i ih => exact nextN_words (wordsN_words (hc i).2 ih) ih
  intro r hr
  unfold outS outN at hr
  obtain ⟨b, _, rfl⟩ := List.mem_map.1 hr
  intro x hx
  obtain ⟨y, _, rfl⟩ := List.mem_map.1 hx
  exact wd_lt (wordsN_words (hc i).2 (hst i)) _
end Go.Proofs.YtdmcdhkkbkgnbaaGreat
