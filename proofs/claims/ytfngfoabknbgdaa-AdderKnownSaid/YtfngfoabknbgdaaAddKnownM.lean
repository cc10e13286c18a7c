/-
  Law 12: 64 zeros, 64 ones and a carry. Plain.
-/
import Derived.Test.YtfngfoabknbgdaaAddTells
import Derived.Test.YtfngfoabknbgdaaAddErr
import Derived.Test.YtfngfoabknbgdaaMine
namespace Go.Proofs.Ytfngfoabknbgdaa
set_option linter.unusedVariables false
def g8 : Gr := freshG true true (2 * 3 + 1)
set_option maxRecDepth 100000 in
theorem known_sum : aheadG g8 (List.replicate 64 0) (List.replicate 64 1) 1 64 = (g8, List.replicate 64 0, 1) := by kernel_rfl
theorem known_num : numR (List.replicate 64 0) = 0 ∧ numB (List.replicate 64 0) = true := by constructor <;> kernel_rfl
section
open Go.ChangeShapes Go.WideShapes Go.ChangeAt Go.RowKit
variable {W : World} {p q : Nat} {F : List Nat}
/-- so many zeros as cells: not laid open by a walk's simp -/
def zarr (n : Nat) : Array Value := (List.replicate n (Value.int .u32 0)).toArray
theorem zeros_at {n : Nat} (h : W.heap[q]? = some (.cells (zarr n) 24 (0, 0))) : SlN W .u32 (some ⟨q, 0, none⟩) (List.replicate n 0) := fun k hk => by
  refine ⟨_, rfl, ?_⟩
  have e : (⟨q, 0, none⟩ : Addr).add k = ⟨q, k, none⟩ := by unfold Addr.add; split <;> simp_all
  rw [e, blk_cell h]
  simp at hk
  simp [zarr, hk]
theorem turned_ones : (List.replicate 64 0).map ntL = List.replicate 64 1 := by kernel_rfl
theorem known_turn (h : Mine W [] q (.cells (zarr 64) 24 (0, 0))) : Calls Try.prog 24 #[.slice (some ⟨q, 0, none⟩) 64 64] W fun e w' => ∃ a' c', e = .returned (.slice a' 64 c') ∧ Own w' 24 a' 64 c' (nats .u32 (List.replicate 64 1)) ∧ Stepped W w' [] (ft a') := by
  have h := lit_turn (some ⟨q, 0, none⟩) 64 64 (List.replicate 64 0) W (by simp) (by omega) (zeros_at h.heap) (by intro x hx; rw [(List.mem_replicate.1 hx).2]; omega)
  rw [turned_ones] at h
  exact h
def KnownPost (W : World) (p : Nat) (F : List Nat) (e : Ending) (w' : World) : Prop := ∃ F' s cs, e = .returned (.tuple #[.slice s 64 cs, .int .u32 1, .int .i64 0]) ∧ GraphAt w' p F' g8 ∧ Own w' 24 s 64 cs (nats .u32 (List.replicate 64 0)) ∧ Stepped W w' F F'
theorem known_add {v : World} (hv : ∀ x ∈ F, x < v.heap.size) (hg : GraphAt W p F g8) (h : Mine W [] q (.cells (zarr 64) 24 (0, 0))) (hq : v.heap.size ≤ q) {s : Option Addr} {cs : Nat} (ho : Own W 24 s 64 cs (nats .u32 (List.replicate 64 1))) :
    Calls Try.prog 22 #[.pointer (some ⟨p, 0, none⟩), .int .i64 2, .slice (some ⟨q, 0, none⟩) 64 64, .slice s 64 cs, .int .u32 1] W (KnownPost W p F) := by
  have k0 : g8.ok 0 := by show 0 / 2 < 8; decide
  have k1 : g8.ok 1 := by show 1 / 2 < 8; decide
  refine (add_c (how := 2) (la := List.replicate 64 0) (lb := List.replicate 64 1) (.inr rfl) hg (by decide) (by omega) (by omega) (by simp) (by simp) (zeros_at h.heap) ho.sln (by intro x hx; rw [(List.mem_replicate.1 hx).2]; exact k0) (by intro x hx; rw [(List.mem_replicate.1 hx).2]; exact k1) k1
    (fun x hx hF => by rw [mem_ft] at hx; subst hx; exact absurd (hv _ hF) (Nat.not_lt.2 hq)) (ho.apart_g hg (by decide) (by decide) (by decide))).mono ?_
  rw [if_neg (by omega), known_sum]
  rintro e w' ⟨F', s', cs', rfl, h1, h2, h3⟩
  exact ⟨F', s', cs', rfl, h1, h2, h3.weak (fun _ h => h) (fun x hx => List.mem_append_left _ hx)⟩
end
end Go.Proofs.Ytfngfoabknbgdaa
