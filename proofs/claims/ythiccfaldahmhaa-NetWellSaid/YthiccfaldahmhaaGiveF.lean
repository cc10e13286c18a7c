/-
  NetGives: what stands behind the loop: buses found again; iterators.
-/
import Derived.Test.YthiccfaldahmhaaGiveR
namespace Go.Proofs.Ythiccfaldahmhaa
open Go.ChangeShapes Go.WideShapes Go.ChangeAt Go.RowKit
open Go.Maps (Keyed)
open Go.WideMaps
set_option linter.unusedVariables false
set_option linter.unusedSimpArgs false

variable {w wr w1 : World} {n mi mo mt : Nat} {F R F' R' : List Nat} {N N' : Nt} {li lo : List BR} {lr lr' : List Rg}
structure Far (w : World) (F R : List Nat) (mi mo mt : Nat) (li lo : List BR) (r : Nat) : Prop where
  old : w.heap.size ≤ r
  nf : r ∉ F
  nr : r ∉ R
  ni : r ≠ mi
  no : r ≠ mo
  nt : r ≠ mt
  rows : ∀ x ∈ li ++ lo, r ∉ ft x.a
theorem Gives.mkFar (h : Gives w wr n mi mo mt F R N li lo lr) : Far w F R mi mo mt li lo wr.heap.size := by
  have lt := h.net.lt
  have l1 := h.gi.lt
  have l2 := h.go.lt
  have l3 := h.gt.lt
  refine ⟨h.kept.size, fun hx => ?_, fun hx => ?_, by omega, by omega, by omega, fun x hx hb => ?_⟩
  · have := lt.1 _ hx; omega
  · have := lt.2 _ hx; omega
  · have := ((h.rows x hx).2 _ hb).1; omega
theorem Gives.far (h : Gives w wr n mi mo mt F R N li lo lr) {r : Nat} (hr : Far w F R mi mo mt li lo r) (hk : Kept [r] wr w1) : Gives w w1 n mi mo mt F R N li lo lr := by
  have nf : ∀ b, b ≠ r → b ∉ [r] := by simp
  refine ⟨h.net.kept hk (fun b hb => nf _ (fun e => hr.nf (e ▸ hb))) (fun b hb => nf _ (fun e => hr.nr (e ▸ hb))), kept_up h.kept hk (fun b hb => by simp at hb; subst hb; exact hr.old), h.fF, h.mm, h.mf, h.gi.kept hk (nf _ (Ne.symm hr.ni)), h.go.kept hk (nf _ (Ne.symm hr.no)), h.gt.kept hk (nf _ (Ne.symm hr.nt)), fun x hx => ?_⟩
  obtain ⟨r1, r2⟩ := h.rows x hx
  exact ⟨r1.kept hk (fun b hb => nf _ (fun e => hr.rows x hx (e ▸ hb))), fun b hb => ⟨Nat.lt_of_lt_of_le (r2 b hb).1 hk.size, (r2 b hb).2⟩⟩
def FoundPost (b : Bus) (w : World) (e : Ending) (w' : World) : Prop := ∃ a c, e = .returned (.tuple #[.slice a b.lits.length c, .bool true]) ∧ Own w' 44 a b.lits.length c (nats .u32 b.lits) ∧ Stepped w w' [] (ft a)
theorem find_in (h : NetAt w n F R N) {k : Nat} (hf : NtFine k N) (hk : k ≤ 700) {b : Bus} (hb : b ∈ N.inb) :
    ∃ ia ic, w.cell? ⟨n, 2, none⟩ = some (.slice ia N.inb.length ic) ∧ Calls Try.prog 13 #[.slice ia N.inb.length ic, .string b.name] w (FoundPost b w) := by
  obtain ⟨p, G, ia, ic, ra, rc, oa, oc, ri, ro, rfl, rfl, hc⟩ := h
  have his := hc.ib.is
  have hln := hf.ok.ik
  obtain ⟨r, hr, hfr, hrb⟩ := findRow_get (rs := ri) (s := b.name) (b := b) (by have := hf.ni; rw [← his, List.map_map] at this; exact this) (by rw [his]; exact hb) rfl
  refine ⟨ia, ic, hc.c2, (find_row b.name ia ic N.inb.length ri (by rw [← his]; simp) (by omega) hc.ib.slb (fun x hx => ?_)).mono ?_⟩
  · have hx' : x.b ∈ N.inb := by rw [← his]; exact List.mem_map_of_mem hx
    obtain ⟨i1, i2, _, _⟩ := hf.ok.il x.b hx'
    exact ⟨(hc.ib.rows x hx).1, i1, by omega⟩
  · intro e w' hx
    rcases hx with ⟨h1, _⟩ | ⟨r2, h1, a, c, h2, h3, h4⟩
    · rw [hfr] at h1; cases h1
    · rw [hfr] at h1
      injection h1 with h1
      subst h1
      rw [hrb] at h2 h3
      exact ⟨a, c, h2, h3, h4⟩
theorem find_out (h : NetAt w n F R N) {k : Nat} (hf : NtFine k N) (hk : k ≤ 700) {b : Bus} (hb : b ∈ N.outb) :
    ∃ oa oc, w.cell? ⟨n, 4, none⟩ = some (.slice oa N.outb.length oc) ∧ Calls Try.prog 13 #[.slice oa N.outb.length oc, .string b.name] w (FoundPost b w) := by
  obtain ⟨p, G, ia, ic, ra, rc, oa, oc, ri, ro, rfl, rfl, hc⟩ := h
  have his := hc.ob.is
  have hln := hf.ok.ok
  obtain ⟨r, hr, hfr, hrb⟩ := findRow_get (rs := ro) (s := b.name) (b := b) (by have := hf.no; rw [← his, List.map_map] at this; exact this) (by rw [his]; exact hb) rfl
  refine ⟨oa, oc, hc.c4, (find_row b.name oa oc N.outb.length ro (by rw [← his]; simp) (by omega) hc.ob.slb (fun x hx => ?_)).mono ?_⟩
  · have hx' : x.b ∈ N.outb := by rw [← his]; exact List.mem_map_of_mem hx
    obtain ⟨i1, i2, _, _⟩ := hf.ok.ol x.b hx'
    exact ⟨(hc.ob.rows x hx).1, i1, by omega⟩
  · intro e w' hx
    rcases hx with ⟨h1, _⟩ | ⟨r2, h1, a, c, h2, h3, h4⟩
    · rw [hfr] at h1; cases h1
    · rw [hfr] at h1
      injection h1 with h1
      subst h1
      rw [hrb] at h2 h3
      exact ⟨a, c, h2, h3, h4⟩
theorem NetAt.regs (h : NetAt w n F R N) : ∃ ra rc, w.cell? ⟨n, 3, none⟩ = some (.slice ra N.regs.length rc) ∧ SlR w ra N.regs := by
  obtain ⟨p, G, ia, ic, ra, rc, oa, oc, ri, ro, rfl, rfl, hc⟩ := h
  exact ⟨ra, rc, hc.c3, regs_sl rfl hc.rb⟩
theorem NetAt.buses (h : NetAt w n F R N) : ∃ ia ic oa oc, w.cell? ⟨n, 2, none⟩ = some (.slice ia N.inb.length ic) ∧ w.cell? ⟨n, 4, none⟩ = some (.slice oa N.outb.length oc) := by
  obtain ⟨p, G, ia, ic, ra, rc, oa, oc, ri, ro, rfl, rfl, hc⟩ := h
  exact ⟨ia, ic, oa, oc, hc.c2, hc.c4⟩
theorem lit_size (w : World) : (sizeOf 44).run Try.prog w = .ok 1 w := by kernel_rfl
theorem two_eq (w : World) (y z : Int) : (Op.equalIn 10000 46 (.agg #[.int .u32 y, .int .u32 z]) (.agg #[.int .u32 y, .int .u32 z])).run Try.prog w = .ok true w := by
  have ht : Try.prog.underlying 46 = some (.array 2 44) := by kernel_rfl
  have he := Try.underlying44
  have pe : ∀ x : Int, (Op.equalIn 9999 44 (.int .u32 x) (.int .u32 x)).run Try.prog w = .ok true w := fun x => by
    rw [run_equalIn_int w 9998 _ .u32 .u32 _ _ he]
    simp
  have p1 : ∀ a b : Int, (part 44 #[.int .u32 a, .int .u32 b] 0).run Try.prog w = .ok (.int .u32 a) w := fun a b => by simp [part, isAgg, run_underlying he]
  have p2 : ∀ a b : Int, (part 44 #[.int .u32 a, .int .u32 b] 1).run Try.prog w = .ok (.int .u32 b) w := fun a b => by simp [part, isAgg, run_underlying he]
  rw [show (10000 : Nat) = 9999 + 1 from rfl, Op.equalIn]
  simp only [Sem.run_bind, run_underlying ht, Result.andThen_ok, lit_size, Std.Legacy.Range.forIn_eq_forIn_range', Std.Legacy.Range.size, Nat.sub_zero, Nat.add_sub_cancel, Nat.div_one]
  simp [List.range', p1, p2, pe]
end Go.Proofs.Ythiccfaldahmhaa
