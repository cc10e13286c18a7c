/-
  Law 12: rows added, whichever way; the chapter's rows.
  slices.Clone of pairs, maps.Clone of a graph's map; Graph.Copy.
-/
import Derived.Test.YtenhbhckhncamaaP14
import Derived.Shelf.SlMaps.Clone
import Derived.Deep.RegionHeld3
import Derived.Test.YtenhbhckhncamaaP25
import Derived.Test.YtenhbhckhncamaaP26
import Derived.Test.YtenhbhckhncamaaP27
import Derived.Test.YtenhbhckhncamaaP28
namespace Go.Proofs.Ytenhbhckhncamaa
open Go.ChangeShapes Go.WideShapes Go.ChangeAt Go.RowKit
open Go.Maps (Keyed)
open Go.WideMaps
set_option linter.unusedVariables false

variable {w w' : World} {p : Nat} {F S : List Nat} {g : Gr}
theorem pcells_one (l : List (Nat × Nat)) : ∀ u ∈ pcells l, u.oneCell' = true := by
  intro u hu
  simp only [pcells, List.mem_flatMap, List.mem_cons, List.not_mem_nil, or_false] at hu
  obtain ⟨p, _, rfl | rfl⟩ := hu <;> rfl
/-- the cells of a row of the call's own -/
theorem row_cells {w : World} {e : TypeId} {size n cap : Nat} {ad : Addr} {xs : List Value} (h : w.ownsRow 0 e size (.slice (some ad) n cap) n xs) : ∀ j u, xs[j]? = some u → w.cell? (ad.add j) = some u := by
  intro j u hu
  rcases h.2 with ⟨hv, _⟩ | ⟨g, cap', cur, hv, hb, hg, rest⟩
  · cases hv
  · have := World.ownsRow.cells h (g := g) (by rw [hv]; rfl) j u hu
    injection hv with hv
    injection hv with hv
    subst hv
    exact this
def NewPairs (l : List (Nat × Nat)) (n : Nat) (w : World) (e : Ending) (w' : World) : Prop := ∃ a c, e = .returned (.slice a n c) ∧ Own2 w' 97 a n c (pcells l) ∧ Stepped w w' [] (ft a)

theorem keep5 {w w' : World} {a0 a1 a2 a3 a4 : Addr} {v0 v1 v2 v3 v4 : Value} (hk : Kept [] w w') (h0 : w.cell? a0 = some v0) (h1 : w.cell? a1 = some v1) (h2 : w.cell? a2 = some v2) (h3 : w.cell? a3 = some v3) (h4 : w.cell? a4 = some v4) :
    Kept [] w w' ∧ w'.cell? a0 = some v0 ∧ w'.cell? a1 = some v1 ∧ w'.cell? a2 = some v2 ∧ w'.cell? a3 = some v3 ∧ w'.cell? a4 = some v4 :=
  ⟨hk, hk.cell h0 (by simp), hk.cell h1 (by simp), hk.cell h2 (by simp), hk.cell h3 (by simp), hk.cell h4 (by simp)⟩
/-- a graph of its own beside the old one -/
def CopyPost (g : Gr) (w : World) (e : Ending) (w' : World) : Prop := ∃ p' F', e = .returned (.pointer (some ⟨p', 0, none⟩)) ∧ GraphAt w' p' F' g ∧ Stepped w w' [] F'
end Go.Proofs.Ytenhbhckhncamaa

namespace Go.Proofs.Ytenhbhckhncamaa
open Go.ChangeShapes Go.WideShapes Go.ChangeAt Go.RowKit
open Go.Maps (Keyed)
open Go.WideMaps
set_option linter.unusedVariables false

variable {w w' w1 : World} {p : Nat} {F F1 F' S : List Nat} {g g' : Gr} {a b : Option Addr} {n ca cb : Nat} {la lb : List Nat}

def addG (how : Nat) (g : Gr) (la lb : List Nat) (c n : Nat) : Gr × List Nat × Nat := if how = 1 then ripTo g la lb c n else aheadG g la lb c n
theorem addG_ok {how c : Nat} (hw : WF g.nodes) (ka : ∀ x ∈ la, g.ok x) (kb : ∀ x ∈ lb, g.ok x) (kc : g.ok c) (hla : la.length = n) (hlb : lb.length = n) (hn : n ≤ 64) : AddOk (9 * n + 1152) g la lb c n (addG how g la lb c n) := by
  unfold addG
  split
  · have h := rip_ok hw ka kb kc hla hlb
    exact ⟨h.wf, h.ext.mono (by omega), h.len, h.os, h.oc, h.val⟩
  · have h := ahead_ok hw ka kb kc hla hlb hn
    have h2 := wideTo_le n hn (rnds n)
    have h3 : rnds n ≤ 6 := by unfold rnds; repeat' split
                               all_goals omega
    exact ⟨h.wf, h.ext.mono (by omega), h.len, h.os, h.oc, h.val⟩
def AddRows (r : Gr × List Nat × Nat) (w : World) (p : Nat) (F : List Nat) (n : Nat) (a : Option Addr) (ca : Nat) (la : List Nat) (b : Option Addr) (cb : Nat) (lb : List Nat) (e : Ending) (w' : World) : Prop :=
  ∃ F' s cs, e = .returned (.tuple #[.slice s n cs, .int .u32 (r.2.2 : Nat), .int .i64 0]) ∧ RowsAt w' p F' r.1 n a ca la b cb lb ∧ Own w' 34 s n cs (nats .u32 r.2.1) ∧ Stepped w w' F F'
theorem rows_add {how c : Nat} (h : RowsAt w p F g n a ca la b cb lb) (hh : how = 1 ∨ how = 2) (h1 : 1 ≤ n) (hn : n ≤ 64) (hm : g.nodes.length ≤ 169000) (hc : g.ok c) :
    Calls Try.prog 48 #[.pointer (some ⟨p, 0, none⟩), .int .i64 how, .slice a n ca, .slice b n cb, .int .u32 c] w (AddRows (addG how g la lb c n) w p F n a ca la b cb lb) := by
  have hok := addG_ok (how := how) h.graph.wf h.ka h.kb hc h.lenA h.lenB hn
  refine (add_c hh h.graph hm h1 hn h.lenA h.lenB h.oa.sln h.ob.sln h.ka h.kb hc (h.oa.apart_g h.graph (by decide) (by decide) (by decide)) (h.ob.apart_g h.graph (by decide) (by decide) (by decide))).mono ?_
  rintro e w' ⟨F', s, cs, he, hg', hos, hst⟩
  have hst' : Stepped w w' F F' := hst.weak (fun _ h => h) (fun x hx => List.mem_append_left _ hx)
  exact ⟨F', s, cs, he, h.step hst' hg' hok.ext, hos, hst'⟩

theorem RowsAt.of (hg : GraphAt w p F g) (ho : Own w 34 a n ca (nats .u32 la)) (ho' : Own w 34 b n cb (nats .u32 lb)) (ka : ∀ x ∈ la, g.ok x) (kb : ∀ x ∈ lb, g.ok x) : RowsAt w p F g n a ca la b cb lb := ⟨hg, ho, ho', ka, kb⟩
theorem fresh_gates {o1 o2 : Bool} {c k m : Nat} {r : Gr} (hx : Ext c (freshG o1 o2 k) r) (hj : r.nodes.length = k + 1 + m) : gatesN r = (m : Int) := by
  unfold gatesN
  rw [hx.ins, (freshG_wf o1 o2 k).2, hj]
  omega
/-- a graph beside what is written -/
theorem keep_apart {w1 w2 : World} {G G' : List Nat} (hg : GraphAt w1 p F g) (hd : ∀ x ∈ F, x ∉ G) (hst : Stepped w1 w2 G G') : GraphAt w2 p F g ∧ ∀ x ∈ F, x ∉ G' :=
  ⟨hg.kept hst.kept hd, fun x hx hf => by
    rcases hst.fresh x hf with h | h
    · exact hd x hx h
    · have := hg.lt x hx; omega⟩
theorem swap_apart {G : List Nat} (h : ∀ x ∈ F, x ∉ G) : ∀ x ∈ G, x ∉ F := fun x hx hf => h x hf hx
theorem Stepped.new {w1 w2 w3 : World} {G : List Nat} (h : Kept [] w1 w2) (hst : Stepped w2 w3 [] G) : Stepped w1 w3 [] G := ((Stepped.refl w1 []).keep h).trans hst

end Go.Proofs.Ytenhbhckhncamaa
