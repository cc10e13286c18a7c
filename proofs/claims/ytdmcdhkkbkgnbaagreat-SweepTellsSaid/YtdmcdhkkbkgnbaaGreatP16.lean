/-
  A map of the call's own with its count; ranging over it.
  Law 06: Does, joined; package net: Find, Bits, named.
-/
import Derived.Test.YtdmcdhkkbkgnbaaGreatP14
import Derived.Test.YtdmcdhkkbkgnbaaGreatP15
import Derived.Test.YtdmcdhkkbkgnbaaGreatP03
import Derived.Maps.RangeWalk
namespace Go.Proofs.YtdmcdhkkbkgnbaaGreat
open Go.ChangeShapes Go.WideShapes Go.ChangeAt Go.RowKit
open Go.Maps (Keyed)
open Go.WideMaps
set_option linter.unusedVariables false
set_option linter.unusedSimpArgs false

variable {w w' : World} {p n : Nat} {F R S : List Nat} {g : Gr} {N : Nt}
theorem does_c (s : NStp) (la : Option Addr) (lc : Nat) (h : NetAt w n F R N) (hok : N.g.nodes.length ≤ 50000 ∧ N.inb.length ≤ 10000 ∧ N.regs.length ≤ 10000 ∧ N.outb.length ≤ 10000) (hs : s.ok) (hsl : SlN w .u32 la s.lits) :
    Calls Tryz.prog 34 #[.pointer (some ⟨n, 0, none⟩), stepV s la lc] w (AddInPost (doesN N s) w n F R) := by
  unfold doesN
  by_cases h0 : s.what = 0
  · rw [if_pos h0]; exact does_0 s la lc h hok hs h0
  rw [if_neg h0]
  by_cases h1 : s.what = 1
  · rw [if_pos h1]; exact does_1 s la lc h hok hs h1
  rw [if_neg h1]
  by_cases h2 : s.what = 2
  · rw [if_pos h2]; exact does_2 s la lc h hok hs h2
  rw [if_neg h2]
  by_cases h3 : s.what = 3
  · rw [if_pos h3]; exact does_3 s la lc h hok hs hsl h3
  rw [if_neg h3]
  by_cases h4 : s.what = 4
  · rw [if_pos (.inl h4)]; exact does_4 s la lc h hok hs h4
  by_cases h5 : s.what = 5
  · rw [if_pos (.inr (.inl h5))]; exact does_5 s la lc h hok hs h5
  by_cases h6 : s.what = 6
  · rw [if_pos (.inr (.inr h6))]; exact does_6 s la lc h hok hs h6
  rw [if_neg (by omega)]
  by_cases h7 : s.what = 7
  · rw [if_pos h7]; exact does_7 s la lc h hok hs h7
  rw [if_neg h7]
  by_cases h8 : s.what = 8
  · rw [if_pos h8]; exact does_8 s la lc h hok hs h8
  rw [if_neg h8]
  exact does_9 s la lc h (by omega)
theorem bits_c (h : NetAt w n F R N) : Calls Tryz.prog 22 #[.pointer (some ⟨n, 0, none⟩)] w fun e w' => e = .returned (.int .i64 (N.regs.length : Nat)) ∧ w = w' := by
  obtain ⟨p, G, ia, ic, ra, rc, oa, oc, ri, ro, rfl, rfl, hc⟩ := h
  have c3 := hc.c3
  clear hc
  go_enter Tryz.func22, Tryz.ntmps22
  go_wp2
  go_ret
  exact ⟨rfl, rfl⟩
def FindPost (o : Option BR) (w : World) (e : Ending) (w' : World) : Prop :=
  (o = none ∧ e = .returned (.tuple #[.slice none 0 0, .bool false]) ∧ Kept [] w w') ∨
  ∃ r, o = some r ∧ ∃ a c, e = .returned (.tuple #[.slice a r.b.lits.length c, .bool true]) ∧ Own w' 61 a r.b.lits.length c (nats .u32 r.b.lits) ∧ Stepped w w' [] (ft a)
def findRow (rs : List BR) (s : ByteArray) : Option BR := (findP rs s).bind fun k => rs[k]?
theorem findP_first {rs : List BR} (hd : (rs.map fun r => r.b.name).Pairwise (· ≠ ·)) {k : Nat} (hk : k < rs.length) : findP rs rs[k].b.name = some k := by
  unfold findP
  rw [List.findIdx?_eq_some_iff_getElem]
  refine ⟨hk, by simp, fun j hj => ?_⟩
  have := List.pairwise_iff_getElem.1 hd j k (by simp; omega) (by simpa using hk) hj
  simpa using this
set_option maxHeartbeats 1600000 in
set_option maxRecDepth 100000 in
theorem named_c (h : NetAt w n F R N) (hgl : N.g.nodes.length ≤ 100000) (a : Option Addr) (c len : Nat) (rs : List BR) (hl : rs.length = len) (hm : len ≤ 100000) (hs : SlB w a rs)
    (hr : ∀ r ∈ rs, SlN w .u32 r.a r.b.lits ∧ 1 ≤ r.b.lits.length ∧ r.b.lits.length ≤ 64 ∧ mayB r.b.name = true ∧ ∀ x ∈ r.b.lits, N.g.ok x) (hd : (rs.map fun r => r.b.name).Pairwise (· ≠ ·)) :
    Calls Tryz.prog 66 #[.pointer (some ⟨n, 0, none⟩), .slice a len c] w (BoolIs true w) := by
  have HL := Lib.hid hl
  have HS := Lib.hid hs
  have HR := Lib.hid hr
  have HD := Lib.hid hd
  have HN := Lib.hid h
  clear hl hs hr hd h
  go_enter Tryz.func66, Tryz.ntmps66; (try simp only [List.append])
  go_wp2_with fail
  go_loopw [9] (fun i wr => ∃ k : Nat, k ≤ len ∧ i = .int .i64 k ∧ Kept [] w wr) (fun i _ => len - (intOf i).toNat)
  case atStart => exact ⟨0, Nat.zero_le _, rfl, .refl _ _⟩
  case round =>
    obtain ⟨k, hk, rfl, hkr⟩ := hrel
    have KR := Lib.hid hkr
    clear hkr
    by_cases hlt : k < len
    · have hkl : k < rs.length := by rw [HL.out]; exact hlt
      obtain ⟨b, rfl, h1, h2⟩ := (HS.out.kept0 KR.out) k hkl
      obtain ⟨r1, r2, r3, r4, r5⟩ := HR.out _ (List.getElem_mem hkl)
      have hsz : rs[k].b.name.size ≤ 140737488351232 := by
        have : rs[k].b.name.size ≤ 80 := by
          unfold mayB at r4
          simp only [Bool.and_eq_true, decide_eq_true_eq] at r4
          exact r4.1.2
        omega
      have HM := Lib.hid (fun (W : World) => show Calls Tryz.prog 65 #[.string rs[k].b.name] W (BoolIs true W) from by have h := mayname_c rs[k].b.name W hsz; rw [r4] at h; exact h)
      have HFI := Lib.hid (fun (W : World) (hk' : Kept [] w W) => show Calls Tryz.prog 114 #[.slice (some ⟨b, 0, none⟩) len c, .string rs[k].b.name] W (IntIs (k : Int) W) from by
        have h := find_c rs[k].b.name (some ⟨b, 0, none⟩) c len rs (w := W) HL.out (by omega) (HS.out.kept0 hk')
        rw [findP_first HD.out hkl] at h
        exact h)
      have HTH := Lib.hid (fun (W : World) (hk' : Kept [] w W) => show Calls Tryz.prog 67 #[.pointer (some ⟨n, 0, none⟩), .slice rs[k].a rs[k].b.lits.length rs[k].c] W (BoolIs true W) from by
        have h := there_c (HN.out.kept0 hk') (show N.g.nodes.length ≤ 200000 by omega) rs[k].a rs[k].c rs[k].b.lits.length rs[k].b.lits rfl (by omega) (r1.kept0 hk') (fun x hx => Gr.ok_lt (r5 x hx) (by omega))
        rw [gone_false.2 r5] at h
        exact h)
      clear r1 r4 r5 hsz
      generalize rs[k].b.lits.length = ll at *
      generalize rs[k].b.name = nm at *
      generalize rs[k].a = ra at *
      generalize rs[k].c = rc at *
      go_wp2_with fail
      obtain ⟨q, hq⟩ : ∃ q, q = wr.heap.size := ⟨_, rfl⟩
      obtain ⟨w1, hw1⟩ : ∃ w1, w1 = wr.alloc (.cells #[.string nm, .slice ra ll rc] 60) := ⟨_, rfl⟩
      have d0 : w1.cell? ⟨q, 0, none⟩ = some (.string nm) := by rw [hw1, hq]; exact blk_cell (heap_alloc_new wr _) 0
      have d1 : w1.cell? ⟨q, 1, none⟩ = some (.slice ra ll rc) := by rw [hw1, hq]; exact blk_cell (heap_alloc_new wr _) 1
      have K1 := Lib.hid (show Kept [] w w1 from by rw [hw1]; exact KR.out.alloc _)
      rw [← hw1, ← hq]
      clear hw1 hq h1 h2
      refine (HM.out _).mono ?_
      rintro e w2 ⟨rfl, hk2⟩
      have K2 := Lib.hid (K1.out.trans hk2)
      have e0 := hk2.cell d0 (by simp)
      have e1 := hk2.cell d1 (by simp)
      clear hk2 d0 d1
      go_wp2_with fail
      refine (HFI.out _ K2.out).mono ?_
      rintro e w3 ⟨rfl, hk3⟩
      have K3 := Lib.hid (K2.out.trans hk3)
      have f0 := hk3.cell e0 (by simp)
      have f1 := hk3.cell e1 (by simp)
      clear hk3 e0 e1
      go_wp2_with fail
      refine (HTH.out _ K3.out).mono ?_
      rintro e w4 ⟨rfl, hk4⟩
      have K4 := Lib.hid (K3.out.trans hk4)
      clear hk4 f0 f1
      go_wp2_with fail
      go_roundw
      case rel => exact ⟨k + 1, by omega, by go_num, K4.out⟩
      case measure => simp [intOf]; omega
    · go_wp2_with fail
      go_ret
      exact ⟨rfl, KR.out⟩
end Go.Proofs.YtdmcdhkkbkgnbaaGreat

namespace Go.Proofs.YtdmcdhkkbkgnbaaGreat
open Go.ChangeShapes Go.WideShapes Go.ChangeAt Go.RowKit
open Go.Maps (Keyed)
set_option linter.unusedVariables false

/-- Block m is a map that reads as f and has c entries, their stamps below the clock. -/
structure MapG (w : World) (P : Program) (k : TypeId) (m : Nat) (f : Value → Option Value) (c : Nat) : Prop where
  v : MapV w P k m f
  more : ∃ es clock, w.heap[m]? = some (.map es clock) ∧ (∀ e ∈ es.toList, e.born < clock) ∧ (es.toList.map (·.born)).Nodup ∧ es.size = c
variable {P : Program} {k : TypeId} {w w' : World} {m c : Nat} {f : Value → Option Value}
theorem MapG.kept {F : List Nat} (h : MapG w P k m f c) (hk : Kept F w w') (hn : m ∉ F) : MapG w' P k m f c := by
  obtain ⟨es, clock, hb, h2⟩ := h.more
  exact ⟨h.v.kept hk hn, es, clock, hk.heap hb hn, h2⟩
theorem MapG.new (w : World) (P : Program) (k : TypeId) : MapG (w.alloc (.map #[] 0)) P k w.heap.size (fun _ => none) 0 :=
  ⟨MapV.new w P k, #[], 0, heap_alloc_new w _, by simp, by simp, rfl⟩
theorem MapG.lt (h : MapG w P k m f c) : m < w.heap.size := h.v.lt
theorem MapG.update (h : MapG w P k m f c) (K : Keyed P k) {t e : TypeId} (ht : P.underlying t = some (.map k e)) {key val : Value} {kl : Lit} (hkey : keyOf P k key = some kl) :
    ∃ w', (Instr.mapUpdate t (.map (some m)) key val).run P w = .ok () w' ∧ MapG w' P k m (upd f key val) (if (f key).isSome then c else c + 1) ∧ Kept [m] w w' := by
  obtain ⟨w', hrun, hv, hk⟩ := h.v.update K ht (val := val) hkey
  refine ⟨w', hrun, ⟨hv, ?_⟩, hk⟩
  have hlt := h.lt
  obtain ⟨es0, clock0, hb0, hks, hun, hf⟩ := h.v
  obtain ⟨es, clock, hb, h1, h2, h3⟩ := h.more
  rw [hb] at hb0
  injection hb0 with hb0
  injection hb0 with e1 e2
  subst e1 e2
  rcases K.find w hkey es.toList hks with ⟨g1, g2⟩ | ⟨j, e0, g1, g2, g3⟩
  · have hn : f key = none := by
      cases hfk : f key with
      | none => rfl
      | some v =>
        obtain ⟨e, he, hke, _⟩ := (hf key v).1 hfk
        exact absurd hke (g2 e he)
    have hrun2 : (Instr.mapUpdate t (.map (some m)) key val).run P w = .ok () (ChangeMaps.setBlock w m (.map (es.push ⟨key, val, clock⟩) (clock + 1))) := by
      simp [Instr.mapUpdate, run_underlying ht, MapKept.run_getObj_map hb, K.check w false hkey, g1, MapKept.run_setObj_map _ hb, Result.andThen, ChangeMaps.setBlock]
    rw [hrun] at hrun2
    injection hrun2 with _ hw
    subst hw
    rw [hn]
    refine ⟨_, _, setBlock_same _ _ _ hlt, ?_, ?_, by simp [h3]⟩
    · intro x hx
      simp only [Array.toList_push, List.mem_append, List.mem_singleton] at hx
      rcases hx with hx | rfl
      · have := h1 x hx; omega
      · show clock < clock + 1; omega
    · rw [Array.toList_push, List.map_append, List.nodup_append]
      refine ⟨h2, by simp, fun a ha b hb => ?_⟩
      simp at hb
      obtain ⟨x, hx, rfl⟩ := List.mem_map.1 ha
      have := h1 x hx
      omega
  · have hn : f key = some e0.val := (hf key _).2 ⟨e0, List.mem_of_getElem? g2, g3, rfl⟩
    have hj : es[j]? = some e0 := by simpa using g2
    have hrun2 : (Instr.mapUpdate t (.map (some m)) key val).run P w = .ok () (ChangeMaps.setBlock w m (.map (es.modify j (fun e' => { e' with key := key, val := val })) clock)) := by
      simp [Instr.mapUpdate, run_underlying ht, MapKept.run_getObj_map hb, K.check w false hkey, g1, hj, g3, K.stays w hkey, MapKept.run_setObj_map _ hb, Result.andThen, ChangeMaps.setBlock]
    rw [hrun] at hrun2
    injection hrun2 with _ hw
    subst hw
    rw [hn]
    have hborn : ((es.modify j (fun e' => { e' with key := key, val := val })).toList.map (·.born)) = es.toList.map (·.born) := by
      rw [Array.toList_modify, modify_set _ _ _ _ g2, List.map_set]
      exact set_same _ _ _ (by rw [List.getElem?_map, g2]; rfl)
    refine ⟨_, _, setBlock_same _ _ _ hlt, ?_, by rw [hborn]; exact h2, by simp [h3]⟩
    intro x hx
    have : x.born ∈ es.toList.map (·.born) := by rw [← hborn]; exact List.mem_map_of_mem hx
    obtain ⟨y, hy, e⟩ := List.mem_map.1 this
    rw [← e]; exact h1 y hy
theorem MapG.len {t e : TypeId} (h : MapG w P k m f c) (ht : P.underlying t = some (.map k e)) (ty : TypeId) : (Builtin.len_ #[t] ty #[.map (some m)]).run P w = .ok (.int .i64 c) w := by
  obtain ⟨es, clock, hb, _, _, h3⟩ := h.more
  subst h3
  simp [Builtin.len_, run_underlying ht, MapKept.run_getObj_map hb, goInt, Result.andThen]
/-- block r goes through map m; so many of its entries are still to come at most; those of the keys 'todo' are -/
def RangeG (w : World) (P : Program) (k : TypeId) (m : Nat) (f : Value → Option Value) (c r left : Nat) (todo : Value → Prop) : Prop :=
  MapG w P k m f c ∧ r ≠ m ∧ ∃ es clock since c0 seen, w.heap[m]? = some (.map es clock) ∧ w.heap[r]? = some (.mapIter (some m) since seen c0) ∧ (∀ x ∈ es.toList, x.born < since) ∧ since ≤ c0 ∧ since ≤ clock ∧ (leftOf es seen).size ≤ left ∧ ∀ x ∈ es.toList, todo x.key → x.born ∉ seen
theorem RangeG.kept {F : List Nat} {r left : Nat} {todo : Value → Prop} (h : RangeG w P k m f c r left todo) (hk : Kept F w w') (h1 : m ∉ F) (h2 : r ∉ F) : RangeG w' P k m f c r left todo := by
  obtain ⟨hg, hne, es, clock, since, c0, seen, hb, hr, rest⟩ := h
  exact ⟨hg.kept hk h1, hne, es, clock, since, c0, seen, hk.heap hb h1, hk.heap hr h2, rest⟩
theorem leftOf_push {es : Array MapEntry} {seen : Array Nat} {e : MapEntry} (he : e ∈ (leftOf es seen).toList) : (leftOf es (seen.push e.born)).size < (leftOf es seen).size := by
  unfold leftOf at *
  have e1 : (es.filter fun x => !(seen.push e.born).contains x.born) = (es.filter fun x => !seen.contains x.born).filter fun x => !(x.born == e.born) := by
    rw [Array.filter_filter]
    congr 1
    funext x
    simp only [Array.contains_eq_mem, Array.mem_push, Bool.decide_or]
    by_cases h1 : x.born ∈ seen <;> by_cases h2 : x.born = e.born <;> simp [h1, h2]
  rw [e1]
  generalize es.filter (fun x => !seen.contains x.born) = L at *
  have h := Array.size_filter_lt_size_iff_exists (p := fun x : MapEntry => !(x.born == e.born)) (xs := L)
  rw [h]
  exact ⟨e, by simpa using he, by simp⟩
theorem MapG.range (h : MapG w P k m f c) {t e : TypeId} (ht : P.underlying t = some (.map k e)) :
    ∃ w', (Instr.range t (.map (some m))).run P w = .ok (.pointer (some ⟨w.heap.size, 0, none⟩)) w' ∧ RangeG w' P k m f c w.heap.size c (fun _ => True) ∧ Kept [] w w' := by
  have hlt := h.lt
  obtain ⟨es, clock, hb, h1, h2, h3⟩ := h.more
  refine ⟨w.alloc (.mapIter (some m) clock #[] clock), run_range_map w t k e m es clock ht hb, ⟨h.kept ((Kept.refl [] w).alloc _) (by simp), by omega, es, clock, clock, clock, #[], ?_, heap_alloc_new w _, h1, Nat.le_refl _, Nat.le_refl _, ?_, by simp⟩, (Kept.refl [] w).alloc _⟩
  · exact ((Kept.refl [] w).alloc _).heap hb (by simp)
  · unfold leftOf; rw [← h3]; exact Array.size_filter_le
theorem born_same {es : List MapEntry} (hn : (es.map (·.born)).Nodup) {a b : MapEntry} (ha : a ∈ es) (hb : b ∈ es) (h : a.born = b.born) : a = b := by
  have h1 := find_born a es hn ha
  have h2 := find_born b es hn hb
  rw [h] at h1
  rw [h1] at h2
  injection h2
theorem RangeG.next {r left : Nat} {todo : Value → Prop} (h : RangeG w P k m f c r left todo) (ty : TypeId) :
    ((∀ key v, f key = some v → ¬ todo key) ∧ (Instr.next (.pointer (some ⟨r, 0, none⟩)) false ty).run P w = .ok (.tuple #[.bool false]) w) ∨
    ∃ key v w' left', f key = some v ∧ (Instr.next (.pointer (some ⟨r, 0, none⟩)) false ty).run P w = .ok (.tuple #[.bool true, key, v]) w' ∧ RangeG w' P k m f c r left' (fun x => todo x ∧ x ≠ key) ∧ left' < left ∧ Kept [r] w w' ∧ (Instr.entry (.pointer (some ⟨r, 0, none⟩))).run P w' = .ok (.tuple #[key, v]) w' := by
  obtain ⟨hg, hne, es, clock, since, c0, seen, hb, hr, hold, hsc, hcl, hsz, htd⟩ := h
  obtain ⟨es0, clock0, hb0, h1, h2, h3⟩ := hg.more
  rw [hb] at hb0; injection hb0 with hb0; injection hb0 with e1 e2; subst e1 e2
  obtain ⟨es1, clock1, hb1, hks, hun, hf⟩ := hg.v
  rw [hb] at hb1; injection hb1 with hb1; injection hb1 with e1 e2; subst e1 e2
  rcases run_next_at (P := P) w ty r m since c0 seen es clock hr hb hold hsc with ⟨h0, hrun⟩ | ⟨e, he, w1, hw1, hrun⟩
  · refine .inl ⟨fun key v hkv ht => ?_, hrun⟩
    obtain ⟨e, he, rfl, rfl⟩ := (hf _ _).1 hkv
    have hns := htd e he ht
    have : e ∈ (leftOf es seen).toList := by
      unfold leftOf
      simp at he ⊢
      exact ⟨he, hns⟩
    rw [Array.eq_empty_of_size_eq_zero h0] at this
    simp at this
  · have hem : e ∈ es.toList := by
      unfold leftOf at he
      simp at he ⊢
      exact he.1
    have hk1 : Kept [r] w w1 := by
      rcases hw1 with rfl | rfl
      · exact Kept.refl _ _
      · exact (Kept.refl _ _).drew
    have hk2 : Kept [r] w1 (ChangeMaps.setBlock w1 r (.mapIter (some m) since (seen.push e.born) clock)) := setBlock_kept _ _ _
    have hk := hk1.trans hk2
    have hnm : m ∉ [r] := by simp; exact fun h => hne h.symm
    have hb' := hk.heap hb hnm
    have hrl : r < w1.heap.size := by
      have := (Array.getElem?_eq_some_iff.1 hr).1
      have := hk1.size
      omega
    have hr' : (ChangeMaps.setBlock w1 r (.mapIter (some m) since (seen.push e.born) clock)).heap[r]? = some (.mapIter (some m) since (seen.push e.born) clock) := setBlock_same _ _ _ hrl
    have hlt := leftOf_push he
    refine .inr ⟨e.key, e.val, _, (leftOf es (seen.push e.born)).size, (hf _ _).2 ⟨e, hem, rfl, rfl⟩, hrun, ⟨hg.kept hk hnm, hne, es, clock, since, clock, _, hb', hr', hold, hcl, hcl, Nat.le_refl _, fun x hx ht => ?_⟩, by omega, hk, run_entry_at _ r m since seen es clock e hr' hb' hem h2⟩
    rw [Array.mem_push]
    rintro (h | h)
    · exact htd x hx ht.1 h
    · have := born_same h2 hx hem h
      subst this
      exact ht.2 rfl
section
variable {ops : Array Oper} {rest : List Oper} {o : Oper} {a : Act} {Q : Exit → Act → World → Prop}
theorem wpList_updG {mo x y : Operand} {t e : TypeId} {key val : Value} (hg : o.guard = none) (hop : o.op = Op.mapUpdate t mo x y) (K : Keyed P k) (ht : P.underlying t = some (.map k e))
    (hm : a.eval mo = .map (some m)) (hx : a.eval x = key) (hy : a.eval y = val) (hown : MapG w P k m f c) (hkey : ∃ kl, keyOf P k key = some kl)
    (hK : ∀ w', MapG w' P k m (upd f key val) (if (f key).isSome then c else c + 1) → Kept [m] w w' → wpList P ops Q rest (a.put o.dst undef) w') : wpList P ops Q (o :: rest) a w := by
  refine wpList_plain hg fun K' hK' => ?_
  obtain ⟨kl, hkl⟩ := hkey
  obtain ⟨w', hrun, r1, r2⟩ := hown.update K ht (val := val) hkl
  unfold Oper.wp
  simp [execOp, hop, hm, hx, hy, hrun, Result.andThen]
  exact hK' _ _ (hK w' r1 r2)
theorem wpList_lenG {mo : Operand} {t e : TypeId} (hg : o.guard = none) (hop : o.op = Op.call { callee := Callee.builtin Builtin.len, args := #[mo], argTypes := #[t] }) (ht : P.underlying t = some (.map k e))
    (hm : a.eval mo = .map (some m)) (hown : MapG w P k m f c) (hK : wpList P ops Q rest (a.put o.dst (.int .i64 c)) w) : wpList P ops Q (o :: rest) a w := by
  refine wpList_plain hg fun K' hK' => ?_
  unfold Oper.wp
  simp [execOp, hop, resolve, invoke, builtin, hm, hown.len ht o.type, Result.andThen]
  exact hK' _ _ hK
theorem wpList_rangeG {mo : Operand} {t e : TypeId} (hg : o.guard = none) (hop : o.op = Op.range t mo) (ht : P.underlying t = some (.map k e)) (hm : a.eval mo = .map (some m)) (hown : MapG w P k m f c)
    (hK : ∀ w', RangeG w' P k m f c w.heap.size c (fun _ => True) → Kept [] w w' → w.heap.size < w'.heap.size → wpList P ops Q rest (a.put o.dst (.pointer (some ⟨w.heap.size, 0, none⟩))) w') : wpList P ops Q (o :: rest) a w := by
  refine wpList_plain hg fun K' hK' => ?_
  obtain ⟨w', hrun, r1, r2⟩ := hown.range ht
  unfold Oper.wp
  simp [execOp, hop, hm, hrun, Result.andThen]
  obtain ⟨_, _, es, clock, since, c0, seen, _, hr, _⟩ := id r1
  exact hK' _ _ (hK w' r1 r2 (Array.getElem?_eq_some_iff.1 hr).1)
theorem wpList_nextG {it : Operand} {r left : Nat} {todo : Value → Prop} (hg : o.guard = none) (hop : o.op = Op.next it false) (hit : a.eval it = .pointer (some ⟨r, 0, none⟩)) (h : RangeG w P k m f c r left todo)
    (hDone : (∀ key v, f key = some v → ¬ todo key) → wpList P ops Q rest (a.put o.dst (.tuple #[.bool false])) w)
    (hMore : ∀ key v w' left', f key = some v → RangeG w' P k m f c r left' (fun x => todo x ∧ x ≠ key) → left' < left → Kept [r] w w' → (Instr.entry (.pointer (some ⟨r, 0, none⟩))).run P w' = .ok (.tuple #[key, v]) w' → wpList P ops Q rest (a.put o.dst (.tuple #[.bool true, key, v])) w') :
    wpList P ops Q (o :: rest) a w := by
  refine wpList_plain hg fun K' hK' => ?_
  unfold Oper.wp
  rcases h.next o.type with ⟨h0, hrun⟩ | ⟨key, v, w', left', h1, hrun, h2, h3, h4, h5⟩
  · simp [execOp, hop, hit, hrun, Result.andThen]
    exact hK' _ _ (hDone h0)
  · simp [execOp, hop, hit, hrun, Result.andThen]
    exact hK' _ _ (hMore key v w' left' h1 h2 h3 h4 h5)
end
end Go.Proofs.YtdmcdhkkbkgnbaaGreat
