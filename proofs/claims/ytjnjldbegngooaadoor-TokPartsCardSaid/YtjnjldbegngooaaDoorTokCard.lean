/-
  Chapter 15: what the rows' laid variables give the walks; the frame's parts.
-/
import Derived.Test.YtjnjldbegngooaaDoorTokY
import Derived.Test.YtjnjldbegngooaaDoorRows
import Derived.Test.YtjnjldbegngooaaDoorTie
import Derived.Test.YtjnjldbegngooaaDoorCards
import Derived.ProofKit
import Derived.LaidMore
import Derived.OpenShut
import Derived.Stop.Joined
import Derived.SevenTiedAt
namespace Go.Proofs.YtjnjldbegngooaaDoor
open Go.ChangeShapes Go.WideShapes Go.ChangeAt Go.WideMaps Go.WideElems Go.RowKit
set_option linter.unusedVariables false
set_option linter.unusedSimpArgs false

def laid7 : List (String × DataW Unit) := [("math/bits.deBruijn32tab", Rows.laid_math_bits_deBruijn32tab), ("math/bits.deBruijn64tab", Rows.laid_math_bits_deBruijn64tab), ("internal/strconv.uint64pow10", Rows.laid_internal_strconv_uint64pow10), ("strconv.ErrRange", Rows.laid_strconv_ErrRange), ("strconv.ErrSyntax", Rows.laid_strconv_ErrSyntax), ("orrery/tok.reserved", Rows.laid_orrery_tok_reserved), ("orrery/tok.signs", Rows.laid_orrery_tok_signs)]
set_option maxRecDepth 100000 in
theorem door_met (os : Os) (args : Array Value) : laidMetH Tryd.prog laid7 ((World.doorLaid Tryd.prog 400 os).forCall (fun _ _ => 0) ⟨#[], args, []⟩).memory :=
  laidMetH_of_parts3 (fuel := 8) (laidMet_of_run' 8 (by kernel_rfl) (by kernel_rfl)) (by kernel_rfl) (by kernel_rfl)
theorem gRng : Tryd.prog.globalNamed "strconv.ErrRange" = some 3 := by kernel_rfl
theorem gSyn : Tryd.prog.globalNamed "strconv.ErrSyntax" = some 2 := by kernel_rfl
theorem gRes : Tryd.prog.globalNamed "orrery/tok.reserved" = some 0 := by kernel_rfl
theorem gSig : Tryd.prog.globalNamed "orrery/tok.signs" = some 1 := by kernel_rfl
theorem tRng : (Tryd.prog.globals[3]?).map (·.type) = some 61 := by kernel_rfl
theorem tSyn : (Tryd.prog.globals[2]?).map (·.type) = some 61 := by kernel_rfl
theorem tRes : (Tryd.prog.globals[0]?).map (·.type) = some 65 := by kernel_rfl
theorem tSig : (Tryd.prog.globals[1]?).map (·.type) = some 80 := by kernel_rfl
/-- an error variable holds none, or one -/
theorem trod_err {P : Program} {t : TypeId} {m : _} (ht : P.underlying t = some (.interface m)) {enc : TypeId × Value → Unit} {W : World} {base : Nat} {sp : Nat → Bool} {held : Bool} {fuel : Nat} {cs : List Value} {x : DataW Unit × List MemPlace} (h : DataW.trod enc P W base sp held fuel t cs = some x) :
    ∃ ev, cs = [ev] ∧ (ev = .nilIface ∨ ∃ te pe, ev = .iface te pe) := by
  cases fuel with
  | zero => simp [DataW.trod] at h
  | succ n =>
    unfold DataW.trod at h
    rw [ht] at h
    split at h <;> simp_all
theorem at_const (E : List (Lit × DataW Unit)) (k : Lit) (v z : DataW Unit) (hv : ∀ x ∈ E, x.2 = v) : (DataW.map E).atKey k z = if E.any (fun p => p.1.sameKey k) then v else z := by
  unfold DataW.atKey
  simp only
  cases h : E.find? (fun p => p.1.sameKey k) with
  | none =>
    have : E.any (fun p => p.1.sameKey k) = false := by
      rw [List.any_eq_false]
      intro x hx hp
      exact List.find?_eq_none.1 h x hx hp
    rw [this]
    rfl
  | some x =>
    have hm := List.mem_of_find?_eq_some h
    have hp := List.find?_some h
    rw [if_pos (List.any_eq_true.2 ⟨x, hm, hp⟩)]
    exact hv x hm
theorem res_at (l : List UInt8) : (Rows.laid_orrery_tok_reserved (H := Unit)).atKey (.string l) .nil = if resB l then .lit (.bool true) else .nil := by
  unfold Rows.laid_orrery_tok_reserved
  refine (at_const _ _ (.lit (.bool true)) _ ?_).trans ?_
  · intro x hx
    simp at hx
    rcases hx with rfl | rfl | rfl | rfl | rfl | rfl | rfl | rfl | rfl | rfl | rfl | rfl | rfl | rfl | rfl | rfl | rfl | rfl <;> rfl
  have e : ([[97, 110, 100], [101, 108, 115, 101], [102, 97, 108, 115, 101], [102, 98, 121], [105, 102], [108, 101, 116], [109, 101, 114, 103, 101], [110, 111, 100, 101], [110, 111, 116], [111, 114], [112, 114, 101], [114, 101, 116, 117, 114, 110, 115], [116, 101, 108], [116, 104, 101, 110], [116, 114, 117, 101], [118, 97, 114], [119, 104, 101, 110], [120, 111, 114]] : List (List UInt8)).any (fun x => x == l) = resB l := by
    unfold resB wordsL
    have hb : ∀ x : List UInt8, (x == l) = decide (x = l) := fun x => by rw [Bool.eq_iff_iff]; simp
    simp only [List.any_cons, List.any_nil, hb, Bool.or_false]
    ac_rfl
  rw [← e]
  rfl
set_option maxRecDepth 100000 in
theorem laid_all {W : World} (h : laidMetH Tryd.prog laid7 W) : Laid W := by
  rw [MakeChecks.laidMetH_plain _ _ _ (by kernel_rfl)] at h
  obtain ⟨ps, ⟨_, _, _, _, _, _, _, _, _, _, ⟨_, _, _, _, _, _, _, _, _, _, ⟨_, _, _, _, _, _, _, _, _, _, ⟨g3, t3, cs3, f3, p3, q3, hg3, ht3, hv3, hd3, ⟨g4, t4, cs4, f4, p4, q4, hg4, ht4, hv4, hd4, ⟨g5, t5, cs5, f5, p5, q5, hg5, ht5, hv5, hd5, ⟨g6, t6, cs6, f6, p6, q6, hg6, ht6, hv6, hd6, _⟩, _⟩, _⟩, _⟩, _⟩, _⟩, _⟩, _⟩ := h
  obtain rfl := Option.some.inj (gRng.symm.trans hg3)
  obtain rfl := Option.some.inj (gSyn.symm.trans hg4)
  obtain rfl := Option.some.inj (gRes.symm.trans hg5)
  obtain rfl := Option.some.inj (gSig.symm.trans hg6)
  obtain rfl := Option.some.inj (tRng.symm.trans ht3)
  obtain rfl := Option.some.inj (tSyn.symm.trans ht4)
  obtain rfl := Option.some.inj (tRes.symm.trans ht5)
  obtain rfl := Option.some.inj (tSig.symm.trans ht6)
  refine ⟨?_, ?_, ?_, ?_⟩
  · have c5 : Tryd.prog.cellsOf 9 = 1 := by kernel_rfl
    have c17 : Tryd.prog.cellsOf 80 = 17 := by kernel_rfl
    obtain ⟨xs, m1, rfl, hx1, hlen, hn3, hel⟩ := DataW.trod_array Tryd.underlying80 hd6
    simp only [Prod.mk.injEq] at hx1
    have hagg : ∀ (l l' : List (DataW Unit)), DataW.agg l = DataW.agg l' → l = l' := fun l l' e => by injection e
    have hL := hagg _ _ hx1.1
    have hL2 : xs.map (·.1) = signsL.map fun l => DataW.lit (.string l) := hL.symm
    have hcs : cs6 = signsV := by
      apply Array.toList_inj.1
      have e2 : signsV.toList = signsL.map fun l => Value.string ⟨l.toArray⟩ := rfl
      rw [e2]
      apply List.ext_getElem
      · rw [hlen, c17]; rfl
      · intro i h1 h2
        have hi : i < 17 := by rw [hlen, c17] at h1; exact h1
        have hxi : xs[i]? = some (xs[i]'(by omega)) := List.getElem?_eq_getElem (by omega)
        have h3 := hel i hi
        rw [hxi, c5] at h3
        obtain ⟨sv, e3, e4, _⟩ := DataW.trod_string Tryd.underlying9 h3
        have e5 : (cs6.toList.drop (i * 1)).take 1 = [cs6.toList[i]'h1] := by
          rw [Nat.mul_one, List.drop_eq_getElem_cons h1]
          rfl
        rw [e5] at e3
        injection e3 with e3 _
        rw [e3, List.getElem_map]
        have e6 := congrArg (fun l => l[i]?) hL2
        simp only [List.getElem?_map, hxi, Option.map_some] at e6
        rw [List.getElem?_eq_getElem (show i < signsL.length from hi)] at e6
        simp only [Option.map_some] at e6
        rw [e4] at e6
        have e7 : sv.data.toList = signsL[i]'hi := by
          injection e6 with e6
          injection e6 with e6
          injection e6
        congr 1
        apply ByteArray.ext
        apply Array.toList_inj.1
        exact e7
    have hv := hv6
    simp only [World.var?, hg6, Option.bind_some] at hv
    split at hv
    · rename_i c t fr hb
      injection hv with hv
      subst hv
      exact ⟨t, fr, by rw [hb, hcs]⟩
    · cases hv
  · have K : KeyLaw Tryd.prog 9 := string_law Tryd.underlying9
    rcases open_map Tryd.underlying65 hd5 with ⟨_, hx⟩ | ⟨bm, es, clock, m, rfl, hcs, hb, _, F, hx⟩
    · simp [Rows.laid_orrery_tok_reserved] at hx
    simp only [Prod.mk.injEq] at hx
    refine ⟨bm, ?_, es, clock, hb, fun V sv hV hs => ?_⟩
    · have := World.var?_cell hg5 hv5 0
      rw [Array.eq_one_of_toList hcs] at this
      simpa using this
    · have zero : (zeroValue 4).run Tryd.prog V = .ok (.bool false) V := by kernel_rfl
      have hat0 := res_at sv.data.toList
      rw [hx.1] at hat0
      rcases fit_lookup (w := V) K Tryd.underlying65 zero hV F (keyOf_string_mk (s := sv) Tryd.underlying9 (by unfold maxLen; omega)) with ⟨hrun, hat⟩ | ⟨v, y, hrun, hRv, hat, _⟩
      · have h1 := hat .nil
        rw [hat0] at h1
        cases hr : resB sv.data.toList with
        | true => rw [hr] at h1; cases h1
        | false => exact hrun
      · obtain ⟨r, rfl, rfl⟩ := elemAt_bool Tryd.underlying4 hRv
        have h1 := hat .nil
        rw [hat0] at h1
        cases hr : resB sv.data.toList with
        | true =>
          rw [hr] at h1
          have h2 : true = r := by injection h1 with h1; injection h1
          rw [h2]
          exact hrun
        | false => rw [hr] at h1; cases h1
  · obtain ⟨ev, hc, he⟩ := trod_err Tryd.underlying61 hd4
    refine ⟨ev, ?_, he⟩
    have := World.var?_cell hg4 hv4 0
    rw [Array.eq_one_of_toList hc] at this
    simpa using this
  · obtain ⟨ev, hc, he⟩ := trod_err Tryd.underlying61 hd3
    refine ⟨ev, ?_, he⟩
    have := World.var?_cell hg3 hv3 0
    rw [Array.eq_one_of_toList hc] at this
    simpa using this
end Go.Proofs.YtjnjldbegngooaaDoor
