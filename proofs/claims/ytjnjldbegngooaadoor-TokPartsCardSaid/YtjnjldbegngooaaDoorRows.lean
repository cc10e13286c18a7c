/-
  NARROWER THAN 'FOR EVERY INPUT', by the rows' own cells (each row's printed sentence says how): TokReads: laid · TokWords: laid · TokFault: laid · TokTypes: laid · TokKnown: laid · TokParts: laid.
  DERIVED. THE GIVEN ROWS OF THIS SEAT. 6 by the template 'for every input the law returns true; each argument reads behind the call as it read before'; 0 by the template 'total and deterministic' (their statements: YtjnjldbegngooaaDoorTotals.lean).
  GIVEN WITH THE SEED: the statements are not yours to turn. If you find one false, say at which input.
  Laid BY PROGRAM, IN A SANDBOX (cutbox-rows.mjs): the forced cells as the released guide's own fill.sh prints them over the translation 4f3a34a3d93737ec… (all of the seat's roots in one cut). By AI agents, Wed Nov 11 2026. No macro, syntax, notation, axiom, sorry.
-/
import Derived.Test.YtjnjldbegngooaaDoorChecked
import GoSem.Claim
import GoSem.ClaimJoined
import GoSem.ClaimMapViews
import Derived.JoinedTies
import Derived.KernelRfl
namespace Go.Proofs.YtjnjldbegngooaaDoor
/- THE CELL 'sum', in the pinned program and in every row, IS THE sha256 OF THE DUMP (.gsa) THAT YtjnjldbegngooaaDoorProg.lean LOADS. Nothing in Lean hashes anything: it is a label: what it is worth is what the hold of that sum in a sandbox is worth. -/
noncomputable def Tryd.pinned : Pinned := { name := "ytjnjldbegngooaadoor", sum := "4f3a34a3d93737ecdb2bc8fcbaa04af5c2e8db66050d3b153f234ad267000e90", checked := Tryd.checked }
namespace Rows
def none {H : Type} : Left H := { results := [], args := [] }

/- WHAT THE LISTED PACKAGE-LEVEL VARIABLES READ AS WHEN THE CALL BEGINS. Each datum BY PROGRAM (the guide's laid-datum.mjs) off the statement by which the dump's own 'gosem.cut.vars' lays the variable. In a bare row this is a premise. The card (YtjnjldbegngooaaDoorCards.lean) ties it to the program's text. -/
def laid_math_bits_deBruijn32tab {H : Type} : DataW H := .agg [.lit (.int .u8 0), .lit (.int .u8 1), .lit (.int .u8 28), .lit (.int .u8 2), .lit (.int .u8 29), .lit (.int .u8 14), .lit (.int .u8 24), .lit (.int .u8 3), .lit (.int .u8 30), .lit (.int .u8 22), .lit (.int .u8 20), .lit (.int .u8 15), .lit (.int .u8 25), .lit (.int .u8 17), .lit (.int .u8 4), .lit (.int .u8 8), .lit (.int .u8 31), .lit (.int .u8 27), .lit (.int .u8 13), .lit (.int .u8 23), .lit (.int .u8 21), .lit (.int .u8 19), .lit (.int .u8 16), .lit (.int .u8 7), .lit (.int .u8 26), .lit (.int .u8 12), .lit (.int .u8 18), .lit (.int .u8 6), .lit (.int .u8 11), .lit (.int .u8 5), .lit (.int .u8 10), .lit (.int .u8 9)]
def laid_math_bits_deBruijn64tab {H : Type} : DataW H := .agg [.lit (.int .u8 0), .lit (.int .u8 1), .lit (.int .u8 56), .lit (.int .u8 2), .lit (.int .u8 57), .lit (.int .u8 49), .lit (.int .u8 28), .lit (.int .u8 3), .lit (.int .u8 61), .lit (.int .u8 58), .lit (.int .u8 42), .lit (.int .u8 50), .lit (.int .u8 38), .lit (.int .u8 29), .lit (.int .u8 17), .lit (.int .u8 4), .lit (.int .u8 62), .lit (.int .u8 47), .lit (.int .u8 59), .lit (.int .u8 36), .lit (.int .u8 45), .lit (.int .u8 43), .lit (.int .u8 51), .lit (.int .u8 22), .lit (.int .u8 53), .lit (.int .u8 39), .lit (.int .u8 33), .lit (.int .u8 30), .lit (.int .u8 24), .lit (.int .u8 18), .lit (.int .u8 12), .lit (.int .u8 5), .lit (.int .u8 63), .lit (.int .u8 55), .lit (.int .u8 48), .lit (.int .u8 27), .lit (.int .u8 60), .lit (.int .u8 41), .lit (.int .u8 37), .lit (.int .u8 16), .lit (.int .u8 46), .lit (.int .u8 35), .lit (.int .u8 44), .lit (.int .u8 21), .lit (.int .u8 52), .lit (.int .u8 32), .lit (.int .u8 23), .lit (.int .u8 11), .lit (.int .u8 54), .lit (.int .u8 26), .lit (.int .u8 40), .lit (.int .u8 15), .lit (.int .u8 34), .lit (.int .u8 20), .lit (.int .u8 31), .lit (.int .u8 10), .lit (.int .u8 25), .lit (.int .u8 14), .lit (.int .u8 19), .lit (.int .u8 9), .lit (.int .u8 13), .lit (.int .u8 8), .lit (.int .u8 7), .lit (.int .u8 6)]
def laid_internal_strconv_uint64pow10 {H : Type} : DataW H := .agg [.lit (.int .u64 1), .lit (.int .u64 10), .lit (.int .u64 100), .lit (.int .u64 1000), .lit (.int .u64 10000), .lit (.int .u64 100000), .lit (.int .u64 1000000), .lit (.int .u64 10000000), .lit (.int .u64 100000000), .lit (.int .u64 1000000000), .lit (.int .u64 10000000000), .lit (.int .u64 100000000000), .lit (.int .u64 1000000000000), .lit (.int .u64 10000000000000), .lit (.int .u64 100000000000000), .lit (.int .u64 1000000000000000), .lit (.int .u64 10000000000000000), .lit (.int .u64 100000000000000000), .lit (.int .u64 1000000000000000000), .lit (.int .u64 10000000000000000000)]
def laid_strconv_ErrRange {H : Type} : DataW H := .iface "*errors.errorString" (.ptr (.agg [.lit (.string [118, 97, 108, 117, 101, 32, 111, 117, 116, 32, 111, 102, 32, 114, 97, 110, 103, 101])]))
def laid_strconv_ErrSyntax {H : Type} : DataW H := .iface "*errors.errorString" (.ptr (.agg [.lit (.string [105, 110, 118, 97, 108, 105, 100, 32, 115, 121, 110, 116, 97, 120])]))
def laid_orrery_tok_reserved {H : Type} : DataW H := .map [(.string [97, 110, 100], .lit (.bool true)), (.string [101, 108, 115, 101], .lit (.bool true)), (.string [102, 97, 108, 115, 101], .lit (.bool true)), (.string [102, 98, 121], .lit (.bool true)), (.string [105, 102], .lit (.bool true)), (.string [108, 101, 116], .lit (.bool true)), (.string [109, 101, 114, 103, 101], .lit (.bool true)), (.string [110, 111, 100, 101], .lit (.bool true)), (.string [110, 111, 116], .lit (.bool true)), (.string [111, 114], .lit (.bool true)), (.string [112, 114, 101], .lit (.bool true)), (.string [114, 101, 116, 117, 114, 110, 115], .lit (.bool true)), (.string [116, 101, 108], .lit (.bool true)), (.string [116, 104, 101, 110], .lit (.bool true)), (.string [116, 114, 117, 101], .lit (.bool true)), (.string [118, 97, 114], .lit (.bool true)), (.string [119, 104, 101, 110], .lit (.bool true)), (.string [120, 111, 114], .lit (.bool true))]
def laid_orrery_tok_signs {H : Type} : DataW H := .agg [.lit (.string [45, 62]), .lit (.string [60, 60]), .lit (.string [62, 62]), .lit (.string [60, 61]), .lit (.string [62, 61]), .lit (.string [60, 62]), .lit (.string [40]), .lit (.string [41]), .lit (.string [44]), .lit (.string [59]), .lit (.string [58]), .lit (.string [61]), .lit (.string [60]), .lit (.string [62]), .lit (.string [43]), .lit (.string [45]), .lit (.string [42])]

/-- 'orrerylaw15.TokReads': WHATEVER THE INPUT: true; the input reads as it did. -/
def tokReadsSpec : ChangeSpec := { name := "tokReads", fn := fun _ => fun
  | [d] => { results := [.lit (.bool true)], args := [d] }
  | _ => none }
def tokReadsRow : OpenClaim := { program := "ytjnjldbegngooaadoor", sum := "4f3a34a3d93737ecdb2bc8fcbaa04af5c2e8db66050d3b153f234ad267000e90", func := "orrery/orrerylaw15.TokReads", spec := "tokReads", inPlace := ["internal/bytealg.IndexByteString"], unfollowed := true, recurses := true, named := ["orrery/tok.signs", "strconv.ErrSyntax", "strconv.ErrRange", "internal/strconv.uint64pow10", "math/bits.deBruijn32tab", "math/bits.deBruijn64tab", "orrery/tok.reserved"], apart := false, laid := [("math/bits.deBruijn32tab", laid_math_bits_deBruijn32tab), ("math/bits.deBruijn64tab", laid_math_bits_deBruijn64tab), ("internal/strconv.uint64pow10", laid_internal_strconv_uint64pow10), ("strconv.ErrRange", laid_strconv_ErrRange), ("strconv.ErrSyntax", laid_strconv_ErrSyntax), ("orrery/tok.reserved", laid_orrery_tok_reserved), ("orrery/tok.signs", laid_orrery_tok_signs)] }
def TokReadsSaid : Prop := tokReadsRow.holds Tryd.pinned (OpenSpec.ofChange tokReadsSpec)

/-- ITS FALSE NEIGHBOUR: 'it returns false'. Refute it at one input. -/
def tokReadsWrong : ChangeSpec := { name := "tokReads", fn := fun _ => fun
  | [d] => { results := [.lit (.bool false)], args := [d] }
  | _ => none }
def TokReadsWrongFalsely : Prop := tokReadsRow.holds Tryd.pinned (OpenSpec.ofChange tokReadsWrong)

/-- 'orrerylaw15.TokWords': WHATEVER THE INPUT: true; the input reads as it did. -/
def tokWordsSpec : ChangeSpec := { name := "tokWords", fn := fun _ => fun
  | [d1, d2] => { results := [.lit (.bool true)], args := [d1, d2] }
  | _ => none }
def tokWordsRow : OpenClaim := { program := "ytjnjldbegngooaadoor", sum := "4f3a34a3d93737ecdb2bc8fcbaa04af5c2e8db66050d3b153f234ad267000e90", func := "orrery/orrerylaw15.TokWords", spec := "tokWords", inPlace := ["internal/bytealg.IndexByteString"], unfollowed := true, recurses := true, named := ["strconv.ErrSyntax", "strconv.ErrRange", "internal/strconv.uint64pow10", "math/bits.deBruijn32tab", "math/bits.deBruijn64tab", "orrery/tok.reserved", "orrery/tok.signs"], apart := false, laid := [("math/bits.deBruijn32tab", laid_math_bits_deBruijn32tab), ("math/bits.deBruijn64tab", laid_math_bits_deBruijn64tab), ("internal/strconv.uint64pow10", laid_internal_strconv_uint64pow10), ("strconv.ErrRange", laid_strconv_ErrRange), ("strconv.ErrSyntax", laid_strconv_ErrSyntax), ("orrery/tok.reserved", laid_orrery_tok_reserved), ("orrery/tok.signs", laid_orrery_tok_signs)] }
def TokWordsSaid : Prop := tokWordsRow.holds Tryd.pinned (OpenSpec.ofChange tokWordsSpec)

/-- ITS FALSE NEIGHBOUR: 'it returns false'. Refute it at one input. -/
def tokWordsWrong : ChangeSpec := { name := "tokWords", fn := fun _ => fun
  | [d1, d2] => { results := [.lit (.bool false)], args := [d1, d2] }
  | _ => none }
def TokWordsWrongFalsely : Prop := tokWordsRow.holds Tryd.pinned (OpenSpec.ofChange tokWordsWrong)

/-- 'orrerylaw15.TokFault': WHATEVER THE INPUT: true; the input reads as it did. -/
def tokFaultSpec : ChangeSpec := { name := "tokFault", fn := fun _ => fun
  | [d] => { results := [.lit (.bool true)], args := [d] }
  | _ => none }
def tokFaultRow : OpenClaim := { program := "ytjnjldbegngooaadoor", sum := "4f3a34a3d93737ecdb2bc8fcbaa04af5c2e8db66050d3b153f234ad267000e90", func := "orrery/orrerylaw15.TokFault", spec := "tokFault", inPlace := ["internal/bytealg.IndexByteString"], unfollowed := true, recurses := true, named := ["orrery/tok.signs", "strconv.ErrSyntax", "strconv.ErrRange", "internal/strconv.uint64pow10", "math/bits.deBruijn32tab", "math/bits.deBruijn64tab", "orrery/tok.reserved"], apart := false, laid := [("math/bits.deBruijn32tab", laid_math_bits_deBruijn32tab), ("math/bits.deBruijn64tab", laid_math_bits_deBruijn64tab), ("internal/strconv.uint64pow10", laid_internal_strconv_uint64pow10), ("strconv.ErrRange", laid_strconv_ErrRange), ("strconv.ErrSyntax", laid_strconv_ErrSyntax), ("orrery/tok.reserved", laid_orrery_tok_reserved), ("orrery/tok.signs", laid_orrery_tok_signs)] }
def TokFaultSaid : Prop := tokFaultRow.holds Tryd.pinned (OpenSpec.ofChange tokFaultSpec)

/-- ITS FALSE NEIGHBOUR: 'it returns false'. Refute it at one input. -/
def tokFaultWrong : ChangeSpec := { name := "tokFault", fn := fun _ => fun
  | [d] => { results := [.lit (.bool false)], args := [d] }
  | _ => none }
def TokFaultWrongFalsely : Prop := tokFaultRow.holds Tryd.pinned (OpenSpec.ofChange tokFaultWrong)

/-- 'orrerylaw15.TokTypes': WHATEVER THE INPUT: true; the input reads as it did. -/
def tokTypesSpec : ChangeSpec := { name := "tokTypes", fn := fun _ => fun
  | [d1, d2, d3] => { results := [.lit (.bool true)], args := [d1, d2, d3] }
  | _ => none }
def tokTypesRow : OpenClaim := { program := "ytjnjldbegngooaadoor", sum := "4f3a34a3d93737ecdb2bc8fcbaa04af5c2e8db66050d3b153f234ad267000e90", func := "orrery/orrerylaw15.TokTypes", spec := "tokTypes", inPlace := ["internal/bytealg.IndexByteString"], unfollowed := true, recurses := true, named := ["internal/strconv.uint64pow10", "math/bits.deBruijn32tab", "math/bits.deBruijn64tab", "strconv.ErrSyntax", "strconv.ErrRange", "orrery/tok.signs", "orrery/tok.reserved"], apart := false, laid := [("math/bits.deBruijn32tab", laid_math_bits_deBruijn32tab), ("math/bits.deBruijn64tab", laid_math_bits_deBruijn64tab), ("internal/strconv.uint64pow10", laid_internal_strconv_uint64pow10), ("strconv.ErrRange", laid_strconv_ErrRange), ("strconv.ErrSyntax", laid_strconv_ErrSyntax), ("orrery/tok.reserved", laid_orrery_tok_reserved), ("orrery/tok.signs", laid_orrery_tok_signs)] }
def TokTypesSaid : Prop := tokTypesRow.holds Tryd.pinned (OpenSpec.ofChange tokTypesSpec)

/-- ITS FALSE NEIGHBOUR: 'it returns false'. Refute it at one input. -/
def tokTypesWrong : ChangeSpec := { name := "tokTypes", fn := fun _ => fun
  | [d1, d2, d3] => { results := [.lit (.bool false)], args := [d1, d2, d3] }
  | _ => none }
def TokTypesWrongFalsely : Prop := tokTypesRow.holds Tryd.pinned (OpenSpec.ofChange tokTypesWrong)

/-- 'orrerylaw15.TokKnown': WHATEVER THE INPUT: true; the input reads as it did. -/
def tokKnownSpec : ChangeSpec := { name := "tokKnown", fn := fun _ => fun
  | [] => { results := [.lit (.bool true)], args := [] }
  | _ => none }
def tokKnownRow : OpenClaim := { program := "ytjnjldbegngooaadoor", sum := "4f3a34a3d93737ecdb2bc8fcbaa04af5c2e8db66050d3b153f234ad267000e90", func := "orrery/orrerylaw15.TokKnown", spec := "tokKnown", inPlace := ["internal/bytealg.IndexByteString", "internal/abi.NoEscape", "internal/bytealg.MakeNoZero"], unfollowed := true, recurses := true, named := ["orrery/tok.signs", "strconv.ErrSyntax", "strconv.ErrRange", "internal/strconv.uint64pow10", "math/bits.deBruijn32tab", "math/bits.deBruijn64tab", "orrery/tok.reserved"], apart := false, laid := [("math/bits.deBruijn32tab", laid_math_bits_deBruijn32tab), ("math/bits.deBruijn64tab", laid_math_bits_deBruijn64tab), ("internal/strconv.uint64pow10", laid_internal_strconv_uint64pow10), ("strconv.ErrRange", laid_strconv_ErrRange), ("strconv.ErrSyntax", laid_strconv_ErrSyntax), ("orrery/tok.reserved", laid_orrery_tok_reserved), ("orrery/tok.signs", laid_orrery_tok_signs)] }
def TokKnownSaid : Prop := tokKnownRow.holds Tryd.pinned (OpenSpec.ofChange tokKnownSpec)

/-- ITS FALSE NEIGHBOUR: 'it returns false'. Refute it at one input. -/
def tokKnownWrong : ChangeSpec := { name := "tokKnown", fn := fun _ => fun
  | [] => { results := [.lit (.bool false)], args := [] }
  | _ => none }
def TokKnownWrongFalsely : Prop := tokKnownRow.holds Tryd.pinned (OpenSpec.ofChange tokKnownWrong)

/-- 'orrerylaw15.TokParts': WHATEVER THE INPUT: true; the input reads as it did. -/
def tokPartsSpec : ChangeSpec := { name := "tokParts", fn := fun _ => fun
  | [d] => { results := [.lit (.bool true)], args := [d] }
  | _ => none }
def tokPartsRow : OpenClaim := { program := "ytjnjldbegngooaadoor", sum := "4f3a34a3d93737ecdb2bc8fcbaa04af5c2e8db66050d3b153f234ad267000e90", func := "orrery/orrerylaw15.TokParts", spec := "tokParts", inPlace := ["internal/bytealg.IndexByteString", "internal/bytealg.IndexString", "internal/abi.NoEscape", "internal/bytealg.MakeNoZero"], unfollowed := true, recurses := true, named := ["orrery/tok.signs", "strconv.ErrSyntax", "strconv.ErrRange", "internal/strconv.uint64pow10", "math/bits.deBruijn32tab", "math/bits.deBruijn64tab", "orrery/tok.reserved", "internal/bytealg.MaxLen"], apart := false, laid := [("math/bits.deBruijn32tab", laid_math_bits_deBruijn32tab), ("math/bits.deBruijn64tab", laid_math_bits_deBruijn64tab), ("internal/strconv.uint64pow10", laid_internal_strconv_uint64pow10), ("strconv.ErrRange", laid_strconv_ErrRange), ("strconv.ErrSyntax", laid_strconv_ErrSyntax), ("orrery/tok.reserved", laid_orrery_tok_reserved), ("orrery/tok.signs", laid_orrery_tok_signs)] }
def TokPartsSaid : Prop := tokPartsRow.holds Tryd.pinned (OpenSpec.ofChange tokPartsSpec)

/-- ITS FALSE NEIGHBOUR: 'it returns false'. Refute it at one input. -/
def tokPartsWrong : ChangeSpec := { name := "tokParts", fn := fun _ => fun
  | [d] => { results := [.lit (.bool false)], args := [d] }
  | _ => none }
def TokPartsWrongFalsely : Prop := tokPartsRow.holds Tryd.pinned (OpenSpec.ofChange tokPartsWrong)

/- THE SECOND FORM. 'bulk': how many values and letters a reading holds, each counted each time it is reached (what is shared counts as often as it is met; a slice's spare places count too). A statement '..UptoSaid' is the law's where the arguments, and the package variables that the reading takes, are together of bulk at most 1048576: NARROWER than '..Said'. Prove '..Said' where nothing that the law and all that it calls make is longer than what came in: it says more and counts as full. Else prove '..UptoSaid'. A law counts once. -/
mutual
def uptoBulk {H : Type} : DataW H → Nat
  | .lit (.string bytes) => bytes.length + 1
  | .lit _ => 1
  | .nil => 1
  | .ptr d => uptoBulk d + 1
  | .slice elems spare => uptoBulkAll elems + uptoBulkAll spare + 1
  | .agg parts => uptoBulkAll parts + 1
  | .iface _ d => uptoBulk d + 1
  | .map entries => uptoBulkEntries entries + 1
  | .held _ => 1
def uptoBulkAll {H : Type} : List (DataW H) → Nat
  | [] => 0
  | d :: r => uptoBulk d + uptoBulkAll r
def uptoBulkEntries {H : Type} : List (Lit × DataW H) → Nat
  | [] => 0
  | x :: r => uptoBulkEntry x + uptoBulkEntries r
def uptoBulkEntry {H : Type} : Lit × DataW H → Nat
  | (.string bytes, d) => bytes.length + uptoBulk d + 1
  | (_, d) => uptoBulk d + 1
 end
def uptoSmall : (H : Type) → List (DataW H) → Bool := fun _ ds => decide (uptoBulkAll ds ≤ 1048576)
def OpenSpec.upto (s : _root_.Go.ChangeSpec) : _root_.Go.OpenSpec := { _root_.Go.OpenSpec.ofChange s with cond := some uptoSmall }

/-- 'orrerylaw15.TokReads', WHERE WHAT IT READS IS OF BULK AT MOST 1048576: true; the input reads as it did. -/
def tokReadsUptoRow : OpenClaim := { program := "ytjnjldbegngooaadoor", sum := "4f3a34a3d93737ecdb2bc8fcbaa04af5c2e8db66050d3b153f234ad267000e90", func := "orrery/orrerylaw15.TokReads", spec := "tokReads", inPlace := ["internal/bytealg.IndexByteString"], unfollowed := true, recurses := true, named := ["orrery/tok.signs", "strconv.ErrSyntax", "strconv.ErrRange", "internal/strconv.uint64pow10", "math/bits.deBruijn32tab", "math/bits.deBruijn64tab", "orrery/tok.reserved"], apart := false, laid := [("math/bits.deBruijn32tab", laid_math_bits_deBruijn32tab), ("math/bits.deBruijn64tab", laid_math_bits_deBruijn64tab), ("internal/strconv.uint64pow10", laid_internal_strconv_uint64pow10), ("strconv.ErrRange", laid_strconv_ErrRange), ("strconv.ErrSyntax", laid_strconv_ErrSyntax), ("orrery/tok.reserved", laid_orrery_tok_reserved), ("orrery/tok.signs", laid_orrery_tok_signs)], narrowed := true }
def TokReadsUptoSaid : Prop := tokReadsUptoRow.holds Tryd.pinned (OpenSpec.upto tokReadsSpec)

/-- 'orrerylaw15.TokWords', WHERE WHAT IT READS IS OF BULK AT MOST 1048576: true; the input reads as it did. -/
def tokWordsUptoRow : OpenClaim := { program := "ytjnjldbegngooaadoor", sum := "4f3a34a3d93737ecdb2bc8fcbaa04af5c2e8db66050d3b153f234ad267000e90", func := "orrery/orrerylaw15.TokWords", spec := "tokWords", inPlace := ["internal/bytealg.IndexByteString"], unfollowed := true, recurses := true, named := ["strconv.ErrSyntax", "strconv.ErrRange", "internal/strconv.uint64pow10", "math/bits.deBruijn32tab", "math/bits.deBruijn64tab", "orrery/tok.reserved", "orrery/tok.signs"], apart := false, laid := [("math/bits.deBruijn32tab", laid_math_bits_deBruijn32tab), ("math/bits.deBruijn64tab", laid_math_bits_deBruijn64tab), ("internal/strconv.uint64pow10", laid_internal_strconv_uint64pow10), ("strconv.ErrRange", laid_strconv_ErrRange), ("strconv.ErrSyntax", laid_strconv_ErrSyntax), ("orrery/tok.reserved", laid_orrery_tok_reserved), ("orrery/tok.signs", laid_orrery_tok_signs)], narrowed := true }
def TokWordsUptoSaid : Prop := tokWordsUptoRow.holds Tryd.pinned (OpenSpec.upto tokWordsSpec)

/-- 'orrerylaw15.TokFault', WHERE WHAT IT READS IS OF BULK AT MOST 1048576: true; the input reads as it did. -/
def tokFaultUptoRow : OpenClaim := { program := "ytjnjldbegngooaadoor", sum := "4f3a34a3d93737ecdb2bc8fcbaa04af5c2e8db66050d3b153f234ad267000e90", func := "orrery/orrerylaw15.TokFault", spec := "tokFault", inPlace := ["internal/bytealg.IndexByteString"], unfollowed := true, recurses := true, named := ["orrery/tok.signs", "strconv.ErrSyntax", "strconv.ErrRange", "internal/strconv.uint64pow10", "math/bits.deBruijn32tab", "math/bits.deBruijn64tab", "orrery/tok.reserved"], apart := false, laid := [("math/bits.deBruijn32tab", laid_math_bits_deBruijn32tab), ("math/bits.deBruijn64tab", laid_math_bits_deBruijn64tab), ("internal/strconv.uint64pow10", laid_internal_strconv_uint64pow10), ("strconv.ErrRange", laid_strconv_ErrRange), ("strconv.ErrSyntax", laid_strconv_ErrSyntax), ("orrery/tok.reserved", laid_orrery_tok_reserved), ("orrery/tok.signs", laid_orrery_tok_signs)], narrowed := true }
def TokFaultUptoSaid : Prop := tokFaultUptoRow.holds Tryd.pinned (OpenSpec.upto tokFaultSpec)

/-- 'orrerylaw15.TokTypes', WHERE WHAT IT READS IS OF BULK AT MOST 1048576: true; the input reads as it did. -/
def tokTypesUptoRow : OpenClaim := { program := "ytjnjldbegngooaadoor", sum := "4f3a34a3d93737ecdb2bc8fcbaa04af5c2e8db66050d3b153f234ad267000e90", func := "orrery/orrerylaw15.TokTypes", spec := "tokTypes", inPlace := ["internal/bytealg.IndexByteString"], unfollowed := true, recurses := true, named := ["internal/strconv.uint64pow10", "math/bits.deBruijn32tab", "math/bits.deBruijn64tab", "strconv.ErrSyntax", "strconv.ErrRange", "orrery/tok.signs", "orrery/tok.reserved"], apart := false, laid := [("math/bits.deBruijn32tab", laid_math_bits_deBruijn32tab), ("math/bits.deBruijn64tab", laid_math_bits_deBruijn64tab), ("internal/strconv.uint64pow10", laid_internal_strconv_uint64pow10), ("strconv.ErrRange", laid_strconv_ErrRange), ("strconv.ErrSyntax", laid_strconv_ErrSyntax), ("orrery/tok.reserved", laid_orrery_tok_reserved), ("orrery/tok.signs", laid_orrery_tok_signs)], narrowed := true }
def TokTypesUptoSaid : Prop := tokTypesUptoRow.holds Tryd.pinned (OpenSpec.upto tokTypesSpec)

/-- 'orrerylaw15.TokKnown', WHERE WHAT IT READS IS OF BULK AT MOST 1048576: true; the input reads as it did. -/
def tokKnownUptoRow : OpenClaim := { program := "ytjnjldbegngooaadoor", sum := "4f3a34a3d93737ecdb2bc8fcbaa04af5c2e8db66050d3b153f234ad267000e90", func := "orrery/orrerylaw15.TokKnown", spec := "tokKnown", inPlace := ["internal/bytealg.IndexByteString", "internal/abi.NoEscape", "internal/bytealg.MakeNoZero"], unfollowed := true, recurses := true, named := ["orrery/tok.signs", "strconv.ErrSyntax", "strconv.ErrRange", "internal/strconv.uint64pow10", "math/bits.deBruijn32tab", "math/bits.deBruijn64tab", "orrery/tok.reserved"], apart := false, laid := [("math/bits.deBruijn32tab", laid_math_bits_deBruijn32tab), ("math/bits.deBruijn64tab", laid_math_bits_deBruijn64tab), ("internal/strconv.uint64pow10", laid_internal_strconv_uint64pow10), ("strconv.ErrRange", laid_strconv_ErrRange), ("strconv.ErrSyntax", laid_strconv_ErrSyntax), ("orrery/tok.reserved", laid_orrery_tok_reserved), ("orrery/tok.signs", laid_orrery_tok_signs)], narrowed := true }
def TokKnownUptoSaid : Prop := tokKnownUptoRow.holds Tryd.pinned (OpenSpec.upto tokKnownSpec)

/-- 'orrerylaw15.TokParts', WHERE WHAT IT READS IS OF BULK AT MOST 1048576: true; the input reads as it did. -/
def tokPartsUptoRow : OpenClaim := { program := "ytjnjldbegngooaadoor", sum := "4f3a34a3d93737ecdb2bc8fcbaa04af5c2e8db66050d3b153f234ad267000e90", func := "orrery/orrerylaw15.TokParts", spec := "tokParts", inPlace := ["internal/bytealg.IndexByteString", "internal/bytealg.IndexString", "internal/abi.NoEscape", "internal/bytealg.MakeNoZero"], unfollowed := true, recurses := true, named := ["orrery/tok.signs", "strconv.ErrSyntax", "strconv.ErrRange", "internal/strconv.uint64pow10", "math/bits.deBruijn32tab", "math/bits.deBruijn64tab", "orrery/tok.reserved", "internal/bytealg.MaxLen"], apart := false, laid := [("math/bits.deBruijn32tab", laid_math_bits_deBruijn32tab), ("math/bits.deBruijn64tab", laid_math_bits_deBruijn64tab), ("internal/strconv.uint64pow10", laid_internal_strconv_uint64pow10), ("strconv.ErrRange", laid_strconv_ErrRange), ("strconv.ErrSyntax", laid_strconv_ErrSyntax), ("orrery/tok.reserved", laid_orrery_tok_reserved), ("orrery/tok.signs", laid_orrery_tok_signs)], narrowed := true }
def TokPartsUptoSaid : Prop := tokPartsUptoRow.holds Tryd.pinned (OpenSpec.upto tokPartsSpec)

end Rows
end Go.Proofs.YtjnjldbegngooaaDoor
