/-
  Law 09: TraceKnown: the operations of its first table of tables, one by one.
-/
import Derived.Test.YtjgcfncganleoaaDoorRegP
import Derived.Test.YtjgcfncganleoaaDoorTpB
import Derived.Test.YtjgcfncganleoaaDoorTrcWk
import Derived.Test.YtjgcfncganleoaaDoorTrcCard
import Derived.Test.YtjgcfncganleoaaDoorTrcN
import Derived.Test.YtjgcfncganleoaaDoorKnP
namespace Go.Proofs.YtjgcfncganleoaaDoor
open Go.ChangeShapes Go.WideShapes Go.ChangeAt Go.RowKit
set_option linter.unusedVariables false
set_option linter.unusedSimpArgs false

variable {w w' w1 W : World} {a : Act} {K : Act → World → Prop} {Q : Exit → Act → World → Prop} {d : Option Nat} {s r ty n c : Nat} {pos : String} {after : Array Edge} {p : Option Addr} {x : ByteArray} {k : Int}
theorem ev_get {s : Nat} {v : Value} (e : a.eval (.tmp s) = v) : a.tmps[s]?.getD undef = v := by
  rw [← e]; simp [Act.eval, Array.getD_eq_getD_getElem?]
theorem ko_tab1 (e : a.eval (.tmp s) = .slice p n c) (h : K (a.put d (.agg #[.slice p n c, .slice none 0 0])) w) : Oper.wp Tryd.prog { dst := d, op := .build 25 #[(0, .tmp s)], type := ty, pos := pos, after := after, guard := none } a w K Q := by
  have e1 := ev_get e
  unfold Oper.wp
  go_simp
  exact h
theorem ko_tab2 {p' : Option Addr} {n' c' : Nat} (e : a.eval (.tmp s) = .slice p n c) (e2 : a.eval (.tmp r) = .slice p' n' c') (h : K (a.put d (.agg #[.slice p n c, .slice p' n' c'])) w) : Oper.wp Tryd.prog { dst := d, op := .build 25 #[(0, .tmp s), (1, .tmp r)], type := ty, pos := pos, after := after, guard := none } a w K Q := by
  have e1 := ev_get e
  have e3 := ev_get e2
  unfold Oper.wp
  go_simp
  exact h
theorem ko_tab0 (h : K (a.put d (.agg #[.slice none 0 0, .slice none 0 0])) w) : Oper.wp Tryd.prog { dst := d, op := .build 25 #[], type := ty, pos := pos, after := after, guard := none } a w K Q := by
  unfold Oper.wp
  go_simp
  exact h
theorem ko_bus (h : K (a.put d (.agg #[.string x, .int .i64 k])) w) : Oper.wp Tryd.prog { dst := d, op := .build 35 #[(0, .const (.string x)), (1, .const (.int .i64 k))], type := ty, pos := pos, after := after, guard := none } a w K Q := by
  unfold Oper.wp
  go_simp
  exact h
theorem ko_busT (e : a.eval (.tmp s) = .string x) (h : K (a.put d (.agg #[.string x, .int .i64 k])) w) : Oper.wp Tryd.prog { dst := d, op := .build 35 #[(0, .tmp s), (1, .const (.int .i64 k))], type := ty, pos := pos, after := after, guard := none } a w K Q := by
  have e1 := ev_get e
  unfold Oper.wp
  go_simp
  exact h
theorem ko_bus0 (h : K (a.put d (.agg #[.string x, .int .i64 0])) w) : Oper.wp Tryd.prog { dst := d, op := .build 35 #[(0, .const (.string x))], type := ty, pos := pos, after := after, guard := none } a w K Q := by
  unfold Oper.wp
  go_simp
  exact h
theorem ko_bs (e : a.eval (.tmp s) = .agg #[.string x, .int .i64 k]) (h : K (a.put d (.slice (some ⟨w.heap.size, 0, none⟩) 1 1)) (w.alloc (.cells #[.string x, .int .i64 k] 35))) : Oper.wp Tryd.prog { dst := d, op := .buildSlice 22 1 #[(0, .tmp s)], type := ty, pos := pos, after := after, guard := none } a w K Q := by
  have e1 := ev_get e
  unfold Oper.wp
  go_simp
  exact h
theorem ko_ws (h : K (a.put d (.slice (some ⟨w.heap.size, 0, none⟩) 1 1)) (w.alloc (.cells #[.int .u64 k] 27))) : Oper.wp Tryd.prog { dst := d, op := .buildSlice 33 1 #[(0, .const (.int .u64 k))], type := ty, pos := pos, after := after, guard := none } a w K Q := by
  unfold Oper.wp
  go_simp
  exact h
theorem ko_ws0 (h : K (a.put d (.slice (some ⟨w.heap.size, 0, none⟩) 0 0)) (w.alloc (.cells #[] 27))) : Oper.wp Tryd.prog { dst := d, op := .buildSlice 33 0 #[], type := ty, pos := pos, after := after, guard := none } a w K Q := by
  unfold Oper.wp
  go_simp
  exact h
theorem ko_rs (e : a.eval (.tmp s) = .slice p n c) (h : K (a.put d (.slice (some ⟨w.heap.size, 0, none⟩) 1 1)) (w.alloc (.cells #[.slice p n c] 33))) : Oper.wp Tryd.prog { dst := d, op := .buildSlice 23 1 #[(0, .tmp s)], type := ty, pos := pos, after := after, guard := none } a w K Q := by
  have e1 := ev_get e
  unfold Oper.wp
  go_simp
  exact h
theorem ko_mk (h : K (a.put d (.slice (some ⟨w.heap.size, 0, none⟩) 1 1)) (w.alloc (.cells #[.slice none 0 0] 33))) : Oper.wp Tryd.prog { dst := d, op := .makeSlice 23 (.const (.int .i64 1)) (.const (.int .i64 1)), type := ty, pos := pos, after := after, guard := none } a w K Q := by
  have hmk : (Instr.makeSlice 23 (.int .i64 1) (.int .i64 1)).run Tryd.prog w = .ok (.slice (some ⟨w.heap.size, 0, none⟩) 1 1) (w.alloc (.cells #[.slice none 0 0] 33)) :=
    by kernel_rfl
  unfold Oper.wp
  go_simp
  exact h
theorem ko_mv {v : Value} (e : a.eval (.tmp s) = v) (h : K (a.put d v) w) : Oper.wp Tryd.prog { dst := d, op := .move (.tmp s), type := ty, pos := pos, after := after, guard := none } a w K Q := by
  have e1 := ev_get e
  unfold Oper.wp
  go_simp
  exact h
theorem ko_mvc {v : Value} (h : K (a.put d v) w) : Oper.wp Tryd.prog { dst := d, op := .move (.const v), type := ty, pos := pos, after := after, guard := none } a w K Q := by
  unfold Oper.wp
  go_simp
  exact h
theorem ko_rep (h : ∀ w', Below w.heap.size w w' → K (a.put d (.string ⟨(Lib.repeatL (⟨#[97]⟩ : ByteArray).data.toList 34).toArray⟩)) w') : Oper.wp Tryd.prog { dst := d, op := .call { callee := .value (.func 32), args := #[.const (.string ⟨#[97]⟩), .const (.int .i64 34)], argTypes := #[9, 3] }, type := ty, pos := pos, after := after, guard := none } a w K Q := by
  unfold Oper.wp
  go_simp
  refine (Tryd.strings_Repeat_main ⟨#[97]⟩ 34 w (by omega) (by omega) (by decide) (by decide)).mono ?_
  rintro e w' ⟨rfl, hb⟩
  exact h w' hb
theorem ko_app {g : Nat} {b : ByteArray × Int} (e : a.eval (.tmp s) = .slice (some ⟨g, 0, none⟩) 1 1) (e2 : a.eval (.tmp r) = .slice (some ⟨g, 0, none⟩) 1 1) (hb : SlBus w (some ⟨g, 0, none⟩) [b]) (h : ∀ p c w', SlBus w' p [b, b] → 2 ≤ c → Kept [] w w' → K (a.put d (.slice p 2 c)) w') : Oper.wp Tryd.prog { dst := d, op := .call { callee := .builtin .append, args := #[.tmp s, .tmp r], argTypes := #[22, 22] }, type := 22, pos := pos, after := after, guard := none } a w K Q := by
  obtain ⟨i, hi, hiz, hisz, hib⟩ := info3 bus_info
  obtain ⟨g', o', he, c1, c2⟩ := hb 0 (by simp)
  injection he with he
  injection he with he1 he2
  subst he1 he2
  simp only [Nat.zero_mul, Nat.add_zero, Nat.zero_add, List.getElem_cons_zero] at c1 c2
  have hcell : ∀ (j : Nat) u, [Value.string b.1, .int .i64 b.2][j]? = some u → w.cell? ((⟨g, 0, none⟩ : Addr).add j) = some u := fun j u hj => by
    match j with
    | 0 => simp at hj; subst hj; rw [add_at]; exact c1
    | 1 => simp at hj; subst hj; rw [add_at]; exact c2
    | j + 2 => simp at hj
  obtain ⟨v', w', hrun, r1, r2⟩ := run_append_arg_grows (P := Tryd.prog) w 22 22 35 i _ 2 _ Tryd.underlying22 hi hiz hisz hib rfl (by omega) ⟨g, 0, none⟩ 1 1 [.string b.1, .int .i64 b.2] rfl hcell ⟨g, 0, none⟩ 1 1 [.string b.1, .int .i64 b.2] rfl hcell (by omega) (by decide) (by decide)
  have hform : ∃ p c, v' = .slice p 2 c := by
    rcases r1.2 with ⟨hv, h0⟩ | ⟨g, c, cur, hv, _⟩
    · exact absurd h0 (by omega)
    · exact ⟨_, _, hv⟩
  obtain ⟨p, c, rfl⟩ := hform
  have hk : Kept [] w w' := ⟨r2.os, r2.tape, r2.output, r2.size, fun k hk hn => r2.block k hk (by simp)⟩
  have e1 := ev_get e
  have e3 := ev_get e2
  unfold Oper.wp
  simp [execOp, resolve, invoke, builtin, e, e2, hrun, Result.andThen]
  refine h p c w' (own2_bus (e := 35) (n := 2) (cap := c) (own_mono r1 (Nat.zero_le _))) ?_ hk
  rcases r1.2 with ⟨hv, h0⟩ | ⟨g, c', cur, hv, _, _, hc, _⟩
  · exact absurd h0 (by omega)
  · injection hv with _ _ hv
    omega
theorem ko_ten {p0 q0 p1 q1 p2 q2 p3 q3 p4 q4 p5 q5 p6 q6 p7 q7 p8 q8 p9 q9 : Option Addr} {n0 c0 m0 d0 n1 c1 m1 d1 n2 c2 m2 d2 n3 c3 m3 d3 n4 c4 m4 d4 n5 c5 m5 d5 n6 c6 m6 d6 n7 c7 m7 d7 n8 c8 m8 d8 n9 c9 m9 d9 : Nat} (e0 : a.eval (.tmp 30) = .agg #[.slice p0 n0 c0, .slice q0 m0 d0]) (e1 : a.eval (.tmp 33) = .agg #[.slice p1 n1 c1, .slice q1 m1 d1]) (e2 : a.eval (.tmp 36) = .agg #[.slice p2 n2 c2, .slice q2 m2 d2]) (e3 : a.eval (.tmp 40) = .agg #[.slice p3 n3 c3, .slice q3 m3 d3]) (e4 : a.eval (.tmp 43) = .agg #[.slice p4 n4 c4, .slice q4 m4 d4]) (e5 : a.eval (.tmp 46) = .agg #[.slice p5 n5 c5, .slice q5 m5 d5]) (e6 : a.eval (.tmp 50) = .agg #[.slice p6 n6 c6, .slice q6 m6 d6]) (e7 : a.eval (.tmp 54) = .agg #[.slice p7 n7 c7, .slice q7 m7 d7]) (e8 : a.eval (.tmp 58) = .agg #[.slice p8 n8 c8, .slice q8 m8 d8]) (e9 : a.eval (.tmp 61) = .agg #[.slice p9 n9 c9, .slice q9 m9 d9]) (h : K (a.put d (.agg #[.slice p0 n0 c0, .slice q0 m0 d0, .slice p1 n1 c1, .slice q1 m1 d1, .slice p2 n2 c2, .slice q2 m2 d2, .slice p3 n3 c3, .slice q3 m3 d3, .slice p4 n4 c4, .slice q4 m4 d4, .slice p5 n5 c5, .slice q5 m5 d5, .slice p6 n6 c6, .slice q6 m6 d6, .slice p7 n7 c7, .slice q7 m7 d7, .slice p8 n8 c8, .slice q8 m8 d8, .slice p9 n9 c9, .slice q9 m9 d9])) w) : Oper.wp Tryd.prog { dst := d, op := .build 75 #[(0, .tmp 30), (1, .tmp 33), (2, .tmp 36), (3, .tmp 40), (4, .tmp 43), (5, .tmp 46), (6, .tmp 50), (7, .tmp 54), (8, .tmp 58), (9, .tmp 61)], type := ty, pos := pos, after := after, guard := none } a w K Q := by
  have h0 := ev_get e0
  have h1 := ev_get e1
  have h2 := ev_get e2
  have h3 := ev_get e3
  have h4 := ev_get e4
  have h5 := ev_get e5
  have h6 := ev_get e6
  have h7 := ev_get e7
  have h8 := ev_get e8
  have h9 := ev_get e9
  unfold Oper.wp
  go_simp
  exact h
set_option maxRecDepth 100000
theorem ix10 {f g : Nat → Value} (k : Nat) (h : k < 10) (w : World) : (Instr.index 75 (.agg #[f 0, g 0, f 1, g 1, f 2, g 2, f 3, g 3, f 4, g 4, f 5, g 5, f 6, g 6, f 7, g 7, f 8, g 8, f 9, g 9]) (.int .i64 (k : Int))).run Tryd.prog w = .ok (.agg #[f k, g k]) w := by
  match k, h with
  | 0, _ => rfl
  | 1, _ => rfl
  | 2, _ => rfl
  | 3, _ => rfl
  | 4, _ => rfl
  | 5, _ => rfl
  | 6, _ => rfl
  | 7, _ => rfl
  | 8, _ => rfl
  | 9, _ => rfl
  | k + 10, h => exact absurd h (by omega)
theorem ix8 (k : Nat) (h : k < 8) (w : World) : (Instr.index 76 (.agg #[.string ⟨#[]⟩, .string ⟨#[120]⟩, .string ⟨#[120, 58]⟩, .string ⟨#[120, 58, 54]⟩, .string ⟨#[120, 58, 56, 32]⟩, .string ⟨#[120, 58, 56, 10, 49]⟩, .string ⟨#[120, 58, 56, 32, 121, 58, 49, 10, 49, 32]⟩, .string ⟨#[120, 58, 56, 32, 120]⟩]) (.int .i64 (k : Int))).run Tryd.prog w = .ok (.string (shortS[k]'h)) w := by
  match k, h with
  | 0, _ => rfl
  | 1, _ => rfl
  | 2, _ => rfl
  | 3, _ => rfl
  | 4, _ => rfl
  | 5, _ => rfl
  | 6, _ => rfl
  | 7, _ => rfl
  | k + 8, h => exact absurd h (by omega)
theorem ix14 (k : Nat) (h : k < 14) (w : World) : (Instr.index 77 (.agg #[.string ⟨#[10]⟩, .string ⟨#[58, 49]⟩, .string ⟨#[120, 58, 48]⟩, .string ⟨#[120, 58, 54, 53]⟩, .string ⟨#[120, 58, 48, 56]⟩, .string ⟨#[120, 32, 56]⟩, .string ⟨#[120, 58, 56, 32, 32]⟩, .string ⟨#[120, 58, 56, 10, 10]⟩, .string ⟨#[120, 58, 56, 10, 49, 48, 48]⟩, .string ⟨#[120, 58, 56, 10, 49, 32]⟩, .string ⟨#[120, 58, 56, 32, 121, 58, 49, 10, 49, 10]⟩, .string ⟨#[120, 58, 56, 32, 120, 58]⟩, .string ⟨#[120, 58, 56, 10, 65]⟩, .string ⟨#[120, 58, 56, 13]⟩]) (.int .i64 (k : Int))).run Tryd.prog w = .ok (.string (formS[k]'h)) w := by
  match k, h with
  | 0, _ => rfl
  | 1, _ => rfl
  | 2, _ => rfl
  | 3, _ => rfl
  | 4, _ => rfl
  | 5, _ => rfl
  | 6, _ => rfl
  | 7, _ => rfl
  | 8, _ => rfl
  | 9, _ => rfl
  | 10, _ => rfl
  | 11, _ => rfl
  | 12, _ => rfl
  | 13, _ => rfl
  | k + 14, h => exact absurd h (by omega)
def row4 : Array Value := #[.int .u8 120, .int .u8 58, .int .u8 52, .int .u8 10]
theorem cv_bytes (w : World) : (convert 44 44 (.slice (some ⟨w.heap.size, 0, none⟩) 4 4)).run Tryd.prog (w.alloc (.cells #[.int .u8 120, .int .u8 58, .int .u8 52, .int .u8 10] 5)) = .ok (.slice (some ⟨w.heap.size, 0, none⟩) 4 4) (w.alloc (.cells row4 5 (4, 5))) :=
  Lib.run_convert_bytes_const w 44 5 row4 4 4 Tryd.underlying44 Tryd.underlying5
theorem txt_four (w : World) : TxtAt (w.alloc (.cells row4 5 (4, 5))) (some ⟨w.heap.size, 0, none⟩) 4 [120, 58, 52, 10] :=
  ⟨fun k hk => ⟨_, rfl, by
    have hb := heap_new w (.cells row4 5 (4, 5))
    rw [add_at]
    match k, hk with
    | 0, _ => exact cell_of_row _ _ 0 _ _ _ hb
    | 1, _ => exact cell_of_row _ _ 1 _ _ _ hb
    | 2, _ => exact cell_of_row _ _ 2 _ _ _ hb
    | 3, _ => exact cell_of_row _ _ 3 _ _ _ hb
    | k + 4, hk => exact absurd hk (by simp)⟩, Nat.le_refl _⟩
theorem sltab_one {g : Nat} {x : TV} {ty : TypeId} (h : w.heap[g]? = some (.cells #[.slice x.ba x.t.bs.length x.bc, .slice x.ra x.t.rs.length x.rc] ty (0, 0))) (hx : x.at_ w) (hok : x.t.ok) : SlTab w (some ⟨g, 0, none⟩) [x] := fun k hk => by
  obtain rfl : k = 0 := by simpa using hk
  exact ⟨g, 0, rfl, blk_cell h 0, blk_cell h 1, hx, hok⟩
theorem sltab_two {g : Nat} {x y : TV} {ty : TypeId} (h : w.heap[g]? = some (.cells #[.slice x.ba x.t.bs.length x.bc, .slice x.ra x.t.rs.length x.rc, .slice y.ba y.t.bs.length y.bc, .slice y.ra y.t.rs.length y.rc] ty (0, 0))) (hx : x.at_ w) (hok : x.t.ok) (hy : y.at_ w) (hok' : y.t.ok) : SlTab w (some ⟨g, 0, none⟩) [x, y] := fun k hk => by
  match k, hk with
  | 0, _ => exact ⟨g, 0, rfl, blk_cell h 0, blk_cell h 1, hx, hok⟩
  | 1, _ => exact ⟨g, 0, rfl, blk_cell h 2, blk_cell h 3, hy, hok'⟩
  | k + 2, hk => exact absurd hk (by simp)
theorem rows_one {W : World} {b1 b2 x : Nat} (h0 : W.cell? ⟨b1, 0, none⟩ = some (.int .u64 (x : Int))) (h1 : W.cell? ⟨b2, 0, none⟩ = some (.slice (some ⟨b1, 0, none⟩) 1 1)) : SlW W (some ⟨b2, 0, none⟩) [⟨[x], some ⟨b1, 0, none⟩, 1⟩] := fun k hk => by
  obtain rfl : k = 0 := by simpa using hk
  refine ⟨_, 0, rfl, h1, fun j hj => ?_⟩
  obtain rfl : j = 0 := by simpa using hj
  exact ⟨_, rfl, by rw [add_at]; exact h0⟩
theorem bus_one {W : World} {b : Nat} {nm : ByteArray} {x : Int} (h0 : W.cell? ⟨b, 0, none⟩ = some (.string nm)) (h1 : W.cell? ⟨b, 1, none⟩ = some (.int .i64 x)) : SlBus W (some ⟨b, 0, none⟩) [(nm, x)] := fun k hk => by
  obtain rfl : k = 0 := by simpa using hk
  exact ⟨b, 0, rfl, h0, h1⟩
theorem sl_m1 {g : Nat} (w : World) (hB : SlBus w (some ⟨g, 0, none⟩) [(⟨#[120]⟩, 4)]) : SlTab (((w.alloc (.cells #[.int .u64 3] 27)).alloc (.cells #[.slice (some ⟨w.heap.size, 0, none⟩) 1 1] 33)).alloc (.cells #[.slice (some ⟨g, 0, none⟩) 1 1, .slice (some ⟨w.heap.size + 1, 0, none⟩) 1 1] 25)) (some ⟨w.heap.size + 1 + 1, 0, none⟩) [⟨tX3, some ⟨g, 0, none⟩, 1, some ⟨w.heap.size + 1, 0, none⟩, 1, [⟨[3], some ⟨w.heap.size, 0, none⟩, 1⟩]⟩] := by
  have hb := heap_alloc_new ((w.alloc (.cells #[.int .u64 3] 27)).alloc (.cells #[.slice (some ⟨w.heap.size, 0, none⟩) 1 1] 33)) (.cells #[.slice (some ⟨g, 0, none⟩) 1 1, .slice (some ⟨w.heap.size + 1, 0, none⟩) 1 1] 25)
  rw [World.size_alloc, World.size_alloc] at hb
  refine sltab_one hb ?_ okX3
  have h0 := (((Kept.refl [] (w.alloc (.cells #[.int .u64 3] 27))).alloc (.cells #[.slice (some ⟨w.heap.size, 0, none⟩) 1 1] 33)).alloc (.cells #[.slice (some ⟨g, 0, none⟩) 1 1, .slice (some ⟨w.heap.size + 1, 0, none⟩) 1 1] 25)).cell (blk_cell (heap_alloc_new w (.cells #[.int .u64 3] 27)) 0) (by simp)
  have h1 := ((Kept.refl [] ((w.alloc (.cells #[.int .u64 3] 27)).alloc (.cells #[.slice (some ⟨w.heap.size, 0, none⟩) 1 1] 33))).alloc (.cells #[.slice (some ⟨g, 0, none⟩) 1 1, .slice (some ⟨w.heap.size + 1, 0, none⟩) 1 1] 25)).cell (blk_cell (heap_alloc_new (w.alloc (.cells #[.int .u64 3] 27)) (.cells #[.slice (some ⟨w.heap.size, 0, none⟩) 1 1] 33)) 0) (by simp)
  rw [World.size_alloc] at h1
  exact ⟨rfl, rfl, rfl, hB.kept0 ((((Kept.refl [] w).alloc _).alloc _).alloc _), rows_one h0 h1, Nat.le_refl _, Nat.le_refl _, by simp⟩
theorem sl_two {ba ra : Option Addr} {bc rc : Nat} (w : World) (hX : TabV w ba 1 bc ra 0 rc tX []) : SlTab ((w.alloc (.cells #[.string ⟨#[121]⟩, .int .i64 4] 35)).alloc (.cells #[.slice ba 1 bc, .slice ra 0 rc, .slice (some ⟨w.heap.size, 0, none⟩) 1 1, .slice none 0 0] 25)) (some ⟨w.heap.size + 1, 0, none⟩) [⟨tX, ba, bc, ra, rc, []⟩, ⟨tY, some ⟨w.heap.size, 0, none⟩, 1, none, 0, []⟩] := by
  have hb := heap_alloc_new (w.alloc (.cells #[.string ⟨#[121]⟩, .int .i64 4] 35)) (.cells #[.slice ba 1 bc, .slice ra 0 rc, .slice (some ⟨w.heap.size, 0, none⟩) 1 1, .slice none 0 0] 25)
  rw [World.size_alloc] at hb
  refine sltab_two hb (hX.kept0 (((Kept.refl [] w).alloc _).alloc _)) okX ?_ okY
  have h0 := ((Kept.refl [] (w.alloc (.cells #[.string ⟨#[121]⟩, .int .i64 4] 35))).alloc (.cells #[.slice ba 1 bc, .slice ra 0 rc, .slice (some ⟨w.heap.size, 0, none⟩) 1 1, .slice none 0 0] 25)).cell (blk_cell (heap_alloc_new w (.cells #[.string ⟨#[121]⟩, .int .i64 4] 35)) 0) (by simp)
  have h1 := ((Kept.refl [] (w.alloc (.cells #[.string ⟨#[121]⟩, .int .i64 4] 35))).alloc (.cells #[.slice ba 1 bc, .slice ra 0 rc, .slice (some ⟨w.heap.size, 0, none⟩) 1 1, .slice none 0 0] 25)).cell (blk_cell (heap_alloc_new w (.cells #[.string ⟨#[121]⟩, .int .i64 4] 35)) 1) (by simp)
  exact ⟨rfl, rfl, rfl, bus_one h0 h1, fun k hk => absurd hk (by simp), Nat.le_refl _, Nat.le_refl _, by simp⟩
theorem tab_F (w : World) : TabV (((w.alloc (.cells #[.string ⟨#[97, 95, 64, 63, 90, 57]⟩, .int .i64 64] 35)).alloc (.cells #[.int .u64 18446744073709551615] 27)).alloc (.cells #[.slice (some ⟨w.heap.size + 1, 0, none⟩) 1 1] 33)) (some ⟨w.heap.size, 0, none⟩) 1 1 (some ⟨w.heap.size + 1 + 1, 0, none⟩) 1 1 tF [⟨[18446744073709551615], some ⟨w.heap.size + 1, 0, none⟩, 1⟩] := by
  have h0 := (((Kept.refl [] (w.alloc (.cells #[.string ⟨#[97, 95, 64, 63, 90, 57]⟩, .int .i64 64] 35))).alloc (.cells #[.int .u64 18446744073709551615] 27)).alloc (.cells #[.slice (some ⟨w.heap.size + 1, 0, none⟩) 1 1] 33)).cell (blk_cell (heap_alloc_new w (.cells #[.string ⟨#[97, 95, 64, 63, 90, 57]⟩, .int .i64 64] 35)) 0) (by simp)
  have h1 := (((Kept.refl [] (w.alloc (.cells #[.string ⟨#[97, 95, 64, 63, 90, 57]⟩, .int .i64 64] 35))).alloc (.cells #[.int .u64 18446744073709551615] 27)).alloc (.cells #[.slice (some ⟨w.heap.size + 1, 0, none⟩) 1 1] 33)).cell (blk_cell (heap_alloc_new w (.cells #[.string ⟨#[97, 95, 64, 63, 90, 57]⟩, .int .i64 64] 35)) 1) (by simp)
  have h2 := ((Kept.refl [] ((w.alloc (.cells #[.string ⟨#[97, 95, 64, 63, 90, 57]⟩, .int .i64 64] 35)).alloc (.cells #[.int .u64 18446744073709551615] 27))).alloc (.cells #[.slice (some ⟨w.heap.size + 1, 0, none⟩) 1 1] 33)).cell (blk_cell (heap_alloc_new (w.alloc (.cells #[.string ⟨#[97, 95, 64, 63, 90, 57]⟩, .int .i64 64] 35)) (.cells #[.int .u64 18446744073709551615] 27)) 0) (by simp)
  have h3 := blk_cell (heap_alloc_new ((w.alloc (.cells #[.string ⟨#[97, 95, 64, 63, 90, 57]⟩, .int .i64 64] 35)).alloc (.cells #[.int .u64 18446744073709551615] 27)) (.cells #[.slice (some ⟨w.heap.size + 1, 0, none⟩) 1 1] 33)) 0
  rw [World.size_alloc] at h2
  rw [World.size_alloc, World.size_alloc] at h3
  exact ⟨rfl, rfl, rfl, bus_one h0 h1, rows_one h2 h3, Nat.le_refl _, Nat.le_refl _, by simp⟩
end Go.Proofs.YtjgcfncganleoaaDoor
