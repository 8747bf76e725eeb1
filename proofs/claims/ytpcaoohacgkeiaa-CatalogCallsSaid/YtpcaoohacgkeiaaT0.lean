/- The types' facts, and the rules of operations at these types. -/
import Derived.Test.YtpcaoohacgkeiaaProg
import Derived.Test.YtpcaoohacgkeiaaAME
import Derived.KernelRfl
namespace Go.Proofs.YtpcaoohacgkeiaaAM
open Go Go.RowKit
set_option linter.unusedVariables false
set_option linter.unusedSimpArgs false
set_option maxRecDepth 10000
set_option maxHeartbeats 4000000
theorem mixed : Try.prog.follows .mixedOrders = true := by kernel_rfl
theorem plain : plainNames Try.prog = true := by kernel_rfl
theorem size0 : typeSize Try.prog 0 = some 1 := rfl
theorem agg0 : aggB Try.prog 0 = some false := rfl
theorem size1 : typeSize Try.prog 1 = some 1 := rfl
theorem agg1 : aggB Try.prog 1 = some false := rfl
theorem z1 : zeroV Try.prog 1 = some (.nilFunc) := by kernel_rfl
theorem und2 : Try.prog.underlying 2 = some (.int .i64) := rfl
theorem size2 : typeSize Try.prog 2 = some 1 := rfl
theorem agg2 : aggB Try.prog 2 = some false := rfl
theorem z2 : zeroV Try.prog 2 = some (.int .i64 0) := by kernel_rfl
theorem und3 : Try.prog.underlying 3 = some (.int .i64) := rfl
theorem size3 : typeSize Try.prog 3 = some 1 := rfl
theorem agg3 : aggB Try.prog 3 = some false := rfl
theorem z3 : zeroV Try.prog 3 = some (.int .i64 0) := by kernel_rfl
theorem und4 : Try.prog.underlying 4 = some .bool := rfl
theorem size4 : typeSize Try.prog 4 = some 1 := rfl
theorem agg4 : aggB Try.prog 4 = some false := rfl
theorem z4 : zeroV Try.prog 4 = some (.bool false) := by kernel_rfl
theorem und5 : Try.prog.underlying 5 = some (.int .u8) := rfl
theorem size5 : typeSize Try.prog 5 = some 1 := rfl
theorem agg5 : aggB Try.prog 5 = some false := rfl
theorem z5 : zeroV Try.prog 5 = some (.int .u8 0) := by kernel_rfl
theorem und9 : Try.prog.underlying 9 = some .string := rfl
theorem size9 : typeSize Try.prog 9 = some 1 := rfl
theorem agg9 : aggB Try.prog 9 = some false := rfl
theorem z9 : zeroV Try.prog 9 = some (.string (mkStr [])) := by kernel_rfl
theorem und22 : Try.prog.underlying 22 = some (.int .u32) := rfl
theorem size22 : typeSize Try.prog 22 = some 1 := rfl
theorem agg22 : aggB Try.prog 22 = some false := rfl
theorem z22 : zeroV Try.prog 22 = some (.int .u32 0) := by kernel_rfl
theorem und23 : Try.prog.underlying 23 = some (.int .u64) := rfl
theorem size23 : typeSize Try.prog 23 = some 1 := rfl
theorem agg23 : aggB Try.prog 23 = some false := rfl
theorem z23 : zeroV Try.prog 23 = some (.int .u64 0) := by kernel_rfl
theorem und24 : Try.prog.underlying 24 = some (.slice 36) := rfl
theorem size24 : typeSize Try.prog 24 = some 1 := rfl
theorem agg24 : aggB Try.prog 24 = some false := rfl
theorem z24 : zeroV Try.prog 24 = some (.slice none 0 0) := by kernel_rfl
theorem elem24 : elemCells Try.prog 24 = some (36, 3) := rfl
theorem app24 : appOk Try.prog 24 24 3 = true := by decide +kernel
theorem sl24 : slOk Try.prog 24 3 = true := by decide +kernel
theorem size26 : typeSize Try.prog 26 = some 6 := rfl
theorem agg26 : aggB Try.prog 26 = some true := rfl
theorem z26 : zeroV Try.prog 26 = some (.agg #[.int .i64 0, .int .i64 0, .int .u32 0, .int .u32 0, .int .u64 0, .string (mkStr [])]) := by kernel_rfl
theorem fo26_0 : fldOff Try.prog 26 0 = some 0 := rfl
theorem fo26_1 : fldOff Try.prog 26 1 = some 1 := rfl
theorem fo26_2 : fldOff Try.prog 26 2 = some 2 := rfl
theorem fo26_3 : fldOff Try.prog 26 3 = some 3 := rfl
theorem fo26_4 : fldOff Try.prog 26 4 = some 4 := rfl
theorem fo26_5 : fldOff Try.prog 26 5 = some 5 := rfl
-- struct 26: Kind:3@0, Count:3@1, Page:22@2, Link:22@3, Tx:23@4, Body:9@5
theorem size36 : typeSize Try.prog 36 = some 3 := rfl
theorem agg36 : aggB Try.prog 36 = some true := rfl
theorem z36 : zeroV Try.prog 36 = some (.agg #[.string (mkStr []), .int .u32 0, .int .i64 0]) := by kernel_rfl
theorem fo36_0 : fldOff Try.prog 36 0 = some 0 := rfl
theorem fo36_1 : fldOff Try.prog 36 1 = some 1 := rfl
theorem fo36_2 : fldOff Try.prog 36 2 = some 2 := rfl
-- struct 36: Name:9@0, Root:22@1, Keys:3@2
theorem und53 : Try.prog.underlying 53 = some (.slice 5) := rfl
theorem size53 : typeSize Try.prog 53 = some 1 := rfl
theorem agg53 : aggB Try.prog 53 = some false := rfl
theorem z53 : zeroV Try.prog 53 = some (.slice none 0 0) := by kernel_rfl
theorem elem53 : elemCells Try.prog 53 = some (5, 1) := rfl
theorem app53 : appOk Try.prog 53 53 1 = true := by decide +kernel
theorem sl53 : slOk Try.prog 53 1 = true := by decide +kernel
theorem size73 : typeSize Try.prog 73 = some 1 := rfl
theorem agg73 : aggB Try.prog 73 = some true := rfl
theorem z73 : zeroV Try.prog 73 = some (.agg #[.string (mkStr [])]) := by kernel_rfl
theorem fo73_0 : fldOff Try.prog 73 0 = some 0 := rfl
-- struct 73: s:9@0
theorem und75 : Try.prog.underlying 75 = some (.int .u64) := rfl
theorem size75 : typeSize Try.prog 75 = some 1 := rfl
theorem agg75 : aggB Try.prog 75 = some false := rfl
theorem z75 : zeroV Try.prog 75 = some (.int .u64 0) := by kernel_rfl
theorem size77 : typeSize Try.prog 77 = some 1 := rfl
theorem agg77 : aggB Try.prog 77 = some true := rfl
theorem z77 : zeroV Try.prog 77 = some (.agg #[.string (mkStr [])]) := by kernel_rfl
theorem fo77_0 : fldOff Try.prog 77 0 = some 0 := rfl
-- struct 77: S:9@0
theorem app53_9 : appOk Try.prog 53 9 1 = true := by decide +kernel
theorem bld26_  : buildA Try.prog 26 [] = some (.agg [.int .i64 0, .int .i64 0, .int .u32 0, .int .u32 0, .int .u64 0, .string (mkStr [])].toArray) := rfl
theorem bld26_0_1_2_4_5 {v0 : Int} {v1 : Int} {v2 : Int} {v4 : Int} {v5 : List UInt8} : buildA Try.prog 26 [(0, .int .i64 v0), (1, .int .i64 v1), (2, .int .u32 v2), (4, .int .u64 v4), (5, .string (mkStr v5))] = some (.agg [.int .i64 v0, .int .i64 v1, .int .u32 v2, .int .u32 0, .int .u64 v4, .string (mkStr v5)].toArray) := rfl
theorem bld36_0 {v0 : List UInt8} : buildA Try.prog 36 [(0, .string (mkStr v0))] = some (.agg [.string (mkStr v0), .int .u32 0, .int .i64 0].toArray) := rfl
theorem bld36_0_1 {v0 : List UInt8} {v1 : Int} : buildA Try.prog 36 [(0, .string (mkStr v0)), (1, .int .u32 v1)] = some (.agg [.string (mkStr v0), .int .u32 v1, .int .i64 0].toArray) := rfl
theorem bld36_0_1_2 {v0 : List UInt8} {v1 : Int} {v2 : Int} : buildA Try.prog 36 [(0, .string (mkStr v0)), (1, .int .u32 v1), (2, .int .i64 v2)] = some (.agg [.string (mkStr v0), .int .u32 v1, .int .i64 v2].toArray) := rfl
theorem bld73_0 {v0 : List UInt8} : buildA Try.prog 73 [(0, .string (mkStr v0))] = some (.agg [.string (mkStr v0)].toArray) := rfl
theorem bld77_0 {v0 : List UInt8} : buildA Try.prog 77 [(0, .string (mkStr v0))] = some (.agg [.string (mkStr v0)].toArray) := rfl
abbrev TB := (And.intro (And.intro (And.intro (And.intro (And.intro (And.intro z26 z36) (And.intro bld26_ @bld26_0_1_2_4_5)) (And.intro (And.intro @bld36_0 @bld36_0_1) (And.intro @bld36_0_1_2 @bld73_0))) (And.intro (And.intro (And.intro @bld77_0 (fun {a : AW} => buildSl0 (E := Try.prog) (a := a) elem24)) (And.intro (fun {a : AW} {v : Value} (hv : v.cells.toList.length = 3) => buildSl1 (E := Try.prog) (a := a) (v := v) sl24 (by decide) hv) (fun {a : AW} {v u : Value} (hv : v.cells.toList.length = 3) (hu : u.cells.toList.length = 3) => buildSl2 (E := Try.prog) (a := a) (v := v) (u := u) sl24 (by decide) hv hu))) (And.intro (And.intro (fun {a : AW} => buildSl0 (E := Try.prog) (a := a) elem53) (fun {a : AW} {v : Value} (hv : v.cells.toList.length = 1) => buildSl1 (E := Try.prog) (a := a) (v := v) sl53 (by decide) hv)) (fun {G : Gives} {t : List Value} {a : AW} {K : Value → AW → Prop} {x : Operand} => op_conv_int (E := Try.prog) (G := G) (t := t) (a := a) (K := K) (x := x) und22 und23)))) (And.intro (And.intro (And.intro (And.intro (fun {n : Int} => conv_int (E := Try.prog) (n := n) und22 und23) (fun {G : Gives} {t : List Value} {a : AW} {K : Value → AW → Prop} {x : Operand} => op_conv_int (E := Try.prog) (G := G) (t := t) (a := a) (K := K) (x := x) und23 und22)) (And.intro (fun {n : Int} => conv_int (E := Try.prog) (n := n) und23 und22) (fun {G : Gives} {t : List Value} {a : AW} {K : Value → AW → Prop} {x : Operand} => op_conv_int (E := Try.prog) (G := G) (t := t) (a := a) (K := K) (x := x) und23 und3))) (And.intro (And.intro (fun {n : Int} => conv_int (E := Try.prog) (n := n) und23 und3) (fun {G : Gives} {t : List Value} {a : AW} {K : Value → AW → Prop} {x : Operand} => op_conv_int (E := Try.prog) (G := G) (t := t) (a := a) (K := K) (x := x) und23 und5)) (fun {n : Int} => conv_int (E := Try.prog) (n := n) und23 und5))) (And.intro (And.intro (And.intro (fun {G : Gives} {t : List Value} {a : AW} {K : Value → AW → Prop} {x : Operand} => op_conv_int (E := Try.prog) (G := G) (t := t) (a := a) (K := K) (x := x) und3 und23) (fun {n : Int} => conv_int (E := Try.prog) (n := n) und3 und23)) (And.intro (fun {G : Gives} {t : List Value} {a : AW} {K : Value → AW → Prop} {x : Operand} => op_conv_int (E := Try.prog) (G := G) (t := t) (a := a) (K := K) (x := x) und3 und75) (fun {n : Int} => conv_int (E := Try.prog) (n := n) und3 und75))) (And.intro (And.intro (fun {G : Gives} {t : List Value} {a : AW} {K : Value → AW → Prop} {x : Operand} => op_conv_int (E := Try.prog) (G := G) (t := t) (a := a) (K := K) (x := x) und5 und23) (fun {n : Int} => conv_int (E := Try.prog) (n := n) und5 und23)) (fun {G : Gives} {t : List Value} {a : AW} {K : Value → AW → Prop} {x : Operand} => op_ofBytes (E := Try.prog) (G := G) (t := t) (a := a) (K := K) (x := x) und53 und9 und5))))) (And.intro (And.intro (And.intro (And.intro (And.intro (fun {G : Gives} {t : List Value} {a : AW} {K : Value → AW → Prop} {x : Operand} => op_fa (E := Try.prog) (G := G) (t := t) (a := a) (K := K) (x := x) fo26_0) (fun {G : Gives} {t : List Value} {a : AW} {K : Value → AW → Prop} {x : Operand} => op_fa (E := Try.prog) (G := G) (t := t) (a := a) (K := K) (x := x) fo26_1)) (And.intro (fun {G : Gives} {t : List Value} {a : AW} {K : Value → AW → Prop} {x : Operand} => op_fa (E := Try.prog) (G := G) (t := t) (a := a) (K := K) (x := x) fo26_2) (fun {G : Gives} {t : List Value} {a : AW} {K : Value → AW → Prop} {x : Operand} => op_fa (E := Try.prog) (G := G) (t := t) (a := a) (K := K) (x := x) fo26_3))) (And.intro (And.intro (fun {G : Gives} {t : List Value} {a : AW} {K : Value → AW → Prop} {x : Operand} => op_fa (E := Try.prog) (G := G) (t := t) (a := a) (K := K) (x := x) fo26_4) (fun {G : Gives} {t : List Value} {a : AW} {K : Value → AW → Prop} {x : Operand} => op_fa (E := Try.prog) (G := G) (t := t) (a := a) (K := K) (x := x) fo26_5)) (And.intro (fun {G : Gives} {t : List Value} {a : AW} {K : Value → AW → Prop} {x : Operand} => op_fa (E := Try.prog) (G := G) (t := t) (a := a) (K := K) (x := x) fo36_0) (fun {G : Gives} {t : List Value} {a : AW} {K : Value → AW → Prop} {x : Operand} => op_fa (E := Try.prog) (G := G) (t := t) (a := a) (K := K) (x := x) fo36_1)))) (And.intro (And.intro (And.intro (fun {G : Gives} {t : List Value} {a : AW} {K : Value → AW → Prop} {x : Operand} => op_fa (E := Try.prog) (G := G) (t := t) (a := a) (K := K) (x := x) fo36_2) (fun {G : Gives} {t : List Value} {a : AW} {K : Value → AW → Prop} {x : Operand} => op_fa (E := Try.prog) (G := G) (t := t) (a := a) (K := K) (x := x) fo73_0)) (And.intro (fun {G : Gives} {t : List Value} {a : AW} {K : Value → AW → Prop} {x : Operand} => op_fa (E := Try.prog) (G := G) (t := t) (a := a) (K := K) (x := x) fo77_0) (fun {k : IntKind} {s : List UInt8} {i : Int} (h : 0 ≤ i) (h2 : i < s.length) => index_str (E := Try.prog) (k := k) (s := s) (i := i) und9 h h2))) (And.intro (And.intro (fun {p : Addr} {n c : Nat} {k : IntKind} {i : Int} (h : 0 ≤ i) (h2 : i < (n : Int)) => indexAddr_slice (E := Try.prog) (p := p) (n := n) (c := c) (k := k) (i := i) und24 size36 h h2) (fun {G : Gives} {t : List Value} {a : AW} {K : Value → AW → Prop} {x : Operand} => op_len (E := Try.prog) (G := G) (t := t) (a := a) (K := K) (x := x) und24 rfl)) (fun {G : Gives} {t : List Value} {a : AW} {K : Value → AW → Prop} {x : Operand} => op_len (E := Try.prog) (G := G) (t := t) (a := a) (K := K) (x := x) und53 rfl)))) (And.intro (And.intro (And.intro (And.intro (fun {G : Gives} {t : List Value} {a : AW} {K : Value → AW → Prop} {x : Operand} => op_len (E := Try.prog) (G := G) (t := t) (a := a) (K := K) (x := x) und9 rfl) (fun {p : Addr} {a : AW} => load_one (E := Try.prog) (a := a) (p := p) agg22)) (And.intro (fun {p : Addr} {a : AW} => load_one (E := Try.prog) (a := a) (p := p) agg23) (fun {p : Addr} {a : AW} => load_agg (E := Try.prog) (a := a) (p := p) agg26 size26))) (And.intro (And.intro (fun {p : Addr} {a : AW} => load_one (E := Try.prog) (a := a) (p := p) agg3) (fun {p : Addr} {a : AW} => load_agg (E := Try.prog) (a := a) (p := p) agg36 size36)) (fun {p : Addr} {a : AW} => load_one (E := Try.prog) (a := a) (p := p) agg9))) (And.intro (And.intro (And.intro (fun {k : IntKind} {s : List UInt8} {i : Int} (h : 0 ≤ i) (h2 : i ≤ s.length) => slice_str_hi (E := Try.prog) (k := k) (s := s) (i := i) und9 h h2) (fun {k : IntKind} {s : List UInt8} {i : Int} (h : 0 ≤ i) (h2 : i ≤ s.length) => slice_str_lo (E := Try.prog) (k := k) (s := s) (i := i) und9 h h2)) (And.intro (fun {k k' : IntKind} {s : List UInt8} {i j : Int} (h : 0 ≤ i) (h1 : i ≤ j) (h2 : j ≤ s.length) => slice_str_both (E := Try.prog) (k := k) (k' := k') (s := s) (i := i) (j := j) und9 h h1 h2) (fun {p : Addr} {a : AW} {v : Value} (h : v.cells.toList.length = 1) => storeVar_eq (E := Try.prog) (a := a) (p := p) (v := v) size22 h))) (And.intro (And.intro (fun {p : Addr} {a : AW} {v : Value} (h : v.cells.toList.length = 6) => storeVar_eq (E := Try.prog) (a := a) (p := p) (v := v) size26 h) (fun {p : Addr} {a : AW} {v : Value} (h : v.cells.toList.length = 3) => storeVar_eq (E := Try.prog) (a := a) (p := p) (v := v) size36 h)) (fun {p : Addr} {a : AW} {v : Value} (h : v.cells.toList.length = 1) => storeVar_eq (E := Try.prog) (a := a) (p := p) (v := v) size9 h))))))
abbrev NB := (And.intro (And.intro (And.intro (And.intro (fun {G : Gives} {t : List Value} {a : AW} {K : Note → Value → AW → Prop} {x : Operand} => note_convI (E := Try.prog) (G := G) (t := t) (a := a) (K := K) (x := x) und22 und23) (fun {G : Gives} {t : List Value} {a : AW} {K : Note → Value → AW → Prop} {x : Operand} => note_convI (E := Try.prog) (G := G) (t := t) (a := a) (K := K) (x := x) und23 und22)) (fun {G : Gives} {t : List Value} {a : AW} {K : Note → Value → AW → Prop} {x : Operand} => note_convI (E := Try.prog) (G := G) (t := t) (a := a) (K := K) (x := x) und23 und3)) (And.intro (And.intro (fun {G : Gives} {t : List Value} {a : AW} {K : Note → Value → AW → Prop} {x : Operand} => note_convI (E := Try.prog) (G := G) (t := t) (a := a) (K := K) (x := x) und23 und5) (fun {G : Gives} {t : List Value} {a : AW} {K : Note → Value → AW → Prop} {x : Operand} => note_convI (E := Try.prog) (G := G) (t := t) (a := a) (K := K) (x := x) und3 und23)) (fun {G : Gives} {t : List Value} {a : AW} {K : Note → Value → AW → Prop} {x : Operand} => note_convI (E := Try.prog) (G := G) (t := t) (a := a) (K := K) (x := x) und3 und75))) (And.intro (And.intro (And.intro (fun {G : Gives} {t : List Value} {a : AW} {K : Note → Value → AW → Prop} {x : Operand} => note_convI (E := Try.prog) (G := G) (t := t) (a := a) (K := K) (x := x) und5 und23) (fun {G : Gives} {t : List Value} {a : AW} {K : Note → Value → AW → Prop} {x : Operand} => note_ofBytes (E := Try.prog) (G := G) (t := t) (a := a) (K := K) (x := x) und53 und9 und5)) (fun {G : Gives} {t : List Value} {a : AW} {K : Note → Value → AW → Prop} {x : Operand} => note_len (E := Try.prog) (G := G) (t := t) (a := a) (K := K) (x := x) und24 rfl)) (And.intro (fun {G : Gives} {t : List Value} {a : AW} {K : Note → Value → AW → Prop} {x : Operand} => note_len (E := Try.prog) (G := G) (t := t) (a := a) (K := K) (x := x) und53 rfl) (fun {G : Gives} {t : List Value} {a : AW} {K : Note → Value → AW → Prop} {x : Operand} => note_len (E := Try.prog) (G := G) (t := t) (a := a) (K := K) (x := x) und9 rfl))))
end Go.Proofs.YtpcaoohacgkeiaaAM
