/- The types' facts, and the rules of operations at these types. -/
import Derived.Test.YtlbmjpmonaekgaaProg
import Derived.Test.YtlbmjpmonaekgaaAME
import Derived.KernelRfl
namespace Go.Proofs.YtlbmjpmonaekgaaAM
open Go Go.RowKit
set_option linter.unusedVariables false
set_option linter.unusedSimpArgs false
set_option maxRecDepth 10000
set_option maxHeartbeats 4000000
theorem mixed : Try.prog.follows .mixedOrders = true := by kernel_rfl
theorem plain : plainNames Try.prog = true := by kernel_rfl
theorem size0 : typeSize Try.prog 0 = some 1 := rfl
theorem agg0 : aggB Try.prog 0 = some false := rfl
theorem size1 : typeSize Try.prog 1 = some 1 := rfl
theorem agg1 : aggB Try.prog 1 = some false := rfl
theorem z1 : zeroV Try.prog 1 = some (.nilFunc) := by kernel_rfl
theorem und2 : Try.prog.underlying 2 = some (.int .i64) := rfl
theorem size2 : typeSize Try.prog 2 = some 1 := rfl
theorem agg2 : aggB Try.prog 2 = some false := rfl
theorem z2 : zeroV Try.prog 2 = some (.int .i64 0) := by kernel_rfl
theorem und3 : Try.prog.underlying 3 = some (.int .i64) := rfl
theorem size3 : typeSize Try.prog 3 = some 1 := rfl
theorem agg3 : aggB Try.prog 3 = some false := rfl
theorem z3 : zeroV Try.prog 3 = some (.int .i64 0) := by kernel_rfl
theorem und4 : Try.prog.underlying 4 = some .bool := rfl
theorem size4 : typeSize Try.prog 4 = some 1 := rfl
theorem agg4 : aggB Try.prog 4 = some false := rfl
theorem z4 : zeroV Try.prog 4 = some (.bool false) := by kernel_rfl
theorem und5 : Try.prog.underlying 5 = some (.int .u8) := rfl
theorem size5 : typeSize Try.prog 5 = some 1 := rfl
theorem agg5 : aggB Try.prog 5 = some false := rfl
theorem z5 : zeroV Try.prog 5 = some (.int .u8 0) := by kernel_rfl
theorem und9 : Try.prog.underlying 9 = some .string := rfl
theorem size9 : typeSize Try.prog 9 = some 1 := rfl
theorem agg9 : aggB Try.prog 9 = some false := rfl
theorem z9 : zeroV Try.prog 9 = some (.string (mkStr [])) := by kernel_rfl
theorem und22 : Try.prog.underlying 22 = some (.slice 4) := rfl
theorem size22 : typeSize Try.prog 22 = some 1 := rfl
theorem agg22 : aggB Try.prog 22 = some false := rfl
theorem z22 : zeroV Try.prog 22 = some (.slice none 0 0) := by kernel_rfl
theorem elem22 : elemCells Try.prog 22 = some (4, 1) := rfl
theorem app22 : appOk Try.prog 22 22 1 = true := by decide +kernel
theorem sl22 : slOk Try.prog 22 1 = true := by decide +kernel
theorem und23 : Try.prog.underlying 23 = some (.slice 2) := rfl
theorem size23 : typeSize Try.prog 23 = some 1 := rfl
theorem agg23 : aggB Try.prog 23 = some false := rfl
theorem z23 : zeroV Try.prog 23 = some (.slice none 0 0) := by kernel_rfl
theorem elem23 : elemCells Try.prog 23 = some (2, 1) := rfl
theorem app23 : appOk Try.prog 23 23 1 = true := by decide +kernel
theorem sl23 : slOk Try.prog 23 1 = true := by decide +kernel
theorem und25 : Try.prog.underlying 25 = some (.slice 27) := rfl
theorem size25 : typeSize Try.prog 25 = some 1 := rfl
theorem agg25 : aggB Try.prog 25 = some false := rfl
theorem z25 : zeroV Try.prog 25 = some (.slice none 0 0) := by kernel_rfl
theorem elem25 : elemCells Try.prog 25 = some (27, 1) := rfl
theorem app25 : appOk Try.prog 25 25 1 = true := by decide +kernel
theorem sl25 : slOk Try.prog 25 1 = true := by decide +kernel
theorem und26 : Try.prog.underlying 26 = some (.slice 3) := rfl
theorem size26 : typeSize Try.prog 26 = some 1 := rfl
theorem agg26 : aggB Try.prog 26 = some false := rfl
theorem z26 : zeroV Try.prog 26 = some (.slice none 0 0) := by kernel_rfl
theorem elem26 : elemCells Try.prog 26 = some (3, 1) := rfl
theorem app26 : appOk Try.prog 26 26 1 = true := by decide +kernel
theorem sl26 : slOk Try.prog 26 1 = true := by decide +kernel
theorem und27 : Try.prog.underlying 27 = some (.int .u32) := rfl
theorem size27 : typeSize Try.prog 27 = some 1 := rfl
theorem agg27 : aggB Try.prog 27 = some false := rfl
theorem z27 : zeroV Try.prog 27 = some (.int .u32 0) := by kernel_rfl
theorem und28 : Try.prog.underlying 28 = some (.pointer 57) := rfl
theorem size28 : typeSize Try.prog 28 = some 1 := rfl
theorem agg28 : aggB Try.prog 28 = some false := rfl
theorem z28 : zeroV Try.prog 28 = some (.pointer none) := by kernel_rfl
theorem size44 : typeSize Try.prog 44 = some 5 := rfl
theorem agg44 : aggB Try.prog 44 = some true := rfl
theorem z44 : zeroV Try.prog 44 = some (.agg #[.slice none 0 0, .slice none 0 0, .slice none 0 0, .int .u32 0, .int .u32 0]) := by kernel_rfl
theorem fo44_0 : fldOff Try.prog 44 0 = some 0 := rfl
theorem fo44_1 : fldOff Try.prog 44 1 = some 1 := rfl
theorem fo44_2 : fldOff Try.prog 44 2 = some 2 := rfl
theorem fo44_3 : fldOff Try.prog 44 3 = some 3 := rfl
theorem fo44_4 : fldOff Try.prog 44 4 = some 4 := rfl
-- struct 44: Now:25@0, Took:25@1, Gave:25@2, Count:27@3, Most:27@4
theorem und55 : Try.prog.underlying 55 = some (.map 27 60) := rfl
theorem size55 : typeSize Try.prog 55 = some 1 := rfl
theorem agg55 : aggB Try.prog 55 = some false := rfl
theorem z55 : zeroV Try.prog 55 = some (.map none) := by kernel_rfl
theorem size57 : typeSize Try.prog 57 = some 5 := rfl
theorem agg57 : aggB Try.prog 57 = some true := rfl
theorem z57 : zeroV Try.prog 57 = some (.agg #[.slice none 0 0, .map none, .map none, .int .u32 0, .int .u32 0]) := by kernel_rfl
theorem fo57_0 : fldOff Try.prog 57 0 = some 0 := rfl
theorem fo57_1 : fldOff Try.prog 57 1 = some 1 := rfl
theorem fo57_2 : fldOff Try.prog 57 2 = some 2 := rfl
theorem fo57_3 : fldOff Try.prog 57 3 = some 3 := rfl
theorem fo57_4 : fldOff Try.prog 57 4 = some 4 := rfl
-- struct 57: now:25@0, taken:55@1, gave:55@2, pages:27@3, most:27@4
theorem size60 : typeSize Try.prog 60 = some 0 := rfl
theorem agg60 : aggB Try.prog 60 = some true := rfl
theorem z60 : zeroV Try.prog 60 = some (.agg #[]) := by kernel_rfl
-- struct 60: 
theorem und73 : Try.prog.underlying 73 = some (.int .u64) := rfl
theorem size73 : typeSize Try.prog 73 = some 1 := rfl
theorem agg73 : aggB Try.prog 73 = some false := rfl
theorem z73 : zeroV Try.prog 73 = some (.int .u64 0) := by kernel_rfl
theorem und90 : Try.prog.underlying 90 = some (.int .u64) := rfl
theorem size90 : typeSize Try.prog 90 = some 1 := rfl
theorem agg90 : aggB Try.prog 90 = some false := rfl
theorem z90 : zeroV Try.prog 90 = some (.int .u64 0) := by kernel_rfl
theorem und91 : Try.prog.underlying 91 = some (.int .u64) := rfl
theorem size91 : typeSize Try.prog 91 = some 1 := rfl
theorem agg91 : aggB Try.prog 91 = some false := rfl
theorem z91 : zeroV Try.prog 91 = some (.int .u64 0) := by kernel_rfl
theorem bld44_0_3_4 {v0 : Option Addr} {n0 c0 : Nat} {v3 : Int} {v4 : Int} : buildA Try.prog 44 [(0, .slice v0 n0 c0), (3, .int .u32 v3), (4, .int .u32 v4)] = some (.agg [.slice v0 n0 c0, .slice none 0 0, .slice none 0 0, .int .u32 v3, .int .u32 v4].toArray) := rfl
theorem bld57_0_1_2_3_4 {v0 : Option Addr} {n0 c0 : Nat} {v1 : Option Nat} {v2 : Option Nat} {v3 : Int} {v4 : Int} : buildA Try.prog 57 [(0, .slice v0 n0 c0), (1, .map v1), (2, .map v2), (3, .int .u32 v3), (4, .int .u32 v4)] = some (.agg [.slice v0 n0 c0, .map v1, .map v2, .int .u32 v3, .int .u32 v4].toArray) := rfl
abbrev TB := (And.intro (And.intro (And.intro (And.intro (And.intro (And.intro (And.intro z3 z57) z60) (And.intro z91 @bld44_0_3_4)) (And.intro (And.intro @bld57_0_1_2_3_4 (fun {a : AW} => buildSl0 (E := Try.prog) (a := a) elem25)) (And.intro (fun {a : AW} {v : Value} (hv : v.cells.toList.length = 1) => buildSl1 (E := Try.prog) (a := a) (v := v) sl25 (by decide) hv) (fun {a : AW} {v u : Value} (hv : v.cells.toList.length = 1) (hu : u.cells.toList.length = 1) => buildSl2 (E := Try.prog) (a := a) (v := v) (u := u) sl25 (by decide) hv hu)))) (And.intro (And.intro (And.intro (fun {G : Gives} {t : List Value} {a : AW} {K : Value → AW → Prop} {x : Operand} => op_conv_int (E := Try.prog) (G := G) (t := t) (a := a) (K := K) (x := x) und2 und27) (fun {n : Int} => conv_int (E := Try.prog) (n := n) und2 und27)) (And.intro (fun {G : Gives} {t : List Value} {a : AW} {K : Value → AW → Prop} {x : Operand} => op_conv_int (E := Try.prog) (G := G) (t := t) (a := a) (K := K) (x := x) und27 und3) (fun {n : Int} => conv_int (E := Try.prog) (n := n) und27 und3))) (And.intro (And.intro (fun {G : Gives} {t : List Value} {a : AW} {K : Value → AW → Prop} {x : Operand} => op_conv_int (E := Try.prog) (G := G) (t := t) (a := a) (K := K) (x := x) und27 und5) (fun {n : Int} => conv_int (E := Try.prog) (n := n) und27 und5)) (And.intro (fun {G : Gives} {t : List Value} {a : AW} {K : Value → AW → Prop} {x : Operand} => op_conv_int (E := Try.prog) (G := G) (t := t) (a := a) (K := K) (x := x) und3 und27) (fun {n : Int} => conv_int (E := Try.prog) (n := n) und3 und27))))) (And.intro (And.intro (And.intro (And.intro (fun {G : Gives} {t : List Value} {a : AW} {K : Value → AW → Prop} {x : Operand} => op_conv_int (E := Try.prog) (G := G) (t := t) (a := a) (K := K) (x := x) und3 und73) (fun {n : Int} => conv_int (E := Try.prog) (n := n) und3 und73)) (And.intro (fun {G : Gives} {t : List Value} {a : AW} {K : Value → AW → Prop} {x : Operand} => op_conv_int (E := Try.prog) (G := G) (t := t) (a := a) (K := K) (x := x) und3 und91) (fun {n : Int} => conv_int (E := Try.prog) (n := n) und3 und91))) (And.intro (And.intro (fun {G : Gives} {t : List Value} {a : AW} {K : Value → AW → Prop} {x : Operand} => op_conv_int (E := Try.prog) (G := G) (t := t) (a := a) (K := K) (x := x) und5 und27) (fun {n : Int} => conv_int (E := Try.prog) (n := n) und5 und27)) (And.intro (fun {G : Gives} {t : List Value} {a : AW} {K : Value → AW → Prop} {x : Operand} => op_conv_int (E := Try.prog) (G := G) (t := t) (a := a) (K := K) (x := x) und5 und3) (fun {n : Int} => conv_int (E := Try.prog) (n := n) und5 und3)))) (And.intro (And.intro (And.intro (fun {G : Gives} {t : List Value} {a : AW} {K : Value → AW → Prop} {x : Operand} => op_conv_int (E := Try.prog) (G := G) (t := t) (a := a) (K := K) (x := x) und73 und27) (fun {n : Int} => conv_int (E := Try.prog) (n := n) und73 und27)) (And.intro (fun {G : Gives} {t : List Value} {a : AW} {K : Value → AW → Prop} {x : Operand} => op_conv_int (E := Try.prog) (G := G) (t := t) (a := a) (K := K) (x := x) und73 und3) (fun {n : Int} => conv_int (E := Try.prog) (n := n) und73 und3))) (And.intro (And.intro (fun {G : Gives} {t : List Value} {a : AW} {K : Value → AW → Prop} {x : Operand} => op_conv_int (E := Try.prog) (G := G) (t := t) (a := a) (K := K) (x := x) und90 und5) (fun {n : Int} => conv_int (E := Try.prog) (n := n) und90 und5)) (And.intro (fun {G : Gives} {t : List Value} {a : AW} {K : Value → AW → Prop} {x : Operand} => op_fa (E := Try.prog) (G := G) (t := t) (a := a) (K := K) (x := x) fo44_0) (fun {G : Gives} {t : List Value} {a : AW} {K : Value → AW → Prop} {x : Operand} => op_fa (E := Try.prog) (G := G) (t := t) (a := a) (K := K) (x := x) fo44_1)))))) (And.intro (And.intro (And.intro (And.intro (And.intro (fun {G : Gives} {t : List Value} {a : AW} {K : Value → AW → Prop} {x : Operand} => op_fa (E := Try.prog) (G := G) (t := t) (a := a) (K := K) (x := x) fo44_2) (fun {G : Gives} {t : List Value} {a : AW} {K : Value → AW → Prop} {x : Operand} => op_fa (E := Try.prog) (G := G) (t := t) (a := a) (K := K) (x := x) fo44_3)) (And.intro (fun {G : Gives} {t : List Value} {a : AW} {K : Value → AW → Prop} {x : Operand} => op_fa (E := Try.prog) (G := G) (t := t) (a := a) (K := K) (x := x) fo44_4) (fun {G : Gives} {t : List Value} {a : AW} {K : Value → AW → Prop} {x : Operand} => op_fa (E := Try.prog) (G := G) (t := t) (a := a) (K := K) (x := x) fo57_0))) (And.intro (And.intro (fun {G : Gives} {t : List Value} {a : AW} {K : Value → AW → Prop} {x : Operand} => op_fa (E := Try.prog) (G := G) (t := t) (a := a) (K := K) (x := x) fo57_1) (fun {G : Gives} {t : List Value} {a : AW} {K : Value → AW → Prop} {x : Operand} => op_fa (E := Try.prog) (G := G) (t := t) (a := a) (K := K) (x := x) fo57_2)) (And.intro (fun {G : Gives} {t : List Value} {a : AW} {K : Value → AW → Prop} {x : Operand} => op_fa (E := Try.prog) (G := G) (t := t) (a := a) (K := K) (x := x) fo57_3) (fun {G : Gives} {t : List Value} {a : AW} {K : Value → AW → Prop} {x : Operand} => op_fa (E := Try.prog) (G := G) (t := t) (a := a) (K := K) (x := x) fo57_4)))) (And.intro (And.intro (And.intro (fun {k : IntKind} {s : List UInt8} {i : Int} (h : 0 ≤ i) (h2 : i < s.length) => index_str (E := Try.prog) (k := k) (s := s) (i := i) und9 h h2) (fun {p : Addr} {n c : Nat} {k : IntKind} {i : Int} (h : 0 ≤ i) (h2 : i < (n : Int)) => indexAddr_slice (E := Try.prog) (p := p) (n := n) (c := c) (k := k) (i := i) und22 size4 h h2)) (And.intro (fun {p : Addr} {n c : Nat} {k : IntKind} {i : Int} (h : 0 ≤ i) (h2 : i < (n : Int)) => indexAddr_slice (E := Try.prog) (p := p) (n := n) (c := c) (k := k) (i := i) und23 size2 h h2) (fun {p : Addr} {n c : Nat} {k : IntKind} {i : Int} (h : 0 ≤ i) (h2 : i < (n : Int)) => indexAddr_slice (E := Try.prog) (p := p) (n := n) (c := c) (k := k) (i := i) und25 size27 h h2))) (And.intro (And.intro (fun {p : Addr} {n c : Nat} {k : IntKind} {i : Int} (h : 0 ≤ i) (h2 : i < (n : Int)) => indexAddr_slice (E := Try.prog) (p := p) (n := n) (c := c) (k := k) (i := i) und26 size3 h h2) (fun {G : Gives} {t : List Value} {a : AW} {K : Value → AW → Prop} {x : Operand} => op_len (E := Try.prog) (G := G) (t := t) (a := a) (K := K) (x := x) und22 rfl)) (And.intro (fun {G : Gives} {t : List Value} {a : AW} {K : Value → AW → Prop} {x : Operand} => op_len (E := Try.prog) (G := G) (t := t) (a := a) (K := K) (x := x) und23 rfl) (fun {G : Gives} {t : List Value} {a : AW} {K : Value → AW → Prop} {x : Operand} => op_len (E := Try.prog) (G := G) (t := t) (a := a) (K := K) (x := x) und25 rfl))))) (And.intro (And.intro (And.intro (And.intro (fun {p : Addr} {a : AW} => load_one (E := Try.prog) (a := a) (p := p) agg2) (fun {p : Addr} {a : AW} => load_one (E := Try.prog) (a := a) (p := p) agg25)) (And.intro (fun {p : Addr} {a : AW} => load_one (E := Try.prog) (a := a) (p := p) agg27) (fun {p : Addr} {a : AW} => load_one (E := Try.prog) (a := a) (p := p) agg28))) (And.intro (And.intro (fun {p : Addr} {a : AW} => load_one (E := Try.prog) (a := a) (p := p) agg3) (fun {p : Addr} {a : AW} => load_one (E := Try.prog) (a := a) (p := p) agg4)) (And.intro (fun {p : Addr} {a : AW} => load_one (E := Try.prog) (a := a) (p := p) agg55) (fun {p : Addr} {a : AW} => load_agg (E := Try.prog) (a := a) (p := p) agg57 size57)))) (And.intro (And.intro (And.intro (fun {p : Addr} {a : AW} => load_one (E := Try.prog) (a := a) (p := p) agg91) (fun {p : Addr} {a : AW} {v : Value} (h : v.cells.toList.length = 1) => storeVar_eq (E := Try.prog) (a := a) (p := p) (v := v) size25 h)) (And.intro (fun {p : Addr} {a : AW} {v : Value} (h : v.cells.toList.length = 1) => storeVar_eq (E := Try.prog) (a := a) (p := p) (v := v) size27 h) (fun {p : Addr} {a : AW} {v : Value} (h : v.cells.toList.length = 1) => storeVar_eq (E := Try.prog) (a := a) (p := p) (v := v) size3 h))) (And.intro (And.intro (fun {p : Addr} {a : AW} {v : Value} (h : v.cells.toList.length = 1) => storeVar_eq (E := Try.prog) (a := a) (p := p) (v := v) size55 h) (fun {p : Addr} {a : AW} {v : Value} (h : v.cells.toList.length = 5) => storeVar_eq (E := Try.prog) (a := a) (p := p) (v := v) size57 h)) (And.intro (fun {p : Addr} {a : AW} {v : Value} (h : v.cells.toList.length = 0) => storeVar_eq (E := Try.prog) (a := a) (p := p) (v := v) size60 h) (fun {p : Addr} {a : AW} {v : Value} (h : v.cells.toList.length = 1) => storeVar_eq (E := Try.prog) (a := a) (p := p) (v := v) size91 h)))))))
abbrev NB := (And.intro (And.intro (And.intro (And.intro (fun {G : Gives} {t : List Value} {a : AW} {K : Note → Value → AW → Prop} {x : Operand} => note_convI (E := Try.prog) (G := G) (t := t) (a := a) (K := K) (x := x) und2 und27) (fun {G : Gives} {t : List Value} {a : AW} {K : Note → Value → AW → Prop} {x : Operand} => note_convI (E := Try.prog) (G := G) (t := t) (a := a) (K := K) (x := x) und27 und3)) (And.intro (fun {G : Gives} {t : List Value} {a : AW} {K : Note → Value → AW → Prop} {x : Operand} => note_convI (E := Try.prog) (G := G) (t := t) (a := a) (K := K) (x := x) und27 und5) (fun {G : Gives} {t : List Value} {a : AW} {K : Note → Value → AW → Prop} {x : Operand} => note_convI (E := Try.prog) (G := G) (t := t) (a := a) (K := K) (x := x) und3 und27))) (And.intro (And.intro (fun {G : Gives} {t : List Value} {a : AW} {K : Note → Value → AW → Prop} {x : Operand} => note_convI (E := Try.prog) (G := G) (t := t) (a := a) (K := K) (x := x) und3 und73) (fun {G : Gives} {t : List Value} {a : AW} {K : Note → Value → AW → Prop} {x : Operand} => note_convI (E := Try.prog) (G := G) (t := t) (a := a) (K := K) (x := x) und3 und91)) (fun {G : Gives} {t : List Value} {a : AW} {K : Note → Value → AW → Prop} {x : Operand} => note_convI (E := Try.prog) (G := G) (t := t) (a := a) (K := K) (x := x) und5 und27))) (And.intro (And.intro (And.intro (fun {G : Gives} {t : List Value} {a : AW} {K : Note → Value → AW → Prop} {x : Operand} => note_convI (E := Try.prog) (G := G) (t := t) (a := a) (K := K) (x := x) und5 und3) (fun {G : Gives} {t : List Value} {a : AW} {K : Note → Value → AW → Prop} {x : Operand} => note_convI (E := Try.prog) (G := G) (t := t) (a := a) (K := K) (x := x) und73 und27)) (And.intro (fun {G : Gives} {t : List Value} {a : AW} {K : Note → Value → AW → Prop} {x : Operand} => note_convI (E := Try.prog) (G := G) (t := t) (a := a) (K := K) (x := x) und73 und3) (fun {G : Gives} {t : List Value} {a : AW} {K : Note → Value → AW → Prop} {x : Operand} => note_convI (E := Try.prog) (G := G) (t := t) (a := a) (K := K) (x := x) und90 und5))) (And.intro (And.intro (fun {G : Gives} {t : List Value} {a : AW} {K : Note → Value → AW → Prop} {x : Operand} => note_len (E := Try.prog) (G := G) (t := t) (a := a) (K := K) (x := x) und22 rfl) (fun {G : Gives} {t : List Value} {a : AW} {K : Note → Value → AW → Prop} {x : Operand} => note_len (E := Try.prog) (G := G) (t := t) (a := a) (K := K) (x := x) und23 rfl)) (fun {G : Gives} {t : List Value} {a : AW} {K : Note → Value → AW → Prop} {x : Operand} => note_len (E := Try.prog) (G := G) (t := t) (a := a) (K := K) (x := x) und25 rfl))))
end Go.Proofs.YtlbmjpmonaekgaaAM
