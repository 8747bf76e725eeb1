/- The types' facts, and the rules of operations at these types. -/
import Derived.Test.YtdgpniekpmoadaaProg
import Derived.Test.YtdgpniekpmoadaaAME
import Derived.KernelRfl
namespace Go.Proofs.YtdgpniekpmoadaaAM
open Go Go.RowKit
set_option linter.unusedVariables false
set_option linter.unusedSimpArgs false
set_option maxRecDepth 10000
set_option maxHeartbeats 4000000
theorem mixed : Try.prog.follows .mixedOrders = true := by kernel_rfl
theorem plain : plainNames Try.prog = true := by kernel_rfl
theorem size0 : typeSize Try.prog 0 = some 1 := rfl
theorem agg0 : aggB Try.prog 0 = some false := rfl
theorem size1 : typeSize Try.prog 1 = some 1 := rfl
theorem agg1 : aggB Try.prog 1 = some false := rfl
theorem z1 : zeroV Try.prog 1 = some (.nilFunc) := by kernel_rfl
theorem und2 : Try.prog.underlying 2 = some (.int .i64) := rfl
theorem size2 : typeSize Try.prog 2 = some 1 := rfl
theorem agg2 : aggB Try.prog 2 = some false := rfl
theorem z2 : zeroV Try.prog 2 = some (.int .i64 0) := by kernel_rfl
theorem und3 : Try.prog.underlying 3 = some (.int .i64) := rfl
theorem size3 : typeSize Try.prog 3 = some 1 := rfl
theorem agg3 : aggB Try.prog 3 = some false := rfl
theorem z3 : zeroV Try.prog 3 = some (.int .i64 0) := by kernel_rfl
theorem und4 : Try.prog.underlying 4 = some .bool := rfl
theorem size4 : typeSize Try.prog 4 = some 1 := rfl
theorem agg4 : aggB Try.prog 4 = some false := rfl
theorem z4 : zeroV Try.prog 4 = some (.bool false) := by kernel_rfl
theorem und5 : Try.prog.underlying 5 = some (.int .u8) := rfl
theorem size5 : typeSize Try.prog 5 = some 1 := rfl
theorem agg5 : aggB Try.prog 5 = some false := rfl
theorem z5 : zeroV Try.prog 5 = some (.int .u8 0) := by kernel_rfl
theorem und6 : Try.prog.underlying 6 = some (.int .u8) := rfl
theorem size6 : typeSize Try.prog 6 = some 1 := rfl
theorem agg6 : aggB Try.prog 6 = some false := rfl
theorem z6 : zeroV Try.prog 6 = some (.int .u8 0) := by kernel_rfl
theorem und9 : Try.prog.underlying 9 = some .string := rfl
theorem size9 : typeSize Try.prog 9 = some 1 := rfl
theorem agg9 : aggB Try.prog 9 = some false := rfl
theorem z9 : zeroV Try.prog 9 = some (.string (mkStr [])) := by kernel_rfl
theorem und22 : Try.prog.underlying 22 = some (.int .u32) := rfl
theorem size22 : typeSize Try.prog 22 = some 1 := rfl
theorem agg22 : aggB Try.prog 22 = some false := rfl
theorem z22 : zeroV Try.prog 22 = some (.int .u32 0) := by kernel_rfl
theorem size24 : typeSize Try.prog 24 = some 4 := rfl
theorem agg24 : aggB Try.prog 24 = some true := rfl
theorem z24 : zeroV Try.prog 24 = some (.agg #[.int .u32 0, .int .i64 0, .string (mkStr []), .string (mkStr [])]) := by kernel_rfl
theorem fo24_0 : fldOff Try.prog 24 0 = some 0 := rfl
theorem fo24_1 : fldOff Try.prog 24 1 = some 1 := rfl
theorem fo24_2 : fldOff Try.prog 24 2 = some 2 := rfl
theorem fo24_3 : fldOff Try.prog 24 3 = some 3 := rfl
-- struct 24: Page:22@0, Slot:3@1, Key:9@2, Value:9@3
theorem und27 : Try.prog.underlying 27 = some (.slice 24) := rfl
theorem size27 : typeSize Try.prog 27 = some 1 := rfl
theorem agg27 : aggB Try.prog 27 = some false := rfl
theorem z27 : zeroV Try.prog 27 = some (.slice none 0 0) := by kernel_rfl
theorem elem27 : elemCells Try.prog 27 = some (24, 4) := rfl
theorem app27 : appOk Try.prog 27 27 4 = true := by decide +kernel
theorem sl27 : slOk Try.prog 27 4 = true := by decide +kernel
theorem und33 : Try.prog.underlying 33 = some (.slice 39) := rfl
theorem size33 : typeSize Try.prog 33 = some 1 := rfl
theorem agg33 : aggB Try.prog 33 = some false := rfl
theorem z33 : zeroV Try.prog 33 = some (.slice none 0 0) := by kernel_rfl
theorem elem33 : elemCells Try.prog 33 = some (39, 2) := rfl
theorem app33 : appOk Try.prog 33 33 2 = true := by decide +kernel
theorem sl33 : slOk Try.prog 33 2 = true := by decide +kernel
theorem size39 : typeSize Try.prog 39 = some 2 := rfl
theorem agg39 : aggB Try.prog 39 = some true := rfl
theorem z39 : zeroV Try.prog 39 = some (.agg #[.string (mkStr []), .string (mkStr [])]) := by kernel_rfl
theorem fo39_0 : fldOff Try.prog 39 0 = some 0 := rfl
theorem fo39_1 : fldOff Try.prog 39 1 = some 1 := rfl
-- struct 39: Key:9@0, Value:9@1
theorem und41 : Try.prog.underlying 41 = some (.map 9 3) := rfl
theorem size41 : typeSize Try.prog 41 = some 1 := rfl
theorem agg41 : aggB Try.prog 41 = some false := rfl
theorem z41 : zeroV Try.prog 41 = some (.map none) := by kernel_rfl
theorem und48 : Try.prog.underlying 48 = some (.slice 5) := rfl
theorem size48 : typeSize Try.prog 48 = some 1 := rfl
theorem agg48 : aggB Try.prog 48 = some false := rfl
theorem z48 : zeroV Try.prog 48 = some (.slice none 0 0) := by kernel_rfl
theorem elem48 : elemCells Try.prog 48 = some (5, 1) := rfl
theorem app48 : appOk Try.prog 48 48 1 = true := by decide +kernel
theorem sl48 : slOk Try.prog 48 1 = true := by decide +kernel
theorem und49 : Try.prog.underlying 49 = some (.int .u64) := rfl
theorem size49 : typeSize Try.prog 49 = some 1 := rfl
theorem agg49 : aggB Try.prog 49 = some false := rfl
theorem z49 : zeroV Try.prog 49 = some (.int .u64 0) := by kernel_rfl
theorem und51 : Try.prog.underlying 51 = some (.map 9 3) := rfl
theorem size51 : typeSize Try.prog 51 = some 1 := rfl
theorem agg51 : aggB Try.prog 51 = some false := rfl
theorem z51 : zeroV Try.prog 51 = some (.map none) := by kernel_rfl
theorem und53 : Try.prog.underlying 53 = some (.slice 9) := rfl
theorem size53 : typeSize Try.prog 53 = some 1 := rfl
theorem agg53 : aggB Try.prog 53 = some false := rfl
theorem z53 : zeroV Try.prog 53 = some (.slice none 0 0) := by kernel_rfl
theorem elem53 : elemCells Try.prog 53 = some (9, 1) := rfl
theorem app53 : appOk Try.prog 53 53 1 = true := by decide +kernel
theorem sl53 : slOk Try.prog 53 1 = true := by decide +kernel
theorem und76 : Try.prog.underlying 76 = some (.int .u64) := rfl
theorem size76 : typeSize Try.prog 76 = some 1 := rfl
theorem agg76 : aggB Try.prog 76 = some false := rfl
theorem z76 : zeroV Try.prog 76 = some (.int .u64 0) := by kernel_rfl
theorem und77 : Try.prog.underlying 77 = some (.int .u64) := rfl
theorem size77 : typeSize Try.prog 77 = some 1 := rfl
theorem agg77 : aggB Try.prog 77 = some false := rfl
theorem z77 : zeroV Try.prog 77 = some (.int .u64 0) := by kernel_rfl
theorem bld24_0_1_2 {v0 : Int} {v1 : Int} {v2 : List UInt8} : buildA Try.prog 24 [(0, .int .u32 v0), (1, .int .i64 v1), (2, .string (mkStr v2))] = some (.agg [.int .u32 v0, .int .i64 v1, .string (mkStr v2), .string (mkStr [])].toArray) := rfl
theorem bld24_0_1_2_3 {v0 : Int} {v1 : Int} {v2 : List UInt8} {v3 : List UInt8} : buildA Try.prog 24 [(0, .int .u32 v0), (1, .int .i64 v1), (2, .string (mkStr v2)), (3, .string (mkStr v3))] = some (.agg [.int .u32 v0, .int .i64 v1, .string (mkStr v2), .string (mkStr v3)].toArray) := rfl
theorem bld24_0_1_3 {v0 : Int} {v1 : Int} {v3 : List UInt8} : buildA Try.prog 24 [(0, .int .u32 v0), (1, .int .i64 v1), (3, .string (mkStr v3))] = some (.agg [.int .u32 v0, .int .i64 v1, .string (mkStr []), .string (mkStr v3)].toArray) := rfl
theorem bld24_1 {v1 : Int} : buildA Try.prog 24 [(1, .int .i64 v1)] = some (.agg [.int .u32 0, .int .i64 v1, .string (mkStr []), .string (mkStr [])].toArray) := rfl
theorem bld39_0 {v0 : List UInt8} : buildA Try.prog 39 [(0, .string (mkStr v0))] = some (.agg [.string (mkStr v0), .string (mkStr [])].toArray) := rfl
theorem bld39_0_1 {v0 : List UInt8} {v1 : List UInt8} : buildA Try.prog 39 [(0, .string (mkStr v0)), (1, .string (mkStr v1))] = some (.agg [.string (mkStr v0), .string (mkStr v1)].toArray) := rfl
abbrev TB := (And.intro (And.intro (And.intro (And.intro (And.intro (And.intro (And.intro z24 z3) z33) (And.intro z39 z51)) (And.intro (And.intro (And.intro z77 @bld24_0_1_2) @bld24_0_1_2_3) (And.intro @bld24_0_1_3 @bld24_1))) (And.intro (And.intro (And.intro (And.intro @bld39_0 @bld39_0_1) (fun {a : AW} => buildSl0 (E := Try.prog) (a := a) elem27)) (And.intro (fun {a : AW} {v u : Value} (hv : v.cells.toList.length = 4) (hu : u.cells.toList.length = 4) => buildSl2 (E := Try.prog) (a := a) (v := v) (u := u) sl27 (by decide) hv hu) (fun {a : AW} => buildSl0 (E := Try.prog) (a := a) elem33))) (And.intro (And.intro (fun {a : AW} {v : Value} (hv : v.cells.toList.length = 2) => buildSl1 (E := Try.prog) (a := a) (v := v) sl33 (by decide) hv) (fun {a : AW} {v u : Value} (hv : v.cells.toList.length = 2) (hu : u.cells.toList.length = 2) => buildSl2 (E := Try.prog) (a := a) (v := v) (u := u) sl33 (by decide) hv hu)) (And.intro (fun {a : AW} {v : Value} (hv : v.cells.toList.length = 1) => buildSl1 (E := Try.prog) (a := a) (v := v) sl48 (by decide) hv) (fun {a : AW} {v u : Value} (hv : v.cells.toList.length = 1) (hu : u.cells.toList.length = 1) => buildSl2 (E := Try.prog) (a := a) (v := v) (u := u) sl48 (by decide) hv hu))))) (And.intro (And.intro (And.intro (And.intro (And.intro (fun {a : AW} {v : Value} (hv : v.cells.toList.length = 1) => buildSl1 (E := Try.prog) (a := a) (v := v) sl53 (by decide) hv) (fun {G : Gives} {t : List Value} {a : AW} {K : Value → AW → Prop} {x : Operand} => op_conv_int (E := Try.prog) (G := G) (t := t) (a := a) (K := K) (x := x) und22 und5)) (fun {n : Int} => conv_int (E := Try.prog) (n := n) und22 und5)) (And.intro (fun {G : Gives} {t : List Value} {a : AW} {K : Value → AW → Prop} {x : Operand} => op_conv_int (E := Try.prog) (G := G) (t := t) (a := a) (K := K) (x := x) und3 und49) (fun {n : Int} => conv_int (E := Try.prog) (n := n) und3 und49))) (And.intro (And.intro (fun {G : Gives} {t : List Value} {a : AW} {K : Value → AW → Prop} {x : Operand} => op_conv_int (E := Try.prog) (G := G) (t := t) (a := a) (K := K) (x := x) und3 und5) (fun {n : Int} => conv_int (E := Try.prog) (n := n) und3 und5)) (And.intro (fun {G : Gives} {t : List Value} {a : AW} {K : Value → AW → Prop} {x : Operand} => op_conv_int (E := Try.prog) (G := G) (t := t) (a := a) (K := K) (x := x) und3 und77) (fun {n : Int} => conv_int (E := Try.prog) (n := n) und3 und77)))) (And.intro (And.intro (And.intro (And.intro (fun {G : Gives} {t : List Value} {a : AW} {K : Value → AW → Prop} {x : Operand} => op_ofBytes (E := Try.prog) (G := G) (t := t) (a := a) (K := K) (x := x) und48 und9 und5) (fun {G : Gives} {t : List Value} {a : AW} {K : Value → AW → Prop} {x : Operand} => op_conv_int (E := Try.prog) (G := G) (t := t) (a := a) (K := K) (x := x) und49 und22)) (fun {n : Int} => conv_int (E := Try.prog) (n := n) und49 und22)) (And.intro (fun {G : Gives} {t : List Value} {a : AW} {K : Value → AW → Prop} {x : Operand} => op_conv_int (E := Try.prog) (G := G) (t := t) (a := a) (K := K) (x := x) und49 und3) (fun {n : Int} => conv_int (E := Try.prog) (n := n) und49 und3))) (And.intro (And.intro (fun {G : Gives} {t : List Value} {a : AW} {K : Value → AW → Prop} {x : Operand} => op_conv_int (E := Try.prog) (G := G) (t := t) (a := a) (K := K) (x := x) und5 und22) (fun {n : Int} => conv_int (E := Try.prog) (n := n) und5 und22)) (And.intro (fun {G : Gives} {t : List Value} {a : AW} {K : Value → AW → Prop} {x : Operand} => op_conv_int (E := Try.prog) (G := G) (t := t) (a := a) (K := K) (x := x) und5 und3) (fun {n : Int} => conv_int (E := Try.prog) (n := n) und5 und3)))))) (And.intro (And.intro (And.intro (And.intro (And.intro (And.intro (fun {G : Gives} {t : List Value} {a : AW} {K : Value → AW → Prop} {x : Operand} => op_conv_int (E := Try.prog) (G := G) (t := t) (a := a) (K := K) (x := x) und76 und5) (fun {n : Int} => conv_int (E := Try.prog) (n := n) und76 und5)) (fun {G : Gives} {t : List Value} {a : AW} {K : Value → AW → Prop} {x : Operand} => op_fa (E := Try.prog) (G := G) (t := t) (a := a) (K := K) (x := x) fo24_0)) (And.intro (fun {G : Gives} {t : List Value} {a : AW} {K : Value → AW → Prop} {x : Operand} => op_fa (E := Try.prog) (G := G) (t := t) (a := a) (K := K) (x := x) fo24_1) (fun {G : Gives} {t : List Value} {a : AW} {K : Value → AW → Prop} {x : Operand} => op_fa (E := Try.prog) (G := G) (t := t) (a := a) (K := K) (x := x) fo24_2))) (And.intro (And.intro (fun {G : Gives} {t : List Value} {a : AW} {K : Value → AW → Prop} {x : Operand} => op_fa (E := Try.prog) (G := G) (t := t) (a := a) (K := K) (x := x) fo24_3) (fun {G : Gives} {t : List Value} {a : AW} {K : Value → AW → Prop} {x : Operand} => op_fa (E := Try.prog) (G := G) (t := t) (a := a) (K := K) (x := x) fo39_0)) (And.intro (fun {G : Gives} {t : List Value} {a : AW} {K : Value → AW → Prop} {x : Operand} => op_fa (E := Try.prog) (G := G) (t := t) (a := a) (K := K) (x := x) fo39_1) (fun {k : IntKind} {s : List UInt8} {i : Int} (h : 0 ≤ i) (h2 : i < s.length) => index_str (E := Try.prog) (k := k) (s := s) (i := i) und9 h h2)))) (And.intro (And.intro (And.intro (And.intro (fun {p : Addr} {n c : Nat} {k : IntKind} {i : Int} (h : 0 ≤ i) (h2 : i < (n : Int)) => indexAddr_slice (E := Try.prog) (p := p) (n := n) (c := c) (k := k) (i := i) und27 size24 h h2) (fun {p : Addr} {n c : Nat} {k : IntKind} {i : Int} (h : 0 ≤ i) (h2 : i < (n : Int)) => indexAddr_slice (E := Try.prog) (p := p) (n := n) (c := c) (k := k) (i := i) und33 size39 h h2)) (fun {p : Addr} {n c : Nat} {k : IntKind} {i : Int} (h : 0 ≤ i) (h2 : i < (n : Int)) => indexAddr_slice (E := Try.prog) (p := p) (n := n) (c := c) (k := k) (i := i) und53 size9 h h2)) (And.intro (fun {G : Gives} {t : List Value} {a : AW} {K : Value → AW → Prop} {x : Operand} => op_len (E := Try.prog) (G := G) (t := t) (a := a) (K := K) (x := x) und27 rfl) (fun {G : Gives} {t : List Value} {a : AW} {K : Value → AW → Prop} {x : Operand} => op_len (E := Try.prog) (G := G) (t := t) (a := a) (K := K) (x := x) und33 rfl))) (And.intro (And.intro (fun {G : Gives} {t : List Value} {a : AW} {K : Value → AW → Prop} {x : Operand} => op_len (E := Try.prog) (G := G) (t := t) (a := a) (K := K) (x := x) und53 rfl) (fun {G : Gives} {t : List Value} {a : AW} {K : Value → AW → Prop} {x : Operand} => op_len (E := Try.prog) (G := G) (t := t) (a := a) (K := K) (x := x) und9 rfl)) (And.intro (fun {p : Addr} {a : AW} => load_one (E := Try.prog) (a := a) (p := p) agg22) (fun {p : Addr} {a : AW} => load_agg (E := Try.prog) (a := a) (p := p) agg24 size24))))) (And.intro (And.intro (And.intro (And.intro (And.intro (fun {p : Addr} {a : AW} => load_one (E := Try.prog) (a := a) (p := p) agg3) (fun {p : Addr} {a : AW} => load_one (E := Try.prog) (a := a) (p := p) agg33)) (fun {p : Addr} {a : AW} => load_agg (E := Try.prog) (a := a) (p := p) agg39 size39)) (And.intro (fun {p : Addr} {a : AW} => load_one (E := Try.prog) (a := a) (p := p) agg51) (fun {p : Addr} {a : AW} => load_one (E := Try.prog) (a := a) (p := p) agg53))) (And.intro (And.intro (fun {p : Addr} {a : AW} => load_one (E := Try.prog) (a := a) (p := p) agg77) (fun {p : Addr} {a : AW} => load_one (E := Try.prog) (a := a) (p := p) agg9)) (And.intro (fun {k : IntKind} {s : List UInt8} {i : Int} (h : 0 ≤ i) (h2 : i ≤ s.length) => slice_str_hi (E := Try.prog) (k := k) (s := s) (i := i) und9 h h2) (fun {k : IntKind} {s : List UInt8} {i : Int} (h : 0 ≤ i) (h2 : i ≤ s.length) => slice_str_lo (E := Try.prog) (k := k) (s := s) (i := i) und9 h h2)))) (And.intro (And.intro (And.intro (And.intro (fun {k k' : IntKind} {s : List UInt8} {i j : Int} (h : 0 ≤ i) (h1 : i ≤ j) (h2 : j ≤ s.length) => slice_str_both (E := Try.prog) (k := k) (k' := k') (s := s) (i := i) (j := j) und9 h h1 h2) (fun {p : Addr} {a : AW} {v : Value} (h : v.cells.toList.length = 4) => storeVar_eq (E := Try.prog) (a := a) (p := p) (v := v) size24 h)) (fun {p : Addr} {a : AW} {v : Value} (h : v.cells.toList.length = 1) => storeVar_eq (E := Try.prog) (a := a) (p := p) (v := v) size3 h)) (And.intro (fun {p : Addr} {a : AW} {v : Value} (h : v.cells.toList.length = 1) => storeVar_eq (E := Try.prog) (a := a) (p := p) (v := v) size33 h) (fun {p : Addr} {a : AW} {v : Value} (h : v.cells.toList.length = 2) => storeVar_eq (E := Try.prog) (a := a) (p := p) (v := v) size39 h))) (And.intro (And.intro (fun {p : Addr} {a : AW} {v : Value} (h : v.cells.toList.length = 1) => storeVar_eq (E := Try.prog) (a := a) (p := p) (v := v) size51 h) (fun {p : Addr} {a : AW} {v : Value} (h : v.cells.toList.length = 1) => storeVar_eq (E := Try.prog) (a := a) (p := p) (v := v) size53 h)) (And.intro (fun {p : Addr} {a : AW} {v : Value} (h : v.cells.toList.length = 1) => storeVar_eq (E := Try.prog) (a := a) (p := p) (v := v) size77 h) (fun {p : Addr} {a : AW} {v : Value} (h : v.cells.toList.length = 1) => storeVar_eq (E := Try.prog) (a := a) (p := p) (v := v) size9 h)))))))
abbrev NB := (And.intro (And.intro (And.intro (And.intro (fun {G : Gives} {t : List Value} {a : AW} {K : Note → Value → AW → Prop} {x : Operand} => note_convI (E := Try.prog) (G := G) (t := t) (a := a) (K := K) (x := x) und22 und5) (fun {G : Gives} {t : List Value} {a : AW} {K : Note → Value → AW → Prop} {x : Operand} => note_convI (E := Try.prog) (G := G) (t := t) (a := a) (K := K) (x := x) und3 und49)) (And.intro (fun {G : Gives} {t : List Value} {a : AW} {K : Note → Value → AW → Prop} {x : Operand} => note_convI (E := Try.prog) (G := G) (t := t) (a := a) (K := K) (x := x) und3 und5) (fun {G : Gives} {t : List Value} {a : AW} {K : Note → Value → AW → Prop} {x : Operand} => note_convI (E := Try.prog) (G := G) (t := t) (a := a) (K := K) (x := x) und3 und77))) (And.intro (And.intro (fun {G : Gives} {t : List Value} {a : AW} {K : Note → Value → AW → Prop} {x : Operand} => note_ofBytes (E := Try.prog) (G := G) (t := t) (a := a) (K := K) (x := x) und48 und9 und5) (fun {G : Gives} {t : List Value} {a : AW} {K : Note → Value → AW → Prop} {x : Operand} => note_convI (E := Try.prog) (G := G) (t := t) (a := a) (K := K) (x := x) und49 und22)) (fun {G : Gives} {t : List Value} {a : AW} {K : Note → Value → AW → Prop} {x : Operand} => note_convI (E := Try.prog) (G := G) (t := t) (a := a) (K := K) (x := x) und49 und3))) (And.intro (And.intro (And.intro (fun {G : Gives} {t : List Value} {a : AW} {K : Note → Value → AW → Prop} {x : Operand} => note_convI (E := Try.prog) (G := G) (t := t) (a := a) (K := K) (x := x) und5 und22) (fun {G : Gives} {t : List Value} {a : AW} {K : Note → Value → AW → Prop} {x : Operand} => note_convI (E := Try.prog) (G := G) (t := t) (a := a) (K := K) (x := x) und5 und3)) (And.intro (fun {G : Gives} {t : List Value} {a : AW} {K : Note → Value → AW → Prop} {x : Operand} => note_convI (E := Try.prog) (G := G) (t := t) (a := a) (K := K) (x := x) und76 und5) (fun {G : Gives} {t : List Value} {a : AW} {K : Note → Value → AW → Prop} {x : Operand} => note_len (E := Try.prog) (G := G) (t := t) (a := a) (K := K) (x := x) und27 rfl))) (And.intro (And.intro (fun {G : Gives} {t : List Value} {a : AW} {K : Note → Value → AW → Prop} {x : Operand} => note_len (E := Try.prog) (G := G) (t := t) (a := a) (K := K) (x := x) und33 rfl) (fun {G : Gives} {t : List Value} {a : AW} {K : Note → Value → AW → Prop} {x : Operand} => note_len (E := Try.prog) (G := G) (t := t) (a := a) (K := K) (x := x) und53 rfl)) (fun {G : Gives} {t : List Value} {a : AW} {K : Note → Value → AW → Prop} {x : Operand} => note_len (E := Try.prog) (G := G) (t := t) (a := a) (K := K) (x := x) und9 rfl))))
end Go.Proofs.YtdgpniekpmoadaaAM
