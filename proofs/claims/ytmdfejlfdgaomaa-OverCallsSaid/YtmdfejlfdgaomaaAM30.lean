/- More rules of operations. -/
import Derived.Test.YtmdfejlfdgaomaaAM29
namespace Go.Proofs.YtmdfejlfdgaomaaAM
open Go Go.RowKit
set_option linter.unusedVariables false
set_option linter.unusedSimpArgs false

theorem one_one {v : Value} : oneOf [v] = v := hide rfl
theorem one_two {v u : Value} : oneOf [v, u] = .tuple #[v, u] := hide rfl
theorem one_three {v u w : Value} : oneOf [v, u, w] = .tuple #[v, u, w] := hide rfl
theorem one_nil : oneOf [] = .tuple #[] := hide rfl
theorem wrap64 {n : Int} (h : -9223372036854775808 ≤ n) (h2 : n ≤ 9223372036854775807) : IntKind.wrap .i64 n = n := by
  show (if (true && decide (n % 18446744073709551616 ≥ 9223372036854775808)) = true then n % 18446744073709551616 - 18446744073709551616 else n % 18446744073709551616) = n
  simp only [Bool.true_and, decide_eq_true_eq]
  split <;> omega
theorem wrapu64 {n : Int} (h : 0 ≤ n) (h2 : n ≤ 18446744073709551615) : IntKind.wrap .u64 n = n := by
  show n % 18446744073709551616 = n
  omega
theorem wrapu32 {n : Int} (h : 0 ≤ n) (h2 : n ≤ 4294967295) : IntKind.wrap .u32 n = n := by
  show n % 4294967296 = n
  omega
theorem wrapu8 {n : Int} (h : 0 ≤ n) (h2 : n ≤ 255) : IntKind.wrap .u8 n = n := by
  show n % 256 = n
  omega

theorem flat_int {k n} : flat (.int k n) = true := hide rfl
theorem flat_bool {b} : flat (.bool b) = true := hide rfl
theorem flat_str {b} : flat (.string b) = true := hide rfl
theorem flat_float {k b} : flat (.float k b) = true := hide rfl
theorem flat_agg {l : List Value} : flat (.agg l.toArray) = l.all (flatN 4) := hide rfl
theorem flatN_int {m k n} : flatN (m + 1) (.int k n) = true := hide rfl
theorem flatN_bool {m b} : flatN (m + 1) (.bool b) = true := hide rfl
theorem flatN_str {m b} : flatN (m + 1) (.string b) = true := hide rfl
theorem flatN_float {m k b} : flatN (m + 1) (.float k b) = true := hide rfl
theorem flatN_agg {m} {l : List Value} : flatN (m + 1) (.agg l.toArray) = l.all (flatN m) := hide rfl
section
variable {E : Program} {G : Gives} {t : List Value} {a : AW} {K : Value → AW → Prop}
def lenV (d : Option TypeDesc) (v : Value) : Option Value := match d, v with
  | some .string, .string s => some (.int .i64 s.size)
  | some (.slice _), .slice _ n _ => some (.int .i64 n)
  | some (.array n _), _ => some (.int .i64 n)
  | _, _ => none
theorem lenV_str {s : List UInt8} : lenV (some .string) (.string (mkStr s)) = some (.int .i64 s.length) := hide rfl
theorem lenV_slice {e : TypeId} {p : Option Addr} {n c : Nat} : lenV (some (.slice e)) (.slice p n c) = some (.int .i64 n) := hide rfl
theorem lenV_arr {e : TypeId} {n : Nat} {v : Value} : lenV (some (.array n e)) v = some (.int .i64 n) := by cases v <;> rfl
theorem op_len {x ty d} (h : E.underlying ty = some d) (hm : (match d with | .map _ _ => false | _ => true) = true) :
    WOp E G (.call ⟨.builtin .len, #[x], #[ty]⟩) t a K = WVal (evalA t x) fun v => WVal (lenV (some d) v) fun r => K r a := by
  have hk : kindO E (oper (.call ⟨.builtin .len, #[x], #[ty]⟩)) = .pure := by
    simp only [kindO, oper]
    have : ((#[ty] : Array TypeId)[0]?).bind E.underlying = some d := h
    rw [this]
    cases d <;> first | rfl | cases hm
  rw [op_pure hk]
  simp only [pureA, oper, evals_cons, evals_nil]
  cases evalA t x with
  | none => rfl
  | some v =>
    simp only [Option.bind_some, Option.map_some, pureBuiltinA]
    have : ((#[ty] : Array TypeId)[0]?).bind E.underlying = some d := h
    rw [this]
    rfl
theorem op_mapLen {x ty k e} (h : E.underlying ty = some (.map k e)) :
    WOp E G (.call ⟨.builtin .len, #[x], #[ty]⟩) t a K = WVal (evalA t x) fun v => WVal (match v with
      | .map r => (mapOf (.map r) a).map fun es => Value.int .i64 es.size
      | _ => none) fun r => K r a := by
  have hk : kindO E (oper (.call ⟨.builtin .len, #[x], #[ty]⟩)) = .read := by
    simp only [kindO, oper]
    have : ((#[ty] : Array TypeId)[0]?).bind E.underlying = some (.map k e) := h
    rw [this]
  rw [op_read hk]
  simp only [readA, oper, evals_cons, evals_nil]
  cases evalA t x with
  | none => rfl
  | some v =>
    simp only [Option.bind_some, Option.map_some, WVal_some]
    cases v with
    | map r => cases h : mapOf (.map r) a <;> simp [h, WVal]
    | _ => rfl
theorem op_min2 {x y ts} : WOp E G (.call ⟨.builtin .min, #[x, y], ts⟩) t a K = WVal (evalA t x) fun v => WVal (evalA t y) fun u => WVal (pureBuiltinA E .min ts [v, u]) fun r => K r a := by
  rw [op_pure rfl]
  simp only [pureA, oper, evals_cons, evals_nil]
  cases evalA t x with
  | none => rfl
  | some v => cases evalA t y <;> rfl
theorem op_max2 {x y ts} : WOp E G (.call ⟨.builtin .max, #[x, y], ts⟩) t a K = WVal (evalA t x) fun v => WVal (evalA t y) fun u => WVal (pureBuiltinA E .max ts [v, u]) fun r => K r a := by
  rw [op_pure rfl]
  simp only [pureA, oper, evals_cons, evals_nil]
  cases evalA t x with
  | none => rfl
  | some v => cases evalA t y <;> rfl
theorem min_int {ts k} {u v : Int} : pureBuiltinA E .min ts [.int k u, .int k v] = some (.int k (min u v)) := by
  have h : pureBuiltinA E .min ts [.int k u, .int k v] = some (.int k (if v < u then v else u)) := rfl
  rw [h]
  congr 2
  split <;> omega
theorem max_int {ts k} {u v : Int} : pureBuiltinA E .max ts [.int k u, .int k v] = some (.int k (max u v)) := by
  have h : pureBuiltinA E .max ts [.int k u, .int k v] = some (.int k (if v > u then v else u)) := rfl
  rw [h]
  congr 2
  split <;> omega
def fieldA (E : Program) (ty : TypeId) (v : Value) (f : Nat) : Option Value := match E.underlying ty, some v with
    | some (.struct fs), some (.agg cs) => match fs[f]? with
      | some fd => partA E fd.type cs fd.offset
      | none => none
    | _, _ => none
theorem op_field {ty x f} : WOp E G (.field ty x f) t a K = WVal (evalA t x) fun v => WVal (fieldA E ty v f) fun r => K r a := by
  rw [op_pure rfl]
  simp only [pureA, oper]
  cases evalA t x with
  | none => cases E.underlying ty with
    | none => rfl
    | some d => cases d <;> rfl
  | some v => rfl
def buildA (E : Program) (ty : TypeId) (vs : List (Nat × Value)) : Option Value := match zeroV E ty, fillPlace E ty, some vs with
    | some z, some pl, some vs => (fillA pl z.cells.toList vs).map fun cs => .agg cs.toArray
    | _, _, _ => none
theorem op_build {ty parts} : WOp E G (.build ty parts) t a K = WVal (partsA t parts.toList) fun vs => WVal (buildA E ty vs) fun r => K r a := by
  rw [op_pure rfl]
  simp only [pureA, oper]
  cases partsA t parts.toList with
  | none => cases zeroV E ty with
    | none => rfl
    | some d => cases fillPlace E ty <;> rfl
  | some v => rfl
theorem parts_nil : partsA t [] = some [] := hide rfl
theorem parts_cons {i x r} : partsA t ((i, x) :: r) = (evalA t x).bind fun v => (partsA t r).map ((i, v) :: ·) := by
  simp only [partsA]
  cases evalA t x <;> cases partsA t r <;> rfl
def extractA (v : Value) (i : Nat) : Option Value := match v with
  | .tuple vs => vs[i]?
  | _ => none
theorem op_extract {x i} : WOp E G (.extract x i) t a K = WVal (evalA t x) fun v => WVal (extractA v i) fun r => K r a := by
  rw [op_pure rfl]
  simp only [pureA, oper]
  cases evalA t x with
  | none => rfl
  | some v => cases v <;> rfl
theorem extract_at {l : List Value} {i} : extractA (.tuple l.toArray) i = l[i]? := by simp [extractA]
def makeFuncA (f : FuncId) (vs us : Option (List Value)) : Option Value := match vs, us with
  | some vs, some us => some (.func (.func f) vs.toArray us.toArray)
  | _, _ => none
theorem makeFunc_some {f vs us} : makeFuncA f (some vs) (some us) = some (.func (.func f) vs.toArray us.toArray) := hide rfl
theorem op_makeFunc {f first captured} : WOp E G (.makeFunc (.func f) first captured) t a K = WVal (makeFuncA f (evals t first.toList) (evals t captured.toList)) fun r => K r a := by
  rw [op_pure rfl]
  simp only [pureA, oper]
  cases evals t first.toList with
  | none => rfl
  | some v => cases evals t captured.toList <;> rfl
theorem op_slice {ty x lo hi mx} : WOp E G (.slice ty x lo hi mx) t a K = WVal (evalA t x) fun v => WVal (evalO t lo) fun lo => WVal (evalO t hi) fun hi => WVal (evalO t mx) fun mx => WVal (sliceA E ty v lo hi mx) fun r => K r a := by
  rw [op_pure rfl]
  simp only [pureA, oper]
  cases evalA t x with
  | none => rfl
  | some v => cases evalO t lo with
    | none => rfl
    | some l => cases evalO t hi with
      | none => rfl
      | some h => cases evalO t mx <;> rfl
theorem evalO_none : evalO t none = some none := hide rfl
theorem evalO_some {x} : evalO t (some x) = (evalA t x).map some := hide rfl
theorem boundA_in {k} {i : Int} {y : Nat} (h : 0 ≤ i) (h2 : i ≤ y) : boundA (.int k i) y = some i.toNat := by simp [boundA, h, h2]
theorem slice_str_hi {ty k} {s : List UInt8} {i : Int} (hu : E.underlying ty = some .string) (h : 0 ≤ i) (h2 : i ≤ s.length) : sliceA E ty (.string (mkStr s)) none (some (.int k i)) none = some (.string (mkStr (s.take i.toNat))) := by
  unfold sliceA
  rw [hu]
  have hb : boundA (.int k i) (mkStr s).size = some i.toNat := boundA_in h h2
  simp only [boundsA, hb, Option.map_some]
  simp [strSub, strOf, mkStr]
theorem slice_str_lo {ty k} {s : List UInt8} {i : Int} (hu : E.underlying ty = some .string) (h : 0 ≤ i) (h2 : i ≤ s.length) : sliceA E ty (.string (mkStr s)) (some (.int k i)) none none = some (.string (mkStr (s.drop i.toNat))) := by
  unfold sliceA
  rw [hu]
  have hb : boundA (.int k i) (mkStr s).size = some i.toNat := boundA_in h h2
  simp only [boundsA, hb, Option.map_some]
  simp [strSub, strOf, mkStr, ByteArray.size]
theorem slice_str_both {ty k k'} {s : List UInt8} {i j : Int} (hu : E.underlying ty = some .string) (h : 0 ≤ i) (h1 : i ≤ j) (h2 : j ≤ s.length) : sliceA E ty (.string (mkStr s)) (some (.int k i)) (some (.int k' j)) none = some (.string (mkStr ((s.take j.toNat).drop i.toNat))) := by
  unfold sliceA
  rw [hu]
  have hb : boundA (.int k' j) (mkStr s).size = some j.toNat := boundA_in (by omega) h2
  have hb2 : boundA (.int k i) j.toNat = some i.toNat := boundA_in h (by omega)
  simp only [boundsA, hb, hb2, Option.map_some]
  simp [strSub, strOf, mkStr]
theorem op_index {ty x i} : WOp E G (.index ty x i) t a K = WVal (evalA t x) fun v => WVal (evalA t i) fun u => WVal (indexA E ty v u) fun r => K r a := by
  rw [op_pure rfl]
  simp only [pureA, oper]
  cases evalA t x with
  | none => rfl
  | some v => cases evalA t i <;> rfl
theorem index_str {ty k} {s : List UInt8} {i : Int} (hu : E.underlying ty = some .string) (h : 0 ≤ i) (h2 : i < s.length) : indexA E ty (.string (mkStr s)) (.int k i) = some (.int .u8 ((s.getD i.toNat 0).toNat)) := by
  unfold indexA
  rw [hu]
  simp only [h, if_true]
  have h3 : i.toNat < s.length := by omega
  have : (mkStr s)[i.toNat]? = some (s.getD i.toNat 0) := by
    have h4 : i.toNat < (mkStr s).size := h3
    rw [getElem?_pos (mkStr s) i.toNat h4]
    congr 1
    show s[i.toNat] = s.getD i.toNat 0
    simp [h3]
    rfl
  rw [this]
theorem op_indexAddr {ty x i} : WOp E G (.indexAddr ty x i) t a K = WVal (evalA t x) fun v => WVal (evalA t i) fun u => WVal (indexAddrA E ty v u) fun r => K r a := by
  rw [op_pure rfl]
  simp only [pureA, oper]
  cases evalA t x with
  | none => rfl
  | some v => cases evalA t i <;> rfl
theorem indexAddr_slice {ty e : TypeId} {z : Nat} {p : Addr} {n c : Nat} {k : IntKind} {i : Int} (hu : E.underlying ty = some (.slice e)) (hz : typeSize E e = some z) (h : 0 ≤ i) (h2 : i < (n : Int)) : indexAddrA E ty (.slice (some p) n c) (.int k i) = some (.pointer (some ⟨p.block, p.off + i.toNat * z, none⟩)) := by
  simp [indexAddrA, hu, hz, h, h2]
def convV (E : Program) (s d : TypeId) (v : Value) : Option Value := if flat v then (match v with | .slice .. => none | _ => prunF E (convert s d v)) else none
theorem op_conv {s d x} (hk : kindO E (oper (.convert s d x)) = .pure) : WOp E G (.convert s d x) t a K = WVal (evalA t x) fun v => WVal (convV E s d v) fun r => K r a := by
  rw [op_pure hk]
  simp only [pureA, oper]
  cases evalA t x <;> rfl
theorem kind_conv_int {s d x j k} (hs : E.underlying s = some (.int j)) (hd : E.underlying d = some (.int k)) : kindO E (oper (.convert s d x)) = .pure := by
  simp [kindO, oper, hs, hd]
theorem prun_underlying {α : Type} (ty : TypeId) (f : TypeDesc → Sem α) {d} (h : E.underlying ty = some d) : prun E (underlying ty >>= f) = prun E (f d) := by
  show prun E (Sem.bind (underlying ty) f) = _
  simp only [underlying, program, Sem.bind, prun, bind, h]
  rfl
theorem op_conv_int {s d x j k} (hs : E.underlying s = some (.int j)) (hd : E.underlying d = some (.int k)) : WOp E G (.convert s d x) t a K = WVal (evalA t x) fun v => WVal (convV E s d v) fun r => K r a := op_conv (kind_conv_int hs hd)
theorem conv_int {s d j k} {n : Int} (hs : E.underlying s = some (.int j)) (hd : E.underlying d = some (.int k)) : convV E s d (.int j n) = some (.int k (k.wrap n)) := by
  simp only [convV, flat, flatN, if_true, prunF]
  unfold convert
  rw [prun_underlying s _ hs, prun_underlying d _ hd]
  rfl
end
end Go.Proofs.YtmdfejlfdgaomaaAM
