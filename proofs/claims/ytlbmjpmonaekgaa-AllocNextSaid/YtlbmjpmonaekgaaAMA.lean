/- A small evaluator of Go programs over memory whose blocks are named in the order in which they are made. (and what follows from it) -/
import Derived.AtR
import Derived.Below
import Derived.Laws.Sem
import Derived.Orders
import Derived.Lib.Strings
import Derived.Laws.BytesString
import Derived.Lib.ConvBytes
import Derived.IntWalk
namespace Go.Proofs.YtlbmjpmonaekgaaAM
/- A small evaluator of Go programs over memory whose blocks are named in the order in which they are made. -/
section
open Go Go.RowKit
set_option linter.unusedVariables false

/-- A block: cells (may they be written?), or another object. -/
inductive Blk where
  | cells (c : List Value) (rw : Bool)
  | obj (o : Obj)
  | holey (c : List Value) (k : Nat)
  deriving Inhabited

/-- The memory: blocks by falling numbers; where the present call began; which blocks from before have been written since. -/
structure AW where
  next : Nat
  heap : List (Nat × Blk)
  base : Nat
  dirty : List Nat
  deriving Inhabited

def look (i : Nat) : List (Nat × Blk) → Option Blk
  | [] => none
  | (j, b) :: r => if i = j then some b else look i r
def ins (i : Nat) (x : Blk) : List (Nat × Blk) → List (Nat × Blk)
  | [] => [(i, x)]
  | (j, b) :: r => if j < i then (i, x) :: (j, b) :: r else (j, b) :: ins i x r
def putAt (i : Nat) (x : Blk) : List (Nat × Blk) → List (Nat × Blk)
  | [] => []
  | (j, b) :: r => if i = j then (j, x) :: r else (j, b) :: putAt i x r
def kill (i : Nat) : List (Nat × Blk) → List (Nat × Blk)
  | [] => []
  | (j, b) :: r => if i = j then r else (j, b) :: kill i r

namespace AW
def get (a : AW) (i : Nat) : Option Blk := look i a.heap
def new (a : AW) (b : Blk) : AW := { a with next := a.next + 1, heap := (a.next, b) :: a.heap }
def soil (a : AW) (i : Nat) : List Nat := if i < a.base then (if a.dirty.contains i then a.dirty else i :: a.dirty) else a.dirty
def write (a : AW) (i : Nat) (b : Blk) : AW := { a with heap := putAt i b a.heap, dirty := a.soil i }
def drop (a : AW) (i : Nat) : AW := { a with heap := kill i a.heap, dirty := a.soil i }
def loadN (a : AW) (p : Addr) (n : Nat) : Option (List Value) :=
  match a.get p.block with
  | some (.cells c _) => if p.off + n ≤ c.length then some ((c.drop p.off).take n) else none
  | some (.holey c _) => if p.off + n ≤ c.length then some ((c.drop p.off).take n) else none
  | _ => none
def storeN (a : AW) (p : Addr) (vs : List Value) : Option AW :=
  match a.get p.block with
  | some (.cells c true) =>
    if p.off + vs.length ≤ c.length ∧ vs.all Value.oneCell' = true then some (a.write p.block (.cells (c.take p.off ++ (vs ++ c.drop (p.off + vs.length))) true)) else none
  | some (.holey c k) =>
    if p.off ≤ c.length ∧ p.off + vs.length ≤ c.length + k ∧ vs.all Value.oneCell' = true then some (a.write p.block (.holey (c.take p.off ++ (vs ++ c.drop (p.off + vs.length))) (c.length + k - max c.length (p.off + vs.length)))) else none
  | _ => none
end AW

/-- No address in it. -/
def flatN : Nat → Value → Bool
  | 0, _ => false
  | n + 1, v => match v with
    | .bool _ | .int _ _ | .float _ _ | .complex _ _ _ | .string _ | .nilFunc | .nilIface | .pointer none | .slice none _ _ | .map none | .chan none => true
    | .func (.func _) f c => f.toList.all (flatN n) && c.toList.all (flatN n)
    | .iface _ v => flatN n v
    | .agg cs => cs.toList.all (flatN n)
    | .tuple cs => cs.toList.all (flatN n)
    | _ => false
def flat (v : Value) : Bool := flatN 5 v

/-- What a term that asks no memory answers. -/
def prun {α : Type} (P : Program) : Sem α → Option α
  | .pure a => some a
  | .program k => prun P (k P)
  | .mark _ k => prun P k
  | _ => none

/-- .. and it is flat. -/
def prunF (P : Program) (s : Sem Value) : Option Value :=
  match prun P s with
  | some v => if flat v then some v else none
  | none => none

def typeSize (P : Program) (t : TypeId) : Option Nat := (P.info? t).map (·.size)
def aggB (P : Program) (t : TypeId) : Option Bool :=
  match P.underlying t with
  | some (.struct _) | some (.array _ _) => some true
  | some _ => some false
  | none => none
def zeroV (P : Program) (t : TypeId) : Option Value :=
  match P.info? t with
  | some i => match i.zero with
    | some z => if flat z then some z else none
    | none => none
  | none => none
def loadVarA (P : Program) (t : TypeId) (p : Addr) (a : AW) : Option Value :=
  match aggB P t with
  | some true => match typeSize P t with
    | some n => match a.loadN p n with
      | some vs => some (.agg vs.toArray)
      | none => none
    | none => none
  | some false => match a.loadN p 1 with
    | some [v] => some v
    | _ => none
  | none => none
def storeVarA (P : Program) (t : TypeId) (p : Addr) (v : Value) (a : AW) : Option AW :=
  match typeSize P t with
  | some n => if v.cells.size = n then a.storeN p v.cells.toList else none
  | none => none
def addrOf : Value → Option Addr
  | .pointer (some p) => some p
  | _ => none
def nilEq : TypeDesc → Value → Value → Option Bool
  | .pointer _, .pointer none, .pointer b => some b.isNone
  | .pointer _, .pointer (some _), .pointer none => some false
  | .slice _, .slice none _ _, .slice b _ _ => some b.isNone
  | .slice _, .slice (some _) _ _, .slice none _ _ => some false
  | .map _ _, .map none, .map b => some b.isNone
  | .map _ _, .map (some _), .map none => some false
  | .func _ _ _, .nilFunc, .nilFunc => some true
  | .func _ _ _, .nilFunc, .func _ _ _ => some false
  | .func _ _ _, .func _ _ _, .nilFunc => some false
  | .interface _, .nilIface, .nilIface => some true
  | .interface _, .nilIface, .iface _ _ => some false
  | .interface _, .iface _ _, .nilIface => some false
  | _, _, _ => none
def isConstO : Operand → Bool
  | .const _ => true
  | _ => false
/-- Strings by their lists of bytes. -/
def mkStr (l : List UInt8) : ByteArray := ⟨⟨l⟩⟩
def strOf (s : ByteArray) : List UInt8 := s.data.toList
def strSub (s : ByteArray) (l h : Nat) : ByteArray := mkStr (((strOf s).take h).drop l)
def eqBytes : List UInt8 → List UInt8 → Bool
  | [], [] => true
  | a :: x, b :: y => Nat.beq a.toNat b.toNat && eqBytes x y
  | _, _ => false
def strA (op : BinOp) (x y : ByteArray) : Option Value :=
  match op with
  | .add => if x.size + y.size ≤ 140737488355328 then some (.string (mkStr (strOf x ++ strOf y))) else none
  | .eql => some (.bool (eqBytes (strOf x) (strOf y)))
  | .neq => some (.bool (!eqBytes (strOf x) (strOf y)))
  | .lss => some (.bool (Op.bytesLess (strOf x) (strOf y)))
  | .leq => some (.bool (Op.bytesLess (strOf x) (strOf y) || eqBytes (strOf x) (strOf y)))
  | .gtr => some (.bool (!(Op.bytesLess (strOf x) (strOf y) || eqBytes (strOf x) (strOf y))))
  | .geq => some (.bool (!Op.bytesLess (strOf x) (strOf y)))
  | _ => none
/-- What stands for any NaN. -/
def nanV : Value := .chan (some 0)
def nanOp : BinOp → Option Value
  | .add | .sub | .mul | .quo => some nanV
  | .eql | .lss | .leq | .gtr | .geq => some (.bool false)
  | .neq => some (.bool true)
  | _ => none
/-- Floats where a NaN comes in or out: which NaN is drawn. -/
def nanBin (op : BinOp) (a b : Value) : Option Value :=
  match a, b with
  | .chan (some 0), .chan (some 0) | .chan (some 0), .float .f64 _ | .float .f64 _, .chan (some 0) => nanOp op
  | .float .f64 u, .float .f64 v => match op with
    | .add => if (Ieee.double.add u v).isNone then some nanV else none
    | .sub => if (Ieee.double.sub u v).isNone then some nanV else none
    | .mul => if (Ieee.double.mul u v).isNone then some nanV else none
    | .quo => if (Ieee.double.div u v).isNone then some nanV else none
    | _ => none
  | _, _ => none
def binA0 (P : Program) (op : BinOp) (t : TypeId) (x y : Operand) (a b : Value) : Option Value :=
  match a, b with
  | .string u, .string v => strA op u v
  | _, _ =>
  if flat a && flat b then prunF P (do eqGuard op t x y a b; binOp op t a b)
  else match P.underlying t with
    | some d => match op, nilEq d a b with
      | .eql, some c => if (isConstO x || isConstO y) then some (.bool c) else none
      | .neq, some c => if (isConstO x || isConstO y) then some (.bool (!c)) else none
      | _, _ => none
    | none => none
def binA (P : Program) (op : BinOp) (t : TypeId) (x y : Operand) (a b : Value) : Option Value :=
  match nanBin op a b with
  | some r => some r
  | none => binA0 P op t x y a b
theorem binA_eq {P : Program} {op : BinOp} {t : TypeId} {x y : Operand} {a b : Value} (h : nanBin op a b = none) : binA P op t x y a b = binA0 P op t x y a b := by unfold binA; rw [h]
def elemCells (P : Program) (t : TypeId) : Option (TypeId × Nat) :=
  match P.underlying t with
  | some (.slice e) => (typeSize P e).map fun n => (e, n)
  | _ => none
def partA (P : Program) (t : TypeId) (cs : Array Value) (off : Nat) : Option Value :=
  match aggB P t with
  | some true => (typeSize P t).map fun n => .agg (cs.extract off (off + n))
  | some false => cs[off]?
  | none => none
def exactA (a : Addr) : Addr := { a with spot := some 0 }
def plainA (a : Addr) : Addr := { a with spot := none }
def boundA (x : Value) (y : Nat) : Option Nat :=
  match x with
  | .int _ i => if 0 ≤ i ∧ i ≤ (y : Int) then some i.toNat else none
  | _ => none
def boundsA (len cap : Nat) (lo hi mx : Option Value) : Option (Nat × Nat × Nat) :=
  match mx with
  | some v =>
    match boundA v cap, hi with
    | some m, some hv =>
      match boundA hv m with
      | some h => match lo with
        | some lv => (boundA lv h).map fun l => (l, h, m)
        | none => some (0, h, m)
      | none => none
    | _, _ => none
  | none =>
    match hi with
    | some hv =>
      match boundA hv cap with
      | some h => match lo with
        | some lv => (boundA lv h).map fun l => (l, h, cap)
        | none => some (0, h, cap)
      | none => none
    | none => match lo with
      | some lv => (boundA lv len).map fun l => (l, len, cap)
      | none => some (0, len, cap)
def sliceA (P : Program) (t : TypeId) (x : Value) (lo hi mx : Option Value) : Option Value :=
  match P.underlying t, x with
  | some .string, .string s =>
    if mx.isSome then none
    else (boundsA s.size s.size lo hi none).map fun (l, h, _) => .string (strSub s l h)
  | some (.slice e), .slice none len cap =>
    match typeSize P e with
    | some z => (boundsA len cap lo hi mx).map fun (l, h, m) => .slice none (h - l) (m - l)
    | none => none
  | some (.slice e), .slice (some p) len cap =>
    match typeSize P e with
    | some z =>
      if mx.isSome = false ∧ p.spot ≠ some 0 ∧ p.spot ≠ none ∧ p.spot ≠ some (z + 1) then none else
      (boundsA len cap lo hi mx).map fun (l, h, m) =>
        .slice (some { block := p.block, off := if (mx.isSome ∨ p.spot = some 0) ∧ m = l then p.off else p.off + l * z, spot := if mx.isSome then some 0 else p.spot }) (h - l) (m - l)
    | none => none
  | some (.array n e), .pointer (some p) =>
    match typeSize P e with
    | some z =>
      (boundsA n n lo hi mx).map fun (l, h, m) =>
        .slice (some { block := p.block, off := if m = l then p.off else p.off + l * z, spot := some 0 }) (h - l) (m - l)
    | none => none
  | _, _ => none
def indexAddrA (P : Program) (t : TypeId) (x i : Value) : Option Value :=
  match P.underlying t, x, i with
  | some (.slice e), .slice (some p) len _, .int _ i =>
    match typeSize P e with
    | some z => if 0 ≤ i ∧ i < (len : Int) then some (.pointer (some ⟨p.block, p.off + i.toNat * z, none⟩)) else none
    | none => none
  | some (.array len e), .pointer (some p), .int _ i =>
    match typeSize P e with
    | some z => if 0 ≤ i ∧ i < (len : Int) then some (.pointer (some ⟨p.block, p.off + i.toNat * z, none⟩)) else none
    | none => none
  | _, _, _ => none
def indexA (P : Program) (t : TypeId) (x i : Value) : Option Value :=
  match P.underlying t, x, i with
  | some (.array len e), .agg cs, .int _ i =>
    match typeSize P e with
    | some z => if 0 ≤ i ∧ i < (len : Int) then partA P e cs (i.toNat * z) else none
    | none => none
  | some .string, .string s, .int _ i =>
    if 0 ≤ i then match s[i.toNat]? with
      | some b => some (.int .u8 b.toNat)
      | none => none
    else none
  | _, _, _ => none
def bytesOfCells : List Value → Option (List UInt8)
  | [] => some []
  | .int .u8 n :: r => (bytesOfCells r).map (UInt8.ofNat n.toNat :: ·)
  | _ => none
def u8 (b : UInt8) : Value := .int .u8 b.toNat
/-- The first cells of what is appended or copied. -/
def firstA (z n : Nat) (x : Value) (a : AW) : Option (List Value) :=
  match x with
  | .slice (some p) _ _ => a.loadN p (n * z)
  | .slice none _ _ => if n = 0 then some [] else none
  | .string s => if z = 1 then some ((s.data.toList.take n).map u8) else none
  | _ => none
def lenA : Value → Option Nat
  | .slice _ n _ => some n
  | .string s => some s.size
  | _ => none
def growA (z n : Nat) (cs : List Value) (a : AW) : Value × AW := (.slice (some ⟨a.next, 0, some (z + 1)⟩) n n, a.new (.cells cs true))
/-- So many zero values behind a row without room for them. -/
def zerosA (P : Program) (e : TypeId) (z : Nat) (s x : Value) (a : AW) : Option (Value × AW) :=
  match s, x with
  | .slice (some p) len cap, .int _ k =>
    if p.spot = some 0 ∧ 0 ≤ k ∧ k ≤ 1000000 ∧ cap < len + k.toNat then
      match firstA z len s a, zeroV P e with
      | some was, some zv =>
        if (P.info? e).any (fun i => decide (((len + k.toNat) + (len + k.toNat) / 2 + 1000) * i.bytes ≤ 281474976710656 ∧ len + k.toNat ≤ 4611686018427387904)) = false ∨ (zv.cells.size == z) = false then none
        else some (growA z (len + k.toNat) (was ++ (List.replicate k.toNat zv.cells.toList).flatten) a)
      | _, _ => none
    else none
  | _, _ => none
def appendA (P : Program) (ts : Array TypeId) (s x : Value) (a : AW) : Option (Value × AW) :=
  match ts[0]?, ts[1]? with
  | some t, some xt =>
    match elemCells P t, P.underlying xt with
    | some (e, z), some xd =>
      match xd, s, lenA x with
      | .int _, _, _ => zerosA P e z s x a
      | _, .slice base len cap, some n =>
        match firstA z n x a with
        | none => none
        | some new =>
          if len + n ≤ cap then
            match base with
            | some p => match a.storeN { p with off := p.off + len * z } new with
              | some a' => some (.slice base (len + n) cap, a')
              | none => none
            | none => some (.slice none (len + n) cap, a)
          else
            match firstA z len s a with
            | none => none
            | some was =>
              if (P.info? e).any (fun i => decide (((len + n) + (len + n) / 2 + 1000) * i.bytes ≤ 281474976710656 ∧ len + n ≤ 4611686018427387904)) = false ∨ (zeroV P e).any (fun v => v.cells.size == z) = false ∨ new.all Value.oneCell' = false then none else
              match base with
              | none => some (growA z (len + n) (was ++ new) a)
              | some p =>
                if p.spot = some 0 then some (growA z (len + n) (was ++ new) a)
                else if p.spot = some (z + 1) then some (growA z (len + n) (was ++ new) (a.drop p.block))
                else none
      | _, _, _ => none
    | _, _ => none
  | _, _ => none
def copyA (P : Program) (ts : Array TypeId) (d x : Value) (a : AW) : Option (Value × AW) :=
  match ts[0]? with
  | some t =>
    match elemCells P t, d, lenA x with
    | some (_, z), .slice base len _, some n =>
      match firstA z (Nat.min n len) x a with
      | some new => match base with
        | some p => match a.storeN p new with
          | some a' => some (.int .i64 (Nat.min n len), a')
          | none => none
        | none => some (.int .i64 (Nat.min n len), a)
      | none => none
    | _, _, _ => none
  | none => none
def findA (P : Program) (kt : TypeId) (k : Value) (es : List MapEntry) : Option (Option (Nat × Value)) :=
  match P.underlying kt with
  | some (.int j) => Instr.findNow (.int j) k es 0
  | some .string => Instr.findNow .string k es 0
  | _ => none
def mapTypes (P : Program) (t : TypeId) : Option (TypeId × TypeId) :=
  match P.underlying t with
  | some (.map k e) => some (k, e)
  | _ => none
def mapOf (x : Value) (a : AW) : Option (Array MapEntry) :=
  match x with
  | .map none => some #[]
  | .map (some r) => match a.get r with
    | some (.obj (.map es _)) => some es
    | _ => none
  | _ => none
def lookupA (P : Program) (t : TypeId) (m k : Value) (ok : Bool) (a : AW) : Option Value :=
  match mapTypes P t, mapOf m a with
  | some (kt, et), some es =>
    match findA P kt k es.toList with
    | some (some (_, v)) => some (if ok then .tuple #[v, .bool true] else v)
    | some none => (zeroV P et).map fun z => if ok then .tuple #[z, .bool false] else z
    | none => none
  | _, _ => none
def updateA (P : Program) (t : TypeId) (m k v : Value) (a : AW) : Option AW :=
  match mapTypes P t, m with
  | some (kt, _), .map (some r) =>
    match a.get r with
    | some (.obj (.map es clock)) =>
      match findA P kt k es.toList with
      | some (some (i, _)) => some (a.write r (.obj (.map (es.modify i fun e => { e with key := k, val := v }) clock)))
      | some none => some (a.write r (.obj (.map (es.push { key := k, val := v, born := clock }) (clock + 1))))
      | none => none
    | _ => none
  | _, _ => none
def deleteA (P : Program) (t : TypeId) (m k : Value) (a : AW) : Option AW :=
  match mapTypes P t, m with
  | some (kt, _), .map (some r) =>
    match a.get r with
    | some (.obj (.map es clock)) =>
      match findA P kt k es.toList with
      | some (some (i, _)) => some (a.write r (.obj (.map (es.eraseIdxIfInBounds i) clock)))
      | some none => some (a.write r (.obj (.map es clock)))
      | none => none
    | _ => none
  | _, _ => none
def rangeA (P : Program) (t : TypeId) (x : Value) (a : AW) : Option (Value × AW) :=
  match P.underlying t, x with
  | some .string, .string s => some (.pointer (some ⟨a.next, 0, none⟩), a.new (.obj (.stringIter s 0)))
  | some (.map _ _), .map none => some (.pointer (some ⟨a.next, 0, none⟩), a.new (.obj (.mapIter none 0 #[] 0)))
  | some (.map _ _), .map (some m) => match a.get m with
    | some (.obj (.map _ clock)) => some (.pointer (some ⟨a.next, 0, none⟩), a.new (.obj (.mapIter (some m) clock #[] clock)))
    | _ => none
  | _, _ => none
def nextA (it : Value) (isString : Bool) (a : AW) : Option (Value × AW) :=
  match it with
  | .pointer (some ⟨r, 0, none⟩) =>
    match a.get r, isString with
    | some (.obj (.stringIter s pos)), true =>
      if pos < s.size then
        let (c, width) := Utf8.decode s pos
        some (.tuple #[.bool true, .int .i64 pos, .int .i32 c], a.write r (.obj (.stringIter s (pos + width))))
      else some (.tuple #[.bool false], a)
    | some (.obj (.mapIter none _ _ _)), false => some (.tuple #[.bool false], a)
    | some (.obj (.mapIter (some m) since seen last)), false =>
      match a.get m with
      | some (.obj (.map es clock)) =>
        if !seen.isEmpty && !es.isEmpty && es.all (·.born ≥ last) then none else
        let left := es.filter fun e => !seen.contains e.born
        let old := left.filter (·.born < since)
        let new := left.filter (·.born ≥ since)
        match (if old.isEmpty then [none] else []) ++ (old ++ new).toList.map some with
        | [some e] => some (.tuple #[.bool true, e.key, e.val], a.write r (.obj (.mapIter (some m) since (seen.push e.born) clock)))
        | [none] => some (.tuple #[.bool false], a)
        | _ => none
      | _ => none
    | _, _ => none
  | _ => none

inductive NextA where
  | value (v : Value)
  | enter (f : FuncId) (args : Array Value)
  | round (l : Nat) (args : Array Value)

def evalA (tmps : List Value) : Operand → Option Value
  | .tmp t => some (tmps.getD t undef)
  | .const v => if flat v then some v else none
  | .global _ => none
  | .func f => some (.func (.func f) #[] #[])
def evals (tmps : List Value) : List Operand → Option (List Value)
  | [] => some []
  | x :: r => match evalA tmps x, evals tmps r with
    | some v, some vs => some (v :: vs)
    | _, _ => none
def evalO (tmps : List Value) : Option Operand → Option (Option Value)
  | none => some none
  | some x => (evalA tmps x).map some
def partsA (tmps : List Value) : List (Nat × Operand) → Option (List (Nat × Value))
  | [] => some []
  | (i, x) :: r => match evalA tmps x, partsA tmps r with
    | some v, some vs => some ((i, v) :: vs)
    | _, _ => none
/-- The least and the greatest where a NaN comes in. -/
def nanMM (b : Builtin) (args : List Value) : Option Value :=
  match b, args with
  | .min, [v, u] | .max, [v, u] => match v, u with
    | .chan (some 0), .chan (some 0) | .chan (some 0), .float .f64 _ | .float .f64 _, .chan (some 0) => some nanV
    | .float .f64 x, .float .f64 y => if (Ieee.double.order x y).isNone then some nanV else none
    | _, _ => none
  | _, _ => none
def pureB0 (P : Program) (b : Builtin) (ts : Array TypeId) (args : List Value) : Option Value :=
  match b, args with
  | .len, [x] => match (ts[0]?).bind P.underlying, x with
    | some .string, .string s => some (.int .i64 s.size)
    | some (.slice _), .slice _ n _ => some (.int .i64 n)
    | some (.array n _), _ => some (.int .i64 n)
    | _, _ => none
  | .cap, [x] => match (ts[0]?).bind P.underlying, x with
    | some (.slice _), .slice none _ n => some (.int .i64 n)
    | some (.slice _), .slice (some p) _ n => if p.spot = some 0 then some (.int .i64 n) else none
    | _, _ => none
  | .min, args => if args.all flat then prunF P (Builtin.min_ ts 0 args.toArray) else none
  | .max, args => if args.all flat then prunF P (Builtin.max_ ts 0 args.toArray) else none
  | _, _ => none
def pureBuiltinA (P : Program) (b : Builtin) (ts : Array TypeId) (args : List Value) : Option Value :=
  match nanMM b args with
  | some r => some r
  | none => pureB0 P b ts args
theorem pureB_eq {P : Program} {b : Builtin} {ts : Array TypeId} {args : List Value} (h : nanMM b args = none) : pureBuiltinA P b ts args = pureB0 P b ts args := by unfold pureBuiltinA; rw [h]
def builtinA (P : Program) (b : Builtin) (ts : Array TypeId) (args : List Value) (a : AW) : Option (Value × AW) :=
  match b, args with
  | .append, [s, x] => appendA P ts s x a
  | .copy, [d, x] => copyA P ts d x a
  | .delete, [m, k] => match ts[0]? with
    | some t => (deleteA P t m k a).map (.tuple #[], ·)
    | none => none
  | .clear, [x] => match (ts[0]?).bind (elemCells P), x with
    | some (e, z), .slice base n _ => match base with
      | none => some (.tuple #[], a)
      | some p => match zeroV P e with
        | some zv => if zv.cells.size = z then match a.storeN p ((List.replicate n zv.cells.toList).flatten) with
            | some a' => some (.tuple #[], a')
            | none => none
          else none
        | none => none
    | _, _ => none
  | _, _ => none

def val1 (a : AW) (v : Option Value) : Option (NextA × AW) := match v with
  | some v => some (.value v, a)
  | none => none
def val2 (v : Option (Value × AW)) : Option (NextA × AW) := match v with
  | some (v, a) => some (.value v, a)
  | none => none
def val0 (v : Option AW) : Option (NextA × AW) := match v with
  | some a => some (.value undef, a)
  | none => none

def placesA (P : Program) : List Field → Option (List (Nat × Nat))
  | [] => some []
  | f :: r => match typeSize P f.type, placesA P r with
    | some n, some l => some ((f.offset, n) :: l)
    | _, _ => none
def fillPlace (P : Program) (t : TypeId) : Option (Nat → Option (Nat × Nat)) :=
  match P.underlying t with
  | some (.struct fields) => (placesA P fields.toList).map fun l => fun i => l[i]?
  | some (.array _ e) => (typeSize P e).map fun n => fun i => some (i * n, n)
  | _ => none
def fillA (place : Nat → Option (Nat × Nat)) (cells : List Value) : List (Nat × Value) → Option (List Value)
  | [] => some cells
  | (i, v) :: rest =>
    match place i with
    | none => none
    | some (off, size) =>
      if v.cells.size ≠ size || off + v.cells.size > cells.length then none
      else fillA place (cells.take off ++ (v.cells.toList ++ cells.drop (off + v.cells.size))) rest

/-- An operation that asks no memory. -/
def pureA (P : Program) (tmps : List Value) (o : Oper) : Option Value :=
  match o.op with
  | .move x | .assign x => evalA tmps x
  | .pick c x y => match evalA tmps c with
    | some (.bool true) => evalA tmps x
    | some (.bool false) => evalA tmps y
    | _ => none
  | .build t parts => match zeroV P t, fillPlace P t, partsA tmps parts.toList with
    | some z, some pl, some vs => (fillA pl z.cells.toList vs).map fun cs => .agg cs.toArray
    | _, _, _ => none
  | .nilCheck x => match evalA tmps x with
    | some (.pointer (some p)) => some (.pointer (some p))
    | some (.func (.func f) fs cs) => some (.func (.func f) fs cs)
    | some (.func (.yield f) fs cs) => some (.func (.yield f) fs cs)
    | _ => none
  | .binOp op t x y _ => match evalA tmps x, evalA tmps y with
    | some v, some u => binA P op t x y v u
    | _, _ => none
  | .unOp op _ x => match evalA tmps x with
    | some v => if flat v then prunF P (Op.unary op v) else none
    | none => none
  | .convert s d x => match evalA tmps x with
    | some v => if flat v then (match v with | .slice .. => none | _ => prunF P (convert s d v)) else none
    | none => none
  | .makeInterface t x => match P.underlying t, evalA tmps x with
    | some (.interface _), _ => none
    | some _, some v => some (.iface t v)
    | _, _ => none
  | .makeFunc (.func f) first captured => match evals tmps first.toList, evals tmps captured.toList with
    | some vs, some us => some (.func (.func f) vs.toArray us.toArray)
    | _, _ => none
  | .slice t x lo hi mx => match evalA tmps x, evalO tmps lo, evalO tmps hi, evalO tmps mx with
    | some v, some lo, some hi, some mx => sliceA P t v lo hi mx
    | _, _, _, _ => none
  | .fieldAddr s x f => match P.underlying s, evalA tmps x with
    | some (.struct fs), some (.pointer (some p)) => match fs[f]? with
      | some fd => match typeSize P fd.type with
        | some (_ + 1) => some (.pointer (some ⟨p.block, p.off + fd.offset, none⟩))
        | _ => none
      | none => none
    | _, _ => none
  | .field t x f => match P.underlying t, evalA tmps x with
    | some (.struct fs), some (.agg cs) => match fs[f]? with
      | some fd => partA P fd.type cs fd.offset
      | none => none
    | _, _ => none
  | .indexAddr t x i => match evalA tmps x, evalA tmps i with
    | some v, some u => indexAddrA P t v u
    | _, _ => none
  | .index t x i => match evalA tmps x, evalA tmps i with
    | some v, some u => indexA P t v u
    | _, _ => none
  | .extract x i => match evalA tmps x with
    | some (.tuple vs) => vs[i]?
    | _ => none
  | .call c => match c.callee, evals tmps c.args.toList with
    | .builtin b, some args => pureBuiltinA P b c.argTypes args
    | _, _ => none
  | _ => none
/-- An operation that reads one block: which one, and what it answers. -/
def readA (P : Program) (tmps : List Value) (o : Oper) (a : AW) : Option (Nat × Value) :=
  match o.op with
  | .load t x => match evalA tmps x with
    | some (.pointer (some p)) => (loadVarA P t p a).map (p.block, ·)
    | _ => none
  | .convert _ _ x => match evalA tmps x with
    | some (.slice none _ _) => some (0, .string .empty)
    | some (.slice (some p) n _) => match a.loadN p n with
      | some cs => match bytesOfCells cs with
        | some bs => some (p.block, .string ⟨bs.toArray⟩)
        | none => none
      | none => none
    | _ => none
  | .lookup t m k ok => match evalA tmps m, evalA tmps k with
    | some (.map r), some u => (lookupA P t (.map r) u ok a).map (r.getD 0, ·)
    | _, _ => none
  | .call c => match c.callee, evals tmps c.args.toList with
    | .builtin .len, some [.map r] => (mapOf (.map r) a).map fun es => (r.getD 0, .int .i64 es.size)
    | _, _ => none
  | _ => none
/-- An operation that makes a block: which one, and what it answers where the block has this number. -/
def makeA (P : Program) (tmps : List Value) (o : Oper) : Option (Blk × (Nat → Value)) :=
  match o.op with
  | .alloc t => match zeroV P t with
    | some z => some (.cells z.cells.toList true, fun i => .pointer (some ⟨i, 0, none⟩))
    | none => none
  | .box _ x => match evalA tmps x with
    | some v => some (.cells v.cells.toList true, fun i => .pointer (some ⟨i, 0, none⟩))
    | none => none
  | .buildSlice t len parts => match elemCells P t, partsA tmps parts.toList with
    | some (e, n), some vs =>
      if len * n = 0 then (if vs.isEmpty then some (.cells [] true, fun i => .slice (some ⟨i, 0, some 0⟩) len len) else none)
      else match zeroV P e with
      | some z =>
        if len * n > 2 ^ 24 then none else if z.cells.size = n then
        match fillA (fun i => some (i * n, n)) ((List.replicate len z.cells.toList).flatten) vs with
        | some cs => some (.cells cs true, fun i => .slice (some ⟨i, 0, some 0⟩) len len)
        | none => none
        else none
      | none => none
    | _, _ => none
  | .convert _ _ x => match evalA tmps x with
    | some (.string b) => some (.cells (b.data.toList.map u8) true, fun i => .slice (some ⟨i, 0, none⟩) b.size b.size)
    | _ => none
  | .makeMap _ none => some (.obj (.map #[] 0), fun i => .map (some i))
  | .makeSlice t l c => match elemCells P t, evalA tmps l, evalA tmps c with
    | some (e, n), some (.int _ l), some (.int _ c) => match zeroV P e with
      | some z =>
        if 0 ≤ l ∧ l ≤ c ∧ c ≤ 1000000 ∧ z.cells.size = n ∧ (P.info? e).any (fun i => decide (i.bytes ≤ 1000000)) = true then
          some (.cells ((List.replicate c.toNat z.cells.toList).flatten) true, fun i => .slice (some ⟨i, 0, some 0⟩) l.toNat c.toNat)
        else none
      | none => none
    | _, _, _ => none
  | _ => none
/-- Any other operation. -/
def workA (P : Program) (tmps : List Value) (o : Oper) (a : AW) : Option (NextA × AW) :=
  match o.op with
  | .store t x y => match evalA tmps x, evalA tmps y with
    | some (.pointer (some p)), some v => val0 (storeVarA P t p v a)
    | _, _ => none
  | .mapUpdate t m k x | .insert t m k x => match evalA tmps m, evalA tmps k, evalA tmps x with
    | some v, some u, some y => val0 (updateA P t v u y a)
    | _, _, _ => none
  | .range t x => match evalA tmps x with
    | some v => val2 (rangeA P t v a)
    | none => none
  | .next it s => match evalA tmps it with
    | some v => val2 (nextA v s a)
    | none => none
  | .call c => match evals tmps c.args.toList with
    | some args => match c.callee with
      | .builtin b => val2 (builtinA P b c.argTypes args a)
      | .value f => match evalA tmps f with
        | some (.func (.func f) first captured) => some (.enter f (first ++ args.toArray ++ captured), a)
        | some (.func (.yield l) first _) => some (.round l (first ++ args.toArray), a)
        | _ => none
      | .invoke _ _ => none
    | none => none
  | _ => none

inductive Kind where
  | pure | read | make | work
  deriving DecidableEq
def kindO (P : Program) (o : Oper) : Kind :=
  match o.op with
  | .load .. | .lookup .. => .read
  | .alloc _ | .box .. | .buildSlice .. | .makeMap .. | .makeSlice .. => .make
  | .convert s d _ => match P.underlying s, P.underlying d with
    | some (.slice e), some .string => match P.underlying e with
      | some (.int .u8) => .read
      | _ => .work
    | some .string, some (.slice e) => match P.underlying e with
      | some (.int .u8) => .make
      | _ => .work
    | _, _ => .pure
  | .store .. | .mapUpdate .. | .insert .. | .range .. | .next .. => .work
  | .call c => match c.callee with
    | .builtin .len => match (c.argTypes[0]?).bind P.underlying with
      | some (.map _ _) => .read
      | _ => .pure
    | .builtin .min | .builtin .max | .builtin .cap => .pure
    | _ => .work
  | .entry _ | .typeAssert .. | .mapEntry .. | .entryStore .. | .go _ | .defer _ | .panic _ | .send .. | .recv .. | .select .. | .ready _ | .waits _ | .makeChan .. | .sliceToArrayPointer .. => .work
  | _ => .pure
/-- One operation, the next block's number being as it is. -/
def opA (P : Program) (tmps : List Value) (o : Oper) (a : AW) : Option (NextA × AW) :=
  match kindO P o with
  | .pure => val1 a (pureA P tmps o)
  | .read => val1 a ((readA P tmps o a).map (·.2))
  | .make => match makeA P tmps o with
    | some (b, v) => some (.value (v a.next), a.new b)
    | none => none
  | .work => workA P tmps o a

inductive ExitA where
  | normal | exit (id : Nat) | goto (l : Nat) | ret

/-- What was written of blocks from before an outer beginning. -/
def soilAll (dirty : List Nat) (base : Nat) (more : List Nat) : List Nat := more.foldr (fun i d => if i < base then (if d.contains i then d else i :: d) else d) dirty
/-- What stands for a called function, in place of its text. -/
abbrev Gives := FuncId → Option (Array Value → AW → Option (Value × AW))

/-- What is given of a call, if anything is. -/
def given (G : Gives) (f : FuncId) (args : Array Value) (a : AW) : Option (Value × AW) :=
  match G f with
  | some g => g args a
  | none => none
def putT (tmps : List Value) (d : Option Tmp) (v : Value) : List Value :=
  match d with
  | some d => tmps.set d v
  | none => tmps
def yieldedA (ops : Array Oper) (tmps : List Value) (j : Nat) : Option Bool :=
  match ((ops[j]?).bind (·.dst)).bind (tmps[·]?) with
  | some (.bool b) => some b
  | _ => none
def resultsA (P : Program) (a : AW) (tmps : List Value) : List ResultVar → Option (List Value)
  | [] => some []
  | .tmp t :: r => match resultsA P a tmps r with
    | some vs => some (tmps.getD t undef :: vs)
    | none => none
  | .cell d t :: r => match tmps.getD d undef with
    | .pointer (some p) => match loadVarA P t p a, resultsA P a tmps r with
      | some v, some vs => some (v :: vs)
      | _, _ => none
    | _ => none
def oneOf : List Value → Value
  | [v] => v
  | vs => .tuple vs.toArray
/-- The one result that lies in a new block of flat cells. -/
def freshOf (base : Nat) (a : AW) (v : Value) : Option (List Value × Nat) :=
  match v with
  | .pointer (some p) | .slice (some p) _ _ => if base ≤ p.block then match a.get p.block with
      | some (.cells c true) => if c.all flat then some (c, p.block) else none
      | _ => none
    else none
  | _ => none
def moveTo (i : Nat) : Value → Value
  | .pointer (some p) => .pointer (some { p with block := i })
  | .slice (some p) n c => .slice (some { p with block := i }) n c
  | v => v
/-- Behind a call: what the call alone made is forgotten where nothing speaks of it; of results one may lie in a block of its own. -/
def leaveA (before : AW) (vs : List Value) (a : AW) : List Value × AW :=
  if a.dirty.isEmpty then
    match vs.filter (fun v => !flat v) with
    | [] => (vs, before)
    | [v] => match freshOf before.next a v with
      | some (c, _) => (vs.map fun u => if flat u then u else moveTo before.next u, before.new (.cells c true))
      | none => (vs, { next := a.next, heap := a.heap, base := before.base, dirty := before.dirty })
    | _ => (vs, { next := a.next, heap := a.heap, base := before.base, dirty := before.dirty })
  else (vs, { next := a.next, heap := a.heap, base := before.base, dirty := soilAll before.dirty before.base a.dirty })

def jumpOf : ExitA → Option Code
  | .normal => none
  | .ret => some .ret
  | .exit id => some (.exit id)
  | .goto l => some (.goto l)

/-- Which operations of a region that draws its order are bound to come before another one (bits). -/
def ancs (ops : Array Oper) : Array Nat := Region.before ops
def unord (b : Array Nat) (x y : Nat) : Bool := !(b.getD y 0).testBit x && !(b.getD x 0).testBit y
def kindAt (P : Program) (ops : Array Oper) (i : Nat) : Kind := ((ops[i]?).map (kindO P)).getD .work
def heavy : Kind → Bool
  | .make | .work => true
  | _ => false
/-- A block may be made late: what is bound to wait for it waits for the other one too. -/
def lateOk (P : Program) (ops : Array Oper) (b : Array Nat) (x y : Nat) (oy : Oper) : Bool :=
  (match kindO P oy with
   | .make => true
   | _ => false) && oy.guard.isNone && (match oy.dst with
   | some d => !(oy.looksAt ops).contains d
   | none => true) && (List.range ops.size).all fun z => !(b.getD z 0).testBit y || (b.getD z 0).testBit x
/-- May a region's order be left open? What makes or writes is bound in its order; what is not bound does not meddle with each other's temporaries. -/
def planOk (P : Program) (ops : Array Oper) : Bool :=
  let b := ancs ops
  let l := List.range ops.size
  l.all (fun i => match ops[i]? with
    | some o => o.after.toList.all (fun e => !Region.binds .any e || decide (e.on < i)) &&
      b.getD i 0 == o.after.toList.foldl (fun s e => if Region.binds .any e then s ||| 2 ^ e.on ||| b.getD e.on 0 else s) 0 &&
      (match o.guard with
       | none => true
       | some (j, _) => (b.getD i 0).testBit j)
    | none => false) &&
  l.all fun y => l.all fun x => !(decide (x < y) && unord b x y) ||
    (match ops[x]?, ops[y]? with
     | some ox, some oy => ox.apart ops oy && oy.apart ops ox && (!(heavy (kindO P ox) && heavy (kindO P oy)) || lateOk P ops b x y oy)
     | _, _ => false)
inductive Note where
  | none
  | read (block : Nat)
  | work (next : Nat) (dirty : List Nat)
def clash : Note → Note → Bool
  | .read b, .work n d | .work n d, .read b => decide (n ≤ b) || d.contains b
  | _, _ => false
def calm (b : Array Nat) (i : Nat) (n : Note) (before : List (Nat × Note)) : Bool := before.all fun (j, m) => !unord b j i || !clash m n
/-- One operation of a region that draws its order: what it touches, and what it answers. -/
def stepO (E : Program) (call : FuncId → Array Value → AW → Option (Value × AW)) (round : Nat → Array Value → AW → Option (Value × AW)) (o : Oper) (tmps : List Value) (a : AW) : Option (Note × Value × AW) :=
  match kindO E o with
  | .pure => (pureA E tmps o).map fun (v : Value) => (Note.none, v, a)
  | .read => match readA E tmps o a with
    | some r => if r.1 < a.next then some (Note.read r.1, r.2, a) else none
    | none => none
  | .make => (makeA E tmps o).map fun (r : Blk × (Nat → Value)) => (Note.work a.next [], r.2 a.next, a.new r.1)
  | .work =>
    match workA E tmps o { a with base := a.next, dirty := [] } with
    | none => none
    | some (x, a0) =>
      (match x with
        | .value v => some (v, a0)
        | .enter f args => call f args a0
        | .round l args => round l args a0).map fun (r : Value × AW) =>
          (Note.work a.next r.2.dirty, r.1, { next := r.2.next, heap := r.2.heap, base := a.base, dirty := soilAll a.dirty a.base r.2.dirty })
def stepR (E : Program) (call : FuncId → Array Value → AW → Option (Value × AW)) (round : Nat → Array Value → AW → Option (Value × AW)) (ops : Array Oper) (i : Nat) (tmps : List Value) (a : AW) : Option (Note × List Value × AW) :=
  match ops[i]? with
  | none => none
  | some o =>
    if Region.wanted o (yieldedA ops tmps) then (stepO E call round o tmps a).map fun (r : Note × Value × AW) => (r.1, putT tmps o.dst r.2.1, r.2.2)
    else some (.none, putT tmps o.dst undef, a)

/-- The blocks for the deferred calls of loops over functions are taken: they are empty. -/
def unwindA : List Nat → AW → Option AW
  | [], a => some a
  | d :: ds, a => match a.get d with
    | some (.obj (.deferred (some []))) => unwindA ds (a.write d (.obj (.deferred none)))
    | _ => none

/-- A function without a text, of flat values. -/
def externA (P : Program) (fn : Func) (args : Array Value) (a : AW) : Option (Value × AW) :=
  if args.toList.all flat && !(fn.name == "runtime.NumGoroutine") then
    match Extern.findNext fn, Extern.find fn with
    | none, some e => match prunF P (e args) with
      | some v => some (v, a)
      | none => none
    | _, _ => none
  else none
mutual
def opsA (E : Program) (G : Gives) : Nat → FuncId → Option Nat → Array Oper → List Nat → List Value → AW → Option (List Value × AW)
  | 0, _, _, _, _, _, _ => none
  | _ + 1, _, _, _, [], tmps, a => some (tmps, a)
  | n + 1, fn, ro, ops, i :: rest, tmps, a =>
    match ops[i]? with
    | none => none
    | some o =>
      if Region.wanted o (yieldedA ops tmps) then
        match opA E tmps o a with
        | some (.value v, a) => opsA E G n fn ro ops rest (putT tmps o.dst v) a
        | some (.enter f args, a) =>
          match callA E G n f args a with
          | some (v, a) => opsA E G n fn ro ops rest (putT tmps o.dst v) a
          | none => none
        | some (.round l args, a) =>
          match roundA E G n l args a with
          | some (v, a) => opsA E G n fn ro ops rest (putT tmps o.dst v) a
          | none => none
        | none => none
      else opsA E G n fn ro ops rest (putT tmps o.dst undef) a
  termination_by structural n => n
def regA (E : Program) (G : Gives) : Nat → Array Oper → List Nat → List (Nat × Note) → List Value → AW → Option (List Value × AW)
  | 0, _, _, _, _, _ => none
  | _ + 1, _, [], _, tmps, a => some (tmps, a)
  | n + 1, ops, i :: rest, notes, tmps, a =>
    match stepR E (callA E G n) (roundA E G n) ops i tmps a with
    | none => none
    | some (note, tmps, a) => if calm (ancs ops) i note notes then regA E G n ops rest ((i, note) :: notes) tmps a else none
  termination_by structural n => n
def codeA (E : Program) (G : Gives) : Nat → FuncId → Option Nat → Code → List Value → List Nat → AW → Option (ExitA × List Value × List Nat × AW)
  | 0, _, _, _, _, _, _ => none
  | n + 1, fn, ro, c, tmps, ds, a =>
    match c with
    | .skip | .label _ => some (.normal, tmps, ds, a)
    | .seq x y =>
      match codeA E G n fn ro x tmps ds a with
      | some (.normal, tmps, ds, a) => codeA E G n fn ro y tmps ds a
      | r => r
    | .cond c x y =>
      match evalA tmps c with
      | some (.bool true) => codeA E G n fn ro x tmps ds a
      | some (.bool false) => codeA E G n fn ro y tmps ds a
      | _ => none
    | .block id c =>
      match codeA E G n fn ro c tmps ds a with
      | some (.exit id', tmps, ds, a) => if id' = id then some (.normal, tmps, ds, a) else some (.exit id', tmps, ds, a)
      | r => r
    | .loop c =>
      match codeA E G n fn ro c tmps ds a with
      | some (.normal, tmps, ds, a) => codeA E G n fn ro (.loop c) tmps ds a
      | r => r
    | .exit id => some (.exit id, tmps, ds, a)
    | .ret => some (.ret, tmps, ds, a)
    | .region _ ops draw =>
      match draw with
      | false =>
        match opsA E G n fn ro ops (List.range ops.size) tmps a with
        | some (tmps, a) => some (.normal, tmps, ds, a)
        | none => none
      | true =>
        if planOk E ops then
          match regA E G n ops (List.range ops.size) [] tmps { a with next := a.next + 1 } with
          | some (tmps, a) => some (.normal, tmps, ds, a)
          | none => none
        else none
    | .rangeFunc g ps assign body =>
      match ro, evalA tmps g with
      | none, some (.func (.func f) first captured) =>
        if (E.funcs[f]?).any (fun fn => fn.body.isSome) = false then none else
        let a1 := a.new (.obj (.deferred (some [])))
        let a2 := a1.new (.obj (.loop { state := .ready, pending := none, fn, tmps := tmps.toArray, params := ps, assign, body, defers := a.next }))
        match callA E G n f (first ++ #[.func (.yield a1.next) #[] #[]] ++ captured) a2 with
        | some (_, a) =>
          match a.get a1.next with
          | some (.obj (.loop r)) =>
            match r.state with
            | .busy => none
            | _ =>
              let a := a.write a1.next (.obj (.loop { r with state := .exhausted }))
              match r.pending with
              | none => some (.normal, tmps, (a1.next - 1) :: ds, a)
              | some c => codeA E G n fn ro c tmps ((a1.next - 1) :: ds) a
          | _ => none
        | none => none
      | _, _ => none
    | _ => none
  termination_by structural n => n
def callA (E : Program) (G : Gives) : Nat → FuncId → Array Value → AW → Option (Value × AW)
  | 0, _, _, _ => none
  | n + 1, f, args, a =>
    match given G f args a with
    | some r => some r
    | none =>
      match E.funcs[f]? with
      | none => none
      | some fn =>
        match fn.body with
        | none => externA E fn args a
        | some c =>
          match codeA E G n f none c (args.toList ++ List.replicate (fn.ntmps - args.size) undef) [] { a with base := a.next, dirty := [] } with
          | some (e, tmps, ds, a1) =>
            match e with
            | .normal | .ret =>
              match unwindA ds a1 with
              | some a1 => match resultsA E a1 tmps fn.results.toList with
                | some vs => match leaveA a vs a1 with
                  | (vs, a2) => some (oneOf vs, a2)
                | none => none
              | none => none
            | _ => none
          | none => none
  termination_by structural n => n
def roundA (E : Program) (G : Gives) : Nat → Nat → Array Value → AW → Option (Value × AW)
  | 0, _, _, _ => none
  | n + 1, l, args, a =>
    match a.get l with
    | some (.obj (.loop r)) =>
      if args.size = r.params.size then
        match codeA E G n r.fn (some l) r.assign ((r.params.toList.zip args.toList).foldl (fun t (d, v) => t.set d v) r.tmps.toList) [] a with
        | some (.normal, tmps, [], a) =>
          match a.get l with
          | some (.obj (.loop r1)) =>
            match r1.state with
            | .ready =>
              match codeA E G n r.fn (some l) r.body tmps [] (a.write l (.obj (.loop { r1 with state := .busy }))) with
              | some (e, _, _, a) =>
                match a.get l with
                | some (.obj (.loop r2)) =>
                  some (.bool (jumpOf e).isNone, a.write l (.obj (.loop { r2 with state := if (jumpOf e).isNone then .ready else .done, pending := jumpOf e })))
                | _ => none
              | none => none
            | _ => none
          | _ => none
        | _ => none
      else none
    | _ => none
  termination_by structural n => n
end
end
/- How the evaluator's memory stands to the program's: which block is which, and what they hold. -/
section
open Go Go.RowKit
set_option linter.unusedVariables false

structure Info where
  b : Nat
  sh : Nat
  n : Nat
  rw : Bool
  fz : Bool

abbrev Ren := Nat → Option Info

inductive FnRel (ρ : Ren) (K : Nat) : Fn → Fn → Prop
  | func (f : FuncId) : FnRel ρ K (.func f) (.func f)
  | yield {l l' : Nat} (h : l < K) (h1 : ∀ I, ρ l = some I → l' = I.b) : FnRel ρ K (.yield l) (.yield l')

inductive VRel (ρ : Ren) (K : Nat) : Value → Value → Prop
  | bool (b : Bool) : VRel ρ K (.bool b) (.bool b)
  | int (k : IntKind) (n : Int) : VRel ρ K (.int k n) (.int k n)
  | float (k : FloatKind) (n : Nat) : VRel ρ K (.float k n) (.float k n)
  | complex (k : FloatKind) (n m : Nat) : VRel ρ K (.complex k n m) (.complex k n m)
  | string (s : ByteArray) : VRel ρ K (.string s) (.string s)
  | nilFunc : VRel ρ K .nilFunc .nilFunc
  | nilIface : VRel ρ K .nilIface .nilIface
  | ptrNil : VRel ρ K (.pointer none) (.pointer none)
  | mapNil : VRel ρ K (.map none) (.map none)
  | chanNil : VRel ρ K (.chan none) (.chan none)
  /-- a marker: any NaN -/
  | nan {b : Nat} (h : Ieee.double.order b b = none ∧ b < 18446744073709551616) : VRel ρ K (.chan (some 0)) (.float .f64 b)
  | sliceNil (n c : Nat) : VRel ρ K (.slice none n c) (.slice none n c)
  | ptr {a a' : Addr} (h : a.block < K) (hs : a.spot = none) (h1 : ∀ I, ρ a.block = some I → a' = ⟨I.b, a.off + I.sh, none⟩) : VRel ρ K (.pointer (some a)) (.pointer (some a'))
  | slice {a a' : Addr} {n c c' : Nat} (h : a.block < K) (h1 : ∀ I, ρ a.block = some I → c' = 0 ∨ a' = ⟨I.b, a.off + I.sh, none⟩) (hn : n ≤ c) (hc : c ≤ c') (h0 : a.spot = some 0 → c' = c)
      (h2 : ∀ z, a.spot = some (z + 1) → ∀ I, ρ a.block = some I → I.rw = true ∧ a.off + I.sh + c' * z ≤ I.n ∧ (False ∨ I.fz = false)) : VRel ρ K (.slice (some a) n c) (.slice (some a') n c')
  | map {r r' : Nat} (h : r < K) (h1 : ∀ I, ρ r = some I → r' = I.b) : VRel ρ K (.map (some r)) (.map (some r'))
  | func {fn fn' : Fn} {f f' c c' : Array Value} (h : FnRel ρ K fn fn') (hf : f.size = f'.size) (h1 : ∀ i (p : i < f.size) (q : i < f'.size), VRel ρ K f[i] f'[i])
      (hc : c.size = c'.size) (h2 : ∀ i (p : i < c.size) (q : i < c'.size), VRel ρ K c[i] c'[i]) : VRel ρ K (.func fn f c) (.func fn' f' c')
  | iface (t : TypeId) {v v' : Value} (h : VRel ρ K v v') : VRel ρ K (.iface t v) (.iface t v')
  | agg {c c' : Array Value} (hc : c.size = c'.size) (h : ∀ i (p : i < c.size) (q : i < c'.size), VRel ρ K c[i] c'[i]) : VRel ρ K (.agg c) (.agg c')
  | tuple {c c' : Array Value} (hc : c.size = c'.size) (h : ∀ i (p : i < c.size) (q : i < c'.size), VRel ρ K c[i] c'[i]) : VRel ρ K (.tuple c) (.tuple c')

def Ext (ρ : Ren) (K : Nat) (ρ' : Ren) (K' : Nat) : Prop := K ≤ K' ∧ ∀ i, i < K → ρ' i = ρ i ∨ ρ' i = none
theorem Ext.refl (ρ : Ren) (K : Nat) : Ext ρ K ρ K := ⟨Nat.le_refl _, fun _ _ => .inl rfl⟩
theorem Ext.trans {ρ ρ' ρ'' : Ren} {K K' K'' : Nat} (h : Ext ρ K ρ' K') (h' : Ext ρ' K' ρ'' K'') : Ext ρ K ρ'' K'' := by
  refine ⟨Nat.le_trans h.1 h'.1, fun i hi => ?_⟩
  rcases h'.2 i (Nat.lt_of_lt_of_le hi h.1) with e | e
  · rw [e]; exact h.2 i hi
  · exact .inr e
theorem Ext.some {ρ ρ' : Ren} {K K' : Nat} (h : Ext ρ K ρ' K') {i : Nat} (hi : i < K) {I : Info} (e : ρ' i = some I) : ρ i = some I := by
  rcases h.2 i hi with e' | e'
  · rw [← e']; exact e
  · rw [e'] at e; cases e

theorem FnRel.mono {ρ ρ' : Ren} {K K' : Nat} (hx : Ext ρ K ρ' K') {f f' : Fn} (h : FnRel ρ K f f') : FnRel ρ' K' f f' := by
  cases h with
  | func f => exact .func f
  | yield h h1 => exact .yield (Nat.lt_of_lt_of_le h hx.1) (fun I e => h1 I (hx.some h e))
theorem VRel.mono {ρ ρ' : Ren} {K K' : Nat} (hx : Ext ρ K ρ' K') {v v' : Value} (h : VRel ρ K v v') : VRel ρ' K' v v' := by
  induction h with
  | bool b => exact .bool b
  | int k n => exact .int k n
  | float k n => exact .float k n
  | complex k n m => exact .complex k n m
  | string s => exact .string s
  | nilFunc => exact .nilFunc
  | nilIface => exact .nilIface
  | ptrNil => exact .ptrNil
  | mapNil => exact .mapNil
  | chanNil => exact .chanNil
  | nan h => exact .nan h
  | sliceNil n c => exact .sliceNil n c
  | ptr h hs h1 => exact .ptr (Nat.lt_of_lt_of_le h hx.1) hs (fun I e => h1 I (hx.some h e))
  | slice h h1 hn hc h0 h2 => exact .slice (Nat.lt_of_lt_of_le h hx.1) (fun I e => h1 I (hx.some h e)) hn hc h0 (fun z hz I e => h2 z hz I (hx.some h e))
  | map h h1 => exact .map (Nat.lt_of_lt_of_le h hx.1) (fun I e => h1 I (hx.some h e))
  | func h hf h1 hc h2 ih1 ih2 => exact .func (h.mono hx) hf ih1 hc ih2
  | iface t h ih => exact .iface t ih
  | agg hc h ih => exact .agg hc ih
  | tuple hc h ih => exact .tuple hc ih

/-- Lists, element by element. -/
inductive LRel (ρ : Ren) (K : Nat) : List Value → List Value → Prop
  | nil : LRel ρ K [] []
  | cons {v v' : Value} {l l' : List Value} (h : VRel ρ K v v') (r : LRel ρ K l l') : LRel ρ K (v :: l) (v' :: l')
section
variable {ρ : Ren} {K : Nat}
theorem LRel.length {l l' : List Value} (h : LRel ρ K l l') : l.length = l'.length := by
  induction h with
  | nil => rfl
  | cons _ _ ih => simp [ih]
theorem LRel.mono {ρ' : Ren} {K' : Nat} (hx : Ext ρ K ρ' K') {l l' : List Value} (h : LRel ρ K l l') : LRel ρ' K' l l' := by
  induction h with
  | nil => exact .nil
  | cons h _ ih => exact .cons (h.mono hx) ih
theorem LRel.append {l l' m m' : List Value} (h : LRel ρ K l l') (h' : LRel ρ K m m') : LRel ρ K (l ++ m) (l' ++ m') := by
  induction h with
  | nil => exact h'
  | cons h _ ih => exact .cons h ih
theorem LRel.take {l l' : List Value} (h : LRel ρ K l l') : ∀ n, LRel ρ K (l.take n) (l'.take n) := by
  induction h with
  | nil => intro n; simp; exact .nil
  | cons h _ ih =>
    intro n
    cases n with
    | zero => exact .nil
    | succ n => exact .cons h (ih n)
theorem LRel.drop {l l' : List Value} (h : LRel ρ K l l') : ∀ n, LRel ρ K (l.drop n) (l'.drop n) := by
  induction h with
  | nil => intro n; simp; exact .nil
  | cons h r ih =>
    intro n
    cases n with
    | zero => exact .cons h r
    | succ n => exact ih n
theorem LRel.get {l l' : List Value} (h : LRel ρ K l l') : ∀ {i : Nat} {v : Value}, l[i]? = some v → ∃ v', l'[i]? = some v' ∧ VRel ρ K v v' := by
  induction h with
  | nil => intro i v e; simp at e
  | cons h _ ih =>
    intro i v e
    cases i with
    | zero => simp at e; subst e; exact ⟨_, rfl, h⟩
    | succ i => simpa using ih (by simpa using e)
theorem LRel.of_get {l l' : List Value} (hl : l.length = l'.length) (h : ∀ (i : Nat) (v v' : Value), l[i]? = some v → l'[i]? = some v' → VRel ρ K v v') : LRel ρ K l l' := by
  induction l generalizing l' with
  | nil => cases l' with
    | nil => exact .nil
    | cons => simp at hl
  | cons v l ih => cases l' with
    | nil => simp at hl
    | cons v' l' => exact .cons (h 0 v v' rfl rfl) (ih (by simpa using hl) (fun i u u' e e' => h (i + 1) u u' (by simpa using e) (by simpa using e')))
theorem LRel.set {l l' : List Value} (h : LRel ρ K l l') {v v' : Value} (hv : VRel ρ K v v') : ∀ i, LRel ρ K (l.set i v) (l'.set i v') := by
  induction h with
  | nil => intro i; exact .nil
  | cons h r ih =>
    intro i
    cases i with
    | zero => exact .cons hv r
    | succ i => exact .cons h (ih i)
theorem LRel.arr {c c' : Array Value} (h : LRel ρ K c.toList c'.toList) : c.size = c'.size ∧ ∀ i (p : i < c.size) (q : i < c'.size), VRel ρ K c[i] c'[i] := by
  refine ⟨by simpa using h.length, fun i p q => ?_⟩
  obtain ⟨v', e, hv⟩ := h.get (i := i) (v := c[i]) (by simp [p])
  have : v' = c'[i] := by simp [q] at e; exact e.symm
  exact this ▸ hv
theorem LRel.of_arr {c c' : Array Value} (hc : c.size = c'.size) (h : ∀ i (p : i < c.size) (q : i < c'.size), VRel ρ K c[i] c'[i]) : LRel ρ K c.toList c'.toList := by
  refine LRel.of_get (by simpa using hc) fun i v v' e e' => ?_
  obtain ⟨p, e⟩ := List.getElem?_eq_some_iff.1 e
  obtain ⟨q, e'⟩ := List.getElem?_eq_some_iff.1 e'
  subst e e'
  simpa using h i (by simpa using p) (by simpa using q)
theorem VRel.agg' {l l' : List Value} (h : LRel ρ K l l') : VRel ρ K (.agg l.toArray) (.agg l'.toArray) := by
  obtain ⟨h1, h2⟩ := LRel.arr (c := l.toArray) (c' := l'.toArray) (by simpa using h)
  exact .agg h1 h2
theorem VRel.tuple' {l l' : List Value} (h : LRel ρ K l l') : VRel ρ K (.tuple l.toArray) (.tuple l'.toArray) := by
  obtain ⟨h1, h2⟩ := LRel.arr (c := l.toArray) (c' := l'.toArray) (by simpa using h)
  exact .tuple h1 h2
theorem LRel.replicate {v v' : Value} (h : VRel ρ K v v') : ∀ n, LRel ρ K (List.replicate n v) (List.replicate n v')
  | 0 => .nil
  | n + 1 => .cons h (LRel.replicate h n)
theorem LRel.one {v v' : Value} (h : VRel ρ K v v') : LRel ρ K [v] [v'] := .cons h .nil
theorem VRel.cells {v v' : Value} (h : VRel ρ K v v') : LRel ρ K v.cells.toList v'.cells.toList := by
  cases h with
  | agg hc h => exact LRel.of_arr hc h
  | _ => first
    | exact .one (by constructor <;> assumption)
    | exact .one (by constructor)

theorem flat_rel : ∀ n v, flatN n v = true → VRel ρ K v v ∧ ∀ v', VRel ρ K v v' → v' = v := by
  intro n
  induction n with
  | zero => intro v h; simp [flatN] at h
  | succ n ih =>
    have arr : ∀ c : Array Value, c.toList.all (flatN n) = true → (∀ i (p : i < c.size), VRel ρ K c[i] c[i]) ∧
        ∀ c' : Array Value, c.size = c'.size → (∀ i (p : i < c.size) (q : i < c'.size), VRel ρ K c[i] c'[i]) → c' = c := by
      intro c h
      simp only [List.all_eq_true, Array.mem_toList_iff] at h
      refine ⟨fun i p => (ih _ (h _ (Array.getElem_mem p))).1, fun c' hc hr => ?_⟩
      refine Array.ext hc.symm fun i p q => (ih _ (h _ (Array.getElem_mem q))).2 _ (hr i q p)
    intro v h
    cases v with
    | bool b => exact ⟨.bool b, fun v' h' => by cases h'; rfl⟩
    | int k m => exact ⟨.int k m, fun v' h' => by cases h'; rfl⟩
    | float k m => exact ⟨.float k m, fun v' h' => by cases h'; rfl⟩
    | complex k m m' => exact ⟨.complex k m m', fun v' h' => by cases h'; rfl⟩
    | string s => exact ⟨.string s, fun v' h' => by cases h'; rfl⟩
    | nilFunc => exact ⟨.nilFunc, fun v' h' => by cases h'; rfl⟩
    | nilIface => exact ⟨.nilIface, fun v' h' => by cases h'; rfl⟩
    | pointer a => cases a with
      | none => exact ⟨.ptrNil, fun v' h' => by cases h'; rfl⟩
      | some a => simp [flatN] at h
    | slice a m c => cases a with
      | none => exact ⟨.sliceNil m c, fun v' h' => by cases h'; rfl⟩
      | some a => simp [flatN] at h
    | map a => cases a with
      | none => exact ⟨.mapNil, fun v' h' => by cases h'; rfl⟩
      | some a => simp [flatN] at h
    | chan a => cases a with
      | none => exact ⟨.chanNil, fun v' h' => by cases h'; rfl⟩
      | some a => simp [flatN] at h
    | func fn f c => cases fn with
      | func g =>
        simp only [flatN, Bool.and_eq_true] at h
        have hf := arr f h.1
        have hc := arr c h.2
        refine ⟨.func (.func g) rfl (fun i p _ => hf.1 i p) rfl (fun i p _ => hc.1 i p), fun v' h' => ?_⟩
        cases h' with
        | func hfn e1 r1 e2 r2 => cases hfn; rw [hf.2 _ e1 r1, hc.2 _ e2 r2]
      | _ => simp [flatN] at h
    | iface t v =>
      simp only [flatN] at h
      obtain ⟨h1, h2⟩ := ih v h
      exact ⟨.iface t h1, fun v' h' => by cases h' with | iface _ hv => rw [h2 _ hv]⟩
    | agg c =>
      simp only [flatN] at h
      have hc := arr c h
      exact ⟨.agg rfl (fun i p _ => hc.1 i p), fun v' h' => by cases h' with | agg e r => rw [hc.2 _ e r]⟩
    | tuple c =>
      simp only [flatN] at h
      have hc := arr c h
      exact ⟨.tuple rfl (fun i p _ => hc.1 i p), fun v' h' => by cases h' with | tuple e r => rw [hc.2 _ e r]⟩
theorem flat_self {v : Value} (h : flat v = true) : VRel ρ K v v := (flat_rel 5 v h).1
theorem flat_eq {v v' : Value} (h : flat v = true) (hr : VRel ρ K v v') : v' = v := (flat_rel 5 v h).2 v' hr
theorem flats_eq {l l' : List Value} (h : l.all flat = true) (hr : LRel ρ K l l') : l' = l := by
  induction hr with
  | nil => rfl
  | cons hv _ ih =>
    simp only [List.all_cons, Bool.and_eq_true] at h
    rw [flat_eq h.1 hv, ih h.2]
theorem flats_self {l : List Value} (h : l.all flat = true) : LRel ρ K l l := by
  induction l with
  | nil => exact .nil
  | cons v l ih =>
    simp only [List.all_cons, Bool.and_eq_true] at h
    exact .cons (flat_self h.1) (ih h.2)
theorem VRel.oneCell {v v' : Value} (h : VRel ρ K v v') : v.oneCell' = v'.oneCell' := by cases h <;> rfl
end

/-- The frame's temporaries. -/
def TRel (ρ : Ren) (K : Nat) (l : List Value) (t : Array Value) : Prop := LRel ρ K l t.toList

inductive ERel (ρ : Ren) (K : Nat) : MapEntry → MapEntry → Prop
  | mk {k k' v v' : Value} (n : Nat) (hk : VRel ρ K k k') (hv : VRel ρ K v v') : ERel ρ K ⟨k, v, n⟩ ⟨k', v', n⟩
inductive EsRel (ρ : Ren) (K : Nat) : List MapEntry → List MapEntry → Prop
  | nil : EsRel ρ K [] []
  | cons {e e' : MapEntry} {l l' : List MapEntry} (h : ERel ρ K e e') (r : EsRel ρ K l l') : EsRel ρ K (e :: l) (e' :: l')

inductive OORel (ρ : Ren) (K : Nat) : Obj → Obj → Prop
  | map {es es' : Array MapEntry} (n : Nat) (h : EsRel ρ K es.toList es'.toList) : OORel ρ K (.map es n) (.map es' n)
  | stringIter (s : ByteArray) (n : Nat) : OORel ρ K (.stringIter s n) (.stringIter s n)
  | mapIterNil (n : Nat) (s : Array Nat) (m : Nat) : OORel ρ K (.mapIter none n s m) (.mapIter none n s m)
  | mapIter {r r' : Nat} (n : Nat) (s : Array Nat) (m : Nat) (h : r < K) (h1 : ∀ I, ρ r = some I → r' = I.b) : OORel ρ K (.mapIter (some r) n s m) (.mapIter (some r') n s m)
  | loop (st : LoopState) (pd : Option Code) (f : FuncId) {t t' : Array Value} (ps : Array Tmp) (x y : Code) {d d' : Nat} (h : LRel ρ K t.toList t'.toList) (hd : d < K) (h1 : ∀ I, ρ d = some I → d' = I.b) :
      OORel ρ K (.loop ⟨st, pd, f, t, ps, x, y, d⟩) (.loop ⟨st, pd, f, t', ps, x, y, d'⟩)
  | deferred : OORel ρ K (.deferred (some [])) (.deferred (some []))
  | taken : OORel ρ K (.deferred none) (.deferred none)

inductive ORel (ρ : Ren) (K : Nat) (I : Info) : Blk → Obj → Prop
  | cells {c : List Value} {c' : Array Value} {e : TypeId} {fr : Nat × Nat} (hc : ∀ (j : Nat) v, c[j]? = some v → ∃ v', c'[j + I.sh]? = some v' ∧ VRel ρ K v v')
      (hw : I.rw = true → c'.size = I.n ∧ (∀ o, o < I.n → ¬ (fr.1 ≤ o ∧ o < fr.2)) ∧ (I.fz = false → fr.2 = 0)) : ORel ρ K I (.cells c I.rw) (.cells c' e fr)
  | holey {c : List Value} {k : Nat} {c' : Array Value} {e : TypeId} {fr : Nat × Nat} (hc : ∀ (j : Nat) v, c[j]? = some v → ∃ v', c'[j + I.sh]? = some v' ∧ VRel ρ K v v') (hk : 0 < k → c.length + k + I.sh ≤ c'.size)
      (hr : I.rw = true) (hw : c'.size = I.n ∧ (∀ o, o < I.n → ¬ (fr.1 ≤ o ∧ o < fr.2)) ∧ fr.2 = 0) : ORel ρ K I (.holey c k) (.cells c' e fr)
  | obj {o o' : Obj} (h : OORel ρ K o o') (hr : I.rw = true) (hn : ∀ c e f, o' ≠ .cells c e f) (hs : I.sh = 0) : ORel ρ K I (.obj o) o'

theorem ERel.mono {ρ ρ' : Ren} {K K' : Nat} (hx : Ext ρ K ρ' K') {e e' : MapEntry} (h : ERel ρ K e e') : ERel ρ' K' e e' := by
  cases h with | mk n hk hv => exact .mk n (hk.mono hx) (hv.mono hx)
theorem EsRel.mono {ρ ρ' : Ren} {K K' : Nat} (hx : Ext ρ K ρ' K') {e e' : List MapEntry} (h : EsRel ρ K e e') : EsRel ρ' K' e e' := by
  induction h with
  | nil => exact .nil
  | cons h _ ih => exact .cons (h.mono hx) ih
theorem OORel.mono {ρ ρ' : Ren} {K K' : Nat} (hx : Ext ρ K ρ' K') {o o' : Obj} (h : OORel ρ K o o') : OORel ρ' K' o o' := by
  cases h with
  | map n h => exact .map n (h.mono hx)
  | stringIter s n => exact .stringIter s n
  | mapIterNil n s m => exact .mapIterNil n s m
  | mapIter n s m h h1 => exact .mapIter n s m (Nat.lt_of_lt_of_le h hx.1) (fun I e => h1 I (hx.some h e))
  | loop st pd f ps x y h hd h1 => exact .loop st pd f ps x y (h.mono hx) (Nat.lt_of_lt_of_le hd hx.1) (fun I e => h1 I (hx.some hd e))
  | deferred => exact .deferred
  | taken => exact .taken
theorem ORel.mono {ρ ρ' : Ren} {K K' : Nat} (hx : Ext ρ K ρ' K') {I : Info} {b : Blk} {o : Obj} (h : ORel ρ K I b o) : ORel ρ' K' I b o := by
  cases h with
  | cells hc hw => exact .cells (fun j v e => let ⟨v', e', hv⟩ := hc j v e; ⟨v', e', hv.mono hx⟩) hw
  | holey hc hk hr hw => exact .holey (fun j v e => let ⟨v', e', hv⟩ := hc j v e; ⟨v', e', hv.mono hx⟩) hk hr hw
  | obj h hr hn hs => exact .obj (h.mono hx) hr hn hs

theorem ORel.inv {ρ : Ren} {K : Nat} {I : Info} {c : List Value} {rw_ : Bool} {o : Obj} (h : ORel ρ K I (.cells c rw_) o) : I.rw = rw_ ∧ ∃ c' e fr, o = .cells c' e fr ∧
    (∀ (j : Nat) v, c[j]? = some v → ∃ v', c'[j + I.sh]? = some v' ∧ VRel ρ K v v') ∧ (I.rw = true → c'.size = I.n ∧ (∀ o, o < I.n → ¬ (fr.1 ≤ o ∧ o < fr.2)) ∧ (I.fz = false → fr.2 = 0)) := by
  generalize hB : Blk.cells c rw_ = B at h
  cases h with
  | cells hc hw =>
    injection hB with h1 h2
    subst h1
    exact ⟨h2.symm, _, _, _, rfl, hc, hw⟩
  | holey => cases hB
  | obj => cases hB
theorem ORel.invH {ρ : Ren} {K : Nat} {I : Info} {c : List Value} {k : Nat} {o : Obj} (h : ORel ρ K I (.holey c k) o) : I.rw = true ∧ ∃ c' e fr, o = .cells c' e fr ∧
    (∀ (j : Nat) v, c[j]? = some v → ∃ v', c'[j + I.sh]? = some v' ∧ VRel ρ K v v') ∧ (0 < k → c.length + k + I.sh ≤ c'.size) ∧ c'.size = I.n ∧ (∀ o, o < I.n → ¬ (fr.1 ≤ o ∧ o < fr.2)) ∧ fr.2 = 0 := by
  generalize hB : Blk.holey c k = B at h
  cases h with
  | cells => cases hB
  | holey hc hk hr hw =>
    injection hB with h1 h2
    subst h1 h2
    exact ⟨hr, _, _, _, rfl, hc, hk, hw⟩
  | obj => cases hB

/-- Falling numbers. -/
inductive Falls : Nat → List (Nat × Blk) → Prop
  | nil (n : Nat) : Falls n []
  | cons {n i : Nat} {b : Blk} {l : List (Nat × Blk)} (h : i < n) (r : Falls i l) : Falls n ((i, b) :: l)

structure WRel (ρ : Ren) (a : AW) (w : World) : Prop where
  falls : Falls a.next a.heap
  lt : ∀ i I, ρ i = some I → i < a.next
  blk : ∀ i I, ρ i = some I → ∃ b o, a.get i = some b ∧ w.heap[I.b]? = some o ∧ ORel ρ a.next I b o
  has : ∀ i b, a.get i = some b → ∃ I, ρ i = some I
  inj : ∀ i j I J, ρ i = some I → ρ j = some J → I.b = J.b → i = j ∨ (I.rw = false ∧ J.rw = false)

structure Step (ρ : Ren) (K : Nat) (w : World) (ρ' : Ren) (a' : AW) (w' : World) : Prop where
  rel : WRel ρ' a' w'
  ext : Ext ρ K ρ' a'.next
  img : ∀ i I, ρ' i = some I → (∃ j J, ρ j = some J ∧ J.rw = I.rw ∧ J.b = I.b) ∨ w.heap.size ≤ I.b
  frame : ∀ b, b < w.heap.size → (∀ i I, ρ i = some I → I.rw = true → I.b ≠ b) → w'.heap[b]? = w.heap[b]?
  size : w.heap.size ≤ w'.heap.size
  os : w'.os = w.os
  tape : w'.tape = w.tape
  output : w'.output = w.output
theorem Step.refl {ρ : Ren} {a : AW} {w : World} (h : WRel ρ a w) : Step ρ a.next w ρ a w :=
  ⟨h, .refl _ _, fun i I e => .inl ⟨i, I, e, rfl, rfl⟩, fun _ _ _ => rfl, Nat.le_refl _, rfl, rfl, rfl⟩
theorem Step.trans {ρ ρ' ρ'' : Ren} {K : Nat} {a' a'' : AW} {w w' w'' : World} (h : Step ρ K w ρ' a' w') (h' : Step ρ' a'.next w' ρ'' a'' w'') : Step ρ K w ρ'' a'' w'' := by
  refine ⟨h'.rel, h.ext.trans h'.ext, fun i I e => ?_, fun b hb hn => ?_, Nat.le_trans h.size h'.size, h'.os.trans h.os, h'.tape.trans h.tape, h'.output.trans h.output⟩
  · rcases h'.img i I e with ⟨j, J, e1, e2, e3⟩ | hl
    · rcases h.img j J e1 with ⟨k, L, f1, f2, f3⟩ | hl
      · exact .inl ⟨k, L, f1, f2.trans e2, f3.trans e3⟩
      · exact .inr (e3 ▸ hl)
    · exact .inr (Nat.le_trans h.size hl)
  · rw [h'.frame b (Nat.lt_of_lt_of_le hb h.size) fun i I e hr hbI => ?_, h.frame b hb hn]
    rcases h.img i I e with ⟨j, J, e1, e2, e3⟩ | hl
    · exact hn j J e1 (e2.trans hr) (e3.trans hbI)
    · omega
end
/- The evaluator's steps over memory, and the program's. -/
section
open Go Go.RowKit
set_option linter.unusedVariables false

/-! ### the list of blocks -/
theorem look_put {i : Nat} {x : Blk} : ∀ {l : List (Nat × Blk)} {b : Blk}, look i l = some b → ∀ j, look j (putAt i x l) = if j = i then some x else look j l := by
  intro l
  induction l with
  | nil => intro b h; simp [look] at h
  | cons p l ih =>
    obtain ⟨k, c⟩ := p
    intro b h j
    by_cases hk : i = k
    · subst hk
      simp only [putAt, if_true, look]
      by_cases hj : j = i <;> simp [hj]
    · simp only [look, if_neg hk] at h
      simp only [putAt, if_neg hk, look, ih h j]
      by_cases hj : j = k
      · subst hj; simp [Ne.symm hk]
      · simp [hj]
theorem Falls.mono {n m : Nat} {l : List (Nat × Blk)} (h : Falls n l) (hm : n ≤ m) : Falls m l := by
  cases h with
  | nil => exact .nil m
  | cons h r => exact .cons (Nat.lt_of_lt_of_le h hm) r
theorem Falls.lt {n : Nat} {l : List (Nat × Blk)} (h : Falls n l) {i : Nat} {b : Blk} (e : look i l = some b) : i < n := by
  induction h with
  | nil => simp [look] at e
  | cons h _ ih =>
    simp only [look] at e
    split at e
    · subst_vars; exact h
    · exact Nat.lt_trans (ih e) h
theorem Falls.put {n : Nat} {l : List (Nat × Blk)} (h : Falls n l) (i : Nat) (x : Blk) : Falls n (putAt i x l) := by
  induction h with
  | nil => exact .nil _
  | cons h r ih =>
    simp only [putAt]
    split
    · exact .cons h r
    · exact .cons h ih
theorem Falls.kill {n : Nat} {l : List (Nat × Blk)} (h : Falls n l) (i : Nat) : Falls n (kill i l) := by
  induction h with
  | nil => exact .nil _
  | cons h r ih =>
    simp only [Go.Proofs.YtlbmjpmonaekgaaAM.kill]
    split
    · exact r.mono (Nat.le_of_lt h)
    · exact .cons h ih
theorem look_kill {n : Nat} {l : List (Nat × Blk)} (h : Falls n l) (i : Nat) : ∀ j, look j (kill i l) = if j = i then none else look j l := by
  induction h with
  | nil => intro j; simp [kill, look]
  | @cons n k b l h r ih =>
    intro j
    simp only [kill]
    by_cases hk : i = k
    · subst hk
      simp only [if_true, look]
      by_cases hj : j = i
      · subst hj
        simp only [if_true]
        cases e : look j l with
        | none => rfl
        | some b => exact absurd (r.lt e) (Nat.lt_irrefl _)
      · simp [hj]
    · simp only [if_neg hk, look, ih j]
      by_cases hj : j = k
      · subst hj; simp [Ne.symm hk]
      · simp [hj]
theorem look_big {n : Nat} {l : List (Nat × Blk)} (h : Falls n l) {i : Nat} (hi : n ≤ i) : look i l = none := by
  cases e : look i l with
  | none => rfl
  | some b => exact absurd (h.lt e) (by omega)

/-! ### worlds -/
def upd (ρ : Ren) (i : Nat) (I : Option Info) : Ren := fun j => if j = i then I else ρ j
theorem upd_self (ρ : Ren) (i : Nat) (I : Option Info) : upd ρ i I i = I := by simp [upd]
theorem upd_ne (ρ : Ren) {i j : Nat} (I : Option Info) (h : j ≠ i) : upd ρ i I j = ρ j := by simp [upd, h]
theorem WRel.none {ρ : Ren} {a : AW} {w : World} (h : WRel ρ a w) {i : Nat} (hi : a.next ≤ i) : ρ i = none := by
  cases e : ρ i with
  | none => rfl
  | some I => exact absurd (h.lt i I e) (by omega)
theorem WRel.bound {ρ : Ren} {a : AW} {w : World} (h : WRel ρ a w) {i : Nat} {I : Info} (e : ρ i = some I) : I.b < w.heap.size := by
  obtain ⟨_, o, _, ho, _⟩ := h.blk i I e
  exact (Array.getElem?_eq_some_iff.1 ho).1
theorem ext_new {ρ : Ren} {a : AW} {w : World} (h : WRel ρ a w) (I : Info) : Ext ρ a.next (upd ρ a.next (some I)) (a.next + 1) :=
  ⟨Nat.le_succ _, fun i hi => .inl (upd_ne _ _ (by omega))⟩
/-- A new block on either side. -/
theorem step_new {ρ : Ren} {a : AW} {w : World} (h : WRel ρ a w) {n : Nat} {z : Bool} {b : Blk} {o : Obj}
    (ho : ORel (upd ρ a.next (some ⟨w.heap.size, 0, n, true, z⟩)) (a.next + 1) ⟨w.heap.size, 0, n, true, z⟩ b o) :
    Step ρ a.next w (upd ρ a.next (some ⟨w.heap.size, 0, n, true, z⟩)) (a.new b) { w with heap := w.heap.push o } := by
  have hx := ext_new h ⟨w.heap.size, 0, n, true, z⟩
  have hold : ∀ k, k < w.heap.size → (w.heap.push o)[k]? = w.heap[k]? := fun k hk => by rw [Array.getElem?_push, if_neg (by omega)]
  refine ⟨⟨.cons (Nat.lt_succ_self _) h.falls, ?_, ?_, ?_, ?_⟩, hx, ?_, ?_, by simp, rfl, rfl, rfl⟩
  · intro i I e
    by_cases hi : i = a.next
    · subst hi; exact Nat.lt_succ_self _
    · rw [upd_ne _ _ hi] at e; exact Nat.lt_succ_of_lt (h.lt i I e)
  · intro i I e
    by_cases hi : i = a.next
    · subst hi
      rw [upd_self] at e
      cases e
      exact ⟨b, o, by simp [AW.get, AW.new, look], by simp, ho⟩
    · rw [upd_ne _ _ hi] at e
      obtain ⟨b', o', e1, e2, e3⟩ := h.blk i I e
      refine ⟨b', o', ?_, ?_, e3.mono hx⟩
      · simp only [AW.get, AW.new, look, if_neg hi]; exact e1
      · show (w.heap.push o)[I.b]? = _
        rw [hold _ (h.bound e)]; exact e2
  · intro i b' e
    by_cases hi : i = a.next
    · subst hi; exact ⟨_, upd_self _ _ _⟩
    · simp only [AW.get, AW.new, look, if_neg hi] at e
      rw [upd_ne _ _ hi]; exact h.has i b' e
  · intro i j I J e1 e2 e3
    by_cases hi : i = a.next <;> by_cases hj : j = a.next
    · exact .inl (hi.trans hj.symm)
    · subst hi
      rw [upd_self] at e1; rw [upd_ne _ _ hj] at e2; cases e1
      have := h.bound e2; exact absurd e3 (by simp; omega)
    · subst hj
      rw [upd_self] at e2; rw [upd_ne _ _ hi] at e1; cases e2
      have := h.bound e1; exact absurd e3 (by simp; omega)
    · rw [upd_ne _ _ hi] at e1; rw [upd_ne _ _ hj] at e2; exact h.inj i j I J e1 e2 e3
  · intro i I e
    by_cases hi : i = a.next
    · subst hi; rw [upd_self] at e; cases e; exact .inr (Nat.le_refl _)
    · rw [upd_ne _ _ hi] at e; exact .inl ⟨i, I, e, rfl, rfl⟩
  · intro k hk _; exact hold k hk
/-- One block is written. -/
theorem step_write {ρ : Ren} {a : AW} {w w' : World} (h : WRel ρ a w) {i : Nat} {I : Info} (e : ρ i = some I) (hr : I.rw = true) {b : Blk} {o : Obj}
    (ho : ORel ρ a.next I b o) (hb : w'.heap[I.b]? = some o) (hs : w'.heap.size = w.heap.size) (hk : ∀ k, k ≠ I.b → w'.heap[k]? = w.heap[k]?)
    (h1 : w'.os = w.os) (h2 : w'.tape = w.tape) (h3 : w'.output = w.output) : Step ρ a.next w ρ (a.write i b) w' := by
  obtain ⟨b0, o0, g0, _, _⟩ := h.blk i I e
  have hl := fun j => look_put (x := b) g0 j
  refine ⟨⟨h.falls.put i b, h.lt, ?_, ?_, h.inj⟩, .refl _ _, fun i I e => .inl ⟨i, I, e, rfl, rfl⟩, fun k hkb hn => hk k fun hh => hn i I e hr hh.symm, by omega, h1, h2, h3⟩
  · intro j J ej
    by_cases hj : j = i
    · subst hj
      rw [e] at ej; cases ej
      exact ⟨b, o, by simp only [AW.get, AW.write, hl, if_true], hb, ho⟩
    · obtain ⟨b', o', f1, f2, f3⟩ := h.blk j J ej
      refine ⟨b', o', by simp only [AW.get, AW.write, hl, if_neg hj]; exact f1, ?_, f3⟩
      rw [hk _ fun hh => ?_]
      · exact f2
      · rcases h.inj j i J I ej e hh with h' | h'
        · exact hj h'
        · rw [hr] at h'; exact absurd h'.2 (by simp)
  · intro j b' ej
    by_cases hj : j = i
    · subst hj; exact ⟨I, e⟩
    · simp only [AW.get, AW.write, hl, if_neg hj] at ej; exact h.has j b' ej
/-- Nothing but the tape's place moves. -/
theorem step_drew {ρ : Ren} {a : AW} {w w' : World} (h : WRel ρ a w) (hh : w'.heap = w.heap) (h1 : w'.os = w.os) (h2 : w'.tape = w.tape) (h3 : w'.output = w.output) : Step ρ a.next w ρ a w' := by
  refine ⟨⟨h.falls, h.lt, fun i I e => ?_, h.has, h.inj⟩, .refl _ _, fun i I e => .inl ⟨i, I, e, rfl, rfl⟩, fun k _ _ => by rw [hh], by rw [hh]; exact Nat.le_refl _, h1, h2, h3⟩
  rw [hh]; exact h.blk i I e
/-- A block gets another number, and other cells in place. -/
theorem step_move {ρ : Ren} {a : AW} {w w' : World} (h : WRel ρ a w) {i : Nat} {I : Info} (e : ρ i = some I) (hr : I.rw = true) {J : Info} (hJb : J.b = I.b) (hJr : J.rw = true) {b : Blk} {o : Obj}
    (ho : ORel (upd (upd ρ i none) a.next (some J)) (a.next + 1) J b o) (hb : w'.heap[I.b]? = some o) (hs : w'.heap.size = w.heap.size) (hk : ∀ k, k ≠ I.b → w'.heap[k]? = w.heap[k]?)
    (h1 : w'.os = w.os) (h2 : w'.tape = w.tape) (h3 : w'.output = w.output) : Step ρ a.next w (upd (upd ρ i none) a.next (some J)) ((a.drop i).new b) w' := by
  have hi := h.lt i I e
  have hx : Ext ρ a.next (upd (upd ρ i none) a.next (some J)) (a.next + 1) := by
    refine ⟨Nat.le_succ _, fun j hj => ?_⟩
    rw [upd_ne _ _ (by omega)]
    by_cases hji : j = i
    · subst hji; exact .inr (upd_self _ _ _)
    · exact .inl (upd_ne _ _ hji)
  have hρ : ∀ j K, upd (upd ρ i none) a.next (some J) j = some K → (j = a.next ∧ K = J) ∨ (j ≠ a.next ∧ j ≠ i ∧ ρ j = some K) := by
    intro j K ej
    by_cases hj : j = a.next
    · subst hj; rw [upd_self] at ej; cases ej; exact .inl ⟨rfl, rfl⟩
    · rw [upd_ne _ _ hj] at ej
      by_cases hji : j = i
      · subst hji; rw [upd_self] at ej; cases ej
      · rw [upd_ne _ _ hji] at ej; exact .inr ⟨hj, hji, ej⟩
  have hget : ∀ j, ((a.drop i).new b).get j = if j = a.next then some b else if j = i then none else a.get j := by
    intro j
    simp only [AW.get, AW.new, AW.drop, look]
    by_cases hj : j = a.next
    · simp [hj]
    · simp only [if_neg hj, look_kill h.falls i j]
  refine ⟨⟨.cons (Nat.lt_succ_self _) (h.falls.kill i), ?_, ?_, ?_, ?_⟩, hx, ?_, fun k hkb hn => hk k fun hh => hn i I e hr hh.symm, by omega, h1, h2, h3⟩
  · intro j K ej
    rcases hρ j K ej with ⟨rfl, _⟩ | ⟨_, _, ej⟩
    · exact Nat.lt_succ_self _
    · exact Nat.lt_succ_of_lt (h.lt j K ej)
  · intro j K ej
    rcases hρ j K ej with ⟨rfl, rfl⟩ | ⟨hj, hji, ej⟩
    · exact ⟨b, o, by rw [hget, if_pos rfl], by rw [hJb]; exact hb, ho⟩
    · obtain ⟨b', o', f1, f2, f3⟩ := h.blk j K ej
      refine ⟨b', o', by rw [hget, if_neg hj, if_neg hji]; exact f1, ?_, f3.mono hx⟩
      rw [hk _ fun hh => ?_]
      · exact f2
      · rcases h.inj j i K I ej e hh with h' | h'
        · exact hji h'
        · rw [hr] at h'; exact absurd h'.2 (by simp)
  · intro j b' ej
    rw [hget] at ej
    by_cases hj : j = a.next
    · subst hj; exact ⟨J, upd_self _ _ _⟩
    · rw [if_neg hj] at ej
      by_cases hji : j = i
      · rw [if_pos hji] at ej; cases ej
      · rw [if_neg hji] at ej
        obtain ⟨K, eK⟩ := h.has j b' ej
        exact ⟨K, by rw [upd_ne _ _ hj, upd_ne _ _ hji]; exact eK⟩
  · intro j k K L ej ek hb'
    have ej := hρ j K ej
    have ek := hρ k L ek
    rcases ej with ⟨hj, hK⟩ | ⟨hj, hji, ej⟩ <;> rcases ek with ⟨hk', hL⟩ | ⟨hk', hki, ek⟩
    · exact .inl (hj.trans hk'.symm)
    · rcases h.inj i k I L e ek (by rw [← hJb, ← hK]; exact hb') with h' | h'
      · exact absurd h'.symm hki
      · rw [hr] at h'; exact absurd h'.1 (by simp)
    · rcases h.inj j i K I ej e (by rw [← hJb, ← hL]; exact hb') with h' | h'
      · exact absurd h' hji
      · rw [hr] at h'; exact absurd h'.2 (by simp)
    · exact h.inj j k K L ej ek hb'
  · intro j K ej
    rcases hρ j K ej with ⟨rfl, rfl⟩ | ⟨_, _, ej⟩
    · exact .inl ⟨i, I, e, hr.trans hJr.symm, hJb.symm⟩
    · exact .inl ⟨j, K, ej, rfl, rfl⟩

/-! ### rows of cells -/
theorem run_loads (P : Program) (w : World) {b : Nat} {c : Array Value} {e : TypeId} {fr : Nat × Nat} (hb : w.heap[b]? = some (.cells c e fr)) :
    ∀ (n off i : Nat) (acc : Array Value) (vs : List Value), vs.length = n → (∀ j v, vs[j]? = some v → c[off + i + j]? = some v) →
      (loadCellsFrom ⟨b, off, none⟩ i n acc).run P w = .ok (acc ++ vs.toArray) w := by
  intro n
  induction n with
  | zero => intro off i acc vs hl _; obtain rfl := List.eq_nil_of_length_eq_zero hl; simp [loadCellsFrom]
  | succ n ih =>
    intro off i acc vs hl hv
    cases vs with
    | nil => simp at hl
    | cons v vs =>
      have h0 := hv 0 v rfl
      have hc : w.cell? (Addr.add ⟨b, off, none⟩ i) = some v := by
        unfold Addr.add
        split
        · subst_vars; simp only [World.cell?, hb]; simpa using h0
        · simp only [World.cell?, hb]; simpa using h0
      simp only [loadCellsFrom, Sem.run_bind, run_load, hc, Result.andThen_ok]
      rw [ih off (i + 1) (acc.push v) vs (by simpa using hl) (fun j u hu => by
        have := hv (j + 1) u (by simpa using hu)
        rwa [show off + (i + 1) + j = off + i + (j + 1) by omega])]
      simp
theorem run_loadCells (P : Program) (w : World) {b : Nat} {c : Array Value} {e : TypeId} {fr : Nat × Nat} (hb : w.heap[b]? = some (.cells c e fr)) {off n : Nat} {vs : List Value} (hl : vs.length = n)
    (hv : ∀ j v, vs[j]? = some v → c[off + j]? = some v) : (loadCells ⟨b, off, none⟩ n).run P w = .ok vs.toArray w := by
  have := run_loads P w hb n off 0 #[] vs hl (by simpa using hv)
  simpa [loadCells] using this
/-- The row with some cells put in. -/
def over (c : Array Value) (off : Nat) (vs : List Value) : Array Value := (c.toList.take off ++ (vs ++ c.toList.drop (off + vs.length))).toArray
theorem over_size {c : Array Value} {off : Nat} {vs : List Value} (h : off + vs.length ≤ c.size) : (over c off vs).size = c.size := by
  simp [over]; omega
theorem over_cons {c : Array Value} {off : Nat} {v : Value} {vs : List Value} (h : off < c.size) : over (c.setIfInBounds off v) (off + 1) vs = over c off (v :: vs) := by
  have h' : off < c.toList.length := by simpa using h
  have key : ∀ l : List Value, off < l.length → (l.set off v).take (off + 1) ++ (vs ++ (l.set off v).drop (off + 1 + vs.length)) = l.take off ++ (v :: vs ++ l.drop (off + (vs.length + 1))) := by
    intro l hl
    have e1 : (l.set off v).take (off + 1) = l.take off ++ [v] := by
      rw [List.take_succ_eq_append_getElem (by simpa using hl), List.take_set_of_le (Nat.le_refl _)]; simp
    have e2 : (l.set off v).drop (off + 1 + vs.length) = l.drop (off + (vs.length + 1)) := by
      rw [List.drop_set_of_lt (by omega), show off + 1 + vs.length = off + (vs.length + 1) by omega]
    rw [e1, e2, List.append_assoc, List.singleton_append, List.cons_append]
  unfold over
  rw [Array.toList_setIfInBounds, List.length_cons, key _ h']
theorem run_stores (P : Program) {b : Nat} {e : TypeId} {fr : Nat × Nat} : ∀ (vs : List Value) (w : World) (c : Array Value) (off i : Nat), w.heap[b]? = some (.cells c e fr) → vs.all Value.oneCell' = true →
    off + i + vs.length ≤ c.size → (∀ o, off + i ≤ o → o < off + i + vs.length → ¬ (fr.1 ≤ o ∧ o < fr.2)) →
      (storeCells ⟨b, off, none⟩ vs i).run P w = .ok () { w with heap := w.heap.setIfInBounds b (.cells (over c (off + i) vs) e fr) } := by
  intro vs
  induction vs with
  | nil =>
    intro w c off i hb _ _ _
    have : over c (off + i) [] = c := by simp [over]
    simp only [storeCells, Sem.run_pure, this]
    congr 1
    have hlt := (Array.getElem?_eq_some_iff.1 hb)
    have : w.heap.setIfInBounds b (.cells c e fr) = w.heap := by
      apply Array.ext_getElem?
      intro k
      rw [Array.getElem?_setIfInBounds]
      split
      · subst_vars; simp [hlt.1, hlt.2]
      · rfl
    rw [this]
  | cons v vs ih =>
    intro w c off i hb ho hl hf
    simp only [List.all_cons, Bool.and_eq_true] at ho
    simp only [List.length_cons] at hl hf
    have hadd : Addr.add ⟨b, off, none⟩ i = ⟨b, off + i, none⟩ := by
      unfold Addr.add; split
      · subst_vars; rfl
      · rfl
    have hc : w.cell? ⟨b, off + i, none⟩ = some c[off + i] := by simp only [World.cell?, hb]; simp
    have hz : w.frozen? ⟨b, off + i, none⟩ = false := by
      simp only [World.frozen?, hb]
      have := hf (off + i) (Nat.le_refl _) (by omega)
      simpa using this
    have hset : w.setCell ⟨b, off + i, none⟩ v = { w with heap := w.heap.setIfInBounds b (.cells (c.setIfInBounds (off + i) v) e fr) } := by
      simp only [World.setCell]
      congr 1
      apply Array.ext_getElem?
      intro k
      rw [Array.getElem?_modify, Array.getElem?_setIfInBounds]
      have hlt := (Array.getElem?_eq_some_iff.1 hb)
      split
      · subst_vars; simp [hlt.1, hlt.2]
      · rfl
    simp only [storeCells, Sem.run_bind, hadd, run_store P w _ v _ ho.1, hc, hz, Bool.false_eq_true, if_false, Result.andThen_ok]
    have hlt := (Array.getElem?_eq_some_iff.1 hb).1
    rw [hset, ih _ (c.setIfInBounds (off + i) v) off (i + 1) (by simp [hlt]) ho.2 (by simp; omega) (fun o h1 h2 => hf o (by omega) (by omega))]
    congr 2
    rw [Array.setIfInBounds_setIfInBounds]
    rw [show off + (i + 1) = off + i + 1 by omega, over_cons (by omega)]
end
/- Loads and stores: the evaluator's and the program's. -/
section
open Go Go.RowKit
set_option linter.unusedVariables false

theorem run_underlying {P : Program} {t : TypeId} {d : TypeDesc} (h : P.underlying t = some d) (w : World) : (underlying t).run P w = .ok d w := by
  unfold underlying
  simp only [Sem.run_bind, run_program, Result.andThen_ok, h, Sem.run_pure]
theorem run_typeInfo {P : Program} {t : TypeId} {i : TypeInfo} (h : P.info? t = some i) (w : World) : (typeInfo t).run P w = .ok i w := by
  unfold typeInfo
  simp only [Sem.run_bind, run_program, Result.andThen_ok, h, Sem.run_pure]
theorem run_sizeOf {P : Program} {t : TypeId} {n : Nat} (h : typeSize P t = some n) (w : World) : (sizeOf t).run P w = .ok n w := by
  unfold typeSize at h
  obtain ⟨i, hi, rfl⟩ := Option.map_eq_some_iff.1 h
  unfold sizeOf
  simp only [Sem.run_bind, run_typeInfo hi, Result.andThen_ok, Sem.run_pure]
theorem run_zeroValue {P : Program} {t : TypeId} {z : Value} (h : zeroV P t = some z) (w : World) : (zeroValue t).run P w = .ok z w ∧ flat z = true := by
  unfold zeroV at h
  split at h
  · rename_i i hi
    split at h
    · rename_i z' hz
      split at h
      · rename_i hf
        cases h
        refine ⟨?_, hf⟩
        unfold zeroValue
        simp only [Sem.run_bind, run_typeInfo hi, Result.andThen_ok, hz, Sem.run_pure]
      · cases h
    · cases h
  · cases h
theorem run_isAgg {P : Program} {t : TypeId} {b : Bool} (h : aggB P t = some b) (w : World) : (isAgg t).run P w = .ok b w := by
  unfold aggB at h
  cases hd : P.underlying t with
  | none => rw [hd] at h; cases h
  | some d =>
    rw [hd] at h
    unfold isAgg
    simp only [Sem.run_bind, run_underlying hd, Result.andThen_ok]
    cases d <;> simp at h <;> subst h <;> rfl

section
variable {P : Program} {ρ : Ren} {a : AW} {w : World}
/-- An address in both memories. -/
def AtRel (ρ : Ren) (p p' : Addr) : Prop := ∀ I, ρ p.block = some I → p' = ⟨I.b, p.off + I.sh, none⟩
theorem AtRel.add {p p' : Addr} (h : AtRel ρ p p') (n : Nat) (s : Option Nat) : AtRel ρ ⟨p.block, p.off + n, s⟩ (p'.add n) := by
  intro I e
  rw [h I e]
  unfold Addr.add
  split
  · subst_vars; simp
  · simp; omega
theorem AtRel.spot {p p' : Addr} (h : AtRel ρ p p') (s : Option Nat) : AtRel ρ ⟨p.block, p.off, s⟩ p' := h
theorem AtRel.mono {ρ' : Ren} {K K' : Nat} {p p' : Addr} (h : AtRel ρ p p') (hp : p.block < K) (hx : Ext ρ K ρ' K') : AtRel ρ' p p' := fun I e => h I (hx.some hp e)

/-- What stands behind a block's cells. -/
theorem blk_view (h : WRel ρ a w) {i : Nat} {c : List Value} (hg : (∃ rw, a.get i = some (.cells c rw)) ∨ ∃ k, a.get i = some (.holey c k)) :
    ∃ I c' te fr, ρ i = some I ∧ w.heap[I.b]? = some (.cells c' te fr) ∧ (∀ (j : Nat) v, c[j]? = some v → ∃ v', c'[j + I.sh]? = some v' ∧ VRel ρ a.next v v') ∧
      (I.rw = true → c'.size = I.n ∧ (∀ o, o < I.n → ¬ (fr.1 ≤ o ∧ o < fr.2)) ∧ (I.fz = false → fr.2 = 0)) ∧ (∀ rw, a.get i = some (.cells c rw) → I.rw = rw) ∧ (∀ k, a.get i = some (.holey c k) → I.rw = true ∧ (0 < k → c.length + k + I.sh ≤ c'.size)) := by
  rcases hg with ⟨rw, hg⟩ | ⟨k, hg⟩
  · obtain ⟨I, e⟩ := h.has _ _ hg
    obtain ⟨b, o, g1, g2, g3⟩ := h.blk _ _ e
    rw [hg] at g1
    cases g1
    obtain ⟨hIrw, c', te, fr, rfl, hc, hw⟩ := g3.inv
    exact ⟨I, c', te, fr, e, g2, hc, hw, fun rw' h' => by rw [hg] at h'; cases h'; exact hIrw, fun k h' => by rw [hg] at h'; cases h'⟩
  · obtain ⟨I, e⟩ := h.has _ _ hg
    obtain ⟨b, o, g1, g2, g3⟩ := h.blk _ _ e
    rw [hg] at g1
    cases g1
    obtain ⟨hr, c', te, fr, rfl, hc, hk, hw⟩ := g3.invH
    exact ⟨I, c', te, fr, e, g2, hc, fun _ => ⟨hw.1, hw.2.1, fun _ => hw.2.2⟩, (fun rw' h' => by rw [hg] at h'; cases h'), fun k' h' => by rw [hg] at h'; cases h'; exact ⟨hr, hk⟩⟩
theorem sim_loads0 (h : WRel ρ a w) {p p' : Addr} {n : Nat} {vs : List Value} (hp : AtRel ρ p p') {c : List Value} (hg : (∃ rw, a.get p.block = some (.cells c rw)) ∨ ∃ k, a.get p.block = some (.holey c k)) (hle : p.off + n ≤ c.length) (hvs : vs = (c.drop p.off).take n) :
    ∃ vs', LRel ρ a.next vs vs' ∧ vs'.length = n ∧ ∀ w2 : World, w2.heap = w.heap → (loadCells p' n).run P w2 = .ok vs'.toArray w2 := by
  subst hvs
  obtain ⟨I, c', te, fr, e, g2, hc, hw, -, -⟩ := blk_view h hg
  obtain rfl := hp I e
  have hlen : ∀ j, j < n → ∃ v', c'[p.off + j + I.sh]? = some v' ∧ VRel ρ a.next (c[p.off + j]?.getD undef) v' := by
    intro j hj
    have hj' : c[p.off + j]? = some c[p.off + j] := List.getElem?_eq_getElem (by omega)
    obtain ⟨v', e1, e2⟩ := hc _ _ hj'
    exact ⟨v', e1, by rw [hj']; exact e2⟩
  refine ⟨(List.range n).map fun j => c'.getD (p.off + I.sh + j) undef, ?_, by simp, ?_⟩
  · refine LRel.of_get (by simp; omega) fun j v v' e1 e2 => ?_
    have hj : j < n := by
      have := (List.getElem?_eq_some_iff.1 e2).1; simpa using this
    obtain ⟨u, f1, f2⟩ := hlen j hj
    have e1' : c[p.off + j]? = some v := by
      rw [List.getElem?_take_of_lt hj, List.getElem?_drop] at e1; exact e1
    have e2' : v' = u := by
      simp only [List.getElem?_map, List.getElem?_range hj, Option.map_some, Option.some.injEq] at e2
      rw [← e2, Array.getD_eq_getD_getElem?, show p.off + I.sh + j = p.off + j + I.sh by omega, f1]; rfl
    rw [e1'] at f2
    exact e2' ▸ f2
  · intro w2 hh
    rw [← hh] at g2
    refine run_loadCells P w2 g2 (by simp) fun j v e1 => ?_
    have hj : j < n := by
      have := (List.getElem?_eq_some_iff.1 e1).1; simpa using this
    obtain ⟨u, f1, f2⟩ := hlen j hj
    simp only [List.getElem?_map, List.getElem?_range hj, Option.map_some, Option.some.injEq] at e1
    rw [show p.off + I.sh + j = p.off + j + I.sh by omega, f1, ← e1, Array.getD_eq_getD_getElem?, show p.off + I.sh + j = p.off + j + I.sh by omega, f1]; rfl
theorem sim_loads (h : WRel ρ a w) {p p' : Addr} {n : Nat} {vs : List Value} (hp : AtRel ρ p p') (hl : a.loadN p n = some vs) :
    ∃ vs', LRel ρ a.next vs vs' ∧ vs'.length = n ∧ ∀ w2 : World, w2.heap = w.heap → (loadCells p' n).run P w2 = .ok vs'.toArray w2 := by
  unfold AW.loadN at hl
  split at hl
  · rename_i c rw_ hg
    split at hl
    · rename_i hle
      cases hl
      exact sim_loads0 h hp (.inl ⟨_, hg⟩) hle rfl
    · cases hl
  · rename_i c k hg
    split at hl
    · rename_i hle
      cases hl
      exact sim_loads0 h hp (.inr ⟨_, hg⟩) hle rfl
    · cases hl
  · cases hl

theorem sim_loadN (h : WRel ρ a w) {p p' : Addr} {n : Nat} {vs : List Value} (hp : AtRel ρ p p') (hl : a.loadN p n = some vs) :
    ∃ vs', LRel ρ a.next vs vs' ∧ vs'.length = n ∧ (loadCells p' n).run P w = .ok vs'.toArray w :=
  let ⟨vs', h1, h2, h3⟩ := sim_loads (P := P) h hp hl
  ⟨vs', h1, h2, h3 w rfl⟩

theorem over_get {c : Array Value} {off : Nat} {vs : List Value} (h : off + vs.length ≤ c.size) (j : Nat) :
    (over c off vs)[j]? = if j < off then c[j]? else if j < off + vs.length then vs[j - off]? else c[j]? := by
  unfold over
  simp only [List.getElem?_toArray]
  have h1 : (c.toList.take off).length = off := by simp; omega
  by_cases hj : j < off
  · rw [if_pos hj, List.getElem?_append_left (by omega), List.getElem?_take_of_lt hj, Array.getElem?_toList]
  · rw [if_neg hj, List.getElem?_append_right (by omega), h1]
    by_cases hj2 : j < off + vs.length
    · rw [if_pos hj2, List.getElem?_append_left (by omega)]
    · rw [if_neg hj2, List.getElem?_append_right (by omega), List.getElem?_drop, Array.getElem?_toList]
      congr 1; omega

/-- Cells are written into a block in place (its own number stays). -/
theorem sim_storeN (h : WRel ρ a w) {p p' : Addr} {vs vs' : List Value} {a' : AW} (hp : AtRel ρ p p') (hv : LRel ρ a.next vs vs') (hs : a.storeN p vs = some a') :
    ∃ w', (storeCells p' vs').run P w = .ok () w' ∧ Step ρ a.next w ρ a' w' := by
  unfold AW.storeN at hs
  split at hs
  · rename_i c hg
    split at hs
    · rename_i hle
      cases hs
      obtain ⟨I, e⟩ := h.has _ _ hg
      obtain ⟨b, o, g1, g2, g3⟩ := h.blk _ _ e
      rw [hg] at g1
      cases g1
      obtain ⟨hIrw, c', te, fr, rfl, hc, hw⟩ := g3.inv
      obtain rfl := hp I e
      have hsz := hv.length
      · obtain ⟨hn, hf, hfz⟩ := hw hIrw
        have hlast : ∀ j, j < c.length → j + I.sh < c'.size := by
          intro j hj
          obtain ⟨v', e1, _⟩ := hc j c[j] (List.getElem?_eq_getElem hj)
          exact (Array.getElem?_eq_some_iff.1 e1).1
        by_cases hvs : vs.length = 0
        · obtain rfl := List.eq_nil_of_length_eq_zero hvs
          cases hv
          refine ⟨w, rfl, ?_⟩
          refine step_write h e hIrw (b := .cells (c.take p.off ++ ([] ++ c.drop (p.off + ([] : List Value).length))) true) (o := .cells c' te fr) ?_ g2 rfl (fun _ _ => rfl) rfl rfl rfl
          have hcc : c.take p.off ++ ([] ++ c.drop (p.off + ([] : List Value).length)) = c := by simp
          rw [hcc, ← hIrw]
          exact .cells hc hw
        · have hroom : p.off + I.sh + vs'.length ≤ c'.size := by
            have := hlast (p.off + vs.length - 1) (by omega)
            omega
          have hone : vs'.all Value.oneCell' = true := by
            have h1 := hle.2
            clear hle hroom hsz hvs
            induction hv with
            | nil => rfl
            | cons hh _ ih =>
              simp only [List.all_cons, Bool.and_eq_true] at h1 ⊢
              exact ⟨by rw [← hh.oneCell]; exact h1.1, ih h1.2⟩
          have hrun := run_stores P vs' w c' (p.off + I.sh) 0 g2 hone (by omega) (fun o h1 h2 => hf o (by omega))
          refine ⟨_, hrun, ?_⟩
          refine step_write h e hIrw (o := .cells (over c' (p.off + I.sh) vs') te fr) ?_ (by simp [(Array.getElem?_eq_some_iff.1 g2).1]) (by simp) (fun k hk => by simp [Ne.symm hk]) rfl rfl rfl
          rw [← hIrw]
          refine .cells (fun j v ej => ?_) (fun _ => ⟨by rw [over_size hroom]; exact hn, hf, hfz⟩)
          rw [over_get hroom]
          have h1 : (c.take p.off).length = p.off := by simp; omega
          by_cases hj : j < p.off
          · rw [if_pos (by omega)]
            rw [List.getElem?_append_left (by omega), List.getElem?_take_of_lt hj] at ej
            exact hc j v ej
          · rw [if_neg (by omega)]
            rw [List.getElem?_append_right (by omega), h1] at ej
            by_cases hj2 : j < p.off + vs.length
            · rw [if_pos (by omega)]
              rw [List.getElem?_append_left (by omega)] at ej
              obtain ⟨v', e1, e2⟩ := hv.get ej
              exact ⟨v', by rw [show j + I.sh - (p.off + I.sh) = j - p.off by omega]; exact e1, e2⟩
            · rw [if_neg (by omega)]
              rw [List.getElem?_append_right (by omega), List.getElem?_drop] at ej
              rw [show p.off + vs.length + (j - p.off - vs.length) = j by omega] at ej
              exact hc j v ej
    · cases hs
  · rename_i c k hg
    split at hs
    · rename_i hle
      cases hs
      obtain ⟨I, e⟩ := h.has _ _ hg
      obtain ⟨b, o, g1, g2, g3⟩ := h.blk _ _ e
      rw [hg] at g1
      cases g1
      obtain ⟨hIrw, c', te, fr, rfl, hc, hk, hn, hf, hfz⟩ := g3.invH
      obtain rfl := hp I e
      have hsz := hv.length
      have hlast : ∀ j, j < c.length → j + I.sh < c'.size := by
        intro j hj
        obtain ⟨v', e1, _⟩ := hc j c[j] (List.getElem?_eq_getElem hj)
        exact (Array.getElem?_eq_some_iff.1 e1).1
      by_cases hvs : vs.length = 0
      · obtain rfl := List.eq_nil_of_length_eq_zero hvs
        cases hv
        refine ⟨w, rfl, ?_⟩
        have hcc : c.take p.off ++ ([] ++ c.drop (p.off + ([] : List Value).length)) = c := by simp
        have hkk : c.length + k - max c.length (p.off + ([] : List Value).length) = k := by simp only [List.length_nil]; omega
        rw [hcc, hkk]
        exact step_write h e hIrw (.holey hc hk hIrw ⟨hn, hf, hfz⟩) g2 rfl (fun _ _ => rfl) rfl rfl rfl
      · have hroom : p.off + I.sh + vs'.length ≤ c'.size := by
          by_cases hin : p.off + vs.length ≤ c.length
          · have := hlast (p.off + vs.length - 1) (by omega)
            omega
          · have := hk (by omega)
            omega
        have hone : vs'.all Value.oneCell' = true := by
          have h1 := hle.2.2
          clear hle hroom hsz hvs
          induction hv with
          | nil => rfl
          | cons hh _ ih =>
            simp only [List.all_cons, Bool.and_eq_true] at h1 ⊢
            exact ⟨by rw [← hh.oneCell]; exact h1.1, ih h1.2⟩
        have hrun := run_stores P vs' w c' (p.off + I.sh) 0 g2 hone (by omega) (fun o h1 h2 => hf o (by omega))
        refine ⟨_, hrun, ?_⟩
        refine step_write h e hIrw (o := .cells (over c' (p.off + I.sh) vs') te fr) ?_ (by simp [(Array.getElem?_eq_some_iff.1 g2).1]) (by simp) (fun k hk => by simp [Ne.symm hk]) rfl rfl rfl
        refine .holey (fun j v ej => ?_) (fun hk' => ?_) hIrw ⟨by rw [over_size hroom]; exact hn, hf, hfz⟩
        · rw [over_get hroom]
          have h1 : (c.take p.off).length = p.off := by simp; omega
          by_cases hj : j < p.off
          · rw [if_pos (by omega)]
            rw [List.getElem?_append_left (by omega), List.getElem?_take_of_lt hj] at ej
            exact hc j v ej
          · rw [if_neg (by omega)]
            rw [List.getElem?_append_right (by omega), h1] at ej
            by_cases hj2 : j < p.off + vs.length
            · rw [if_pos (by omega)]
              rw [List.getElem?_append_left (by omega)] at ej
              obtain ⟨v', e1, e2⟩ := hv.get ej
              exact ⟨v', by rw [show j + I.sh - (p.off + I.sh) = j - p.off by omega]; exact e1, e2⟩
            · rw [if_neg (by omega)]
              rw [List.getElem?_append_right (by omega), List.getElem?_drop] at ej
              rw [show p.off + vs.length + (j - p.off - vs.length) = j by omega] at ej
              exact hc j v ej
        · rw [over_size hroom]
          have := hk (by omega)
          simp only [List.length_append, List.length_take, List.length_drop]
          omega
    · cases hs
  · cases hs

theorem sim_loadVar (h : WRel ρ a w) {t : TypeId} {p p' : Addr} {v : Value} (hp : AtRel ρ p p') (hl : loadVarA P t p a = some v) :
    ∃ v', (loadVar t p').run P w = .ok v' w ∧ VRel ρ a.next v v' := by
  unfold loadVarA at hl
  split at hl
  · rename_i ha
    split at hl
    · rename_i n hn
      split at hl
      · rename_i vs hvs
        cases hl
        obtain ⟨vs', hr, hlen, hrun⟩ := sim_loadN (P := P) h hp hvs
        refine ⟨.agg vs'.toArray, ?_, .agg' hr⟩
        unfold loadVar
        simp only [Sem.run_bind, run_isAgg ha, Result.andThen_ok, if_true, run_sizeOf hn, hrun, Sem.run_pure]
      · cases hl
    · cases hl
  · rename_i ha
    split at hl
    · rename_i u hvs
      cases hl
      obtain ⟨vs', hr, hlen, hrun⟩ := sim_loadN (P := P) h hp hvs
      cases hr with
      | cons hv hr => cases hr with
        | nil =>
          refine ⟨_, ?_, hv⟩
          unfold loadVar
          simp only [Sem.run_bind, run_isAgg ha, Result.andThen_ok, Bool.false_eq_true, if_false]
          unfold loadCells loadCellsFrom at hrun
          simp only [Sem.run_bind, Addr.add, if_true, loadCellsFrom, Sem.run_pure] at hrun
          cases hL : (load p').run P w with
          | ok u w2 =>
            rw [hL] at hrun
            simp only [Result.andThen_ok, Result.ok.injEq] at hrun
            obtain ⟨h1, h2⟩ := hrun
            rw [h2]
            congr 1
            have := congrArg Array.toList h1
            simpa using this
          | halt x w2 => rw [hL] at hrun; simp at hrun
    · cases hl
  · cases hl

theorem sim_storeVar (h : WRel ρ a w) {t : TypeId} {p p' : Addr} {v v' : Value} {a' : AW} (hp : AtRel ρ p p') (hv : VRel ρ a.next v v') (hs : storeVarA P t p v a = some a') :
    ∃ w', (storeVar t p' v').run P w = .ok () w' ∧ Step ρ a.next w ρ a' w' := by
  unfold storeVarA at hs
  split at hs
  · rename_i n hn
    split at hs
    · rename_i hc
      have hcell := hv.cells
      obtain ⟨w', hrun, hst⟩ := sim_storeN (P := P) h hp hcell hs
      refine ⟨w', ?_, hst⟩
      have hsz : v'.cells.size = n := by rw [← hc]; simpa using hcell.length.symm
      unfold storeVar
      simp only [Sem.run_bind, run_sizeOf hn, Result.andThen_ok, hsz, ne_eq, not_true_eq_false, if_false]
      exact hrun
    · cases hs
  · cases hs
end
end
/- Operations that ask no memory: the evaluator's and the program's. -/
section
open Go Go.RowKit
set_option linter.unusedVariables false
set_option linter.unusedSimpArgs false

theorem run_prun {α : Type} {P : Program} {s : Sem α} {x : α} (h : prun P s = some x) (w : World) : s.run P w = .ok x w := by
  induction s with
  | pure a => simp only [prun, Option.some.injEq] at h; subst h; rfl
  | program k ih => simp only [prun] at h; simp only [Sem.run]; exact ih _ h
  | mark m k ih => simp only [prun] at h; simp only [Sem.run]; exact ih h
  | _ => simp [prun] at h
theorem run_prunF {P : Program} {s : Sem Value} {x : Value} (h : prunF P s = some x) (w : World) : s.run P w = .ok x w ∧ flat x = true := by
  unfold prunF at h
  split at h
  · rename_i v e
    split at h
    · cases h; exact ⟨run_prun e w, ‹_›⟩
    · cases h
  · cases h
theorem run_value {P : Program} {s : Sem Value} {v : Value} {w w' : World} (h : s.run P w = .ok v w') : (s >>= fun x => (Pure.pure (Next.value x) : Sem Next)).run P w = .ok (.value v) w' := by
  rw [Sem.run_bind, h]; rfl

section
variable {P : Program} {ρ : Ren} {K : Nat} {tmps : List Value} {a : Act}
theorem rel_undef : VRel ρ K undef undef := .tuple rfl (fun i p => by simp at p)
theorem rel_getD {l l' : List Value} (h : LRel ρ K l l') (t : Nat) : VRel ρ K (l.getD t undef) (l'.getD t undef) := by
  rw [List.getD_eq_getElem?_getD, List.getD_eq_getElem?_getD]
  cases e : l[t]? with
  | none =>
    have : l'[t]? = none := by
      have hl := h.length
      rw [List.getElem?_eq_none_iff] at e ⊢; omega
    rw [this]; exact rel_undef
  | some v =>
    obtain ⟨v', e', hv⟩ := h.get e
    rw [e']; exact hv
theorem rel_eval (h : TRel ρ K tmps a.tmps) {x : Operand} {v : Value} (e : evalA tmps x = some v) : VRel ρ K v (a.eval x) := by
  cases x with
  | tmp t =>
    simp only [evalA, Option.some.injEq] at e
    subst e
    have := rel_getD h t
    simpa [Act.eval, Array.getD_eq_getD_getElem?, List.getD_eq_getElem?_getD] using this
  | const v0 =>
    simp only [evalA] at e
    split at e
    · cases e; exact flat_self ‹_›
    · cases e
  | global g => cases e
  | func f => cases e; exact .func (.func f) rfl (fun i p => by simp at p) rfl (fun i p => by simp at p)
theorem rel_evals (h : TRel ρ K tmps a.tmps) : ∀ {l : List Operand} {vs : List Value}, evals tmps l = some vs → LRel ρ K vs (l.map a.eval)
  | [], vs, e => by cases e; exact .nil
  | x :: l, vs, e => by
    simp only [evals] at e
    split at e
    · rename_i v us e1 e2
      cases e
      exact .cons (rel_eval h e1) (rel_evals h e2)
    · cases e
inductive OpRel (ρ : Ren) (K : Nat) : Option Value → Option Value → Prop
  | none : OpRel ρ K none none
  | some {v v' : Value} (h : VRel ρ K v v') : OpRel ρ K (some v) (some v')
theorem rel_evalO (h : TRel ρ K tmps a.tmps) {x : Option Operand} {v : Option Value} (e : evalO tmps x = some v) : OpRel ρ K v (x.map a.eval) := by
  cases x with
  | none => cases e; exact .none
  | some x =>
    simp only [evalO] at e
    obtain ⟨u, e1, rfl⟩ := Option.map_eq_some_iff.1 e
    exact .some (rel_eval h e1)
inductive PsRel (ρ : Ren) (K : Nat) : List (Nat × Value) → List (Nat × Value) → Prop
  | nil : PsRel ρ K [] []
  | cons (i : Nat) {v v' : Value} {l l' : List (Nat × Value)} (h : VRel ρ K v v') (r : PsRel ρ K l l') : PsRel ρ K ((i, v) :: l) ((i, v') :: l')
theorem rel_parts (h : TRel ρ K tmps a.tmps) : ∀ {l : List (Nat × Operand)} {vs : List (Nat × Value)}, partsA tmps l = some vs → PsRel ρ K vs (l.map fun (i, x) => (i, a.eval x))
  | [], vs, e => by cases e; exact .nil
  | (i, x) :: l, vs, e => by
    simp only [partsA] at e
    split at e
    · rename_i v us e1 e2
      cases e
      exact .cons i (rel_eval h e1) (rel_parts h e2)
    · cases e

/-! ### bounds and slices -/
theorem run_bound {x x' : Value} (h : VRel ρ K x x') {y y' n : Nat} (hy : y ≤ y') (c : BoundsCode) (w : World) (e : boundA x y = some n) : (Instr.sliceBound x' y' c).run P w = .ok n w := by
  unfold boundA at e
  split at e
  · rename_i k i
    split at e
    · rename_i hi
      cases e
      cases h
      unfold Instr.sliceBound
      simp only [asIntOf, Sem.run_bind, Sem.run_pure, Result.andThen_ok, if_pos (show 0 ≤ i ∧ i ≤ (y' : Int) by omega)]
    · cases e
  · cases e
theorem run_bounds {lo lo' hi hi' mx mx' : Option Value} (h1 : OpRel ρ K lo lo') (h2 : OpRel ρ K hi hi') (h3 : OpRel ρ K mx mx') {len cap cap' : Nat} (hy : cap ≤ cap') {l h m : Nat} (s : Bool) (w : World)
    (e : boundsA len cap lo hi mx = some (l, h, m)) : (Instr.sliceBounds s len cap' lo' hi' mx').run P w = .ok (l, h, if mx.isSome then m else cap') w := by
  unfold boundsA at e
  unfold Instr.sliceBounds
  cases h3 with
  | none =>
    simp only at e
    cases h2 with
    | none =>
      simp only at e
      cases h1 with
      | none => cases e; rfl
      | some hl =>
        obtain ⟨l, e1, e2⟩ := Option.map_eq_some_iff.1 e
        cases e2
        simp [Sem.run_bind, Sem.run_pure, Result.andThen_ok, run_bound hl (Nat.le_refl _) _ w e1]
    | some hh =>
      simp only at e
      split at e
      · rename_i h0 eh
        cases h1 with
        | none =>
          cases e
          simp [Sem.run_bind, Sem.run_pure, Result.andThen_ok, run_bound hh hy _ w eh]
        | some hl =>
          obtain ⟨l, e1, e2⟩ := Option.map_eq_some_iff.1 e
          cases e2
          simp [Sem.run_bind, Sem.run_pure, Result.andThen_ok, run_bound hh hy _ w eh, run_bound hl (Nat.le_refl _) _ w e1]
      · cases e
  | some hm =>
    cases h2 with
    | none =>
      simp only at e
      split at e
      · rename_i h; cases h
      · cases e
    | some hh =>
      simp only at e
      split at e
      · rename_i m hv em eh
        cases eh
        split at e
        · rename_i h0 eh
          cases h1 with
          | none =>
            cases e
            simp [Sem.run_bind, Sem.run_pure, Result.andThen_ok, run_bound hm hy _ w em, run_bound hh (Nat.le_refl _) _ w eh]
          | some hl =>
            obtain ⟨l, e1, e2⟩ := Option.map_eq_some_iff.1 e
            cases e2
            simp [Sem.run_bind, Sem.run_pure, Result.andThen_ok, run_bound hm hy _ w em, run_bound hh (Nat.le_refl _) _ w eh, run_bound hl (Nat.le_refl _) _ w e1]
        · cases e
      · cases e
theorem bound_le {x : Value} {y n : Nat} (e : boundA x y = some n) : n ≤ y := by
  unfold boundA at e
  split at e
  · split at e
    · cases e; omega
    · cases e
  · cases e
/-- low, high, max in their order; without a max: the capacity; without a high: the length. -/
theorem bounds_facts {lo hi mx : Option Value} {len cap l h m : Nat} (e : boundsA len cap lo hi mx = some (l, h, m)) (hlc : len ≤ cap) : l ≤ h ∧ h ≤ m ∧ m ≤ cap ∧ (mx = none → m = cap) := by
  unfold boundsA at e
  split at e
  · rename_i v
    split at e
    · rename_i m0 hv em
      split at e
      · rename_i h0 eh
        split at e
        · obtain ⟨l0, e1, e2⟩ := Option.map_eq_some_iff.1 e
          cases e2
          exact ⟨bound_le e1, bound_le eh, bound_le em, fun h => (by cases h)⟩
        · cases e
          exact ⟨Nat.zero_le _, bound_le eh, bound_le em, fun h => (by cases h)⟩
      · cases e
    · cases e
  · split at e
    · split at e
      · rename_i h0 eh
        split at e
        · obtain ⟨l0, e1, e2⟩ := Option.map_eq_some_iff.1 e
          cases e2
          exact ⟨bound_le e1, bound_le eh, Nat.le_refl _, fun _ => rfl⟩
        · cases e
          exact ⟨Nat.zero_le _, bound_le eh, Nat.le_refl _, fun _ => rfl⟩
      · cases e
    · split at e
      · obtain ⟨l0, e1, e2⟩ := Option.map_eq_some_iff.1 e
        cases e2
        exact ⟨bound_le e1, hlc, Nat.le_refl _, fun _ => rfl⟩
      · cases e
        exact ⟨Nat.zero_le _, hlc, Nat.le_refl _, fun _ => rfl⟩
theorem strSub_eq (s : ByteArray) (l h : Nat) : strSub s l h = s.extract l h := by
  apply ByteArray.ext
  rw [ByteArray.data_extract]
  apply Array.ext'
  rw [Array.toList_extract]
  simp [strSub, mkStr, strOf, List.drop_take]
theorem run_slice {v v' : Value} (hv : VRel ρ K v v') {lo lo' hi hi' mx mx' : Option Value} (h1 : OpRel ρ K lo lo') (h2 : OpRel ρ K hi hi') (h3 : OpRel ρ K mx mx') {t : TypeId} {r : Value} (w : World)
    (e : sliceA P t v lo hi mx = some r) : ∃ r', (Instr.sliceAt t v' lo' hi' mx').run P w = .ok r' w ∧ VRel ρ K r r' := by
  have hsome : mx'.isSome = mx.isSome := by cases h3 <;> rfl
  unfold sliceA at e
  split at e
  · -- a string
    rename_i s hu
    cases hv
    split at e
    · cases e
    · rename_i hm
      obtain ⟨⟨l, h, m⟩, e1, rfl⟩ := Option.map_eq_some_iff.1 e
      have hmx : mx = none := by simpa using hm
      subst hmx
      cases h3
      refine ⟨.string (s.extract l h), ?_, by show VRel ρ K (.string (strSub s l h)) _; rw [strSub_eq]; exact .string _⟩
      unfold Instr.sliceAt Instr.slice
      simp only [Sem.run_bind, run_underlying hu, Result.andThen_ok, Option.isSome_none, Bool.false_eq_true, if_false, Sem.run_pure, run_bounds h1 h2 .none (Nat.le_refl _) false w e1]
  · -- nil
    rename_i te len cap hu
    cases hv
    split at e
    · rename_i z hz
      obtain ⟨⟨l, h, m⟩, e1, rfl⟩ := Option.map_eq_some_iff.1 e
      have hm : (if mx.isSome then m else cap) = m := by
        split
        · rfl
        · rename_i hh
          have : mx = none := by simpa using hh
          subst this
          unfold boundsA at e1
          simp only at e1
          split at e1
          · split at e1
            · split at e1
              · obtain ⟨_, _, e2⟩ := Option.map_eq_some_iff.1 e1; cases e2; rfl
              · cases e1; rfl
            · cases e1
          · split at e1
            · obtain ⟨_, _, e2⟩ := Option.map_eq_some_iff.1 e1; cases e2; rfl
            · cases e1; rfl
      refine ⟨.slice none (h - l) (m - l), ?_, .sliceNil _ _⟩
      unfold Instr.sliceAt Instr.slice
      simp only [Sem.run_bind, run_underlying hu, Result.andThen_ok, Sem.run_pure, run_bounds h1 h2 h3 (Nat.le_refl _) true w e1, run_sizeOf hz, hm, Option.map_none, ite_self]
    · cases e
  · -- a slice
    rename_i te p len cap hu
    cases hv with
    | @slice _ p' _ _ cap' hK ha hn hc h0 hg =>
      split at e
      · rename_i z hz
        split at e
        · cases e
        rename_i hspot
        obtain ⟨⟨l, h, m⟩, e1, rfl⟩ := Option.map_eq_some_iff.1 e
        obtain ⟨f1, f2, f3, f4⟩ := bounds_facts e1 hn
        refine ⟨.slice (if (if mx.isSome then m else cap') = l then some p' else some (p'.add (l * z))) (h - l) ((if mx.isSome then m else cap') - l), ?_, ?_⟩
        · unfold Instr.sliceAt Instr.slice
          simp only [Sem.run_bind, run_underlying hu, Result.andThen_ok, Sem.run_pure, run_bounds h1 h2 h3 hc true w e1, run_sizeOf hz, Option.map_some]
        · have hadd : ∀ I, ρ p.block = some I → ∀ n, p' = ⟨I.b, p.off + I.sh, none⟩ → p'.add n = ⟨I.b, p.off + n + I.sh, none⟩ := by
            intro I e n hp
            rw [hp]
            unfold Addr.add
            split
            · subst_vars; rfl
            · simp only [Addr.mk.injEq, and_true, true_and]; omega
          rw [show (if (if mx.isSome then m else cap') = l then some p' else some (p'.add (l * z))) = some (if (if mx.isSome then m else cap') = l then p' else p'.add (l * z)) by by_cases hq : (if mx.isSome then m else cap') = l <;> simp only [hq, if_true, if_false]]
          by_cases hm : mx.isSome
          · simp only [hm, if_true, true_or, true_and]
            refine .slice hK (fun I eI => ?_) (by omega) (Nat.le_refl _) (fun _ => rfl) (fun z' hz' => by simp at hz')
            by_cases hml : m = l
            · exact .inl (by omega)
            · right
              rw [if_neg hml, if_neg hml]
              rcases ha I eI with hz0 | hp
              · omega
              · exact hadd I eI _ hp
          · have hmn : mx = none := by simpa using hm
            have hmc := f4 hmn
            subst hmc
            simp only [hm, if_false, Bool.false_eq_true, false_or]
            refine .slice hK (fun I eI => ?_) (by omega) (by omega) (fun hs => by rw [h0 hs]) (fun z' hz' I eI => ?_)
            · by_cases hc0 : cap' - l = 0
              · exact .inl hc0
              · right
                have hp : p' = ⟨I.b, p.off + I.sh, none⟩ := (ha I eI).resolve_left (by omega)
                rw [if_neg (by omega)]
                by_cases hx : p.spot = some 0 ∧ m = l
                · exact absurd (h0 hx.1) (by omega)
                · rw [if_neg hx]; exact hadd I eI _ hp
            · obtain ⟨g1, g2, g3⟩ := hg z' hz' I eI
              refine ⟨g1, ?_, g3⟩
              have hzz : z' = z := by
                apply Classical.byContradiction
                intro hne
                refine hspot ⟨by rw [hmn]; rfl, ?_, ?_, ?_⟩ <;> rw [hz'] <;> simp <;> omega
              subst hzz
              rw [if_neg (by rw [hz']; simp)]
              have e1 : (cap' - l) * z' + l * z' = cap' * z' := by rw [← Nat.add_mul, Nat.sub_add_cancel (by omega)]
              show p.off + l * z' + I.sh + (cap' - l) * z' ≤ I.n
              omega
      · cases e
  · -- an array
    rename_i n te p hu
    cases hv with
    | @ptr _ p' hK hs ha =>
      split at e
      · rename_i z hz
        obtain ⟨⟨l, h, m⟩, e1, rfl⟩ := Option.map_eq_some_iff.1 e
        obtain ⟨f1, f2, f3, f4⟩ := bounds_facts e1 (Nat.le_refl _)
        have hm : (if mx.isSome then m else n) = m := by
          split
          · rfl
          · rename_i hh; exact (f4 (by simpa using hh)).symm
        refine ⟨.slice (some (if m = l then p' else p'.add (l * z))) (h - l) (m - l), ?_, ?_⟩
        · unfold Instr.sliceAt
          simp only [Sem.run_bind, run_underlying hu, Result.andThen_ok, Sem.run_pure, run_bounds h1 h2 h3 (Nat.le_refl _) false w e1, run_sizeOf hz, hm, Instr.sureAddr]
        · refine .slice hK (fun I eI => ?_) (by omega) (Nat.le_refl _) (fun _ => rfl) (fun z' hz' => by simp at hz')
          right
          rw [ha I eI]
          split
          · rfl
          · unfold Addr.add
            split
            · rename_i h0; simp [h0]
            · simp only [Addr.mk.injEq, and_true, true_and]; omega
      · cases e
  · cases e
end
end
/- Operations that ask no memory, one by one. -/
section
open Go Go.RowKit
set_option linter.unusedVariables false
set_option linter.unusedSimpArgs false

section
variable {P : Program} {ρ : Ren} {K : Nat} {tmps : List Value} {a : Act}

/-! ### filling -/
theorem fold_over (off : Nat) : ∀ (l : List Value) (k : Nat) (c : Array Value), off + k + l.length ≤ c.size →
    (l.zipIdx k).foldl (fun cs (x : Value × Nat) => cs.setIfInBounds (off + x.2) x.1) c = over c (off + k) l := by
  intro l
  induction l with
  | nil => intro k c _; simp [over]
  | cons v l ih =>
    intro k c h
    simp only [List.length_cons] at h
    simp only [List.zipIdx_cons, List.foldl_cons]
    rw [ih (k + 1) _ (by simp; omega), show off + (k + 1) = off + k + 1 by omega, over_cons (by omega)]
theorem run_fill {place : Nat → Option (Nat × Nat)} : ∀ {vs vs' : List (Nat × Value)} {c r : List Value} {c' : Array Value}, PsRel ρ K vs vs' → LRel ρ K c c'.toList → fillA place c vs = some r →
    ∃ r', Instr.fill place c' vs' = some r' ∧ LRel ρ K r r'.toList
  | _, _, c, r, c', .nil, hc, e => by cases e; exact ⟨c', rfl, hc⟩
  | _, _, c, r, c', .cons i (v := v) (v' := v') h hr, hc, e => by
    simp only [fillA] at e
    unfold Instr.fill
    split at e
    · cases e
    · rename_i off size hp
      have hcl := h.cells
      have hsz : v.cells.size = v'.cells.size := by simpa using hcl.length
      have hlen : c.length = c'.size := by simpa using hc.length
      split at e
      · cases e
      · rename_i hcond
        simp only [hp]
        simp only [bne_iff_ne, ne_eq, Bool.or_eq_true, decide_eq_true_eq, not_or, Decidable.not_not, Nat.not_lt] at hcond
        rw [if_neg (by rw [← hsz, ← hlen]; simp only [bne_iff_ne, ne_eq, Bool.or_eq_true, decide_eq_true_eq, not_or, Decidable.not_not, Nat.not_lt]; exact hcond)]
        have hfold : (v'.cells.zipIdx.foldl (fun cs (x : Value × Nat) => cs.setIfInBounds (off + x.2) x.1) c') = over c' off v'.cells.toList := by
          rw [← Array.foldl_toList, Array.toList_zipIdx]
          have := fold_over off v'.cells.toList 0 c' (by simp; omega)
          simpa using this
        have hrel : LRel ρ K (c.take off ++ (v.cells.toList ++ c.drop (off + v.cells.size))) (over c' off v'.cells.toList).toList := by
          have e2 : off + v.cells.size = off + v'.cells.toList.length := by rw [hsz]; simp
          unfold over
          rw [e2]
          exact (hc.take off).append (hcl.append (hc.drop _))
        rw [hfold]
        exact run_fill hr hrel e

theorem run_mapM {α β : Type} (P : Program) (w : World) (f : α → Sem β) : ∀ (l : List α) (r : List β), l.length = r.length → (∀ (i : Nat) (x : α) (y : β), l[i]? = some x → r[i]? = some y → (f x).run P w = .ok y w) → (l.mapM f).run P w = .ok r w := by
  intro l
  induction l with
  | nil => intro r hl _; cases r with
    | nil => rfl
    | cons => simp at hl
  | cons x l ih =>
    intro r hl h
    cases r with
    | nil => simp at hl
    | cons y r =>
      have h0 := h 0 x y rfl rfl
      have h1 := ih r (by simpa using hl) (fun i x y e e' => h (i + 1) x y (by simpa using e) (by simpa using e'))
      simp only [List.mapM_cons, Sem.run_bind, h0, Result.andThen_ok, h1, Sem.run_pure]
theorem places_len : ∀ {l : List Field} {r : List (Nat × Nat)}, placesA P l = some r → l.length = r.length ∧ ∀ (i : Nat) f y, l[i]? = some f → r[i]? = some y → y.1 = f.offset ∧ typeSize P f.type = some y.2
  | [], r, e => by cases e; exact ⟨rfl, fun i f y h => by simp at h⟩
  | f :: l, r, e => by
    simp only [placesA] at e
    split at e
    · rename_i n l0 e1 e2
      cases e
      obtain ⟨h1, h2⟩ := places_len e2
      refine ⟨by simp [h1], fun i g y h h' => ?_⟩
      cases i with
      | zero => simp at h h'; subst h h'; exact ⟨rfl, e1⟩
      | succ i => exact h2 i g y (by simpa using h) (by simpa using h')
    · cases e
theorem run_places {fs : Array Field} {r : List (Nat × Nat)} (h : placesA P fs.toList = some r) (w : World) :
    (fs.mapM fun (f : Field) => (do pure (f.offset, ← sizeOf f.type) : Sem (Nat × Nat))).run P w = .ok r.toArray w := by
  obtain ⟨h1, h2⟩ := places_len h
  rw [Array.mapM_eq_mapM_toList, Sem.run_map]
  rw [run_mapM P w _ fs.toList r h1 fun i f y e e' => ?_]
  · rfl
  · obtain ⟨g1, g2⟩ := h2 i f y e e'
    simp only [Sem.run_bind, run_sizeOf g2, Result.andThen_ok, Sem.run_pure, ← g1]
theorem run_build {t : TypeId} {parts : Array (Nat × Operand)} {z : Value} {pl : Nat → Option (Nat × Nat)} {vs : List (Nat × Value)} {r : List Value} (h : TRel ρ K tmps a.tmps) (hz : zeroV P t = some z)
    (hp : fillPlace P t = some pl) (hv : partsA tmps parts.toList = some vs) (hf : fillA pl z.cells.toList vs = some r) (w : World) :
    ∃ v', (Instr.build t (parts.map fun (i, x) => (i, a.eval x))).run P w = .ok v' w ∧ VRel ρ K (.agg r.toArray) v' := by
  obtain ⟨hz1, hz2⟩ := run_zeroValue hz w
  have hzr : LRel ρ K z.cells.toList z.cells.toList := (flat_self hz2).cells
  have hps := rel_parts h hv
  obtain ⟨r', hr1, hr2⟩ := run_fill hps hzr hf
  refine ⟨.agg r', ?_, by have := VRel.agg' (ρ := ρ) (K := K) hr2; simpa using this⟩
  unfold fillPlace at hp
  unfold Instr.build
  split at hp
  · rename_i fields hu
    obtain ⟨l, hl, rfl⟩ := Option.map_eq_some_iff.1 hp
    simp only [Sem.run_bind, hz1, Result.andThen_ok, run_underlying hu, run_places hl]
    have : (fun (i : Nat) => (l.toArray)[i]?) = (fun (i : Nat) => l[i]?) := by funext i; simp
    simp only [this, Array.toList_map, hr1, Sem.run_pure]
  · rename_i n e hu
    obtain ⟨n, hn, rfl⟩ := Option.map_eq_some_iff.1 hp
    simp only [Sem.run_bind, hz1, Result.andThen_ok, run_underlying hu, run_sizeOf hn, Array.toList_map, hr1, Sem.run_pure]
  · cases hp

/-! ### parts -/
theorem run_part {t : TypeId} {cs cs' : Array Value} {off : Nat} {v : Value} (hc : LRel ρ K cs.toList cs'.toList) (h : partA P t cs off = some v) (w : World) :
    ∃ v', (part t cs' off).run P w = .ok v' w ∧ VRel ρ K v v' := by
  unfold partA at h
  unfold part
  split at h
  · rename_i ha
    obtain ⟨n, hn, rfl⟩ := Option.map_eq_some_iff.1 h
    refine ⟨.agg (cs'.extract off (off + n)), ?_, ?_⟩
    · simp only [Sem.run_bind, run_isAgg ha, Result.andThen_ok, if_true, run_sizeOf hn, Sem.run_pure]
    · have := VRel.agg' (ρ := ρ) (K := K) ((hc.take (off + n)).drop off)
      have e : ∀ c : Array Value, ((c.toList.take (off + n)).drop off).toArray = c.extract off (off + n) := by
        intro c; apply Array.ext'; rw [Array.toList_extract]; simp [List.drop_take]
      rwa [e, e] at this
  · rename_i ha
    have h' : cs.toList[off]? = some v := by simpa using h
    obtain ⟨v', e, hv⟩ := hc.get h'
    have e' : cs'[off]? = some v' := by simpa using e
    refine ⟨v', ?_, hv⟩
    simp only [Sem.run_bind, run_isAgg ha, Result.andThen_ok, Bool.false_eq_true, if_false, e', Sem.run_pure]
  · cases h
theorem agg_inv {cs : Array Value} {v' : Value} (h : VRel ρ K (.agg cs) v') : ∃ cs', v' = .agg cs' ∧ LRel ρ K cs.toList cs'.toList := by
  cases h with | agg hc h => exact ⟨_, rfl, LRel.of_arr hc h⟩
theorem run_indexAddr {t : TypeId} {x x' i i' r : Value} (hx : VRel ρ K x x') (hi : VRel ρ K i i') (h : indexAddrA P t x i = some r) (w : World) :
    ∃ r', (Instr.indexAt t x' i').run P w = .ok r' w ∧ VRel ρ K r r' := by
  have hadd : ∀ (p p' : Addr) (I : Info) (n : Nat), p' = ⟨I.b, p.off + I.sh, none⟩ → p'.add n = ⟨I.b, p.off + n + I.sh, none⟩ := by
    intro p p' I n hp
    rw [hp]
    unfold Addr.add
    split
    · subst_vars; rfl
    · simp only [Addr.mk.injEq, and_true, true_and]; omega
  unfold indexAddrA at h
  unfold Instr.indexAt
  split at h
  · rename_i e p len c k j hu
    cases hi
    split at h
    · rename_i z hz
      split at h
      · rename_i hj
        cases h
        cases hx with
        | @slice _ p' _ _ c' hK ha hn hc h0 hg =>
          refine ⟨.pointer (some (p'.add (j.toNat * z))), ?_, .ptr hK rfl fun I eI => ?_⟩
          · simp only [asIntOf, Sem.run_bind, Sem.run_pure, Result.andThen_ok, run_underlying hu, run_sizeOf hz, if_pos hj]
          · exact hadd p p' I _ ((ha I eI).resolve_left (by omega))
      · cases h
    · cases h
  · rename_i len e p k j hu
    cases hi
    split at h
    · rename_i z hz
      split at h
      · rename_i hj
        cases h
        cases hx with
        | @ptr _ p' hK hs ha =>
          refine ⟨.pointer (some (p'.add (j.toNat * z))), ?_, .ptr hK rfl fun I eI => hadd p p' I _ (ha I eI)⟩
          simp only [asIntOf, Sem.run_bind, Sem.run_pure, Result.andThen_ok, run_underlying hu, run_sizeOf hz, Instr.sureAddr, if_pos hj]
      · cases h
    · cases h
  · cases h
theorem run_index {t : TypeId} {x x' i i' r : Value} (hx : VRel ρ K x x') (hi : VRel ρ K i i') (h : indexA P t x i = some r) (w : World) :
    ∃ r', (Instr.index t x' i').run P w = .ok r' w ∧ VRel ρ K r r' := by
  unfold indexA at h
  unfold Instr.index
  split at h
  · rename_i len e cs k j hu
    cases hi
    obtain ⟨cs', rfl, hcs⟩ := agg_inv hx
    split at h
    · rename_i z hz
      split at h
      · rename_i hj
        obtain ⟨v', hr, hv⟩ := run_part (P := P) hcs h w
        refine ⟨v', ?_, hv⟩
        simp only [asIntOf, Sem.run_bind, Sem.run_pure, Result.andThen_ok, run_underlying hu, run_sizeOf hz, if_pos hj, hr]
      · cases h
    · cases h
  · rename_i s k j hu
    cases hi
    cases hx
    split at h
    · rename_i hj
      split at h
      · rename_i b hb
        cases h
        refine ⟨.int .u8 b.toNat, ?_, .int _ _⟩
        simp only [asIntOf, Sem.run_bind, Sem.run_pure, Result.andThen_ok, run_underlying hu, if_pos hj, hb]
      · cases h
    · cases h
  · cases h

/-! ### two operands -/
theorem run_str {op : BinOp} {x y : ByteArray} {r : Value} (h : strA op x y = some r) (w : World) : (Op.stringOp op x y).run P w = .ok r w := by
  have heq : ∀ a b : List UInt8, eqBytes a b = (a == b) := by
    intro a
    induction a with
    | nil => intro b; cases b <;> rfl
    | cons u a ih =>
      intro b
      cases b with
      | nil => rfl
      | cons v b =>
        simp only [eqBytes, ih b, List.cons_beq_cons]
        congr 1
        rw [Bool.eq_iff_iff]
        simp [UInt8.toNat_inj]
  have happ : mkStr (strOf x ++ strOf y) = x ++ y := by
    apply ByteArray.ext; apply Array.ext'; simp [mkStr, strOf]
  have hx : x.toList = strOf x := Lib.toList_data x
  have hy : y.toList = strOf y := Lib.toList_data y
  unfold Op.stringOp
  simp only [hx, hy]
  unfold strA at h
  cases op <;> simp only [heq] at h ⊢ <;> first
    | (cases h; done)
    | (cases h; rfl)
    | (split at h
       · rename_i hs
         cases h
         rw [happ, if_neg (by simp [IntKind.max, IntKind.bits, IntKind.signed]; omega)]
         rfl
       · cases h)
theorem run_nilEq {t : TypeId} {d : TypeDesc} (hu : P.underlying t = some d) {v v' u u' : Value} (hv : VRel ρ K v v') (hw : VRel ρ K u u') {c : Bool} (h : nilEq d v u = some c) (w : World) :
    (Op.equal t v' u').run P w = .ok c w := by
  unfold Op.equal Op.maxDepth
  unfold Op.equalIn
  simp only [Sem.run_bind, run_underlying hu, Result.andThen_ok]
  unfold nilEq at h
  split at h <;> cases h <;> cases hv <;> cases hw <;> simp [Sem.run_pure]
theorem run_bin0 {op : BinOp} {t : TypeId} {x y : Operand} {v v' u u' r : Value} (hv : VRel ρ K v v') (hu : VRel ρ K u u') (h : binA0 P op t x y v u = some r) (w : World) :
    ∃ r', (eqGuard op t x y v' u' >>= fun _ => binOp op t v' u').run P w = .ok r' w ∧ VRel ρ K r r' := by
  unfold binA0 at h
  split at h
  · cases hv
    cases hu
    refine ⟨r, ?_, ?_⟩
    · have hg : ∀ s s' : ByteArray, (eqGuard op t x y (.string s) (.string s')).run P w = .ok () w := by
        intro s s'; unfold eqGuard; cases op <;> rfl
      rw [Sem.run_bind, hg, Result.andThen_ok]
      rw [← run_str h w]
      cases op <;> rfl
    · unfold strA at h
      split at h <;> first
        | (cases h; exact .bool _)
        | (split at h
           · cases h; exact .string _
           · cases h)
        | cases h
  · split at h
    · rename_i hf
      simp only [Bool.and_eq_true] at hf
      have e1 := flat_eq hf.1 hv
      have e2 := flat_eq hf.2 hu
      subst e1 e2
      exact ⟨r, (run_prunF h w).1, flat_self (run_prunF h w).2⟩
    · split at h
      · rename_i d hd
        split at h
        · rename_i c hc
          split at h
          · rename_i hco
            cases h
            refine ⟨.bool c, ?_, .bool _⟩
            have heq := run_nilEq hd hv hu hc w
            have hg : (eqGuard .eql t x y v' u').run P w = .ok () w := by
              clear heq
              unfold nilEq at hc
              split at hc <;> cases hc <;> cases hv <;> cases hu <;> first
                | rfl
                | (cases x <;> cases y <;> first
                    | rfl
                    | (simp [isConstO] at hco; done))
            rw [Sem.run_bind, hg, Result.andThen_ok]
            have hb : binOp .eql t v' u' = (do pure (.bool (← Op.equal t v' u'))) := by
              clear heq hg
              unfold nilEq at hc
              split at hc <;> cases hc <;> cases hv <;> cases hu <;> rfl
            rw [hb, Sem.run_bind, heq]; rfl
          · cases h
        · rename_i c hc
          split at h
          · rename_i hco
            cases h
            refine ⟨.bool (!c), ?_, .bool _⟩
            have heq := run_nilEq hd hv hu hc w
            have hg : (eqGuard .neq t x y v' u').run P w = .ok () w := by
              clear heq
              unfold nilEq at hc
              split at hc <;> cases hc <;> cases hv <;> cases hu <;> first
                | rfl
                | (cases x <;> cases y <;> first
                    | rfl
                    | (simp [isConstO] at hco; done))
            rw [Sem.run_bind, hg, Result.andThen_ok]
            have hb : binOp .neq t v' u' = (do pure (.bool (!(← Op.equal t v' u')))) := by
              clear heq hg
              unfold nilEq at hc
              split at hc <;> cases hc <;> cases hv <;> cases hu <;> rfl
            rw [hb, Sem.run_bind, heq]; rfl
          · cases h
        · cases h
      · cases h
/-- A world, or one draw later. -/
def Drew (w w' : World) : Prop := w' = w ∨ w' = w.drew
theorem nan_read {b : Nat} (h : Ieee.double.order b b = none) : ∃ s f, Ieee.double.read b = .nan s f := by
  unfold Ieee.Format.order at h
  cases hd : Ieee.double.read b with
  | nan s f => exact ⟨s, f, rfl⟩
  | infinity s => rw [hd] at h; cases h
  | number s m i => rw [hd] at h; cases h
theorem nan_drawn (t : Nat) : Ieee.double.order ((t % 2) * 2 ^ 63 + 0x7ff0000000000000 + 1 + (t / 2) % (2 ^ 52 - 1)) ((t % 2) * 2 ^ 63 + 0x7ff0000000000000 + 1 + (t / 2) % (2 ^ 52 - 1)) = none := by
  have hw : Ieee.double.signWeight = 9223372036854775808 := by decide
  have hbin : Ieee.double.binade = 4503599627370496 := by decide
  have hinf : Ieee.double.infRung = 9218868437227405312 := by decide
  have hr : ∃ s f, Ieee.double.read ((t % 2) * 2 ^ 63 + 0x7ff0000000000000 + 1 + (t / 2) % (2 ^ 52 - 1)) = .nan s f := by
    unfold Ieee.Format.read
    simp only [hw, hbin, hinf]
    have h1 : ((t % 2) * 2 ^ 63 + 0x7ff0000000000000 + 1 + (t / 2) % (2 ^ 52 - 1)) % 9223372036854775808 = 0x7ff0000000000000 + 1 + (t / 2) % (2 ^ 52 - 1) := by omega
    rw [h1, if_neg (by omega), if_neg (by omega), if_neg (by omega)]
    exact ⟨_, _, rfl⟩
  obtain ⟨s, f, hr⟩ := hr
  unfold Ieee.Format.order
  rw [hr]
  rfl
theorem nan_drawn2 (t : Nat) : (Ieee.double.order ((t % 2) * 2 ^ 63 + 0x7ff0000000000000 + 1 + (t / 2) % (2 ^ 52 - 1)) ((t % 2) * 2 ^ 63 + 0x7ff0000000000000 + 1 + (t / 2) % (2 ^ 52 - 1)) = none) ∧ ((t % 2) * 2 ^ 63 + 0x7ff0000000000000 + 1 + (t / 2) % (2 ^ 52 - 1)) < 18446744073709551616 := ⟨nan_drawn t, by omega⟩
theorem order_nan {b c : Nat} (h : Ieee.double.order b b = none ∨ Ieee.double.order c c = none) : Ieee.double.order b c = none := by
  unfold Ieee.Format.order
  rcases h with h | h <;> obtain ⟨s, f, e⟩ := nan_read h <;> rw [e]
  · rfl
  · cases Ieee.double.read b <;> rfl
theorem arith_nan {b c : Nat} (h : Ieee.double.order b b = none ∨ Ieee.double.order c c = none) : Ieee.double.add b c = none ∧ Ieee.double.sub b c = none ∧ Ieee.double.mul b c = none ∧ Ieee.double.div b c = none := by
  unfold Ieee.Format.add Ieee.Format.sub Ieee.Format.mul Ieee.Format.div
  rcases h with h | h <;> obtain ⟨s, f, e⟩ := nan_read h <;> rw [e]
  · exact ⟨rfl, rfl, rfl, rfl⟩
  · cases Ieee.double.read b <;> exact ⟨rfl, rfl, rfl, rfl⟩
theorem run_arith_nan {P : Program} {op : BinOp} {b c : Nat} (h : (match op with | .add => Ieee.double.add b c | .sub => Ieee.double.sub b c | .mul => Ieee.double.mul b c | .quo => Ieee.double.div b c | _ => some 0) = none) (w : World) :
    ∃ n, (Op.floatArith op .f64 b c).run P w = .ok (.float .f64 n) w.drew ∧ (Ieee.double.order n n = none ∧ n < 18446744073709551616) := by
  refine ⟨(Question.nanBits .f64 b c).cut (w.tape w.drawn (.nanBits .f64 b c)), ?_, nan_drawn2 _⟩
  have hf : FloatKind.f64.format = Ieee.double := rfl
  unfold Op.floatArith
  cases op <;> simp only [] at h <;> first
    | (cases h; done)
    | simp [hf, h, Question.forced]
theorem run_nanBin {P : Program} {op : BinOp} {t : TypeId} {x y : Operand} {v v' u u' r : Value} (hv : VRel ρ K v v') (hu : VRel ρ K u u') (h : nanBin op v u = some r) (w : World) :
    ∃ r' w', (eqGuard op t x y v' u' >>= fun _ => binOp op t v' u').run P w = .ok r' w' ∧ Drew w w' ∧ VRel ρ K r r' := by
  have fl : ∃ b c, v' = .float .f64 b ∧ u' = .float .f64 c ∧ ((Ieee.double.order b b = none ∨ Ieee.double.order c c = none) ∨ (v = .float .f64 b ∧ u = .float .f64 c)) := by
    unfold nanBin at h
    split at h
    · cases hv with | nan h1 => cases hu with | nan h2 => exact ⟨_, _, rfl, rfl, .inl (.inl h1.1)⟩
    · cases hv with | nan h1 => cases hu; exact ⟨_, _, rfl, rfl, .inl (.inl h1.1)⟩
    · cases hu with | nan h1 => cases hv; exact ⟨_, _, rfl, rfl, .inl (.inr h1.1)⟩
    · cases hu; cases hv; exact ⟨_, _, rfl, rfl, .inr ⟨rfl, rfl⟩⟩
    · cases h
  obtain ⟨b, c, rfl, rfl, hc⟩ := fl
  have hg : (eqGuard op t x y (.float .f64 b) (.float .f64 c)).run P w = .ok () w := by unfold eqGuard; cases op <;> rfl
  have hf : FloatKind.f64.format = Ieee.double := rfl
  have draw : (match op with | .add => Ieee.double.add b c | .sub => Ieee.double.sub b c | .mul => Ieee.double.mul b c | .quo => Ieee.double.div b c | _ => some 0) = none → (binOp op t (.float .f64 b) (.float .f64 c) = Op.floatArith op .f64 b c) → r = nanV →
      ∃ r' w', (eqGuard op t x y (.float .f64 b) (.float .f64 c) >>= fun _ => binOp op t (.float .f64 b) (.float .f64 c)).run P w = .ok r' w' ∧ Drew w w' ∧ VRel ρ K r r' := by
    intro h1 h2 h3
    obtain ⟨n, e1, e2⟩ := run_arith_nan (P := P) h1 w
    subst h3
    exact ⟨_, _, by rw [Sem.run_bind, hg, Result.andThen_ok, h2]; exact e1, .inr rfl, .nan e2⟩
  have cmp : ∀ {q : Bool}, (binOp op t (.float .f64 b) (.float .f64 c)).run P w = .ok (.bool q) w → r = .bool q →
      ∃ r' w', (eqGuard op t x y (.float .f64 b) (.float .f64 c) >>= fun _ => binOp op t (.float .f64 b) (.float .f64 c)).run P w = .ok r' w' ∧ Drew w w' ∧ VRel ρ K r r' := by
    intro q h1 h2
    subst h2
    exact ⟨_, w, by rw [Sem.run_bind, hg, Result.andThen_ok]; exact h1, .inl rfl, .bool _⟩
  have three : (Ieee.double.order b b = none ∨ Ieee.double.order c c = none) → nanOp op = some r →
      ∃ r' w', (eqGuard op t x y (.float .f64 b) (.float .f64 c) >>= fun _ => binOp op t (.float .f64 b) (.float .f64 c)).run P w = .ok r' w' ∧ Drew w w' ∧ VRel ρ K r r' := by
    intro hc hr
    have ho := order_nan hc
    obtain ⟨a1, a2, a3, a4⟩ := arith_nan hc
    have f1 : (binOp .eql t (.float .f64 b) (.float .f64 c)).run P w = .ok (.bool (Ieee.double.order b c == some .eq)) w := rfl
    have f2 : (binOp .neq t (.float .f64 b) (.float .f64 c)).run P w = .ok (.bool (Ieee.double.order b c != some .eq)) w := rfl
    have f3 : (binOp .lss t (.float .f64 b) (.float .f64 c)).run P w = .ok (.bool (Ieee.double.order b c == some .lt)) w := rfl
    have f4 : (binOp .leq t (.float .f64 b) (.float .f64 c)).run P w = .ok (.bool (Ieee.double.order b c == some .lt || Ieee.double.order b c == some .eq)) w := rfl
    have f5 : (binOp .gtr t (.float .f64 b) (.float .f64 c)).run P w = .ok (.bool (Ieee.double.order b c == some .gt)) w := rfl
    have f6 : (binOp .geq t (.float .f64 b) (.float .f64 c)).run P w = .ok (.bool (Ieee.double.order b c == some .gt || Ieee.double.order b c == some .eq)) w := rfl
    rw [ho] at f1 f2 f3 f4 f5 f6
    cases op <;> first
      | (cases hr; done)
      | exact draw a1 rfl (Option.some.inj hr).symm
      | exact draw a2 rfl (Option.some.inj hr).symm
      | exact draw a3 rfl (Option.some.inj hr).symm
      | exact draw a4 rfl (Option.some.inj hr).symm
      | exact cmp f1 (Option.some.inj hr).symm
      | exact cmp f2 (Option.some.inj hr).symm
      | exact cmp f3 (Option.some.inj hr).symm
      | exact cmp f4 (Option.some.inj hr).symm
      | exact cmp f5 (Option.some.inj hr).symm
      | exact cmp f6 (Option.some.inj hr).symm
  unfold nanBin at h
  split at h
  · cases hv with | nan h1 => exact three (.inl h1.1) h
  · cases hv with | nan h1 => exact three (.inl h1.1) h
  · cases hu with | nan h1 => exact three (.inr h1.1) h
  · cases hu; cases hv
    cases op <;> simp only [] at h <;> first
      | (cases h; done)
      | (split at h
         · rename_i hn
           exact draw (by simpa using hn) rfl (Option.some.inj h).symm
         · cases h)
  · cases h
theorem run_bin {P : Program} {op : BinOp} {t : TypeId} {x y : Operand} {v v' u u' r : Value} (hv : VRel ρ K v v') (hu : VRel ρ K u u') (h : binA P op t x y v u = some r) (w : World) :
    ∃ r' w', (eqGuard op t x y v' u' >>= fun _ => binOp op t v' u').run P w = .ok r' w' ∧ Drew w w' ∧ VRel ρ K r r' := by
  unfold binA at h
  split at h
  · rename_i r0 hn
    cases h
    exact run_nanBin hv hu hn w
  · obtain ⟨r', h1, h2⟩ := run_bin0 hv hu h w
    exact ⟨r', w, h1, .inl rfl, h2⟩
end
end
/- One operation: the evaluator's and the program's. -/
section
open Go Go.RowKit
set_option linter.unusedVariables false
set_option linter.unusedSimpArgs false

section
variable {P : Program} {ρ : Ren} {K : Nat} {tmps : List Value} {a : Act}
theorem rel_evalsA (h : TRel ρ K tmps a.tmps) {l : Array Operand} {vs : List Value} (e : evals tmps l.toList = some vs) : LRel ρ K vs (l.map a.eval).toList := by
  rw [Array.toList_map]; exact rel_evals h e
theorem func_rel {fn fn' : Fn} {f f' c c' : Array Value} (h : FnRel ρ K fn fn') (hf : LRel ρ K f.toList f'.toList) (hc : LRel ρ K c.toList c'.toList) : VRel ρ K (.func fn f c) (.func fn' f' c') := by
  obtain ⟨h1, h2⟩ := hf.arr
  obtain ⟨h3, h4⟩ := hc.arr
  exact .func h h1 h2 h3 h4
theorem func_inv {fn : Fn} {f c : Array Value} {v' : Value} (h : VRel ρ K (.func fn f c) v') : ∃ fn' f' c', v' = .func fn' f' c' ∧ FnRel ρ K fn fn' ∧ LRel ρ K f.toList f'.toList ∧ LRel ρ K c.toList c'.toList := by
  cases h with | func h h1 h2 h3 h4 => exact ⟨_, _, _, rfl, h, LRel.of_arr h1 h2, LRel.of_arr h3 h4⟩
theorem tuple_inv {cs : Array Value} {v' : Value} (h : VRel ρ K (.tuple cs) v') : ∃ cs', v' = .tuple cs' ∧ LRel ρ K cs.toList cs'.toList := by
  cases h with | tuple hc h => exact ⟨_, rfl, LRel.of_arr hc h⟩
/-- How a builtin is called. -/
theorem run_callB {c : Call} {b : Builtin} (hc : c.callee = .builtin b) (ρ0 : Operand → Value) (ty : TypeId) (w : World) :
    (resolve ρ0 c ty >>= fun d => invoke d.target d.args).run P w = (builtin b c.argTypes ty (c.args.map fun | .const _ => true | _ => false) (c.args.map ρ0)).run P w := by
  unfold resolve
  rw [hc]
  rfl
theorem arr_of_list {l : Array Value} {vs : List Value} (h : l.toList = vs) : l = vs.toArray := by rw [← h]
theorem one_inv {x : Value} {l : List Value} (h : LRel ρ K [x] l) : ∃ x', l = [x'] ∧ VRel ρ K x x' := by
  cases h with | cons h r => cases r; exact ⟨_, rfl, h⟩
theorem two_inv {x y : Value} {l : List Value} (h : LRel ρ K [x, y] l) : ∃ x' y', l = [x', y'] ∧ VRel ρ K x x' ∧ VRel ρ K y y' := by
  cases h with | cons h r => obtain ⟨y', rfl, hy⟩ := one_inv r; exact ⟨_, y', rfl, h, hy⟩
theorem sim_pureB0 {b : Builtin} {ts : Array TypeId} {args : List Value} {args' : Array Value} {v : Value} (hr : LRel ρ K args args'.toList) (h : pureB0 P b ts args = some v) (ty : TypeId) (cs : Array Bool) (w : World) :
    ∃ v', (builtin b ts ty cs args').run P w = .ok (.value v') w ∧ VRel ρ K v v' := by
  unfold pureB0 at h
  split at h
  · -- len
    rename_i x
    · obtain ⟨x', hl, hx⟩ := one_inv hr
      have ha : args' = #[x'] := arr_of_list hl
      split at h
      · rename_i s hu
        cases h; cases hx
        obtain ⟨t, ht, hu⟩ := Option.bind_eq_some_iff.1 hu
        refine ⟨_, ?_, .int _ _⟩
        unfold builtin
        refine run_value ?_
        unfold Builtin.len_
        simp [ha, ht, run_underlying hu]
        rfl
      · rename_i e p n c hu
        cases h
        obtain ⟨t, ht, hu⟩ := Option.bind_eq_some_iff.1 hu
        refine ⟨.int .i64 n, ?_, .int _ _⟩
        unfold builtin
        refine run_value ?_
        unfold Builtin.len_
        cases hx <;> simp [ha, ht, run_underlying hu] <;> rfl
      · rename_i n e hu
        cases h
        obtain ⟨t, ht, hu⟩ := Option.bind_eq_some_iff.1 hu
        refine ⟨.int .i64 n, ?_, .int _ _⟩
        unfold builtin
        refine run_value ?_
        unfold Builtin.len_
        cases hx <;> simp [ha, ht, run_underlying hu] <;> rfl
      · cases h
  · -- cap
    rename_i x
    · obtain ⟨x', hl, hx⟩ := one_inv hr
      have ha : args' = #[x'] := arr_of_list hl
      split at h
      · rename_i e m n hu
        cases h; cases hx
        obtain ⟨t, ht, hu⟩ := Option.bind_eq_some_iff.1 hu
        refine ⟨_, ?_, .int _ _⟩
        unfold builtin
        refine run_value ?_
        unfold Builtin.cap_
        simp [ha, ht, run_underlying hu]
        rfl
      · rename_i e p m n hu
        split at h
        · rename_i hs
          cases h
          cases hx with
          | slice hK h1 hn hc h0 h2 =>
            obtain ⟨t, ht, hu⟩ := Option.bind_eq_some_iff.1 hu
            rw [h0 hs] at ha
            refine ⟨_, ?_, .int _ _⟩
            unfold builtin
            refine run_value ?_
            unfold Builtin.cap_
            simp [ha, ht, run_underlying hu]
            rfl
        · cases h
      · cases h
  · split at h
    · rename_i hf
      have he := flats_eq hf hr
      have ha := arr_of_list he
      refine ⟨v, ?_, flat_self (run_prunF h w).2⟩
      unfold builtin
      refine run_value ?_
      rw [ha]
      exact (run_prunF h w).1
    · cases h
  · split at h
    · rename_i hf
      have he := flats_eq hf hr
      have ha := arr_of_list he
      refine ⟨v, ?_, flat_self (run_prunF h w).2⟩
      unfold builtin
      refine run_value ?_
      rw [ha]
      exact (run_prunF h w).1
    · cases h
  · cases h

theorem sim_pure0 (ht : TRel ρ K tmps a.tmps) {o : Oper} {v : Value} (hk : kindO P o = .pure) (h : pureA P tmps o = some v) (hnb : ∀ op t x y yt, o.op ≠ .binOp op t x y yt) (hnc : ∀ c, o.op ≠ .call c) (w : World) :
    ∃ v', (execOp a.eval o).run P w = .ok (.value v') w ∧ VRel ρ K v v' := by
  obtain ⟨dst, op, type, pos, after, guard⟩ := o
  cases op <;> simp only [pureA] at h <;> first
    | (cases h; done)
    | skip
  case move x => exact ⟨_, rfl, rel_eval ht h⟩
  case assign x => exact ⟨_, rfl, rel_eval ht h⟩
  case pick c x y =>
    split at h
    · rename_i hc
      have := rel_eval ht hc
      generalize hcv : a.eval c = cv at this
      cases this
      exact ⟨a.eval x, by simp [execOp, hcv, asBool], rel_eval ht h⟩
    · rename_i hc
      have := rel_eval ht hc
      generalize hcv : a.eval c = cv at this
      cases this
      exact ⟨a.eval y, by simp [execOp, hcv, asBool], rel_eval ht h⟩
    · cases h
  case build t parts =>
    split at h
    · rename_i z pl vs hz hp hv
      obtain ⟨r, hr, rfl⟩ := Option.map_eq_some_iff.1 h
      obtain ⟨v', h1, h2⟩ := run_build ht hz hp hv hr w
      exact ⟨v', run_value h1, h2⟩
    · cases h
  case nilCheck x =>
    split at h
    · rename_i p hc
      cases h
      have := rel_eval ht hc
      generalize hcv : a.eval x = cv at this
      cases this with
      | ptr hK hs h1 => exact ⟨_, by simp [execOp, hcv], .ptr hK hs h1⟩
    · rename_i f fs cs hc
      cases h
      have := rel_eval ht hc
      obtain ⟨fn', f', c', e, hfn, hf, hc'⟩ := func_inv this
      cases hfn
      exact ⟨.func (.func f) f' c', by simp [execOp, e], by rw [← e]; exact this⟩
    · rename_i f fs cs hc
      cases h
      have := rel_eval ht hc
      obtain ⟨fn', f', c', e, hfn, hf, hc'⟩ := func_inv this
      cases hfn with
      | @yield _ l' hl h1 => exact ⟨.func (.yield l') f' c', by simp [execOp, e], by rw [← e]; exact this⟩
    · cases h
  case binOp op t x y yt => exact absurd rfl (hnb op t x y yt)
  case unOp op t x =>
    split at h
    · rename_i v0 hv
      split at h
      · rename_i hf
        have e := flat_eq hf (rel_eval ht hv)
        refine ⟨v, ?_, flat_self (run_prunF h w).2⟩
        simp only [execOp, e]
        exact run_value (run_prunF h w).1
      · cases h
    · cases h
  case convert s d x =>
    split at h
    · rename_i v0 hv
      split at h
      · rename_i hf
        have e := flat_eq hf (rel_eval ht hv)
        split at h
        · cases h
        · refine ⟨v, ?_, flat_self (run_prunF h w).2⟩
          simp only [execOp, e]
          exact run_value (run_prunF h w).1
      · cases h
    · cases h
  case makeInterface t x =>
    split at h
    · cases h
    · rename_i d v0 hni hd hx
      cases h
      refine ⟨.iface t (a.eval x), ?_, .iface t (rel_eval ht hx)⟩
      simp only [execOp]
      refine run_value ?_
      unfold Instr.makeInterface
      simp only [Sem.run_bind, run_underlying hd, Result.andThen_ok]
      cases d <;> first
        | rfl
        | exact absurd rfl (hni _)
    · cases h
  case makeFunc fn first captured =>
    cases fn <;> first
      | (cases h; done)
      | skip
    case func f =>
      simp only at h
      split at h
      · rename_i vs us hv hu
        cases h
        refine ⟨.func (.func f) (first.map a.eval) (captured.map a.eval), rfl, ?_⟩
        exact func_rel (.func f) (by simpa using rel_evalsA ht hv) (by simpa using rel_evalsA ht hu)
      · cases h
  case slice t x lo hi mx =>
    split at h
    · rename_i v0 l0 h0 m0 e1 e2 e3 e4
      obtain ⟨r', h1, h2⟩ := run_slice (P := P) (rel_eval ht e1) (rel_evalO ht e2) (rel_evalO ht e3) (rel_evalO ht e4) w h
      exact ⟨r', run_value h1, h2⟩
    · cases h
  case fieldAddr s x f =>
    split at h
    · rename_i fs p hu hx
      split at h
      · rename_i fd hfd
        split at h
        · rename_i n hn
          cases h
          have := rel_eval ht hx
          generalize hcv : a.eval x = cv at this
          cases this with
          | @ptr _ p' hK hs h1 =>
            refine ⟨.pointer (some (p'.add fd.offset)), ?_, .ptr hK rfl fun I eI => ?_⟩
            · simp only [execOp, hcv]
              refine run_value ?_
              unfold Instr.fieldAt fieldPlace
              simp [run_underlying hu, hfd, Instr.sureAddr, run_sizeOf hn]
            · rw [h1 I eI]
              unfold Addr.add
              split
              · rename_i h0; simp [h0]
              · simp only [Addr.mk.injEq, and_true, true_and]; omega
        · cases h
      · cases h
    · cases h
  case field t x f =>
    split at h
    · rename_i fs cs hu hx
      split at h
      · rename_i fd hfd
        have := rel_eval ht hx
        obtain ⟨cs', e, hcs⟩ := agg_inv this
        obtain ⟨v', h1, h2⟩ := run_part (P := P) hcs h w
        refine ⟨v', ?_, h2⟩
        simp only [execOp, e]
        refine run_value ?_
        unfold Instr.field
        simp [run_underlying hu, hfd, asAgg, h1]
      · cases h
    · cases h
  case indexAddr t x i =>
    split at h
    · rename_i v0 u0 hv hu
      obtain ⟨r', h1, h2⟩ := run_indexAddr (P := P) (rel_eval ht hv) (rel_eval ht hu) h w
      exact ⟨r', run_value h1, h2⟩
    · cases h
  case index t x i =>
    split at h
    · rename_i v0 u0 hv hu
      obtain ⟨r', h1, h2⟩ := run_index (P := P) (rel_eval ht hv) (rel_eval ht hu) h w
      exact ⟨r', run_value h1, h2⟩
    · cases h
  case extract x i =>
    split at h
    · rename_i vs hx
      have := rel_eval ht hx
      obtain ⟨cs', e, hcs⟩ := tuple_inv this
      have h' : vs.toList[i]? = some v := by simpa using h
      obtain ⟨v', h1, h2⟩ := hcs.get h'
      have h1' : cs'[i]? = some v' := by simpa using h1
      refine ⟨v', ?_, h2⟩
      simp only [execOp, e]
      refine run_value ?_
      unfold Instr.extract
      simp [h1']
    · cases h
  case call c => exact absurd rfl (hnc c)
theorem sim_nanMM {b : Builtin} {ts : Array TypeId} {args : List Value} {args' : Array Value} {v : Value} (hr : LRel ρ K args args'.toList) (h : nanMM b args = some v) (ty : TypeId) (cs : Array Bool) (w : World) :
    ∃ v' w', (builtin b ts ty cs args').run P w = .ok (.value v') w' ∧ Drew w w' ∧ VRel ρ K v v' := by
  have key : ∀ {x y x' y' : Value} {r : Value}, VRel ρ K x x' → VRel ρ K y y' → (match x, y with
    | .chan (some 0), .chan (some 0) | .chan (some 0), .float .f64 _ | .float .f64 _, .chan (some 0) => some nanV
    | .float .f64 x, .float .f64 y => if (Ieee.double.order x y).isNone then some nanV else none
    | _, _ => none) = some r → r = nanV ∧ ∃ p q, x' = .float .f64 p ∧ y' = .float .f64 q ∧ Ieee.double.order p q = none := by
    intro x y x' y' r hx hy h
    split at h
    · cases hx with | nan h1 => cases hy with | nan h2 => exact ⟨(Option.some.inj h).symm, _, _, rfl, rfl, order_nan (.inl h1.1)⟩
    · cases hx with | nan h1 => cases hy; exact ⟨(Option.some.inj h).symm, _, _, rfl, rfl, order_nan (.inl h1.1)⟩
    · cases hy with | nan h1 => cases hx; exact ⟨(Option.some.inj h).symm, _, _, rfl, rfl, order_nan (.inr h1.1)⟩
    · cases hx; cases hy
      split at h
      · rename_i hn
        exact ⟨(Option.some.inj h).symm, _, _, rfl, rfl, by simpa using hn⟩
      · cases h
    · cases h
  have hf : FloatKind.f64.format = Ieee.double := rfl
  unfold nanMM at h
  split at h
  · obtain ⟨x', y', hl, hx, hy⟩ := two_inv hr
    have ha : args' = #[x', y'] := arr_of_list hl
    obtain ⟨rfl, p, q, rfl, rfl, ho⟩ := key hx hy h
    refine ⟨.float .f64 ((Question.nanMinMax .f64 false p q).cut (w.tape w.drawn (.nanMinMax .f64 false p q))), w.drew, ?_, .inr rfl, .nan (nan_drawn2 _)⟩
    subst ha
    unfold builtin
    refine run_value ?_
    unfold Builtin.min_
    simp [List.foldlM, Builtin.min2, hf, ho, Question.forced]
  · obtain ⟨x', y', hl, hx, hy⟩ := two_inv hr
    have ha : args' = #[x', y'] := arr_of_list hl
    obtain ⟨rfl, p, q, rfl, rfl, ho⟩ := key hx hy h
    refine ⟨.float .f64 ((Question.nanMinMax .f64 true p q).cut (w.tape w.drawn (.nanMinMax .f64 true p q))), w.drew, ?_, .inr rfl, .nan (nan_drawn2 _)⟩
    subst ha
    unfold builtin
    refine run_value ?_
    unfold Builtin.max_
    simp [List.foldlM, Builtin.max2, hf, ho, Question.forced]
  · cases h
theorem sim_pureB {b : Builtin} {ts : Array TypeId} {args : List Value} {args' : Array Value} {v : Value} (hr : LRel ρ K args args'.toList) (h : pureBuiltinA P b ts args = some v) (ty : TypeId) (cs : Array Bool) (w : World) :
    ∃ v' w', (builtin b ts ty cs args').run P w = .ok (.value v') w' ∧ Drew w w' ∧ VRel ρ K v v' := by
  unfold pureBuiltinA at h
  split at h
  · rename_i r0 hn
    cases h
    exact sim_nanMM hr hn ty cs w
  · obtain ⟨v', h1, h2⟩ := sim_pureB0 hr h ty cs w
    exact ⟨v', w, h1, .inl rfl, h2⟩
theorem sim_pure (ht : TRel ρ K tmps a.tmps) {o : Oper} {v : Value} (hk : kindO P o = .pure) (h : pureA P tmps o = some v) (w : World) :
    ∃ v' w', (execOp a.eval o).run P w = .ok (.value v') w' ∧ Drew w w' ∧ VRel ρ K v v' := by
  by_cases hb : ∃ op t x y yt, o.op = .binOp op t x y yt
  · obtain ⟨dst, op, type, pos, after, guard⟩ := o
    obtain ⟨op', t, x, y, yt, rfl⟩ := hb
    simp only [pureA] at h
    split at h
    · rename_i v0 u0 hv hu
      obtain ⟨r', w', h1, hd, h2⟩ := run_bin (rel_eval ht hv) (rel_eval ht hu) h w
      refine ⟨r', w', ?_, hd, h2⟩
      simp only [execOp]
      exact run_value h1
    · cases h
  · by_cases hc : ∃ c, o.op = .call c
    · obtain ⟨dst, op, type, pos, after, guard⟩ := o
      obtain ⟨c, rfl⟩ := hc
      simp only [pureA] at h
      split at h
      · rename_i b args hb ha
        obtain ⟨v', w', h1, hd, h2⟩ := sim_pureB (rel_evalsA ht ha) h type (c.args.map fun | .const _ => true | _ => false) w
        refine ⟨v', w', ?_, hd, h2⟩
        simp only [execOp]
        rw [run_callB hb]
        exact h1
      · cases h
    · obtain ⟨v', h1, h2⟩ := sim_pure0 ht hk h (fun op t x y yt e => hb ⟨op, t, x, y, yt, e⟩) (fun c e => hc ⟨c, e⟩) w
      exact ⟨v', w, h1, .inl rfl, h2⟩
theorem step_draw {a : AW} {w w' : World} (h : WRel ρ a w) (hd : Drew w w') : Step ρ a.next w ρ a w' := by
  rcases hd with rfl | rfl
  · exact .refl h
  · exact step_drew h rfl rfl rfl rfl
end
end
/- Operations that read, and that make a block. -/
section
open Go Go.RowKit
set_option linter.unusedVariables false
set_option linter.unusedSimpArgs false

section
variable {P : Program} {ρ : Ren} {tmps : List Value} {t : Act} {a : AW} {w : World}

/-! ### maps -/
theorem same_now {d : TypeDesc} {K : Nat} {k k' e e' : Value} (hk : VRel ρ K k k') (he : VRel ρ K e e') {b : Bool} (h : Instr.sameNow d k e = some b) : Instr.sameNow d k' e' = some b := by
  unfold Instr.sameNow at h
  split at h
  · cases hk; cases he; exact h
  · cases hk; cases he; exact h
  · cases hk; cases he; exact h
  · cases h
inductive FRel (ρ : Ren) (K : Nat) : Option (Nat × Value) → Option (Nat × Value) → Prop
  | none : FRel ρ K none none
  | some (i : Nat) {v v' : Value} (h : VRel ρ K v v') : FRel ρ K (some (i, v)) (some (i, v'))
theorem find_now {d : TypeDesc} {K : Nat} {k k' : Value} (hk : VRel ρ K k k') : ∀ {es es' : List MapEntry} (n : Nat) {r : Option (Nat × Value)}, EsRel ρ K es es' → Instr.findNow d k es n = some r →
    ∃ r', Instr.findNow d k' es' n = some r' ∧ FRel ρ K r r'
  | _, _, n, r, .nil, h => by cases h; exact ⟨none, rfl, .none⟩
  | _, _, n, r, .cons (e := e) (e' := e') he hr, h => by
    cases he with
    | mk m hke hve =>
      unfold Instr.findNow at h ⊢
      split at h
      · rename_i e1; cases h
        rw [same_now hk hke e1]; exact ⟨_, rfl, .some n hve⟩
      · rename_i e1
        rw [same_now hk hke e1]; exact find_now hk (n + 1) hr h
      · cases h
theorem run_checkKey {kt : TypeId} {d : TypeDesc} (hu : P.underlying kt = some d) (hd : d = .string ∨ ∃ j, d = .int j) (e : Bool) (k : Value) (w : World) : (Instr.checkKey e 10000 kt k).run P w = .ok () w := by
  unfold Instr.checkKey
  simp only [Sem.run_bind, run_underlying hu, Result.andThen_ok]
  rcases hd with rfl | ⟨j, rfl⟩ <;> rfl
theorem findA_run {kt : TypeId} {k k' : Value} {K : Nat} (hk : VRel ρ K k k') {es es' : List MapEntry} (hes : EsRel ρ K es es') {r : Option (Nat × Value)} (h : findA P kt k es = some r) :
    ∃ r', FRel ρ K r r' ∧ (∀ w, (Instr.findKey kt k' es').run P w = .ok r' w) ∧ ∀ e w, (Instr.checkKey e 10000 kt k').run P w = .ok () w := by
  unfold findA at h
  split at h
  · rename_i j hu
    obtain ⟨r', h1, h2⟩ := find_now hk 0 hes h
    refine ⟨r', h2, fun w => ?_, fun e w => run_checkKey hu (.inr ⟨j, rfl⟩) e k' w⟩
    unfold Instr.findKey
    simp only [Sem.run_bind, run_underlying hu, Result.andThen_ok, h1, Sem.run_pure]
  · rename_i hu
    obtain ⟨r', h1, h2⟩ := find_now hk 0 hes h
    refine ⟨r', h2, fun w => ?_, fun e w => run_checkKey hu (.inl rfl) e k' w⟩
    unfold Instr.findKey
    simp only [Sem.run_bind, run_underlying hu, Result.andThen_ok, h1, Sem.run_pure]
  · cases h
theorem run_getObj {r : Nat} {o : Obj} (h : w.heap[r]? = some o) (hn : ∀ c e f, o ≠ .cells c e f) : (getObj r).run P w = .ok o w := by
  unfold getObj
  cases o <;> first
    | exact absurd rfl (hn _ _ _)
    | simp only [Sem.run, h]
/-- The other object that a block is. -/
theorem obj_rel (h : WRel ρ a w) {r : Nat} {o : Obj} (hg : a.get r = some (.obj o)) : ∃ I o', ρ r = some I ∧ w.heap[I.b]? = some o' ∧ OORel ρ a.next o o' ∧ I.rw = true ∧ (∀ c e f, o' ≠ .cells c e f) := by
  obtain ⟨I, e⟩ := h.has _ _ hg
  obtain ⟨b, o', g1, g2, g3⟩ := h.blk _ _ e
  rw [hg] at g1
  cases g1
  cases g3 with
  | obj h1 h2 h3 h4 => exact ⟨I, o', e, g2, h1, h2, h3⟩
theorem obj_sh (h : WRel ρ a w) {r : Nat} {o : Obj} {I : Info} (hg : a.get r = some (.obj o)) (e : ρ r = some I) : I.sh = 0 := by
  obtain ⟨b, o', g1, g2, g3⟩ := h.blk _ _ e
  rw [hg] at g1
  cases g1
  cases g3 with
  | obj h1 h2 h3 h4 => exact h4
theorem map_inv {r : Nat} {v' : Value} {K : Nat} (h : VRel ρ K (.map (some r)) v') : ∃ r', v' = .map (some r') ∧ r < K ∧ ∀ I, ρ r = some I → r' = I.b := by
  cases h with | map h h1 => exact ⟨_, rfl, h, h1⟩
/-- The entries of a map, and the program's. -/
theorem mapOf_rel (h : WRel ρ a w) {m m' : Value} (hm : VRel ρ a.next m m') {es : Array MapEntry} (e : mapOf m a = some es) :
    (m' = .map none ∧ es = #[]) ∨ ∃ r r' I es' n, m = .map (some r) ∧ m' = .map (some r') ∧ ρ r = some I ∧ I.rw = true ∧ r' = I.b ∧ w.heap[I.b]? = some (.map es' n) ∧ a.get r = some (.obj (.map es n)) ∧ EsRel ρ a.next es.toList es'.toList := by
  unfold mapOf at e
  split at e
  · cases e; cases hm; exact .inl ⟨rfl, rfl⟩
  · rename_i r
    split at e
    · rename_i es0 n hg
      cases e
      obtain ⟨r', rfl, hK, hr'⟩ := map_inv hm
      obtain ⟨I, o', h1, h2, h3, h4, h5⟩ := obj_rel h hg
      cases h3 with
      | map n hes => exact .inr ⟨r, r', I, _, n, rfl, rfl, h1, h4, hr' I h1, h2, hg, hes⟩
    · cases e
  · cases e
theorem mapTypes_run {t k e : TypeId} (h : mapTypes P t = some (k, e)) : P.underlying t = some (.map k e) := by
  unfold mapTypes at h
  split at h
  · cases h; assumption
  · cases h

theorem sim_lookup (h : WRel ρ a w) {t : TypeId} {m m' k k' v : Value} {ok : Bool} (hm : VRel ρ a.next m m') (hk : VRel ρ a.next k k') (e : lookupA P t m k ok a = some v) :
    ∃ v', (Instr.lookup t m' k' ok).run P w = .ok v' w ∧ VRel ρ a.next v v' := by
  unfold lookupA at e
  split at e
  · rename_i kt et es ht hes
    have hu := mapTypes_run ht
    have fin : ∀ es' : Array MapEntry, EsRel ρ a.next es.toList es'.toList → ∃ v', ((do
        Instr.checkKey es'.isEmpty 10000 kt k'
        let (v, o) ← match ← Instr.findKey kt k' es'.toList with
          | some (_, v) => pure (v, true)
          | none => pure (← zeroValue et, false)
        pure (if ok then .tuple #[v, .bool o] else v) : Sem Value)).run P w = .ok v' w ∧ VRel ρ a.next v v' := by
      intro es' hr
      split at e
      · rename_i i v0 hf
        cases e
        obtain ⟨r', f1, f2, f3⟩ := findA_run hk hr hf
        cases f1 with
        | @some _ _ v1 hv =>
          refine ⟨if ok then .tuple #[v1, .bool true] else v1, ?_, ?_⟩
          · simp only [Sem.run_bind, f3, Result.andThen_ok, f2, Sem.run_pure]
          · cases ok
            · exact hv
            · exact VRel.tuple' (.cons hv (.cons (.bool true) .nil))
      · rename_i hf
        obtain ⟨z, hz, rfl⟩ := Option.map_eq_some_iff.1 e
        obtain ⟨z1, z2⟩ := run_zeroValue hz w
        obtain ⟨r', f1, f2, f3⟩ := findA_run hk hr hf
        cases f1
        refine ⟨if ok then .tuple #[z, .bool false] else z, ?_, ?_⟩
        · simp only [Sem.run_bind, f3, Result.andThen_ok, f2, Sem.run_pure, z1]
        · cases ok
          · exact flat_self z2
          · exact VRel.tuple' (.cons (flat_self z2) (.cons (.bool false) .nil))
      · cases e
    rcases mapOf_rel h hm hes with ⟨rfl, rfl⟩ | ⟨r, r', I, es', n, rfl, rfl, h1, h2, h3, h4, h5, h6⟩
    · obtain ⟨v', g1, g2⟩ := fin #[] .nil
      refine ⟨v', ?_, g2⟩
      unfold Instr.lookup
      simp only [Sem.run_bind, run_underlying hu, Result.andThen_ok, Sem.run_pure] at g1 ⊢
      exact g1
    · obtain ⟨v', g1, g2⟩ := fin es' h6
      refine ⟨v', ?_, g2⟩
      have hg := run_getObj (P := P) h4 (by simp)
      unfold Instr.lookup
      simp only [Sem.run_bind, run_underlying hu, Result.andThen_ok, Sem.run_pure, h3, hg] at g1 ⊢
      exact g1
  · cases e

/-! ### reads -/
theorem bytes_nums {K : Nat} : ∀ {l l' : List Value} {bs : List UInt8}, LRel ρ K l l' → bytesOfCells l = some bs → ∃ ns : List Int, l' = ns.map (Value.int .u8) ∧ bs = ns.map fun n => UInt8.ofNat n.toNat
  | _, _, bs, .nil, h => by cases h; exact ⟨[], rfl, rfl⟩
  | v :: l, _, bs, .cons (v' := v') hv hr, h => by
    cases v with
    | int k n =>
      cases k <;> simp only [bytesOfCells] at h <;> first
        | (cases h; done)
        | skip
      obtain ⟨bs', h1, rfl⟩ := Option.map_eq_some_iff.1 h
      obtain ⟨ns, rfl, rfl⟩ := bytes_nums hr h1
      cases hv
      exact ⟨n :: ns, rfl, rfl⟩
    | _ => simp [bytesOfCells] at h
theorem push_all : ∀ (ns : List Int) (s : ByteArray), ns.foldl (fun r n => r.push (UInt8.ofNat n.toNat)) s = ⟨⟨s.data.toList ++ ns.map fun n => UInt8.ofNat n.toNat⟩⟩
  | [], s => by simp
  | n :: ns, s => by
    rw [List.foldl_cons, push_all ns]
    apply ByteArray.ext; apply Array.ext'
    simp [ByteArray.push]
theorem sim_read (h : WRel ρ a w) (ht : TRel ρ a.next tmps t.tmps) {o : Oper} {b : Nat} {v : Value} (hk : kindO P o = .read) (e : readA P tmps o a = some (b, v)) :
    ∃ v', (execOp t.eval o).run P w = .ok (.value v') w ∧ VRel ρ a.next v v' := by
  obtain ⟨dst, op, type, pos, after, guard⟩ := o
  cases op <;> simp only [readA] at e <;> first
    | (cases e; done)
    | skip
  case load ty x =>
    split at e
    · rename_i p hx
      obtain ⟨v0, e1, e2⟩ := Option.map_eq_some_iff.1 e
      cases e2
      have := rel_eval ht hx
      generalize hcv : t.eval x = cv at this
      cases this with
      | @ptr _ p' hK hs h1 =>
        obtain ⟨v', g1, g2⟩ := sim_loadVar (P := P) h h1 e1
        refine ⟨v', ?_, g2⟩
        simp only [execOp, hcv]
        refine run_value ?_
        unfold Instr.loadAt
        simp only [Instr.sureAddr, Sem.run_bind, Sem.run_pure, Result.andThen_ok, g1]
    · cases e
  case convert s d x =>
    have hty : ∃ e, P.underlying s = some (.slice e) ∧ P.underlying d = some .string ∧ P.underlying e = some (.int .u8) := by
      simp only [kindO] at hk
      split at hk
      · rename_i e h1 h2
        split at hk
        · exact ⟨e, h1, h2, by assumption⟩
        · cases hk
      · split at hk <;> cases hk
      · cases hk
    obtain ⟨te, hs, hd, he⟩ := hty
    split at e
    · rename_i n c hx
      cases e
      have := rel_eval ht hx
      generalize hcv : t.eval x = cv at this
      cases this
      refine ⟨.string .empty, ?_, .string _⟩
      simp only [execOp, hcv]
      refine run_value ?_
      unfold convert
      simp only [Sem.run_bind, run_underlying hs, run_underlying hd, Result.andThen_ok, run_underlying he]
      rfl
    · rename_i p n c hx
      split at e
      · rename_i cs hcs
        split at e
        · rename_i bs hbs
          cases e
          have := rel_eval ht hx
          generalize hcv : t.eval x = cv at this
          cases this with
          | @slice _ p' _ _ c' hK h1 hn hc h0 h2 =>
            have hat : c' = 0 ∨ AtRel ρ p p' := by
              by_cases hz : c' = 0
              · exact .inl hz
              · exact .inr fun I eI => (h1 I eI).resolve_left hz
            have key : ∃ vs', LRel ρ a.next cs vs' ∧ (loadCells p' n).run P w = .ok vs'.toArray w := by
              rcases hat with hz | hat
              · have hn0 : n = 0 := by omega
                subst hn0
                have : cs = [] := by
                  unfold AW.loadN at hcs
                  split at hcs
                  · split at hcs
                    · cases hcs; simp
                    · cases hcs
                  · split at hcs
                    · cases hcs; simp
                    · cases hcs
                  · cases hcs
                subst this
                exact ⟨[], .nil, rfl⟩
              · obtain ⟨vs', g1, _, g2⟩ := sim_loadN (P := P) h hat hcs
                exact ⟨vs', g1, g2⟩
            obtain ⟨vs', g1, g2⟩ := key
            obtain ⟨ns, rfl, rfl⟩ := bytes_nums g1 hbs
            have hrun := run_bytesToString w p' n c' ns g2
            rw [push_all] at hrun
            refine ⟨_, ?_, .string _⟩
            simp only [execOp, hcv]
            refine run_value ?_
            unfold convert
            simp only [Sem.run_bind, run_underlying hs, run_underlying hd, Result.andThen_ok, run_underlying he, hrun]
            rfl
        · cases e
      · cases e
    · cases e
  case lookup ty m k ok =>
    split at e
    · rename_i r u hm hkk
      obtain ⟨v0, e1, e2⟩ := Option.map_eq_some_iff.1 e
      cases e2
      obtain ⟨v', g1, g2⟩ := sim_lookup (P := P) h (rel_eval ht hm) (rel_eval ht hkk) e1
      exact ⟨v', run_value g1, g2⟩
    · cases e
  case call c =>
    split at e
    · rename_i r hb ha
      obtain ⟨es, e1, e2⟩ := Option.map_eq_some_iff.1 e
      cases e2
      obtain ⟨x', hl, hx⟩ := one_inv (rel_evalsA ht ha)
      have ha' : c.args.map t.eval = #[x'] := arr_of_list hl
      have hty : ∃ ty k e, c.argTypes[0]? = some ty ∧ P.underlying ty = some (.map k e) := by
        simp only [kindO, hb] at hk
        split at hk
        · rename_i k e hu
          obtain ⟨ty, h1, h2⟩ := Option.bind_eq_some_iff.1 hu
          exact ⟨ty, k, e, h1, h2⟩
        · cases hk
      obtain ⟨ty, kt, et, hty, hu⟩ := hty
      refine ⟨.int .i64 es.size, ?_, .int _ _⟩
      simp only [execOp]
      rw [run_callB hb]
      unfold builtin
      refine run_value ?_
      unfold Builtin.len_
      rcases mapOf_rel h hx e1 with ⟨rfl, rfl⟩ | ⟨r, r', I, es', n, e3, rfl, h1, h2, h3, h4, h5, h6⟩
      · simp [ha', hty, run_underlying hu]; rfl
      · have hg := run_getObj (P := P) h4 (by simp)
        have hsz : es.size = es'.size := by
          have : ∀ {l l' : List MapEntry}, EsRel ρ a.next l l' → l.length = l'.length := by
            intro l l' hr
            induction hr with
            | nil => rfl
            | cons _ _ ih => simp [ih]
          simpa using this h6
        simp [ha', hty, run_underlying hu, h3, hg, hsz]; rfl
    · cases e
end
end
/- Operations that make a block. -/
section
open Go Go.RowKit
set_option linter.unusedVariables false
set_option linter.unusedSimpArgs false

section
variable {P : Program} {ρ : Ren} {K : Nat} {tmps : List Value} {t : Act} {w : World}

/-- What the program's new block holds, whatever number the evaluator gives it. -/
def Makes (ρ : Ren) (K : Nat) (w : World) (b : Blk) (f : Nat → Value) (w' : World) (v' : Value) : Prop :=
  ∃ n z o, w'.heap = w.heap.push o ∧ w'.os = w.os ∧ w'.tape = w.tape ∧ w'.output = w.output ∧
    ∀ ρ' K' id, Ext ρ K ρ' K' → id < K' → (∀ I, ρ' id = some I → I = ⟨w.heap.size, 0, n, true, z⟩) → ORel ρ' K' ⟨w.heap.size, 0, n, true, z⟩ b o ∧ VRel ρ' K' (f id) v'

theorem orel_cells {I : Info} {c : List Value} {c' : Array Value} {e : TypeId} {fr : Nat × Nat} (hI : I.rw = true) (hs : I.sh = 0) (hc : LRel ρ K c c'.toList) (hn : c'.size = I.n) (hf : fr.2 = 0) :
    ORel ρ K I (.cells c true) (.cells c' e fr) := by
  rw [← hI]
  refine .cells (fun j v h => ?_) (fun _ => ⟨hn, fun o ho => by omega, fun _ => hf⟩)
  obtain ⟨v', h1, h2⟩ := hc.get h
  exact ⟨v', by rw [hs]; simpa using h1, h2⟩
/-- A new variable of a value's cells. -/
theorem makes_var {v v' : Value} (hv : VRel ρ K v v') (ty : TypeId) : ∃ w' r, (newVar ty v' >>= fun p => (Pure.pure (Value.pointer (some p)) : Sem Value)).run P w = .ok r w' ∧
    Makes ρ K w (.cells v.cells.toList true) (fun i => .pointer (some ⟨i, 0, none⟩)) w' r := by
  refine ⟨{ w with heap := w.heap.push (.cells v'.cells ty) }, .pointer (some ⟨w.heap.size, 0, none⟩), ?_, v'.cells.size, false, .cells v'.cells ty, rfl, rfl, rfl, rfl, fun ρ' K' id hx hid hρ => ⟨?_, ?_⟩⟩
  · unfold newVar newRow
    simp only [Sem.run_bind, run_newObj, Result.andThen_ok, Sem.run_pure]
  · exact orel_cells rfl rfl (hv.cells.mono hx) rfl rfl
  · refine .ptr hid rfl fun I e => ?_
    cases hρ _ e; rfl
theorem range_zero {z : Array Value} {n : Nat} (hz : z.size = n) (len : Nat) (hn : 0 < len * n) : ((Array.range (len * n)).map (fun i => z[i % z.size]!)).toList = (List.replicate len z.toList).flatten := by
  have hpos : 0 < n := Nat.pos_of_ne_zero fun h => by simp [h] at hn
  have hfl : ∀ m, ((List.replicate m z.toList).flatten).length = m * n := by intro m; simp [hz]
  have hget : ∀ m i, i < m * n → ((List.replicate m z.toList).flatten)[i]? = some (z[i % n]!) := by
    intro m
    induction m with
    | zero => intro i hi; omega
    | succ m ih =>
      intro i hi
      rw [List.replicate_succ, List.flatten_cons]
      by_cases hlt : i < n
      · rw [List.getElem?_append_left (by simp [hz, hlt]), Nat.mod_eq_of_lt hlt]
        simp [hz, hlt]
      · rw [List.getElem?_append_right (by simp [hz]; omega)]
        have : z.toList.length = n := by simp [hz]
        have e2 : (i - n) % n = i % n := (Nat.mod_eq_sub_mod (by omega)).symm
        rw [this, ih (i - n) (by rw [Nat.succ_mul] at hi; omega), e2]
  apply List.ext_getElem?
  intro i
  by_cases hi : i < len * n
  · rw [hget len i hi]; simp [hi, hz]
  · rw [List.getElem?_eq_none_iff.2 (by simp; omega), List.getElem?_eq_none_iff.2 (by rw [hfl]; omega)]
theorem flats_flatten {z : List Value} (h : LRel ρ K z z) : ∀ n, LRel ρ K (List.replicate n z).flatten (List.replicate n z).flatten
  | 0 => .nil
  | n + 1 => by rw [List.replicate_succ, List.flatten_cons]; exact h.append (flats_flatten h n)
theorem elem_run {ty e : TypeId} {n : Nat} (h : elemCells P ty = some (e, n)) : P.underlying ty = some (.slice e) ∧ typeSize P e = some n := by
  unfold elemCells at h
  split at h
  · rename_i e0 hu
    obtain ⟨m, hm, e1⟩ := Option.map_eq_some_iff.1 h
    cases e1
    exact ⟨hu, hm⟩
  · cases h

theorem sim_make (ht : TRel ρ K tmps t.tmps) {o : Oper} {b : Blk} {f : Nat → Value} (hk : kindO P o = .make) (e : makeA P tmps o = some (b, f)) :
    ∃ w' v', (execOp t.eval o).run P w = .ok (.value v') w' ∧ Makes ρ K w b f w' v' := by
  obtain ⟨dst, op, type, pos, after, guard⟩ := o
  cases op <;> simp only [makeA] at e <;> first
    | (cases e; done)
    | skip
  case alloc ty =>
    split at e
    · rename_i z hz
      cases e
      obtain ⟨z1, z2⟩ := run_zeroValue hz w
      obtain ⟨w', r, g1, g2⟩ := makes_var (P := P) (w := w) (flat_self z2 : VRel ρ K z z) ty
      refine ⟨w', r, ?_, g2⟩
      simp only [execOp]
      refine run_value ?_
      unfold Instr.alloc
      simp only [Sem.run_bind, z1, Result.andThen_ok] at g1 ⊢
      exact g1
    · cases e
  case box ty x =>
    split at e
    · rename_i v hv
      cases e
      obtain ⟨w', r, g1, g2⟩ := makes_var (P := P) (w := w) (rel_eval ht hv) ty
      exact ⟨w', r, run_value g1, g2⟩
    · cases e
  case buildSlice ty len parts =>
    split at e
    · rename_i te n vs hel hps
      obtain ⟨hu, hsz⟩ := elem_run hel
      have hp := rel_parts ht hps
      split at e
      · rename_i h0
        split at e
        · rename_i hvs
          cases e
          have : vs = [] := by simpa using hvs
          subst this
          have hpn : (parts.toList.map fun (i, x) => (i, t.eval x)) = [] := by
            generalize hgen : (parts.toList.map fun (i, x) => (i, t.eval x)) = l at hp
            cases hp; rfl
          refine ⟨{ w with heap := w.heap.push (.cells #[] te) }, .slice (some ⟨w.heap.size, 0, none⟩) len len, ?_, 0, false, .cells #[] te, rfl, rfl, rfl, rfl, fun ρ' K' id hx hid hρ => ⟨orel_cells rfl rfl .nil rfl rfl, ?_⟩⟩
          · simp only [execOp]
            refine run_value ?_
            unfold Instr.buildSlice
            simp only [Sem.run_bind, run_underlying hu, run_sizeOf hsz, Result.andThen_ok, h0, Nat.not_lt_zero, if_false, if_true, Sem.run_pure, Array.toList_map, hpn, Instr.fill, newRow, run_newObj]
            rw [show ∀ g : Nat → Value, Array.map g (Array.range 0) = #[] from fun g => Array.eq_empty_of_size_eq_zero (by simp)]
          · refine .slice hid (fun I e => ?_) (Nat.le_refl _) (Nat.le_refl _) (fun _ => rfl) (fun z hz => by simp at hz)
            cases hρ _ e; exact .inr rfl
        · cases e
      · rename_i h0
        split at e
        · rename_i z hz
          split at e
          · cases e
          · rename_i hbig
            split at e
            · rename_i hzn
              split at e
              · rename_i cs hcs
                cases e
                obtain ⟨z1, z2⟩ := run_zeroValue hz w
                have hzr : LRel ρ K z.cells.toList z.cells.toList := (flat_self z2).cells
                have hrow := range_zero hzn len (by omega)
                obtain ⟨r', f1, f2⟩ := run_fill hp (c' := (Array.range (len * n)).map fun i => z.cells[i % z.cells.size]!) (by rw [hrow]; exact flats_flatten hzr len) hcs
                refine ⟨{ w with heap := w.heap.push (.cells r' te) }, .slice (some ⟨w.heap.size, 0, none⟩) len len, ?_, r'.size, false, .cells r' te, rfl, rfl, rfl, rfl, fun ρ' K' id hx hid hρ => ⟨orel_cells rfl rfl (f2.mono hx) rfl rfl, ?_⟩⟩
                · simp only [execOp]
                  refine run_value ?_
                  unfold Instr.buildSlice
                  simp only [Sem.run_bind, run_underlying hu, run_sizeOf hsz, Result.andThen_ok, if_neg h0, if_neg hbig, Sem.run_pure, z1, Array.toList_map, f1, newRow, run_newObj]
                · refine .slice hid (fun I e => ?_) (Nat.le_refl _) (Nat.le_refl _) (fun _ => rfl) (fun z hz => by simp at hz)
                  cases hρ _ e; exact .inr rfl
              · cases e
            · cases e
        · cases e
    · cases e
  case convert s d x =>
    have hty : ∃ e, P.underlying s = some .string ∧ P.underlying d = some (.slice e) ∧ P.underlying e = some (.int .u8) := by
      simp only [kindO] at hk
      split at hk
      · split at hk <;> cases hk
      · rename_i e h1 h2
        split at hk
        · exact ⟨e, h1, h2, by assumption⟩
        · cases hk
      · cases hk
    obtain ⟨te, hs, hd, he⟩ := hty
    split at e
    · rename_i bs hx
      cases e
      have := rel_eval ht hx
      generalize hcv : t.eval x = cv at this
      cases this
      have hrun := Lib.run_convert_string_bytes w s d te bs hs hd he
      refine ⟨Lib.bytesWorld w te bs, .slice (some ⟨w.heap.size, 0, none⟩) bs.size (grownCap w bs.size 0 te), ?_, (Lib.bytesCells w te bs).size, true, .cells (Lib.bytesCells w te bs) te ((Lib.bytesCells w te bs).size, (Lib.bytesCells w te bs).size + 1), ?_, rfl, rfl, rfl, fun ρ' K' id hx hid hρ => ⟨?_, ?_⟩⟩
      · simp only [execOp, hcv]
        exact run_value hrun
      · apply Array.ext_getElem?
        intro k
        rw [Array.getElem?_push]
        by_cases hk1 : k = w.heap.size
        · subst hk1; rw [Lib.bytesWorld_at_new, if_pos rfl]
        · rw [if_neg hk1]
          by_cases hk2 : k < w.heap.size
          · exact Lib.bytesWorld_at_old w te bs k hk2
          · rw [Array.getElem?_eq_none (by rw [Lib.bytesWorld_size]; omega), Array.getElem?_eq_none (by omega)]
      · have hc : (Lib.bytesCells w te bs).toList = bs.data.toList.map u8 ++ List.replicate (grownCap w bs.size 0 te - bs.size) (.int .u8 0) := by
          simp [Lib.bytesCells, u8]
        refine .cells (fun j v h => ?_) (fun _ => ⟨rfl, fun o ho hh => absurd (show o < (Lib.bytesCells w te bs).size from ho) (Nat.not_lt.2 hh.1), fun h => by cases h⟩)
        have hlt := (List.getElem?_eq_some_iff.1 h).1
        have hv : ∃ u, v = u8 u := by
          rw [List.getElem?_map] at h
          obtain ⟨u, _, rfl⟩ := Option.map_eq_some_iff.1 h
          exact ⟨u, rfl⟩
        obtain ⟨u, rfl⟩ := hv
        refine ⟨u8 u, ?_, .int _ _⟩
        show (Lib.bytesCells w te bs)[j + 0]? = _
        rw [Nat.add_zero, ← Array.getElem?_toList, hc, List.getElem?_append_left hlt]; exact h
      · have hge := grownCap_ge w bs.size 0 te
        refine .slice hid (fun I e => ?_) (Nat.le_refl _) hge (fun hs => by simp at hs) (fun z hz I e => ?_)
        · cases hρ _ e; exact .inr rfl
        · cases hρ _ e
          exact absurd hz (by simp)
    · cases e
  case makeMap ty r =>
    cases r with
    | some r => cases e
    | none =>
      cases e
      refine ⟨{ w with heap := w.heap.push (.map #[] 0) }, .map (some w.heap.size), rfl, 0, false, .map #[] 0, rfl, rfl, rfl, rfl, fun ρ' K' id hx hid hρ => ⟨.obj (.map 0 .nil) rfl (by simp) rfl, ?_⟩⟩
      refine .map hid fun I e => ?_
      cases hρ _ e; rfl
  case makeSlice ty l c =>
    split at e
    · rename_i te n kl li kc ci hel hl hc
      obtain ⟨hu, hsz⟩ := elem_run hel
      split at e
      · rename_i z hz
        split at e
        · rename_i hcond
          obtain ⟨c0, c1, c2, c3, c4⟩ := hcond
          cases e
          have r1 := rel_eval ht hl
          have r2 := rel_eval ht hc
          generalize hcv : t.eval l = lv at r1
          generalize hcv2 : t.eval c = cv at r2
          cases r1; cases r2
          obtain ⟨z1, z2⟩ := run_zeroValue hz w
          have hzr : LRel ρ K z.cells.toList z.cells.toList := (flat_self z2).cells
          obtain ⟨ti, hti, hby⟩ : ∃ ti, P.info? te = some ti ∧ ti.bytes ≤ 1000000 := by
            cases hpi : P.info? te with
            | none => rw [hpi] at c4; simp at c4
            | some ti => rw [hpi] at c4; exact ⟨ti, rfl, by simpa using c4⟩
          have w1 : IntKind.i64.wrap li = li := IntWalk.i64_in _ (by omega)
          have w2 : IntKind.i64.wrap ci = ci := IntWalk.i64_in _ (by omega)
          have hrow : LRel ρ K (List.replicate ci.toNat z.cells.toList).flatten ((Array.range (ci.toNat * n)).map fun i => (if ci.toNat * n = 0 then #[] else z.cells)[i % (if ci.toNat * n = 0 then #[] else z.cells).size]!).toList := by
            by_cases h0 : ci.toNat * n = 0
            · have hl0 : (List.replicate ci.toNat z.cells.toList).flatten = [] := by
                apply List.eq_nil_of_length_eq_zero
                simp only [List.length_flatten, List.map_replicate, List.sum_replicate_nat, Array.length_toList, c3]
                exact h0
              rw [hl0, h0]
              simp
              exact .nil
            · simp only [if_neg h0]
              rw [range_zero c3 ci.toNat (by omega)]
              exact flats_flatten hzr _
          refine ⟨{ w with heap := w.heap.push (.cells ((Array.range (ci.toNat * n)).map fun i => (if ci.toNat * n = 0 then #[] else z.cells)[i % (if ci.toNat * n = 0 then #[] else z.cells).size]!) te) }, .slice (some ⟨w.heap.size, 0, none⟩) li.toNat ci.toNat, ?_, ci.toNat * n, false, .cells ((Array.range (ci.toNat * n)).map fun i => (if ci.toNat * n = 0 then #[] else z.cells)[i % (if ci.toNat * n = 0 then #[] else z.cells).size]!) te, rfl, rfl, rfl, rfl,
            fun ρ' K' id hx hid hρ => ⟨orel_cells rfl rfl (hrow.mono hx) (by simp) rfl, ?_⟩⟩
          · simp only [execOp, hcv, hcv2]
            refine run_value ?_
            unfold Instr.makeSlice
            have hb2 : ¬ ((ti.bytes : Int) * ci > 2 ^ 48) := by
              have : (ti.bytes : Int) * ci ≤ 1000000 * 1000000 := Int.mul_le_mul (by omega) c2 (by omega) (by omega)
              omega
            have hguard : ((decide (ci < 0) || decide ((ti.bytes : Int) * ci > 2 ^ 48)) || decide (li < 0) || decide (li > ci)) = false := by
              simp only [Bool.or_eq_false_iff, decide_eq_false_iff_not]
              exact ⟨⟨⟨by omega, hb2⟩, by omega⟩, by omega⟩
            simp only [Sem.run_bind, run_underlying hu, Result.andThen_ok, asInt, asIntOf, Sem.run_pure, run_typeInfo hti, w1, w2, run_askRoom, run_sizeOf hsz]
            rw [hguard]
            simp only [Bool.false_eq_true, if_false, Sem.run_bind, run_askRoom, Result.andThen_ok, run_sizeOf hsz]
            by_cases h0 : ci.toNat * n = 0
            · simp only [h0, if_true, Sem.run_bind, Sem.run_pure, Result.andThen_ok, newRow, run_newObj]
            · simp only [h0, if_false, Sem.run_bind, Sem.run_pure, Result.andThen_ok, newRow, run_newObj, z1]
          · refine .slice hid (fun I e => ?_) (by omega) (Nat.le_refl _) (fun _ => rfl) (fun z hz => by simp at hz)
            cases hρ _ e; exact .inr rfl
        · cases e
      · cases e
    · cases e
end
end
/- append. -/
section
open Go Go.RowKit
set_option linter.unusedVariables false
set_option linter.unusedSimpArgs false

section
variable {P : Program} {ρ : Ren} {a : AW} {w : World}

theorem sim_storeN_nil (h : WRel ρ a w) {p : Addr} {a' : AW} (hs : a.storeN p [] = some a') : Step ρ a.next w ρ a' w := by
  unfold AW.storeN at hs
  split at hs
  · rename_i c hg
    split at hs
    · rename_i hle
      cases hs
      obtain ⟨I, e⟩ := h.has _ _ hg
      obtain ⟨b, o, g1, g2, g3⟩ := h.blk _ _ e
      rw [hg] at g1
      cases g1
      obtain ⟨hIrw, _⟩ := g3.inv
      refine step_write h e hIrw (b := .cells (c.take p.off ++ ([] ++ c.drop (p.off + ([] : List Value).length))) true) (o := o) ?_ g2 rfl (fun _ _ => rfl) rfl rfl rfl
      have hcc : c.take p.off ++ ([] ++ c.drop (p.off + ([] : List Value).length)) = c := by simp
      rw [hcc]
      exact g3
    · cases hs
  · rename_i c k hg
    split at hs
    · rename_i hle
      cases hs
      obtain ⟨I, e⟩ := h.has _ _ hg
      obtain ⟨b, o, g1, g2, g3⟩ := h.blk _ _ e
      rw [hg] at g1
      cases g1
      obtain ⟨hIrw, _⟩ := g3.invH
      have hcc : c.take p.off ++ ([] ++ c.drop (p.off + ([] : List Value).length)) = c := by simp
      have hkk : c.length + k - max c.length (p.off + ([] : List Value).length) = k := by simp only [List.length_nil]; omega
      rw [hcc, hkk]
      exact step_write h e hIrw g3 g2 rfl (fun _ _ => rfl) rfl rfl rfl
    · cases hs
  · cases hs
theorem loadN_zero {p : Addr} {vs : List Value} (h : a.loadN p 0 = some vs) : vs = [] := by
  unfold AW.loadN at h
  split at h
  · split at h
    · cases h; simp
    · cases h
  · split at h
    · cases h; simp
    · cases h
  · cases h
/-- The first cells of what is read. -/
theorem sim_first (h : WRel ρ a w) {x x' : Value} (hx : VRel ρ a.next x x') {z n m : Nat} (hl : lenA x = some m) (hm : n ≤ m) {vs : List Value} (e : firstA z n x a = some vs) :
    Builtin.lenOf x' = (Pure.pure m : Sem Nat) ∧ ∃ vs' : List Value, LRel ρ a.next vs vs' ∧ (∀ w2 : World, w2.heap = w.heap → (Builtin.firstCells z n x').run P w2 = .ok vs'.toArray w2) ∧ vs'.length = n * z := by
  unfold firstA at e
  split at e
  · rename_i p k c
    simp only [lenA, Option.some.injEq] at hl
    subst hl
    cases hx with
    | @slice _ p' _ _ c' hK h1 hn hc h0 h2 =>
      refine ⟨rfl, ?_⟩
      by_cases hz : c' = 0
      · have hn0 : n = 0 := by omega
        subst hn0
        rw [Nat.zero_mul] at e ⊢
        obtain rfl := loadN_zero e
        refine ⟨[], .nil, fun w2 _ => ?_, by simp⟩
        unfold Builtin.firstCells
        rw [Nat.zero_mul]; rfl
      · obtain ⟨vs', g1, g2, g3⟩ := sim_loads (P := P) h (fun I eI => (h1 I eI).resolve_left hz) e
        exact ⟨vs', g1, g3, g2⟩
  · split at e
    · cases e
      rename_i hn0
      simp only [lenA, Option.some.injEq] at hl
      subst hl
      cases hx
      exact ⟨rfl, [], .nil, fun _ _ => rfl, by simp [hn0]⟩
    · cases e
  · rename_i s
    split at e
    case isFalse => cases e
    rename_i hz1
    cases e
    simp only [lenA, Option.some.injEq] at hl
    subst hl
    cases hx
    refine ⟨rfl, (s.data.toList.take n).map u8, ?_, ?_, ?_⟩
    · have : ∀ l : List UInt8, LRel ρ a.next (l.map u8) (l.map u8) := by
        intro l
        induction l with
        | nil => exact .nil
        | cons b l ih => exact .cons (.int _ _) ih
      exact this _
    · intro w2 _
      unfold Builtin.firstCells
      simp only [Sem.run_pure]
      congr 1
      apply Array.ext'
      simp [ByteArray.data_extract, Array.toList_extract, List.extract]
      rfl
    · have : s.size = s.data.toList.length := by simp
      subst hz1
      simp; omega
  · cases e
theorem next_cap {need c : Nat} (h : c < need) : Builtin.nextslicecap need c ≤ need + need / 2 + 1000 := by
  unfold Builtin.nextslicecap
  split
  · omega
  · split
    · omega
    · have step : ∀ k x, x ≤ need + (need + 768) / 4 → Builtin.growBy need k x ≤ need + (need + 768) / 4 := by
        intro k
        induction k with
        | zero => intro x hx; exact hx
        | succ k ih =>
          intro x hx
          unfold Builtin.growBy
          split
          · exact hx
          · exact ih _ (by omega)
      have := step 4 c (by omega)
      omega
theorem lenOf_run {x' : Value} {m : Nat} (h : Builtin.lenOf x' = (Pure.pure m : Sem Nat)) (w : World) : (Builtin.lenOf x').run P w = .ok m w := by rw [h]; rfl
theorem upd_comm_none (ρ : Ren) (i k : Nat) (J : Info) : ∀ j, upd (upd ρ i none) k (some J) j = if j = k then some J else if j = i then none else ρ j := by
  intro j; simp only [upd]
/-- A grown row on either side. -/
theorem step_grow (h : WRel ρ a w) {z n N : Nat} {cs : List Value} {c' : Array Value} {e : TypeId} {cap : Nat} {w1 : World} (hh : w1.heap = w.heap.push (.cells c' e)) (h1 : w1.os = w.os) (h2 : w1.tape = w.tape) (h3 : w1.output = w.output)
    (hc : ∀ (j : Nat) v, cs[j]? = some v → ∃ v', c'[j]? = some v' ∧ VRel ρ a.next v v') (hn : n ≤ cap) (hN : cap * z ≤ c'.size) :
    ∃ ρ', Step ρ a.next w ρ' (a.new (.cells cs true)) w1 ∧ VRel ρ' (a.next + 1) (.slice (some ⟨a.next, 0, some (z + 1)⟩) n n) (.slice (some ⟨w.heap.size, 0, none⟩) n cap) := by
  have hx := ext_new h ⟨w.heap.size, 0, c'.size, true, false⟩
  have st := step_new h (n := c'.size) (b := .cells cs true) (o := .cells c' e) (.cells (fun j v e => let ⟨v', g1, g2⟩ := hc j v e; ⟨v', g1, g2.mono hx⟩) (fun _ => ⟨rfl, fun o ho hh => absurd hh.2 (Nat.not_lt_zero _), fun _ => rfl⟩))
  have st2 := step_drew st.rel (w' := w1) hh h1 h2 h3
  refine ⟨_, st.trans st2, .slice (Nat.lt_succ_self _) (fun I eI => ?_) (Nat.le_refl _) hn (fun hs => by simp at hs) (fun z' hz' I eI => ?_)⟩
  · rw [upd_self] at eI; cases eI; exact .inr rfl
  · rw [upd_self] at eI; cases eI
    have : z' = z := by simpa using hz'.symm
    subst this
    exact ⟨rfl, by simpa using hN, .inr rfl⟩

def isIntD : TypeDesc → Bool
  | .int _ => true
  | _ => false
theorem isIntD_match (d : TypeDesc) : (match d with | .int _ => true | _ => false) = isIntD d := by cases d <;> rfl
/-- append, once its arguments' kinds are known. -/
theorem append_fits {ts : Array TypeId} {t xt te : TypeId} {xd : TypeDesc} {z n sLen cap : Nat} {base : Option Addr} {x' : Value} (ht : ts[0]? = some t) (hxt : ts[1]? = some xt) (hu : P.underlying t = some (.slice te)) (hsz : typeSize P te = some z)
    (hxd : P.underlying xt = some xd) (hni : isIntD xd = false) (hl : Builtin.lenOf x' = (Pure.pure n : Sem Nat)) (hfit : sLen + n ≤ cap) (ty : TypeId) (w : World) :
    (Builtin.append_ ts ty #[.slice base sLen cap, x']).run P w =
      (Builtin.firstCells z n x' >>= fun new => (match base with | some a => storeCells (a.add (sLen * z)) new.toList | none => Pure.pure ()) >>= fun _ => (Pure.pure (Value.slice base (sLen + n) cap) : Sem Value)).run P w := by
  unfold Builtin.append_
  simp only [ht, hxt, List.getElem?_toArray, List.getElem?_cons_zero, List.getElem?_cons_succ, Sem.run_bind, run_underlying hu, run_sizeOf hsz, run_underlying hxd, Result.andThen_ok, Sem.run_pure, hl]
  cases xd <;> first
    | (cases hni; done)
    | (simp only [Bool.false_eq_true, if_false, hl, Sem.run_bind, Sem.run_pure, Result.andThen_ok, if_pos hfit, Bool.not_false, if_true]
       cases base <;> simp only [Sem.run_bind, Sem.run_pure, Result.andThen_ok])
theorem append_grows {ts : Array TypeId} {t xt te : TypeId} {xd : TypeDesc} {z n sLen cap : Nat} {base : Option Addr} {x' zv : Value} {ti : TypeInfo} (ht : ts[0]? = some t) (hxt : ts[1]? = some xt) (hu : P.underlying t = some (.slice te)) (hsz : typeSize P te = some z)
    (hxd : P.underlying xt = some xd) (hni : isIntD xd = false) (hl : Builtin.lenOf x' = (Pure.pure n : Sem Nat)) (hfit : ¬ sLen + n ≤ cap) (hbig : ((sLen + n) + (sLen + n) / 2 + 1000) * ti.bytes ≤ 281474976710656) (hbig2 : sLen + n ≤ 4611686018427387904)
    (hti : P.info? te = some ti) (hz : zeroV P te = some zv) {old new : List Value} {w : World} (ho : ∀ w', w'.heap = w.heap → (Builtin.firstCells z sLen (.slice base sLen cap)).run P w' = .ok old.toArray w')
    (hnw : ∀ w', w'.heap = w.heap → (Builtin.firstCells z n x').run P w' = .ok new.toArray w') (ty : TypeId) :
    ∃ w1 c, (Builtin.append_ ts ty #[.slice base sLen cap, x']).run P w = .ok (.slice (some ⟨w.heap.size, 0, none⟩) (sLen + n) c) w1 ∧ sLen + n ≤ c ∧ w1.os = w.os ∧ w1.tape = w.tape ∧ w1.output = w.output ∧
      w1.heap = w.heap.push (.cells (old.toArray ++ new.toArray ++ Builtin.zeroCells zv.cells (c - (sLen + n))) te) := by
  have hq : (Question.appendCap (sLen + n) cap te).forced = false := rfl
  refine ⟨{ w with drawn := w.drawn + 1, heap := w.heap.push (.cells (old.toArray ++ new.toArray ++ Builtin.zeroCells zv.cells (grownCap w (sLen + n) cap te - (sLen + n))) te) }, grownCap w (sLen + n) cap te, ?_, grownCap_ge w _ _ _, rfl, rfl, rfl, rfl⟩
  unfold Builtin.append_
  have hcap := next_cap (show cap < sLen + n by omega)
  have hb : ¬ (Builtin.nextslicecap (sLen + n) cap * ti.bytes > 2 ^ 48) := by
    have : Builtin.nextslicecap (sLen + n) cap * ti.bytes ≤ ((sLen + n) + (sLen + n) / 2 + 1000) * ti.bytes := Nat.mul_le_mul hcap (Nat.le_refl _)
    omega
  have hmax : ¬ (((sLen + n : Nat) : Int) > IntKind.i64.max ∧ (False ∨ ti.bytes = 0)) := by
    intro hh
    have := hh.1
    simp [IntKind.max, IntKind.bits, IntKind.signed] at this
    omega
  simp only [ht, hxt, List.getElem?_toArray, List.getElem?_cons_zero, List.getElem?_cons_succ, Sem.run_bind, run_underlying hu, run_sizeOf hsz, run_underlying hxd, Result.andThen_ok, Sem.run_pure, hl]
  have ho0 := fun w' => ho w'
  cases xd <;> first
    | (cases hni; done)
    | (simp only [Bool.false_eq_true, if_false, hl, Sem.run_bind, Sem.run_pure, Result.andThen_ok, if_neg hfit, Bool.not_false, if_true, run_typeInfo hti, if_neg hmax, if_neg hb, run_choose, hq, run_askRoom, ho, hnw, (run_zeroValue hz _).1, newRow, run_newObj]
       rfl)
/-- A number is given up. -/
theorem step_drop (h : WRel ρ a w) (i : Nat) : Step ρ a.next w (upd ρ i none) (a.drop i) w := by
  have hρ : ∀ j K, upd ρ i none j = some K → j ≠ i ∧ ρ j = some K := by
    intro j K ej
    by_cases hj : j = i
    · subst hj; rw [upd_self] at ej; cases ej
    · rw [upd_ne _ _ hj] at ej; exact ⟨hj, ej⟩
  have hx : Ext ρ a.next (upd ρ i none) a.next := ⟨Nat.le_refl _, fun j hj => by
    by_cases hji : j = i
    · subst hji; exact .inr (upd_self _ _ _)
    · exact .inl (upd_ne _ _ hji)⟩
  have hg : ∀ j, (a.drop i).get j = if j = i then none else a.get j := fun j => by
    simp only [AW.get, AW.drop, look_kill h.falls i j]
  refine ⟨⟨h.falls.kill i, fun j K ej => h.lt j K (hρ j K ej).2, fun j K ej => ?_, fun j b ej => ?_, fun j k K L ej ek hb => h.inj j k K L (hρ j K ej).2 (hρ k L ek).2 hb⟩, hx, fun j K ej => .inl ⟨j, K, (hρ j K ej).2, rfl, rfl⟩, fun _ _ _ => rfl, Nat.le_refl _, rfl, rfl, rfl⟩
  · obtain ⟨hj, ej⟩ := hρ j K ej
    obtain ⟨b, o, g1, g2, g3⟩ := h.blk j K ej
    exact ⟨b, o, by rw [hg, if_neg hj]; exact g1, g2, g3.mono hx⟩
  · rw [hg] at ej
    split at ej
    · cases ej
    · rename_i hj
      obtain ⟨K, eK⟩ := h.has j b ej
      exact ⟨K, by rw [upd_ne _ _ hj]; exact eK⟩
theorem pushed_cells {was new was' new' : List Value} {zv : Value} {c need z K : Nat} (h1 : LRel ρ K was was') (h2 : LRel ρ K new new') (hz : zv.cells.size = z) :
    (∀ (j : Nat) v, (was ++ new)[j]? = some v → ∃ v', (was'.toArray ++ new'.toArray ++ Builtin.zeroCells zv.cells (c - need))[j]? = some v' ∧ VRel ρ K v v') ∧
    (was'.toArray ++ new'.toArray ++ Builtin.zeroCells zv.cells (c - need)).size = was'.length + new'.length + (c - need) * z := by
  refine ⟨fun j v e => ?_, by simp [Builtin.zeroCells, hz, Nat.add_assoc]⟩
  obtain ⟨v', e1, e2⟩ := (h1.append h2).get e
  refine ⟨v', ?_, e2⟩
  have hlt := (List.getElem?_eq_some_iff.1 e1).1
  rw [Array.getElem?_append_left (by simpa using hlt)]
  rw [← e1]
  simp

theorem all_one {K : Nat} {l l' : List Value} (h : LRel ρ K l l') (ho : l.all Value.oneCell' = true) : l'.all Value.oneCell' = true := by
  induction h with
  | nil => rfl
  | cons hh _ ih =>
    simp only [List.all_cons, Bool.and_eq_true] at ho ⊢
    exact ⟨by rw [← hh.oneCell]; exact ho.1, ih ho.2⟩
/-- An append that fits where the evaluator does not know it: the row gets another number. -/
theorem move_in0 (h : WRel ρ a w) {ts : Array TypeId} {t xt te : TypeId} {xd : TypeDesc} {z n sLen sCap c' : Nat} {p p' : Addr} {x' v : Value} {a' : AW} {was new new' : List Value}
    (hK : p.block < a.next) (h1 : ∀ I, ρ p.block = some I → c' = 0 ∨ p' = ⟨I.b, p.off + I.sh, none⟩)
    (h2 : ∀ z, p.spot = some (z + 1) → ∀ I, ρ p.block = some I → I.rw = true ∧ p.off + I.sh + c' * z ≤ I.n ∧ (False ∨ I.fz = false)) (hsp : p.spot = some (z + 1)) (hfit : ¬ sLen + n ≤ sCap) (hfit' : sLen + n ≤ c') (hln : sLen ≤ sCap)
    (ht : ts[0]? = some t) (hxt : ts[1]? = some xt) (hu : P.underlying t = some (.slice te)) (hsz : typeSize P te = some z) (hxd : P.underlying xt = some xd) (hni : isIntD xd = false) (hlx : Builtin.lenOf x' = (Pure.pure n : Sem Nat))
    {c : List Value} (hg : (∃ rw, a.get p.block = some (.cells c rw)) ∨ ∃ k, a.get p.block = some (.holey c k)) (hle : p.off + sLen * z ≤ c.length) (hwas : (c.drop p.off).take (sLen * z) = was) (hn1 : LRel ρ a.next new new') (hn2 : (Builtin.firstCells z n x').run P w = .ok new'.toArray w) (hn3 : new'.length = n * z) (hone : new.all Value.oneCell' = true)
    (e : growA z (sLen + n) (was ++ new) (a.drop p.block) = (v, a')) (ty : TypeId) :
    ∃ ρ' w' v', (Builtin.append_ ts ty #[.slice (some p') sLen c', x']).run P w = .ok v' w' ∧ Step ρ a.next w ρ' a' w' ∧ VRel ρ' a'.next v v' := by
  have hrun := append_fits (P := P) (base := some p') ht hxt hu hsz hxd hni hlx hfit' ty w
  simp only [Sem.run_bind, hn2, Result.andThen_ok, List.toList_toArray] at hrun
  obtain ⟨I, cc, te', fr, eI, g2, hc, hw, -, -⟩ := blk_view h hg
  obtain ⟨hr, hN, hzz⟩ := h2 z hsp I eI
  obtain ⟨hn, hf, hfz⟩ := hw hr
  have hp : p' = ⟨I.b, p.off + I.sh, none⟩ := (h1 I eI).resolve_left (by omega)
  subst hp
  have hmul : (sLen + n) * z ≤ c' * z := Nat.mul_le_mul_right z hfit'
  have hadd : (sLen + n) * z = sLen * z + n * z := Nat.add_mul _ _ _
  have hroom : p.off + I.sh + sLen * z + new'.length ≤ cc.size := by omega
  have hone' : new'.all Value.oneCell' = true := all_one hn1 hone
  have hst := run_stores P new' w cc (p.off + I.sh + sLen * z) 0 g2 hone' (by omega) (fun o h1 h2 => hf o (by omega))
  have hat : Addr.add ⟨I.b, p.off + I.sh, none⟩ (sLen * z) = ⟨I.b, p.off + I.sh + sLen * z, none⟩ := by
    unfold Addr.add
    split
    · rename_i h0; rw [h0]; rfl
    · rfl
  rw [hat, hst] at hrun
  simp only [Result.andThen_ok, Sem.run_pure, Nat.add_zero] at hrun
  have hlt := (Array.getElem?_eq_some_iff.1 g2).1
  have hwl : was.length = sLen * z := by rw [← hwas]; simp; omega
  have st := step_move h eI hr (J := ⟨I.b, p.off + I.sh, I.n, true, I.fz⟩) rfl rfl (b := .cells (was ++ new) true) (o := .cells (over cc (p.off + I.sh + sLen * z) new') te' fr)
    (w' := { w with heap := w.heap.setIfInBounds I.b (.cells (over cc (p.off + I.sh + sLen * z) new') te' fr) })
    (.cells (fun j u ej => by
      show ∃ v', (over cc (p.off + I.sh + sLen * z) new')[j + (p.off + I.sh)]? = some v' ∧ _
      have hx : Ext ρ a.next (upd (upd ρ p.block none) a.next (some ⟨I.b, p.off + I.sh, I.n, true, I.fz⟩)) (a.next + 1) := by
        refine ⟨Nat.le_succ _, fun i hi => ?_⟩
        rw [upd_ne _ _ (by omega)]
        by_cases hi2 : i = p.block
        · subst hi2; exact .inr (upd_self _ _ _)
        · exact .inl (upd_ne _ _ hi2)
      rw [over_get hroom]
      by_cases hj : j < sLen * z
      · rw [if_pos (by omega)]
        rw [List.getElem?_append_left (by omega)] at ej
        rw [← hwas, List.getElem?_take_of_lt hj, List.getElem?_drop] at ej
        obtain ⟨v', k1, k2⟩ := hc _ _ ej
        exact ⟨v', by rw [show j + (p.off + I.sh) = p.off + j + I.sh by omega]; exact k1, k2.mono hx⟩
      · rw [List.getElem?_append_right (by omega), hwl] at ej
        obtain ⟨v', k1, k2⟩ := hn1.get ej
        have hjl := (List.getElem?_eq_some_iff.1 k1).1
        rw [if_neg (by omega), if_pos (by omega)]
        exact ⟨v', by rw [show j + (p.off + I.sh) - (p.off + I.sh + sLen * z) = j - sLen * z by omega]; exact k1, k2.mono hx⟩)
      (fun _ => ⟨by rw [over_size hroom]; exact hn, hf, hfz⟩))
    (by simp [hlt]) (by simp) (fun k hk => by simp [Ne.symm hk]) rfl rfl rfl
  simp only [growA, Prod.mk.injEq] at e
  obtain ⟨rfl, rfl⟩ := e
  refine ⟨_, _, _, hrun, st, ?_⟩
  refine .slice (Nat.lt_succ_self _) (fun J eJ => ?_) (Nat.le_refl _) hfit' (fun hs => by simp at hs) (fun z' hz' J eJ => ?_)
  · rw [show (a.drop p.block).next = a.next from rfl, upd_self] at eJ
    cases eJ
    right; simp
  · rw [show (a.drop p.block).next = a.next from rfl, upd_self] at eJ
    cases eJ
    have : z' = z := by simpa using hz'.symm
    subst this
    refine ⟨rfl, ?_, hzz⟩
    show 0 + (p.off + I.sh) + c' * z' ≤ I.n
    omega
theorem move_in (h : WRel ρ a w) {ts : Array TypeId} {t xt te : TypeId} {xd : TypeDesc} {z n sLen sCap c' : Nat} {p p' : Addr} {x' v : Value} {a' : AW} {was new new' : List Value}
    (hK : p.block < a.next) (h1 : ∀ I, ρ p.block = some I → c' = 0 ∨ p' = ⟨I.b, p.off + I.sh, none⟩)
    (h2 : ∀ z, p.spot = some (z + 1) → ∀ I, ρ p.block = some I → I.rw = true ∧ p.off + I.sh + c' * z ≤ I.n ∧ (False ∨ I.fz = false)) (hsp : p.spot = some (z + 1)) (hfit : ¬ sLen + n ≤ sCap) (hfit' : sLen + n ≤ c') (hln : sLen ≤ sCap)
    (ht : ts[0]? = some t) (hxt : ts[1]? = some xt) (hu : P.underlying t = some (.slice te)) (hsz : typeSize P te = some z) (hxd : P.underlying xt = some xd) (hni : isIntD xd = false) (hlx : Builtin.lenOf x' = (Pure.pure n : Sem Nat))
    (hwas : firstA z sLen (.slice (some p) sLen sCap) a = some was) (hn1 : LRel ρ a.next new new') (hn2 : (Builtin.firstCells z n x').run P w = .ok new'.toArray w) (hn3 : new'.length = n * z) (hone : new.all Value.oneCell' = true)
    (e : growA z (sLen + n) (was ++ new) (a.drop p.block) = (v, a')) (ty : TypeId) :
    ∃ ρ' w' v', (Builtin.append_ ts ty #[.slice (some p') sLen c', x']).run P w = .ok v' w' ∧ Step ρ a.next w ρ' a' w' ∧ VRel ρ' a'.next v v' := by
  simp only [firstA, AW.loadN] at hwas
  split at hwas
  · rename_i c rw_ hg
    split at hwas
    · rename_i hle
      simp only [Option.some.injEq] at hwas
      exact move_in0 h hK h1 h2 hsp hfit hfit' hln ht hxt hu hsz hxd hni hlx (.inl ⟨_, hg⟩) hle hwas hn1 hn2 hn3 hone e ty
    · cases hwas
  · rename_i c k hg
    split at hwas
    · rename_i hle
      simp only [Option.some.injEq] at hwas
      exact move_in0 h hK h1 h2 hsp hfit hfit' hln ht hxt hu hsz hxd hni hlx (.inr ⟨_, hg⟩) hle hwas hn1 hn2 hn3 hone e ty
    · cases hwas
  · cases hwas
theorem append_zeros {ts : Array TypeId} {t xt te : TypeId} {kd kk : IntKind} {z sLen cap : Nat} {k : Int} {base : Option Addr} {zv : Value} {ti : TypeInfo} (ht : ts[0]? = some t) (hxt : ts[1]? = some xt) (hu : P.underlying t = some (.slice te)) (hsz : typeSize P te = some z)
    (hxd : P.underlying xt = some (.int kd)) (hk0 : 0 ≤ k) (hk1 : k ≤ 1000000) (hfit : cap < sLen + k.toNat) (hbig : ((sLen + k.toNat) + (sLen + k.toNat) / 2 + 1000) * ti.bytes ≤ 281474976710656) (hbig2 : sLen + k.toNat ≤ 4611686018427387904)
    (hti : P.info? te = some ti) (hz : zeroV P te = some zv) (hzz : zv.cells.size = z) {old : List Value} {w : World} (ho : ∀ w', w'.heap = w.heap → (Builtin.firstCells z sLen (.slice base sLen cap)).run P w' = .ok old.toArray w') (ty : TypeId) :
    ∃ w1 c, (Builtin.append_ ts ty #[.slice base sLen cap, .int kk k]).run P w = .ok (.slice (some ⟨w.heap.size, 0, none⟩) (sLen + k.toNat) c) w1 ∧ sLen + k.toNat ≤ c ∧ w1.os = w.os ∧ w1.tape = w.tape ∧ w1.output = w.output ∧
      w1.heap = w.heap.push (.cells (old.toArray ++ Builtin.zeroCells zv.cells k.toNat ++ Builtin.zeroCells zv.cells (c - (sLen + k.toNat))) te) := by
  have hq : (Question.appendCap (sLen + k.toNat) cap te).forced = false := rfl
  refine ⟨{ w with drawn := w.drawn + 1, heap := w.heap.push (.cells (old.toArray ++ Builtin.zeroCells zv.cells k.toNat ++ Builtin.zeroCells zv.cells (grownCap w (sLen + k.toNat) cap te - (sLen + k.toNat))) te) }, grownCap w (sLen + k.toNat) cap te, ?_, grownCap_ge w _ _ _, rfl, rfl, rfl, rfl⟩
  unfold Builtin.append_
  have hcap := next_cap hfit
  have hb : ¬ (Builtin.nextslicecap (sLen + k.toNat) cap * ti.bytes > 2 ^ 48) := by
    have : Builtin.nextslicecap (sLen + k.toNat) cap * ti.bytes ≤ ((sLen + k.toNat) + (sLen + k.toNat) / 2 + 1000) * ti.bytes := Nat.mul_le_mul hcap (Nat.le_refl _)
    omega
  have hmax : ¬ (((sLen + k.toNat : Nat) : Int) > IntKind.i64.max ∧ (True ∨ ti.bytes = 0)) := by
    intro hh
    have := hh.1
    simp [IntKind.max, IntKind.bits, IntKind.signed] at this
    omega
  have hw : IntKind.i64.wrap k = k := IntWalk.i64_in _ (by omega)
  have hl0 : ¬ k < 0 := by omega
  have hl1 : ¬ (k * (ti.bytes : Int) > 2 ^ 48) := by
    have h1 : k.toNat * ti.bytes ≤ ((sLen + k.toNat) + (sLen + k.toNat) / 2 + 1000) * ti.bytes := Nat.mul_le_mul (by omega) (Nat.le_refl _)
    have h2 : k * (ti.bytes : Int) = ((k.toNat * ti.bytes : Nat) : Int) := by
      rw [Int.natCast_mul, Int.toNat_of_nonneg hk0]
    rw [h2]
    omega
  have hfit' : ¬ sLen + k.toNat ≤ cap := by omega
  have ho0 := fun w' => ho w'
  have hzc : (if k.toNat * z = 0 then (Pure.pure #[] : Sem (Array Value)) else do Pure.pure (Builtin.zeroCells (← zeroValue te).cells k.toNat)).run P = fun w' => .ok (Builtin.zeroCells zv.cells k.toNat) w' := by
    funext w'
    split
    · rename_i h0
      have : Builtin.zeroCells zv.cells k.toNat = #[] := by
        apply Array.eq_empty_of_size_eq_zero
        simp [Builtin.zeroCells, hzz, h0]
      rw [this]; rfl
    · simp only [Sem.run_bind, (run_zeroValue hz _).1, Result.andThen_ok, Sem.run_pure]
  simp only [ht, hxt, List.getElem?_toArray, List.getElem?_cons_zero, List.getElem?_cons_succ, Sem.run_bind, run_underlying hu, run_sizeOf hsz, run_underlying hxd, Result.andThen_ok, Sem.run_pure, if_true, asInt, asIntOf, hw, if_neg hl0, run_typeInfo hti, if_neg hl1, if_neg hfit', if_neg hmax, if_neg hb, run_choose, hq, run_askRoom, ho0, (run_zeroValue hz _).1, newRow, run_newObj, Bool.not_true, Bool.false_eq_true, if_false, hzc]
  rfl
theorem zeroCells_list {zv : Value} {n z : Nat} (hz : zv.cells.size = z) : (Builtin.zeroCells zv.cells n).toList = (List.replicate n zv.cells.toList).flatten := by
  subst hz
  unfold Builtin.zeroCells
  by_cases h : 0 < n * zv.cells.size
  · exact range_zero rfl n h
  · have h0 : n * zv.cells.size = 0 := by omega
    have hl : (List.replicate n zv.cells.toList).flatten = [] := by
      apply List.eq_nil_of_length_eq_zero
      simp only [List.length_flatten, List.map_replicate, List.sum_replicate_nat, Array.length_toList]
      exact h0
    rw [hl, h0]; simp
theorem sim_zeros (h : WRel ρ a w) {ts : Array TypeId} {t xt te : TypeId} {kd : IntKind} {z : Nat} {s s' x x' v : Value} {a' : AW} (ht : ts[0]? = some t) (hxt : ts[1]? = some xt) (hu : P.underlying t = some (.slice te)) (hsz : typeSize P te = some z) (hxd : P.underlying xt = some (.int kd))
    (hs : VRel ρ a.next s s') (hx : VRel ρ a.next x x') (e : zerosA P te z s x a = some (v, a')) (ty : TypeId) :
    ∃ ρ' w' v', (Builtin.append_ ts ty #[s', x']).run P w = .ok v' w' ∧ Step ρ a.next w ρ' a' w' ∧ VRel ρ' a'.next v v' := by
  unfold zerosA at e
  split at e
  · rename_i p len cap kk k
    cases hx
    split at e
    · rename_i hc
      obtain ⟨hsp, hk0, hk1, hfit⟩ := hc
      split at e
      · rename_i was zv hwas hzv
        split at e
        · cases e
        · rename_i hcond
          simp only [not_or, Bool.not_eq_false] at hcond
          obtain ⟨c2, c3⟩ := hcond
          simp only [Option.some.injEq] at e
          have hzz : zv.cells.size = z := by simpa using c3
          obtain ⟨ti, hti, hby⟩ : ∃ ti, P.info? te = some ti ∧ (((len + k.toNat) + (len + k.toNat) / 2 + 1000) * ti.bytes ≤ 281474976710656 ∧ len + k.toNat ≤ 4611686018427387904) := by
            cases hpi : P.info? te with
            | none => rw [hpi] at c2; simp at c2
            | some ti => rw [hpi] at c2; exact ⟨ti, rfl, by simpa using c2⟩
          obtain ⟨_, was', o1, o2, o3⟩ := sim_first (P := P) h hs (show lenA (.slice (some p) len cap) = some len from rfl) (Nat.le_refl _) hwas
          cases hs with
          | @slice _ p' _ _ c' hK h1 hln hcc h0 h2 =>
            have hcap : c' = cap := h0 hsp
            subst hcap
            obtain ⟨w1, c, r1, r2, r3, r4, r5, r6⟩ := append_zeros (P := P) (w := w) (kk := kk) ht hxt hu hsz hxd hk0 hk1 hfit hby.1 hby.2 hti hzv hzz o2 ty
            have hzl := zeroCells_list (n := k.toNat) hzz
            have hfz : LRel ρ a.next (List.replicate k.toNat zv.cells.toList).flatten (Builtin.zeroCells zv.cells k.toNat).toList := by
              rw [hzl]; exact flats_flatten (flat_self (run_zeroValue hzv w).2).cells _
            obtain ⟨q1, q2⟩ := pushed_cells (c := c) (need := len + k.toNat) o1 hfz hzz
            have hsize : (Builtin.zeroCells zv.cells k.toNat).toList.length = k.toNat * z := by simp [Builtin.zeroCells, hzz]
            have harr : was'.toArray ++ Builtin.zeroCells zv.cells k.toNat = was'.toArray ++ (Builtin.zeroCells zv.cells k.toNat).toList.toArray := by simp
            obtain ⟨ρ', st, hv⟩ := step_grow h (z := z) (n := len + k.toNat) (N := 0) (by rw [r6, harr]) r3 r4 r5 q1 r2 (by
              rw [q2, o3, hsize, ← Nat.add_mul, ← Nat.add_mul, Nat.add_sub_cancel' r2]; exact Nat.le_refl _)
            simp only [growA, Prod.mk.injEq] at e
            obtain ⟨rfl, rfl⟩ := e
            exact ⟨ρ', w1, _, r1, st, hv⟩
      · cases e
    · cases e
  · cases e
theorem sim_append (h : WRel ρ a w) {ts : Array TypeId} {s s' x x' v : Value} {a' : AW} (hs : VRel ρ a.next s s') (hx : VRel ρ a.next x x') (e : appendA P ts s x a = some (v, a')) (ty : TypeId) :
    ∃ ρ' w' v', (Builtin.append_ ts ty #[s', x']).run P w = .ok v' w' ∧ Step ρ a.next w ρ' a' w' ∧ VRel ρ' a'.next v v' := by
  unfold appendA at e
  split at e
  · rename_i t xt ht hxt
    split at e
    · rename_i te z xd hel hxd
      obtain ⟨hu, hsz⟩ := elem_run hel
      split at e
      · exact sim_zeros h ht hxt hu hsz hxd hs hx e ty
      · rename_i xdr xd0 s0 lo base sLen sCap n hnint hlen
        have hni : isIntD xdr = false := by
          cases xdr <;> first | rfl | exact absurd rfl (hnint _)
        split at e
        · cases e
        · rename_i new hnew
          obtain ⟨hlx, new', hn1, hn2, hn3⟩ := sim_first (P := P) h hx hlen (Nat.le_refl _) hnew
          by_cases hfit : sLen + n ≤ sCap
          · -- in place
            rw [if_pos hfit] at e
            cases base with
            | none =>
              simp only [Option.some.injEq, Prod.mk.injEq] at e
              obtain ⟨rfl, rfl⟩ := e
              cases hs
              have hrun := append_fits (P := P) (base := none) ht hxt hu hsz hxd hni hlx hfit ty w
              simp only [Sem.run_bind, hn2 w rfl, Result.andThen_ok] at hrun
              exact ⟨ρ, w, .slice none (sLen + n) sCap, by rw [hrun]; rfl, .refl h, .sliceNil _ _⟩
            | some p =>
              cases hs with
              | @slice _ p' _ _ c' hK h1 hln hc h0 h2 =>
                simp only at e
                split at e
                · rename_i a1 hst
                  cases e
                  have hrun := append_fits (P := P) (base := some p') ht hxt hu hsz hxd hni hlx (show sLen + n ≤ c' by omega) ty w
                  simp only [Sem.run_bind, hn2 w rfl, Result.andThen_ok] at hrun
                  by_cases hz : c' = 0
                  · have hnl : new'.length = 0 := by
                      have hn0 : n = 0 := by omega
                      rw [hn3]; subst hn0
                      simp
                    obtain rfl := List.eq_nil_of_length_eq_zero hnl
                    have hnn : new = [] := List.eq_nil_of_length_eq_zero (by rw [hn1.length]; rfl)
                    subst hnn
                    have st := sim_storeN_nil h hst
                    exact ⟨ρ, w, .slice (some p') (sLen + n) c', by rw [hrun]; rfl, st, (VRel.slice hK h1 hfit hc h0 h2).mono st.ext⟩
                  · have hat : AtRel ρ p p' := fun I eI => (h1 I eI).resolve_left hz
                    obtain ⟨w', g1, st⟩ := sim_storeN (P := P) h (hat.add (sLen * z) p.spot) hn1 hst
                    refine ⟨ρ, w', .slice (some p') (sLen + n) c', ?_, st, (VRel.slice hK h1 hfit hc h0 h2).mono st.ext⟩
                    rw [hrun]
                    simp only [List.toList_toArray, g1, Result.andThen_ok, Sem.run_pure]
                · cases e
          · rw [if_neg hfit] at e
            split at e
            · cases e
            · rename_i was hwas
              split at e
              · cases e
              · rename_i hcond
                simp only [not_or, Nat.not_lt, Bool.not_eq_false] at hcond
                obtain ⟨c2, c3, c4⟩ := hcond
                obtain ⟨ti, hti, hby⟩ : ∃ ti, P.info? te = some ti ∧ (((sLen + n) + (sLen + n) / 2 + 1000) * ti.bytes ≤ 281474976710656 ∧ sLen + n ≤ 4611686018427387904) := by
                  cases hpi : P.info? te with
                  | none => rw [hpi] at c2; simp at c2
                  | some ti => rw [hpi] at c2; exact ⟨ti, rfl, by simpa using c2⟩
                obtain ⟨zv, hzv, hzz⟩ : ∃ zv, zeroV P te = some zv ∧ zv.cells.size = z := by
                  cases hpi : zeroV P te with
                  | none => rw [hpi] at c3; simp at c3
                  | some zv => rw [hpi] at c3; exact ⟨zv, rfl, by simpa using c3⟩
                -- a new row, whatever the old one's number becomes
                have grow : ∀ (ρ1 : Ren) (a1 : AW) (base' : Option Addr) (cap' : Nat) (was' : List Value), Step ρ a.next w ρ1 a1 w → a1.next = a.next → ¬ sLen + n ≤ cap' → LRel ρ a.next was was' → (∀ w2 : World, w2.heap = w.heap → (Builtin.firstCells z sLen (.slice base' sLen cap')).run P w2 = .ok was'.toArray w2) →
                    was'.length + new'.length = (sLen + n) * z →
                    ∃ ρ' w' v', (Builtin.append_ ts ty #[.slice base' sLen cap', x']).run P w = .ok v' w' ∧ Step ρ a.next w ρ' (growA z (sLen + n) (was ++ new) a1).2 w' ∧ VRel ρ' (growA z (sLen + n) (was ++ new) a1).2.next (growA z (sLen + n) (was ++ new) a1).1 v' := by
                  intro ρ1 a1 base' cap' was' st0 hnx hnf g1 g3 hlen2
                  obtain ⟨w1, c, r1, r2, r3, r4, r5, r6⟩ := append_grows (P := P) (w := w) ht hxt hu hsz hxd hni hlx hnf hby.1 hby.2 hti hzv g3 hn2 ty
                  obtain ⟨q1, q2⟩ := pushed_cells (c := c) (need := sLen + n) (g1.mono st0.ext) (hn1.mono st0.ext) hzz
                  obtain ⟨ρ', st, hv⟩ := step_grow st0.rel (z := z) (n := sLen + n) (N := 0) r6 r3 r4 r5 q1 r2 (by
                    rw [q2, hlen2, ← Nat.add_mul, Nat.add_sub_cancel' r2]; exact Nat.le_refl _)
                  exact ⟨ρ', w1, _, r1, st0.trans st, hv⟩
                obtain ⟨_, was', o1, o2, o3⟩ := sim_first (P := P) h hs (show lenA (.slice base sLen sCap) = some sLen from rfl) (Nat.le_refl _) hwas
                have hsum : was'.length + new'.length = (sLen + n) * z := by rw [o3, hn3, Nat.add_mul]
                cases base with
                | none =>
                  simp only [Option.some.injEq] at e
                  cases hs
                  obtain ⟨ρ', w', v', r1, r2, r3⟩ := grow ρ a none sCap was' (.refl h) rfl hfit o1 o2 hsum
                  rw [e] at r2 r3
                  exact ⟨ρ', w', v', r1, r2, r3⟩
                | some p =>
                  cases hs with
                  | @slice _ p' _ _ c' hK h1 hln hc h0 h2 =>
                    simp only at e
                    split at e
                    · -- the capacity is known
                      rename_i hsp
                      simp only [Option.some.injEq] at e
                      obtain ⟨ρ', w', v', r1, r2, r3⟩ := grow ρ a (some p') c' was' (.refl h) rfl (by rw [h0 hsp]; exact hfit) o1 o2 hsum
                      rw [e] at r2 r3
                      exact ⟨ρ', w', v', r1, r2, r3⟩
                    · split at e
                      · rename_i hsp0 hsp
                        simp only [Option.some.injEq] at e
                        by_cases hfit' : sLen + n ≤ c'
                        · exact move_in h hK h1 h2 hsp hfit hfit' hln ht hxt hu hsz hxd hni hlx hwas hn1 (hn2 w rfl) hn3 (by simpa using c4) e ty
                        · obtain ⟨ρ', w', v', r1, r2, r3⟩ := grow (upd ρ p.block none) (a.drop p.block) (some p') c' was' (step_drop h p.block) rfl hfit' o1 o2 hsum
                          rw [e] at r2 r3
                          exact ⟨ρ', w', v', r1, r2, r3⟩
                      · cases e
      · cases e
    · cases e
  · cases e
end
end
/- The other operations that write. -/
section
open Go Go.RowKit
set_option linter.unusedVariables false
set_option linter.unusedSimpArgs false

section
variable {P : Program} {ρ : Ren} {a : AW} {w : World}

/-- Cells are put where a slice lies. -/
theorem sim_storeS (h : WRel ρ a w) {p p' : Addr} {c' : Nat} {vs vs' : List Value} {a' : AW} (h1 : ∀ I, ρ p.block = some I → c' = 0 ∨ p' = ⟨I.b, p.off + I.sh, none⟩) (hv : LRel ρ a.next vs vs') (hz : c' = 0 → vs = [])
    (hs : a.storeN p vs = some a') : ∃ w', (storeCells p' vs').run P w = .ok () w' ∧ Step ρ a.next w ρ a' w' := by
  by_cases hc : c' = 0
  · have := hz hc
    subst this
    cases hv
    exact ⟨w, rfl, sim_storeN_nil h hs⟩
  · exact sim_storeN (P := P) h (fun I eI => (h1 I eI).resolve_left hc) hv hs
theorem sim_copy (h : WRel ρ a w) {ts : Array TypeId} {d d' x x' v : Value} {a' : AW} (hd : VRel ρ a.next d d') (hx : VRel ρ a.next x x') (e : copyA P ts d x a = some (v, a')) (ty : TypeId) :
    ∃ w' v', (Builtin.copy_ ts ty #[d', x']).run P w = .ok v' w' ∧ Step ρ a.next w ρ a' w' ∧ VRel ρ a'.next v v' := by
  unfold copyA at e
  split at e
  · rename_i t ht
    split at e
    · rename_i te z base len cap n hel hlen
      obtain ⟨hu, hsz⟩ := elem_run hel
      split at e
      · rename_i new hnew
        obtain ⟨hlx, new', hn1, hn2, hn3⟩ := sim_first (P := P) h hx hlen (Nat.min_le_left _ _) hnew
        have hl2 := lenOf_run (P := P) hlx w
        cases base with
        | none =>
          cases e
          cases hd
          refine ⟨w, .int .i64 (Nat.min n len), ?_, .refl h, .int _ _⟩
          unfold Builtin.copy_
          simp only [ht, List.getElem?_toArray, List.getElem?_cons_zero, List.getElem?_cons_succ, Sem.run_bind, run_underlying hu, run_sizeOf hsz, hl2, Result.andThen_ok, hn2 w rfl, Sem.run_pure]
          rfl
        | some p =>
          simp only at e
          split at e
          · rename_i a1 hst
            cases e
            cases hd with
            | @slice _ p' _ _ c' hK h1 hln hc h0 h2 =>
              obtain ⟨w', g1, st⟩ := sim_storeS (P := P) h h1 hn1 (fun hz => by
                have : new.length = 0 := by
                  rw [hn1.length, hn3]
                  have hl0 : len = 0 := by omega
                  subst hl0
                  simp
                exact List.eq_nil_of_length_eq_zero this) hst
              refine ⟨w', .int .i64 (Nat.min n len), ?_, st, .int _ _⟩
              unfold Builtin.copy_
              simp only [ht, List.getElem?_toArray, List.getElem?_cons_zero, List.getElem?_cons_succ, Sem.run_bind, run_underlying hu, run_sizeOf hsz, hl2, Result.andThen_ok, hn2 w rfl, Sem.run_pure, List.toList_toArray, g1]
              rfl
          · cases e
      · cases e
    · cases e
  · cases e

theorem run_setObj {r : Nat} {o o' : Obj} (h : w.heap[r]? = some o) (hn : ∀ c e f, o ≠ .cells c e f) : (setObj r o').run P w = .ok () { w with heap := w.heap.setIfInBounds r o' } := by
  unfold setObj
  cases o <;> first
    | exact absurd rfl (hn _ _ _)
    | simp only [Sem.run, h]
/-- An object is put in the place of another one. -/
theorem sim_setObj (h : WRel ρ a w) {r : Nat} {I : Info} {o o' n n' : Obj} (hg : a.get r = some (.obj o)) (e : ρ r = some I) (hb : w.heap[I.b]? = some o') (hn : ∀ c e f, o' ≠ .cells c e f) (hr : I.rw = true)
    (hrel : OORel ρ a.next n n') (hn' : ∀ c e f, n' ≠ .cells c e f) : (setObj I.b n').run P w = .ok () { w with heap := w.heap.setIfInBounds I.b n' } ∧ Step ρ a.next w ρ (a.write r (.obj n)) { w with heap := w.heap.setIfInBounds I.b n' } := by
  refine ⟨run_setObj hb hn, ?_⟩
  have hlt := (Array.getElem?_eq_some_iff.1 hb).1
  exact step_write h e hr (.obj hrel hr hn' (obj_sh h hg e)) (by simp [hlt]) (by simp) (fun k hk => by simp [Ne.symm hk]) rfl rfl rfl
theorem EsRel.length {K : Nat} {l l' : List MapEntry} (h : EsRel ρ K l l') : l.length = l'.length := by
  induction h with
  | nil => rfl
  | cons _ _ ih => simp [ih]
theorem EsRel.append {K : Nat} {l l' m m' : List MapEntry} (h : EsRel ρ K l l') (h' : EsRel ρ K m m') : EsRel ρ K (l ++ m) (l' ++ m') := by
  induction h with
  | nil => exact h'
  | cons h _ ih => exact .cons h ih
theorem EsRel.get {K : Nat} {l l' : List MapEntry} (h : EsRel ρ K l l') : ∀ {i : Nat} {x : MapEntry}, l[i]? = some x → ∃ x', l'[i]? = some x' ∧ ERel ρ K x x' := by
  induction h with
  | nil => intro i x e; simp at e
  | cons h _ ih =>
    intro i x e
    cases i with
    | zero => simp at e; subst e; exact ⟨_, rfl, h⟩
    | succ i => simpa using ih (by simpa using e)
theorem EsRel.modify {K : Nat} {l l' : List MapEntry} {f f' : MapEntry → MapEntry} (hf : ∀ x x', ERel ρ K x x' → ERel ρ K (f x) (f' x')) (h : EsRel ρ K l l') : ∀ i, EsRel ρ K (l.modify i f) (l'.modify i f') := by
  induction h with
  | nil => intro i; cases i <;> exact .nil
  | cons h r ih =>
    intro i
    cases i with
    | zero => exact .cons (hf _ _ h) r
    | succ i => exact .cons h (ih i)
theorem EsRel.eraseIdx {K : Nat} {l l' : List MapEntry} (h : EsRel ρ K l l') : ∀ i, EsRel ρ K (l.eraseIdx i) (l'.eraseIdx i) := by
  induction h with
  | nil => intro i; cases i <;> exact .nil
  | cons h r ih =>
    intro i
    cases i with
    | zero => exact r
    | succ i => exact .cons h (ih i)
/-- The key that is found is the key. -/
theorem found_key {d : TypeDesc} {k : Value} : ∀ {es : List MapEntry} {n i : Nat} {v : Value}, Instr.findNow d k es n = some (some (i, v)) → n ≤ i ∧ ∃ x, es[i - n]? = some x ∧ Instr.sameNow d k x.key = some true
  | [], n, i, v, h => by cases h
  | x :: es, n, i, v, h => by
    unfold Instr.findNow at h
    split at h
    · rename_i e1; cases h; exact ⟨Nat.le_refl _, x, by simp, e1⟩
    · obtain ⟨h1, y, h2, h3⟩ := found_key h
      exact ⟨by omega, y, by rw [show i - n = (i - (n + 1)) + 1 by omega]; exact h2, h3⟩
    · cases h
theorem bytes_beq {a b : ByteArray} (h : (a == b) = true) : a = b := by
  change ByteArray.beq a b = true at h
  unfold ByteArray.beq at h
  cases a; cases b
  simp at h
  rw [h]
theorem same_bits {d : TypeDesc} {k e : Value} (h : Instr.sameNow d k e = some true) (n : Nat) : Instr.sameBits n e k = true := by
  unfold Instr.sameNow at h
  split at h
  · split at h
    · rename_i hk
      subst hk
      simp at h
      subst h
      simp [Instr.sameBits]
    · cases h
  · simp only [Option.some.injEq] at h
    have h' := bytes_beq h
    subst h'
    cases n <;> exact h
  · simp at h; subst h; simp [Instr.sameBits]
  · cases h
theorem sim_update (h : WRel ρ a w) {t : TypeId} {m m' k k' v v' : Value} {a' : AW} (hm : VRel ρ a.next m m') (hk : VRel ρ a.next k k') (hv : VRel ρ a.next v v') (e : updateA P t m k v a = some a') :
    ∃ w', (Instr.mapUpdate t m' k' v').run P w = .ok () w' ∧ Step ρ a.next w ρ a' w' := by
  unfold updateA at e
  split at e
  · rename_i kt et r ht
    have hu := mapTypes_run ht
    obtain ⟨r', rfl, hK, hr'⟩ := map_inv hm
    split at e
    · rename_i es clock hg
      obtain ⟨I, o', h1, h2, h3, h4, h5⟩ := obj_rel h hg
      cases h3 with
      | @map _ es' n hes =>
        have hgo := run_getObj (P := P) h2 h5
        obtain rfl := hr' I h1
        split at e
        · rename_i i v0 hf
          cases e
          obtain ⟨r', f1, f2, f3⟩ := findA_run (P := P) hk hes hf
          cases f1 with
          | some i hv0 =>
            have hkey : ∀ w : World, (Instr.keyThatStays (((es'[i]?).map (·.key)).getD k') k').run P w = .ok k' w := by
              intro w
              have : ∃ x, es'.toList[i]? = some x ∧ Instr.sameBits 10000 x.key k' = true := by
                unfold findA at hf
                split at hf
                · obtain ⟨_, x, g1, g2⟩ := found_key hf
                  obtain ⟨x', g3, g4⟩ := hes.get (i := i) (by simpa using g1)
                  cases g4 with
                  | mk n hk1 hv1 => exact ⟨_, g3, same_bits (same_now hk hk1 g2) _⟩
                · obtain ⟨_, x, g1, g2⟩ := found_key hf
                  obtain ⟨x', g3, g4⟩ := hes.get (i := i) (by simpa using g1)
                  cases g4 with
                  | mk n hk1 hv1 => exact ⟨_, g3, same_bits (same_now hk hk1 g2) _⟩
                · cases hf
              obtain ⟨x, g1, g2⟩ := this
              have g1' : es'[i]? = some x := by simpa using g1
              unfold Instr.keyThatStays
              rw [g1']
              simp only [Option.map_some, Option.getD_some, g2, if_true, Sem.run_pure]
            obtain ⟨s1, st⟩ := sim_setObj (P := P) h hg h1 h2 h5 h4 (n := .map (es.modify i fun e => { e with key := k, val := v }) clock) (n' := .map (es'.modify i fun e => { e with key := k', val := v' }) clock)
              (.map clock (by
                rw [Array.toList_modify, Array.toList_modify]
                exact hes.modify (fun x x' hx => by cases hx with | mk n _ _ => exact .mk n hk hv) i)) (by simp)
            refine ⟨_, ?_, st⟩
            unfold Instr.mapUpdate
            simp only [Sem.run_bind, run_underlying hu, Result.andThen_ok, hgo, f3, f2, hkey]
            exact s1
        · rename_i hf
          cases e
          obtain ⟨r', f1, f2, f3⟩ := findA_run (P := P) hk hes hf
          cases f1
          obtain ⟨s1, st⟩ := sim_setObj (P := P) h hg h1 h2 h5 h4 (n := .map (es.push { key := k, val := v, born := clock }) (clock + 1)) (n' := .map (es'.push { key := k', val := v', born := clock }) (clock + 1))
            (.map (clock + 1) (by
              rw [Array.toList_push, Array.toList_push]
              exact hes.append (.cons (.mk clock hk hv) .nil))) (by simp)
          refine ⟨_, ?_, st⟩
          unfold Instr.mapUpdate
          simp only [Sem.run_bind, run_underlying hu, Result.andThen_ok, hgo, f3, f2]
          exact s1
        · cases e
    · cases e
  · cases e
theorem sim_delete (h : WRel ρ a w) {ts : Array TypeId} {t : TypeId} (hts : ts[0]? = some t) {m m' k k' : Value} {a' : AW} (hm : VRel ρ a.next m m') (hk : VRel ρ a.next k k') (e : deleteA P t m k a = some a') (ty : TypeId) :
    ∃ w', (Builtin.delete_ ts ty #[m', k']).run P w = .ok (.tuple #[]) w' ∧ Step ρ a.next w ρ a' w' := by
  unfold deleteA at e
  split at e
  · rename_i kt et r ht
    have hu := mapTypes_run ht
    obtain ⟨r', rfl, hK, hr'⟩ := map_inv hm
    split at e
    · rename_i es clock hg
      obtain ⟨I, o', h1, h2, h3, h4, h5⟩ := obj_rel h hg
      cases h3 with
      | @map _ es' n hes =>
        have hgo := run_getObj (P := P) h2 h5
        obtain rfl := hr' I h1
        split at e
        · rename_i i v0 hf
          cases e
          obtain ⟨r', f1, f2, f3⟩ := findA_run (P := P) hk hes hf
          cases f1 with
          | some i hv0 =>
            obtain ⟨s1, st⟩ := sim_setObj (P := P) h hg h1 h2 h5 h4 (n := .map (es.eraseIdxIfInBounds i) clock) (n' := .map (es'.eraseIdxIfInBounds i) clock)
              (.map clock (by
                have : ∀ l : Array MapEntry, (l.eraseIdxIfInBounds i).toList = l.toList.eraseIdx i := by
                  intro l
                  unfold Array.eraseIdxIfInBounds
                  split
                  · simp
                  · rename_i hi; rw [List.eraseIdx_of_length_le (by simpa using hi)]
                rw [this, this]
                exact hes.eraseIdx i)) (by simp)
            refine ⟨_, ?_, st⟩
            unfold Builtin.delete_
            simp only [hts, List.getElem?_toArray, List.getElem?_cons_zero, List.getElem?_cons_succ, Sem.run_bind, run_underlying hu, Result.andThen_ok, hgo, f3, f2, s1, Sem.run_pure]
        · rename_i hf
          cases e
          obtain ⟨r', f1, f2, f3⟩ := findA_run (P := P) hk hes hf
          cases f1
          obtain ⟨s1, st⟩ := sim_setObj (P := P) h hg h1 h2 h5 h4 (n := .map es clock) (n' := .map es' clock) (.map clock hes) (by simp)
          refine ⟨_, ?_, st⟩
          unfold Builtin.delete_
          simp only [hts, List.getElem?_toArray, List.getElem?_cons_zero, List.getElem?_cons_succ, Sem.run_bind, run_underlying hu, Result.andThen_ok, hgo, f3, f2, s1, Sem.run_pure]
        · cases e
    · cases e
  · cases e
end
end
/- clear, range, next; any operation that is no call of a function. -/
section
open Go Go.RowKit
set_option linter.unusedVariables false
set_option linter.unusedSimpArgs false

section
variable {P : Program} {ρ : Ren} {a : AW} {w : World}

/-- A new object on either side. -/
theorem step_obj (h : WRel ρ a w) {o o' : Obj} (ho : OORel (upd ρ a.next (some ⟨w.heap.size, 0, 0, true, false⟩)) (a.next + 1) o o') (hn : ∀ c e f, o' ≠ .cells c e f) :
    Step ρ a.next w (upd ρ a.next (some ⟨w.heap.size, 0, 0, true, false⟩)) (a.new (.obj o)) { w with heap := w.heap.push o' } :=
  step_new h (n := 0) (.obj ho rfl hn rfl)
theorem new_ptr (h : WRel ρ a w) (n : Nat) : VRel (upd ρ a.next (some ⟨w.heap.size, 0, n, true, false⟩)) (a.next + 1) (.pointer (some ⟨a.next, 0, none⟩)) (.pointer (some ⟨w.heap.size, 0, none⟩)) :=
  .ptr (Nat.lt_succ_self _) rfl fun I eI => by rw [upd_self] at eI; cases eI; rfl

theorem sim_range (h : WRel ρ a w) {t : TypeId} {x x' v : Value} {a' : AW} (hx : VRel ρ a.next x x') (e : rangeA P t x a = some (v, a')) :
    ∃ ρ' w' v', (Instr.range t x').run P w = .ok v' w' ∧ Step ρ a.next w ρ' a' w' ∧ VRel ρ' a'.next v v' := by
  unfold rangeA at e
  unfold Instr.range
  split at e
  · rename_i s hu
    cases e; cases hx
    have st := step_obj h (o := .stringIter s 0) (o' := .stringIter s 0) (.stringIter s 0) (by simp)
    refine ⟨_, _, .pointer (some ⟨w.heap.size, 0, none⟩), ?_, st, new_ptr h 0⟩
    simp only [Sem.run_bind, run_underlying hu, Result.andThen_ok, Sem.run_pure, run_newObj]
  · rename_i k el hu
    cases e; cases hx
    have st := step_obj h (o := .mapIter none 0 #[] 0) (o' := .mapIter none 0 #[] 0) (.mapIterNil 0 #[] 0) (by simp)
    refine ⟨_, _, .pointer (some ⟨w.heap.size, 0, none⟩), ?_, st, new_ptr h 0⟩
    simp only [Sem.run_bind, run_underlying hu, Result.andThen_ok, Sem.run_pure, run_newObj]
  · rename_i k el m hu
    obtain ⟨m', rfl, hK, hm'⟩ := map_inv hx
    split at e
    · rename_i es clock hg
      cases e
      obtain ⟨I, o', h1, h2, h3, h4, h5⟩ := obj_rel h hg
      cases h3 with
      | @map _ es' n hes =>
        have hgo := run_getObj (P := P) h2 h5
        obtain rfl := hm' I h1
        have st := step_obj h (o := .mapIter (some m) clock #[] clock) (o' := .mapIter (some I.b) clock #[] clock) (.mapIter clock #[] clock (Nat.lt_succ_of_lt hK) (fun J eJ => by
          rw [upd_ne _ _ (by omega)] at eJ; exact hm' J eJ)) (by simp)
        refine ⟨_, _, .pointer (some ⟨w.heap.size, 0, none⟩), ?_, st, new_ptr h 0⟩
        simp only [Sem.run_bind, run_underlying hu, Result.andThen_ok, Sem.run_pure, run_newObj, hgo]
    · cases e
  · cases e

theorem EsRel.filter {K : Nat} {f : MapEntry → Bool} (hf : ∀ x x', ERel ρ K x x' → f x = f x') {l l' : List MapEntry} (h : EsRel ρ K l l') : EsRel ρ K (l.filter f) (l'.filter f) := by
  induction h with
  | nil => exact .nil
  | cons h r ih =>
    simp only [List.filter_cons, ← hf _ _ h]
    split
    · exact .cons h ih
    · exact ih
theorem EsRel.all {K : Nat} {f : MapEntry → Bool} (hf : ∀ x x', ERel ρ K x x' → f x = f x') {l l' : List MapEntry} (h : EsRel ρ K l l') : l.all f = l'.all f := by
  induction h with
  | nil => rfl
  | cons h r ih => simp only [List.all_cons, hf _ _ h, ih]
theorem rel_born {K : Nat} {x x' : MapEntry} (h : ERel ρ K x x') : x.born = x'.born := by cases h; rfl
theorem iter_inv {it it' : Value} {r : Nat} {K : Nat} (h : VRel ρ K it it') (e : it = .pointer (some ⟨r, 0, none⟩)) : ∃ p', it' = .pointer (some p') ∧ r < K ∧ ∀ I, ρ r = some I → p' = ⟨I.b, 0 + I.sh, none⟩ := by
  subst e
  cases h with | ptr h hs h1 => exact ⟨_, rfl, h, h1⟩
theorem sim_next (h : WRel ρ a w) {it it' v : Value} {s : Bool} {a' : AW} (hi : VRel ρ a.next it it') (e : nextA it s a = some (v, a')) (ty : TypeId) :
    ∃ w' v', (Instr.next it' s ty).run P w = .ok v' w' ∧ Step ρ a.next w ρ a' w' ∧ VRel ρ a'.next v v' := by
  unfold nextA at e
  split at e
  · rename_i r
    obtain ⟨p', rfl, hK, hp'⟩ := iter_inv hi rfl
    unfold Instr.next
    split at e
    · rename_i s0 pos hg
      obtain ⟨I, o', h1, h2, h3, h4, h5⟩ := obj_rel h hg
      cases h3
      have hgo := run_getObj (P := P) h2 h5
      have hsh := obj_sh h hg h1
      obtain rfl := hp' I h1
      rw [hsh]
      split at e
      · rename_i hlt
        cases e
        obtain ⟨s1, st⟩ := sim_setObj (P := P) h hg h1 h2 h5 h4 (n := .stringIter s0 (pos + (Utf8.decode s0 pos).2)) (n' := .stringIter s0 (pos + (Utf8.decode s0 pos).2)) (.stringIter _ _) (by simp)
        refine ⟨_, .tuple #[.bool true, .int .i64 pos, .int .i32 (Utf8.decode s0 pos).1], ?_, st, ?_⟩
        · simp only [Nat.add_zero, Sem.run_bind, hgo, Result.andThen_ok, if_pos hlt, s1, Sem.run_pure]
          rfl
        · exact VRel.tuple' (.cons (.bool _) (.cons (.int _ _) (.cons (.int _ _) .nil)))
      · rename_i hlt
        cases e
        refine ⟨w, .tuple #[.bool false], ?_, .refl h, VRel.tuple' (.cons (.bool _) .nil)⟩
        simp only [Nat.add_zero, Sem.run_bind, hgo, Result.andThen_ok, if_neg hlt, Sem.run_pure]
    · rename_i x1 x2 x3 hg
      obtain ⟨I, o', h1, h2, h3, h4, h5⟩ := obj_rel h hg
      cases h3
      have hgo := run_getObj (P := P) h2 h5
      have hsh := obj_sh h hg h1
      obtain rfl := hp' I h1
      rw [hsh]
      cases e
      refine ⟨w, .tuple #[.bool false], ?_, .refl h, VRel.tuple' (.cons (.bool _) .nil)⟩
      simp only [Nat.add_zero, Sem.run_bind, hgo, Result.andThen_ok, Sem.run_pure]
    · rename_i m since seen last hg
      obtain ⟨I, o', h1, h2, h3, h4, h5⟩ := obj_rel h hg
      cases h3 with
      | @mapIter _ m' _ _ _ hmK hm' =>
        have hgo := run_getObj (P := P) h2 h5
        have hsh := obj_sh h hg h1
        obtain rfl := hp' I h1
        rw [hsh]
        split at e
        · rename_i es clock hgm
          obtain ⟨J, om, j1, j2, j3, j4, j5⟩ := obj_rel h hgm
          cases j3 with
          | @map _ es' n hes =>
            have hgm := run_getObj (P := P) j2 j5
            obtain rfl := hm' J j1
            split at e
            · cases e
            · rename_i hcond
              dsimp only at e
              have hemp : es'.isEmpty = es.isEmpty := by
                have := hes.length
                simp only [Array.isEmpty]
                rw [show es'.size = es.size by simpa using this.symm]
              have hall : es'.all (fun x => decide (x.born ≥ last)) = es.all (fun x => decide (x.born ≥ last)) := by
                rw [← Array.all_toList, ← Array.all_toList]
                exact (hes.all (fun x x' hx => by rw [rel_born hx])).symm
              have hcond' : ¬ ((!seen.isEmpty && !es'.isEmpty && es'.all (fun x => decide (x.born ≥ last))) = true) := by rw [hemp, hall]; exact hcond
              have q1 : EsRel ρ a.next (es.filter fun e => !seen.contains e.born).toList (es'.filter fun e => !seen.contains e.born).toList := by
                rw [Array.toList_filter, Array.toList_filter]; exact hes.filter (fun x x' hx => by rw [rel_born hx])
              have q2 : EsRel ρ a.next ((es.filter fun e => !seen.contains e.born).filter (fun e => decide (e.born < since))).toList ((es'.filter fun e => !seen.contains e.born).filter (fun e => decide (e.born < since))).toList := by
                simp only [Array.toList_filter] at q1 ⊢; exact q1.filter (fun x x' hx => by rw [rel_born hx])
              have q3 : EsRel ρ a.next ((es.filter fun e => !seen.contains e.born).filter (fun e => decide (e.born ≥ since))).toList ((es'.filter fun e => !seen.contains e.born).filter (fun e => decide (e.born ≥ since))).toList := by
                simp only [Array.toList_filter] at q1 ⊢; exact q1.filter (fun x x' hx => by rw [rel_born hx])
              generalize hO : (es.filter fun e => !seen.contains e.born).filter (fun e => decide (e.born < since)) = O at q2 e
              generalize hO' : (es'.filter fun e => !seen.contains e.born).filter (fun e => decide (e.born < since)) = O' at q2
              generalize hN : (es.filter fun e => !seen.contains e.born).filter (fun e => decide (e.born ≥ since)) = N at q3 e
              generalize hN' : (es'.filter fun e => !seen.contains e.born).filter (fun e => decide (e.born ≥ since)) = N' at q3
              have hOe : O'.isEmpty = O.isEmpty := by
                have := q2.length
                simp only [Array.isEmpty]
                rw [show O'.size = O.size by simpa using this.symm]
              simp only [Nat.add_zero, Sem.run_bind, hgo, Result.andThen_ok, hgm, if_neg hcond', hO', hN', hOe]
              have q4 := q2.append q3
              rw [← Array.toList_append, ← Array.toList_append] at q4
              have hLN : (O' ++ N') = (O' ++ N').toList.toArray := by simp
              rw [hLN]
              generalize (O' ++ N').toList = L' at q4
              generalize (O ++ N).toList = L at q4 e
              have hch : ∀ w, (choose (Question.mapNext 1)).run P w = .ok 0 w := fun w => by
                rw [run_choose]; rfl
              by_cases hO0 : O.isEmpty = true
              · simp only [hO0, if_true] at e ⊢
                cases q4 with
                | nil =>
                  simp only [List.map_nil, List.append_nil, Option.some.injEq, Prod.mk.injEq] at e
                  obtain ⟨rfl, rfl⟩ := e
                  refine ⟨w, .tuple #[.bool false], ?_, .refl h, VRel.tuple' (.cons (.bool _) .nil)⟩
                  simp only [List.map_toArray, List.map_nil, Array.append_empty, List.size_toArray, List.length_cons, List.length_nil, Nat.zero_add, hch, Result.andThen_ok, List.getElem?_toArray, List.getElem?_cons_zero, Sem.run_pure]
                | cons => simp at e
              · simp only [hO0, Bool.false_eq_true, if_false, List.nil_append, Array.empty_append] at e ⊢
                cases q4 with
                | nil => simp at e
                | @cons x x' l l' hx hr =>
                  cases hr with
                  | cons => simp at e
                  | nil =>
                    simp only [List.map_cons, List.map_nil, Option.some.injEq, Prod.mk.injEq] at e
                    obtain ⟨rfl, rfl⟩ := e
                    obtain ⟨s1, st⟩ := sim_setObj (P := P) h hg h1 h2 h5 h4 (n := .mapIter (some m) since (seen.push x.born) clock) (n' := .mapIter (some J.b) since (seen.push x'.born) clock)
                      (by rw [rel_born hx]; exact .mapIter _ _ _ hmK (fun K eK => hm' K eK)) (by simp)
                    refine ⟨_, .tuple #[.bool true, x'.key, x'.val], ?_, st, ?_⟩
                    · simp only [List.map_toArray, List.map_cons, List.map_nil, List.size_toArray, List.length_cons, List.length_nil, Nat.zero_add, hch, Result.andThen_ok, List.getElem?_toArray, List.getElem?_cons_zero, Sem.run_bind, s1, Sem.run_pure]
                    · cases hx with
                      | mk n hk hv => exact VRel.tuple' (.cons (.bool _) (.cons hk (.cons hv .nil)))
        · cases e
    · cases e
  · cases e
end
end
/- Any operation that is neither bare nor a read nor a new block. -/
section
open Go Go.RowKit
set_option linter.unusedVariables false
set_option linter.unusedSimpArgs false

section
variable {P : Program} {ρ : Ren} {a : AW} {w : World}

theorem sim_clear (h : WRel ρ a w) {ts : Array TypeId} {t e0 : TypeId} {z n c : Nat} {p : Addr} {x' zv : Value} {a' : AW} (ht : ts[0]? = some t) (hel : elemCells P t = some (e0, z)) (hx : VRel ρ a.next (.slice (some p) n c) x')
    (hz : zeroV P e0 = some zv) (hzz : zv.cells.size = z) (e : a.storeN p ((List.replicate n zv.cells.toList).flatten) = some a') (ty : TypeId) :
    ∃ w', (Builtin.clear_ ts ty #[x']).run P w = .ok (.tuple #[]) w' ∧ Step ρ a.next w ρ a' w' := by
  obtain ⟨hu, hsz⟩ := elem_run hel
  obtain ⟨z1, z2⟩ := run_zeroValue hz w
  have hzr : LRel ρ a.next zv.cells.toList zv.cells.toList := (flat_self z2).cells
  cases hx with
  | @slice _ p' _ _ c' hK h1 hln hc h0 h2 =>
    cases n with
    | zero =>
      simp only [List.replicate_zero, List.flatten_nil] at e
      refine ⟨w, ?_, sim_storeN_nil h e⟩
      unfold Builtin.clear_
      simp only [ht, List.getElem?_toArray, List.getElem?_cons_zero, Sem.run_bind, run_underlying hu, Result.andThen_ok, Sem.run_pure]
    | succ n =>
      have hrow : (Builtin.zeroCells zv.cells (n + 1)).toList = (List.replicate (n + 1) zv.cells.toList).flatten := by
        unfold Builtin.zeroCells
        by_cases h0 : (n + 1) * zv.cells.size = 0
        · have hl0 : (List.replicate (n + 1) zv.cells.toList).flatten = [] := by
            apply List.eq_nil_of_length_eq_zero
            simp only [List.length_flatten, List.map_replicate, List.sum_replicate_nat, Array.length_toList]
            exact h0
          rw [hl0, h0]; simp
        · exact range_zero rfl _ (by omega)
      obtain ⟨w', g1, st⟩ := sim_storeS (P := P) h h1 (flats_flatten hzr (n + 1)) (fun hz => by omega) e
      refine ⟨w', ?_, st⟩
      unfold Builtin.clear_
      simp only [ht, List.getElem?_toArray, List.getElem?_cons_zero, Sem.run_bind, run_underlying hu, Result.andThen_ok, z1, hrow, g1, Sem.run_pure]

/-- What an operation comes to. -/
def Done (P : Program) (ρ : Ren) (a : AW) (w : World) (s : Sem Next) (v : Value) (a' : AW) : Prop :=
  ∃ ρ' w' nx, s.run P w = .ok nx w' ∧ Step ρ a.next w ρ' a' w' ∧ ((∃ v', nx = .value v' ∧ VRel ρ' a'.next v v') ∨ (nx = .skip ∧ v = undef))
inductive Works (P : Program) (ρ : Ren) (a : AW) (w : World) (s : Sem Next) : NextA → AW → Prop
  | value {v : Value} {a' : AW} (h : Done P ρ a w s v a') : Works P ρ a w s (.value v) a'
  | enter {f : FuncId} {args args' : Array Value} (h : LRel ρ a.next args.toList args'.toList) (hs : s.run P w = (callFunc f args').run P w) : Works P ρ a w s (.enter f args) a
  | round {l l' : Nat} {args args' : Array Value} (hl : l < a.next) (hl' : ∀ I, ρ l = some I → l' = I.b) (h : LRel ρ a.next args.toList args'.toList) (hs : s.run P w = (Instr.yield l' args').run P w) : Works P ρ a w s (.round l args) a
theorem Done.mk {s : Sem Next} {v v' : Value} {a' : AW} {ρ' : Ren} {w' : World} (h : s.run P w = .ok (.value v') w') (st : Step ρ a.next w ρ' a' w') (hv : VRel ρ' a'.next v v') : Done P ρ a w s v a' :=
  ⟨ρ', w', _, h, st, .inl ⟨v', rfl, hv⟩⟩

theorem sim_builtin (h : WRel ρ a w) {b : Builtin} {ts : Array TypeId} {args : List Value} {args' : Array Value} {v : Value} {a' : AW} (hr : LRel ρ a.next args args'.toList) (e : builtinA P b ts args a = some (v, a')) (ty : TypeId) (cs : Array Bool) :
    Done P ρ a w (builtin b ts ty cs args') v a' := by
  unfold builtinA at e
  split at e
  · obtain ⟨s', x', hl, hs, hx⟩ := two_inv hr
    obtain ⟨ρ', w', v', g1, g2, g3⟩ := sim_append (P := P) h hs hx e ty
    rw [arr_of_list hl]
    exact .mk (by unfold builtin; exact run_value g1) g2 g3
  · obtain ⟨s', x', hl, hs, hx⟩ := two_inv hr
    obtain ⟨w', v', g1, g2, g3⟩ := sim_copy (P := P) h hs hx e ty
    rw [arr_of_list hl]
    exact .mk (by unfold builtin; exact run_value g1) g2 g3
  · obtain ⟨s', x', hl, hs, hx⟩ := two_inv hr
    split at e
    · rename_i t ht
      obtain ⟨a1, e1, e2⟩ := Option.map_eq_some_iff.1 e
      cases e2
      obtain ⟨w', g1, g2⟩ := sim_delete (P := P) h ht hs hx e1 ty
      rw [arr_of_list hl]
      exact .mk (by unfold builtin; exact run_value g1) g2 (VRel.tuple' .nil)
    · cases e
  · obtain ⟨x', hl, hx⟩ := one_inv hr
    split at e
    · rename_i e0 z base n c hel
      obtain ⟨t, ht, hel⟩ := Option.bind_eq_some_iff.1 hel
      split at e
      · cases e
        cases hx
        obtain ⟨hu, hsz⟩ := elem_run hel
        rw [arr_of_list hl]
        refine .mk (v' := .tuple #[]) (w' := w) ?_ (.refl h) (VRel.tuple' .nil)
        unfold builtin
        refine run_value ?_
        unfold Builtin.clear_
        simp only [ht, List.getElem?_toArray, List.getElem?_cons_zero, Sem.run_bind, run_underlying hu, Result.andThen_ok, Sem.run_pure]
      · rename_i p
        split at e
        · rename_i zv hz
          split at e
          · rename_i hzz
            split at e
            · rename_i a1 hst
              cases e
              obtain ⟨w', g1, g2⟩ := sim_clear (P := P) h ht hel hx hz hzz hst ty
              rw [arr_of_list hl]
              exact .mk (by unfold builtin; exact run_value g1) g2 (VRel.tuple' .nil)
            · cases e
          · cases e
        · cases e
    · cases e
  · cases e

theorem run_unit {s : Sem Unit} {w w' : World} (h : s.run P w = .ok () w') : (s >>= fun _ => (Pure.pure Next.skip : Sem Next)).run P w = .ok .skip w' := by
  rw [Sem.run_bind, h]; rfl
theorem sim_work (h : WRel ρ a w) {tmps : List Value} {t : Act} (ht : TRel ρ a.next tmps t.tmps) {o : Oper} {x : NextA} {a' : AW} (e : workA P tmps o a = some (x, a')) : Works P ρ a w (execOp t.eval o) x a' := by
  obtain ⟨dst, op, type, pos, after, guard⟩ := o
  cases op <;> simp only [workA] at e <;> first
    | (cases e; done)
    | skip
  case insert ty m k y =>
    split at e
    · rename_i v0 u0 y0 h1 h2 h3
      unfold val0 at e
      split at e
      · rename_i a1 hup
        cases e
        obtain ⟨w', g1, g2⟩ := sim_update (P := P) h (rel_eval ht h1) (rel_eval ht h2) (rel_eval ht h3) hup
        exact .value ⟨ρ, w', .skip, run_unit g1, g2, .inr ⟨rfl, rfl⟩⟩
      · cases e
    · cases e
  case store ty x y =>
    split at e
    · rename_i p v0 h1 h2
      unfold val0 at e
      split at e
      · rename_i a1 hst
        cases e
        have := rel_eval ht h1
        generalize hcv : t.eval x = cv at this
        cases this with
        | @ptr _ p' hK hs hp =>
          obtain ⟨w', g1, g2⟩ := sim_storeVar (P := P) h hp (rel_eval ht h2) hst
          refine .value ⟨ρ, w', .skip, ?_, g2, .inr ⟨rfl, rfl⟩⟩
          simp only [execOp, hcv]
          refine run_unit ?_
          unfold Instr.storeAt
          simp only [Instr.sureAddr, Sem.run_bind, Sem.run_pure, Result.andThen_ok, g1]
      · cases e
    · cases e
  case mapUpdate ty m k y =>
    split at e
    · rename_i v0 u0 y0 h1 h2 h3
      unfold val0 at e
      split at e
      · rename_i a1 hup
        cases e
        obtain ⟨w', g1, g2⟩ := sim_update (P := P) h (rel_eval ht h1) (rel_eval ht h2) (rel_eval ht h3) hup
        exact .value ⟨ρ, w', .skip, run_unit g1, g2, .inr ⟨rfl, rfl⟩⟩
      · cases e
    · cases e
  case range ty x =>
    split at e
    · rename_i v0 h1
      unfold val2 at e
      split at e
      · rename_i v1 a1 hr
        cases e
        obtain ⟨ρ', w', v', g1, g2, g3⟩ := sim_range (P := P) h (rel_eval ht h1) hr
        exact .value (.mk (run_value g1) g2 g3)
      · cases e
    · cases e
  case next it s =>
    split at e
    · rename_i v0 h1
      unfold val2 at e
      split at e
      · rename_i v1 a1 hr
        cases e
        obtain ⟨w', v', g1, g2, g3⟩ := sim_next (P := P) h (rel_eval ht h1) hr type
        exact .value (.mk (run_value g1) g2 g3)
      · cases e
    · cases e
  case call c =>
    split at e
    · rename_i args hargs
      have hra := rel_evalsA ht hargs
      split at e
      · rename_i b hb
        unfold val2 at e
        split at e
        · rename_i v1 a1 hr
          cases e
          obtain ⟨ρ', w', nx, g1, g2, g3⟩ := sim_builtin (P := P) (w := w) h hra hr type (c.args.map fun | .const _ => true | _ => false)
          refine .value ⟨ρ', w', nx, ?_, g2, g3⟩
          simp only [execOp]
          rw [run_callB hb]
          exact g1
        · cases e
      · rename_i f hf
        split at e
        · rename_i g first captured hg
          cases e
          obtain ⟨fn', f', c', e1, hfn, hf', hc'⟩ := func_inv (rel_eval ht hg)
          cases hfn
          refine .enter (args' := f' ++ c.args.map t.eval ++ c') ?_ ?_
          · simp only [Array.toList_append]
            exact (hf'.append hra).append hc'
          · simp only [execOp]
            unfold resolve
            simp only [hf, e1, Deferred.ofValue, Sem.run_bind, Sem.run_pure, Result.andThen_ok, invoke]
        · rename_i l first captured hg
          cases e
          obtain ⟨fn', f', c', e1, hfn, hf', hc'⟩ := func_inv (rel_eval ht hg)
          cases hfn with
          | @yield _ l' hl hl' =>
            refine .round (l' := l') (args' := f' ++ c.args.map t.eval) hl hl' ?_ ?_
            · simp only [Array.toList_append]
              exact hf'.append hra
            · simp only [execOp]
              unfold resolve
              simp only [hf, e1, Deferred.ofValue, Sem.run_bind, Sem.run_pure, Result.andThen_ok, invoke]
        · cases e
      · cases e
    · cases e
end
end
/- What the evaluator leaves alone; one operation. -/
section
open Go Go.RowKit
set_option linter.unusedVariables false
set_option linter.unusedSimpArgs false

/-- Blocks from before that are not told as written are as they were. -/
structure Evo (a a' : AW) : Prop where
  base : a'.base = a.base
  next : a.next ≤ a'.next
  dirty : ∀ i ∈ a.dirty, i ∈ a'.dirty
  get : ∀ i, i < a.base → i ∉ a'.dirty → a'.get i = a.get i
theorem Evo.refl (a : AW) : Evo a a := ⟨rfl, Nat.le_refl _, fun _ h => h, fun _ _ _ => rfl⟩
theorem Evo.trans {a b c : AW} (h : Evo a b) (k : Evo b c) : Evo a c :=
  ⟨k.base.trans h.base, Nat.le_trans h.next k.next, fun i hi => k.dirty i (h.dirty i hi), fun i hi hn =>
    (k.get i (h.base ▸ hi) hn).trans (h.get i hi fun hh => hn (k.dirty i hh))⟩
theorem look_putAt_ne {i j : Nat} {x : Blk} (h : j ≠ i) : ∀ l : List (Nat × Blk), look j (putAt i x l) = look j l
  | [] => rfl
  | (k, b) :: l => by
    simp only [putAt]
    by_cases hk : i = k
    · subst hk; simp [look, h]
    · simp only [if_neg hk, look, look_putAt_ne h l]
theorem look_kill_ne {i j : Nat} (h : j ≠ i) : ∀ l : List (Nat × Blk), look j (kill i l) = look j l
  | [] => rfl
  | (k, b) :: l => by
    simp only [kill]
    by_cases hk : i = k
    · subst hk; simp [look, h]
    · simp only [if_neg hk, look, look_kill_ne h l]
theorem evo_new (a : AW) (b : Blk) (h : a.base ≤ a.next) : Evo a (a.new b) :=
  ⟨rfl, Nat.le_succ _, fun _ h => h, fun i hi _ => by
    have : i ≠ a.next := by omega
    simp only [AW.get, AW.new, look, if_neg this]⟩
theorem soil_mem (a : AW) (i : Nat) : (∀ j ∈ a.dirty, j ∈ a.soil i) ∧ (i < a.base → i ∈ a.soil i) := by
  unfold AW.soil
  split
  · split
    · rename_i hc
      exact ⟨fun _ h => h, fun _ => by simpa using hc⟩
    · exact ⟨fun j h => .tail _ h, fun _ => .head _⟩
  · rename_i hn
    exact ⟨fun _ h => h, fun h => absurd h hn⟩
theorem evo_write (a : AW) (i : Nat) (b : Blk) : Evo a (a.write i b) := by
  refine ⟨rfl, Nat.le_refl _, (soil_mem a i).1, fun j hj hn => ?_⟩
  have : j ≠ i := fun e => hn (by subst e; exact (soil_mem a j).2 hj)
  simp only [AW.get, AW.write, look_putAt_ne this]
theorem evo_drop (a : AW) (i : Nat) : Evo a (a.drop i) := by
  refine ⟨rfl, Nat.le_refl _, (soil_mem a i).1, fun j hj hn => ?_⟩
  have : j ≠ i := fun e => hn (by subst e; exact (soil_mem a j).2 hj)
  simp only [AW.get, AW.drop, look_kill_ne this]
theorem evo_storeN {a a' : AW} {p : Addr} {vs : List Value} (h : a.storeN p vs = some a') : Evo a a' := by
  unfold AW.storeN at h
  split at h
  · split at h
    · cases h; exact evo_write _ _ _
    · cases h
  · split at h
    · cases h; exact evo_write _ _ _
    · cases h
  · cases h
theorem evo_zeros {P : Program} {e : TypeId} {z : Nat} {s x v : Value} {a a' : AW} (hb : a.base ≤ a.next) (h : zerosA P e z s x a = some (v, a')) : Evo a a' := by
  unfold zerosA at h
  repeat' (first | (cases h; done) | split at h)
  all_goals first
    | (cases h; done)
    | (cases h; exact evo_new _ _ hb)
theorem evo_append {P : Program} {ts : Array TypeId} {s x v : Value} {a a' : AW} (hb : a.base ≤ a.next) (h : appendA P ts s x a = some (v, a')) : Evo a a' := by
  unfold appendA at h
  repeat' (first | (cases h; done) | split at h)
  all_goals first
    | (cases h; done)
    | exact evo_zeros hb h
    | (cases h; exact evo_storeN (by assumption))
    | (cases h; exact evo_new _ _ hb)
    | (cases h; exact (evo_drop _ _).trans (evo_new _ _ hb))
    | (cases h; exact .refl _)
    | skip
theorem evo_builtin {P : Program} {b : Builtin} {ts : Array TypeId} {args : List Value} {v : Value} {a a' : AW} (hb : a.base ≤ a.next) (h : builtinA P b ts args a = some (v, a')) : Evo a a' := by
  unfold builtinA at h
  split at h
  · exact evo_append hb h
  · unfold copyA at h
    repeat' (first | (cases h; done) | split at h)
    all_goals first
      | (cases h; done)
      | (cases h; exact evo_storeN (by assumption))
      | (cases h; exact .refl _)
  · split at h
    · obtain ⟨a1, e1, e2⟩ := Option.map_eq_some_iff.1 h
      cases e2
      unfold deleteA at e1
      repeat' (first | (cases e1; done) | split at e1)
      all_goals first
        | (cases e1; done)
        | (cases e1; exact evo_write _ _ _)
    · cases h
  · repeat' (first | (cases h; done) | split at h)
    all_goals first
      | (cases h; done)
      | (cases h; exact evo_storeN (by assumption))
      | (cases h; exact .refl _)
  · cases h
theorem evo_work {P : Program} {tmps : List Value} {o : Oper} {x : NextA} {a a' : AW} (hb : a.base ≤ a.next) (h : workA P tmps o a = some (x, a')) : Evo a a' := by
  unfold workA at h
  split at h
  · -- store
    split at h
    · unfold val0 at h
      split at h
      · rename_i hs
        cases h
        unfold storeVarA at hs
        repeat' (first | (cases hs; done) | split at hs)
        all_goals first
          | (cases hs; done)
          | exact evo_storeN hs
      · cases h
    · cases h
  · split at h
    · unfold val0 at h
      split at h
      · rename_i hs
        cases h
        unfold updateA at hs
        repeat' (first | (cases hs; done) | split at hs)
        all_goals first
          | (cases hs; done)
          | (cases hs; exact evo_write _ _ _)
      · cases h
    · cases h
  · split at h
    · unfold val0 at h
      split at h
      · rename_i hs
        cases h
        unfold updateA at hs
        repeat' (first | (cases hs; done) | split at hs)
        all_goals first
          | (cases hs; done)
          | (cases hs; exact evo_write _ _ _)
      · cases h
    · cases h
  · split at h
    · unfold val2 at h
      split at h
      · rename_i hs
        cases h
        unfold rangeA at hs
        repeat' (first | (cases hs; done) | split at hs)
        all_goals first
          | (cases hs; done)
          | (cases hs; exact evo_new _ _ hb)
      · cases h
    · cases h
  · split at h
    · unfold val2 at h
      split at h
      · rename_i hs
        cases h
        unfold nextA at hs
        repeat' (first | (cases hs; done) | split at hs)
        all_goals first
          | (cases hs; done)
          | (cases hs; exact evo_write _ _ _)
          | (cases hs; exact .refl _)
          | skip
        all_goals
          dsimp only at hs
          repeat' (first | (cases hs; done) | split at hs)
          all_goals first
            | (cases hs; done)
            | (cases hs; exact evo_write _ _ _)
            | (cases hs; exact .refl _)
      · cases h
    · cases h
  · split at h
    · split at h
      · unfold val2 at h
        split at h
        · rename_i hs
          cases h
          exact evo_builtin hb hs
        · cases h
      · split at h
        · cases h; exact .refl _
        · cases h; exact .refl _
        · cases h
      · cases h
    · cases h
  · cases h
theorem evo_op {P : Program} {tmps : List Value} {o : Oper} {x : NextA} {a a' : AW} (hb : a.base ≤ a.next) (h : opA P tmps o a = some (x, a')) : Evo a a' := by
  unfold opA at h
  split at h
  · unfold val1 at h
    split at h
    · cases h; exact .refl _
    · cases h
  · unfold val1 at h
    split at h
    · cases h; exact .refl _
    · cases h
  · split at h
    · cases h; exact evo_new _ _ hb
    · cases h
  · exact evo_work hb h

section
variable {P : Program} {ρ : Ren} {a : AW} {w : World}
/-- A block that the program has made gets its number. -/
theorem step_makes (h : WRel ρ a w) {b : Blk} {f : Nat → Value} {w' : World} {v' : Value} (hm : Makes ρ a.next w b f w' v') : ∃ ρ', Step ρ a.next w ρ' (a.new b) w' ∧ VRel ρ' (a.new b).next (f a.next) v' := by
  obtain ⟨n, z, o, e1, e2, e3, e4, hm⟩ := hm
  obtain ⟨g1, g2⟩ := hm (upd ρ a.next (some ⟨w.heap.size, 0, n, true, z⟩)) (a.next + 1) a.next (ext_new h _) (Nat.lt_succ_self _) (fun I e => by rw [upd_self] at e; cases e; rfl)
  have st := step_new h g1
  exact ⟨_, st.trans (step_drew st.rel e1 e2 e3 e4), g2⟩
theorem sim_op (h : WRel ρ a w) {tmps : List Value} {t : Act} (ht : TRel ρ a.next tmps t.tmps) {o : Oper} {x : NextA} {a' : AW} (e : opA P tmps o a = some (x, a')) : Works P ρ a w (execOp t.eval o) x a' := by
  unfold opA at e
  split at e
  · rename_i hk
    unfold val1 at e
    split at e
    · rename_i v hv
      cases e
      obtain ⟨v', w', g1, gd, g2⟩ := sim_pure (P := P) ht hk hv w
      exact .value (.mk g1 (step_draw h gd) g2)
    · cases e
  · rename_i hk
    unfold val1 at e
    split at e
    · rename_i v hv
      cases e
      obtain ⟨⟨b, v0⟩, e1, e2⟩ := Option.map_eq_some_iff.1 hv
      cases e2
      obtain ⟨v', g1, g2⟩ := sim_read (P := P) h ht hk e1
      exact .value (.mk g1 (.refl h) g2)
    · cases e
  · rename_i hk
    split at e
    · rename_i b f hv
      cases e
      obtain ⟨w', v', g1, g2⟩ := sim_make (P := P) (w := w) ht hk hv
      obtain ⟨ρ', st, hv'⟩ := step_makes h g2
      exact .value (.mk g1 st hv')
    · cases e
  · exact sim_work h ht e
end
end
end Go.Proofs.YtlbmjpmonaekgaaAM
