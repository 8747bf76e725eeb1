/- A small evaluator of Go programs over memory whose blocks are named in the order in which they are made. -/
import Derived.AtR
import Derived.Below
import Derived.Laws.Sem
import Derived.Orders
namespace Go.Proofs.YtmdfejlfdgaomaaAM
open Go Go.RowKit
set_option linter.unusedVariables false

/-- A block: cells (may they be written?), or another object. -/
inductive Blk where
  | cells (c : List Value) (rw : Bool)
  | obj (o : Obj)
  deriving Inhabited

/-- The memory: blocks by falling numbers; where the present call began; which blocks from before have been written since. -/
structure AW where
  next : Nat
  heap : List (Nat × Blk)
  base : Nat
  dirty : List Nat
  deriving Inhabited

def look (i : Nat) : List (Nat × Blk) → Option Blk
  | [] => none
  | (j, b) :: r => if i = j then some b else look i r
def ins (i : Nat) (x : Blk) : List (Nat × Blk) → List (Nat × Blk)
  | [] => [(i, x)]
  | (j, b) :: r => if j < i then (i, x) :: (j, b) :: r else (j, b) :: ins i x r
def putAt (i : Nat) (x : Blk) : List (Nat × Blk) → List (Nat × Blk)
  | [] => []
  | (j, b) :: r => if i = j then (j, x) :: r else (j, b) :: putAt i x r
def kill (i : Nat) : List (Nat × Blk) → List (Nat × Blk)
  | [] => []
  | (j, b) :: r => if i = j then r else (j, b) :: kill i r

namespace AW
def get (a : AW) (i : Nat) : Option Blk := look i a.heap
def new (a : AW) (b : Blk) : AW := { a with next := a.next + 1, heap := (a.next, b) :: a.heap }
def soil (a : AW) (i : Nat) : List Nat := if i < a.base then (if a.dirty.contains i then a.dirty else i :: a.dirty) else a.dirty
def write (a : AW) (i : Nat) (b : Blk) : AW := { a with heap := putAt i b a.heap, dirty := a.soil i }
def drop (a : AW) (i : Nat) : AW := { a with heap := kill i a.heap, dirty := a.soil i }
def loadN (a : AW) (p : Addr) (n : Nat) : Option (List Value) :=
  match a.get p.block with
  | some (.cells c _) => if p.off + n ≤ c.length then some ((c.drop p.off).take n) else none
  | _ => none
def storeN (a : AW) (p : Addr) (vs : List Value) : Option AW :=
  match a.get p.block with
  | some (.cells c true) =>
    if p.off + vs.length ≤ c.length ∧ vs.all Value.oneCell' = true then some (a.write p.block (.cells (c.take p.off ++ (vs ++ c.drop (p.off + vs.length))) true)) else none
  | _ => none
end AW

/-- No address in it. -/
def flatN : Nat → Value → Bool
  | 0, _ => false
  | n + 1, v => match v with
    | .bool _ | .int _ _ | .float _ _ | .complex _ _ _ | .string _ | .nilFunc | .nilIface | .pointer none | .slice none _ _ | .map none | .chan none => true
    | .func (.func _) f c => f.toList.all (flatN n) && c.toList.all (flatN n)
    | .iface _ v => flatN n v
    | .agg cs => cs.toList.all (flatN n)
    | .tuple cs => cs.toList.all (flatN n)
    | _ => false
def flat (v : Value) : Bool := flatN 5 v

/-- What a term that asks no memory answers. -/
def prun {α : Type} (P : Program) : Sem α → Option α
  | .pure a => some a
  | .program k => prun P (k P)
  | .mark _ k => prun P k
  | _ => none

/-- .. and it is flat. -/
def prunF (P : Program) (s : Sem Value) : Option Value :=
  match prun P s with
  | some v => if flat v then some v else none
  | none => none

def typeSize (P : Program) (t : TypeId) : Option Nat := (P.info? t).map (·.size)
def aggB (P : Program) (t : TypeId) : Option Bool :=
  match P.underlying t with
  | some (.struct _) | some (.array _ _) => some true
  | some _ => some false
  | none => none
def zeroV (P : Program) (t : TypeId) : Option Value :=
  match P.info? t with
  | some i => match i.zero with
    | some z => if flat z then some z else none
    | none => none
  | none => none
def loadVarA (P : Program) (t : TypeId) (p : Addr) (a : AW) : Option Value :=
  match aggB P t with
  | some true => match typeSize P t with
    | some n => match a.loadN p n with
      | some vs => some (.agg vs.toArray)
      | none => none
    | none => none
  | some false => match a.loadN p 1 with
    | some [v] => some v
    | _ => none
  | none => none
def storeVarA (P : Program) (t : TypeId) (p : Addr) (v : Value) (a : AW) : Option AW :=
  match typeSize P t with
  | some n => if v.cells.size = n then a.storeN p v.cells.toList else none
  | none => none
def addrOf : Value → Option Addr
  | .pointer (some p) => some p
  | _ => none
def nilEq : TypeDesc → Value → Value → Option Bool
  | .pointer _, .pointer none, .pointer b => some b.isNone
  | .pointer _, .pointer (some _), .pointer none => some false
  | .slice _, .slice none _ _, .slice b _ _ => some b.isNone
  | .slice _, .slice (some _) _ _, .slice none _ _ => some false
  | .map _ _, .map none, .map b => some b.isNone
  | .map _ _, .map (some _), .map none => some false
  | .func _ _ _, .nilFunc, .nilFunc => some true
  | .func _ _ _, .nilFunc, .func _ _ _ => some false
  | .func _ _ _, .func _ _ _, .nilFunc => some false
  | .interface _, .nilIface, .nilIface => some true
  | .interface _, .nilIface, .iface _ _ => some false
  | .interface _, .iface _ _, .nilIface => some false
  | _, _, _ => none
def isConstO : Operand → Bool
  | .const _ => true
  | _ => false
/-- Strings by their lists of bytes. -/
def mkStr (l : List UInt8) : ByteArray := ⟨⟨l⟩⟩
def strOf (s : ByteArray) : List UInt8 := s.data.toList
def strSub (s : ByteArray) (l h : Nat) : ByteArray := mkStr (((strOf s).take h).drop l)
def eqBytes : List UInt8 → List UInt8 → Bool
  | [], [] => true
  | a :: x, b :: y => Nat.beq a.toNat b.toNat && eqBytes x y
  | _, _ => false
def strA (op : BinOp) (x y : ByteArray) : Option Value :=
  match op with
  | .add => if x.size + y.size ≤ 140737488355328 then some (.string (mkStr (strOf x ++ strOf y))) else none
  | .eql => some (.bool (eqBytes (strOf x) (strOf y)))
  | .neq => some (.bool (!eqBytes (strOf x) (strOf y)))
  | .lss => some (.bool (Op.bytesLess (strOf x) (strOf y)))
  | .leq => some (.bool (Op.bytesLess (strOf x) (strOf y) || eqBytes (strOf x) (strOf y)))
  | .gtr => some (.bool (!(Op.bytesLess (strOf x) (strOf y) || eqBytes (strOf x) (strOf y))))
  | .geq => some (.bool (!Op.bytesLess (strOf x) (strOf y)))
  | _ => none
def binA (P : Program) (op : BinOp) (t : TypeId) (x y : Operand) (a b : Value) : Option Value :=
  match a, b with
  | .string u, .string v => strA op u v
  | _, _ =>
  if flat a && flat b then prunF P (do eqGuard op t x y a b; binOp op t a b)
  else match P.underlying t with
    | some d => match op, nilEq d a b with
      | .eql, some c => if (isConstO x || isConstO y) then some (.bool c) else none
      | .neq, some c => if (isConstO x || isConstO y) then some (.bool (!c)) else none
      | _, _ => none
    | none => none
def elemCells (P : Program) (t : TypeId) : Option (TypeId × Nat) :=
  match P.underlying t with
  | some (.slice e) => (typeSize P e).map fun n => (e, n)
  | _ => none
def partA (P : Program) (t : TypeId) (cs : Array Value) (off : Nat) : Option Value :=
  match aggB P t with
  | some true => (typeSize P t).map fun n => .agg (cs.extract off (off + n))
  | some false => cs[off]?
  | none => none
def exactA (a : Addr) : Addr := { a with spot := some 0 }
def plainA (a : Addr) : Addr := { a with spot := none }
def boundA (x : Value) (y : Nat) : Option Nat :=
  match x with
  | .int _ i => if 0 ≤ i ∧ i ≤ (y : Int) then some i.toNat else none
  | _ => none
def boundsA (len cap : Nat) (lo hi mx : Option Value) : Option (Nat × Nat × Nat) :=
  match mx with
  | some v =>
    match boundA v cap, hi with
    | some m, some hv =>
      match boundA hv m with
      | some h => match lo with
        | some lv => (boundA lv h).map fun l => (l, h, m)
        | none => some (0, h, m)
      | none => none
    | _, _ => none
  | none =>
    match hi with
    | some hv =>
      match boundA hv cap with
      | some h => match lo with
        | some lv => (boundA lv h).map fun l => (l, h, cap)
        | none => some (0, h, cap)
      | none => none
    | none => match lo with
      | some lv => (boundA lv len).map fun l => (l, len, cap)
      | none => some (0, len, cap)
def sliceA (P : Program) (t : TypeId) (x : Value) (lo hi mx : Option Value) : Option Value :=
  match P.underlying t, x with
  | some .string, .string s =>
    if mx.isSome then none
    else (boundsA s.size s.size lo hi none).map fun (l, h, _) => .string (strSub s l h)
  | some (.slice e), .slice none len cap =>
    match typeSize P e with
    | some z => (boundsA len cap lo hi mx).map fun (l, h, m) => .slice none (h - l) (m - l)
    | none => none
  | some (.slice e), .slice (some p) len cap =>
    match typeSize P e with
    | some z =>
      if mx.isSome = false ∧ p.spot ≠ some 0 ∧ p.spot ≠ none ∧ p.spot ≠ some (z + 1) then none else
      (boundsA len cap lo hi mx).map fun (l, h, m) =>
        .slice (some { block := p.block, off := if (mx.isSome ∨ p.spot = some 0) ∧ m = l then p.off else p.off + l * z, spot := if mx.isSome then some 0 else p.spot }) (h - l) (m - l)
    | none => none
  | some (.array n e), .pointer (some p) =>
    match typeSize P e with
    | some z =>
      (boundsA n n lo hi mx).map fun (l, h, m) =>
        .slice (some { block := p.block, off := if m = l then p.off else p.off + l * z, spot := some 0 }) (h - l) (m - l)
    | none => none
  | _, _ => none
def indexAddrA (P : Program) (t : TypeId) (x i : Value) : Option Value :=
  match P.underlying t, x, i with
  | some (.slice e), .slice (some p) len _, .int _ i =>
    match typeSize P e with
    | some z => if 0 ≤ i ∧ i < (len : Int) then some (.pointer (some ⟨p.block, p.off + i.toNat * z, none⟩)) else none
    | none => none
  | some (.array len e), .pointer (some p), .int _ i =>
    match typeSize P e with
    | some z => if 0 ≤ i ∧ i < (len : Int) then some (.pointer (some ⟨p.block, p.off + i.toNat * z, none⟩)) else none
    | none => none
  | _, _, _ => none
def indexA (P : Program) (t : TypeId) (x i : Value) : Option Value :=
  match P.underlying t, x, i with
  | some (.array len e), .agg cs, .int _ i =>
    match typeSize P e with
    | some z => if 0 ≤ i ∧ i < (len : Int) then partA P e cs (i.toNat * z) else none
    | none => none
  | some .string, .string s, .int _ i =>
    if 0 ≤ i then match s[i.toNat]? with
      | some b => some (.int .u8 b.toNat)
      | none => none
    else none
  | _, _, _ => none
def bytesOfCells : List Value → Option (List UInt8)
  | [] => some []
  | .int .u8 n :: r => (bytesOfCells r).map (UInt8.ofNat n.toNat :: ·)
  | _ => none
def u8 (b : UInt8) : Value := .int .u8 b.toNat
/-- The first cells of what is appended or copied. -/
def firstA (z n : Nat) (x : Value) (a : AW) : Option (List Value) :=
  match x with
  | .slice (some p) _ _ => a.loadN p (n * z)
  | .slice none _ _ => if n = 0 then some [] else none
  | .string s => if z = 1 then some ((s.data.toList.take n).map u8) else none
  | _ => none
def lenA : Value → Option Nat
  | .slice _ n _ => some n
  | .string s => some s.size
  | _ => none
def growA (z n : Nat) (cs : List Value) (a : AW) : Value × AW := (.slice (some ⟨a.next, 0, some (z + 1)⟩) n n, a.new (.cells cs true))
def appendA (P : Program) (ts : Array TypeId) (s x : Value) (a : AW) : Option (Value × AW) :=
  match ts[0]?, ts[1]? with
  | some t, some xt =>
    match elemCells P t, P.underlying xt with
    | some (e, z), some xd =>
      match xd, s, lenA x with
      | .int _, _, _ => none
      | _, .slice base len cap, some n =>
        match firstA z n x a with
        | none => none
        | some new =>
          if len + n ≤ cap then
            match base with
            | some p => match a.storeN { p with off := p.off + len * z } new with
              | some a' => some (.slice base (len + n) cap, a')
              | none => none
            | none => none
          else
            match firstA z len s a with
            | none => none
            | some was =>
              if 1000000 < len + n ∨ (P.info? e).any (fun i => decide (i.bytes ≤ 1000000)) = false ∨ (zeroV P e).any (fun v => v.cells.size == z) = false ∨ new.all Value.oneCell' = false then none else
              match base with
              | none => some (growA z (len + n) (was ++ new) a)
              | some p =>
                if p.spot = some 0 then some (growA z (len + n) (was ++ new) a)
                else if p.spot = some (z + 1) then some (growA z (len + n) (was ++ new) (a.drop p.block))
                else none
      | _, _, _ => none
    | _, _ => none
  | _, _ => none
def copyA (P : Program) (ts : Array TypeId) (d x : Value) (a : AW) : Option (Value × AW) :=
  match ts[0]? with
  | some t =>
    match elemCells P t, d, lenA x with
    | some (_, z), .slice base len _, some n =>
      match firstA z (Nat.min n len) x a with
      | some new => match base with
        | some p => match a.storeN p new with
          | some a' => some (.int .i64 (Nat.min n len), a')
          | none => none
        | none => some (.int .i64 (Nat.min n len), a)
      | none => none
    | _, _, _ => none
  | none => none
def findA (P : Program) (kt : TypeId) (k : Value) (es : List MapEntry) : Option (Option (Nat × Value)) :=
  match P.underlying kt with
  | some (.int j) => Instr.findNow (.int j) k es 0
  | some .string => Instr.findNow .string k es 0
  | _ => none
def mapTypes (P : Program) (t : TypeId) : Option (TypeId × TypeId) :=
  match P.underlying t with
  | some (.map k e) => some (k, e)
  | _ => none
def mapOf (x : Value) (a : AW) : Option (Array MapEntry) :=
  match x with
  | .map none => some #[]
  | .map (some r) => match a.get r with
    | some (.obj (.map es _)) => some es
    | _ => none
  | _ => none
def lookupA (P : Program) (t : TypeId) (m k : Value) (ok : Bool) (a : AW) : Option Value :=
  match mapTypes P t, mapOf m a with
  | some (kt, et), some es =>
    match findA P kt k es.toList with
    | some (some (_, v)) => some (if ok then .tuple #[v, .bool true] else v)
    | some none => (zeroV P et).map fun z => if ok then .tuple #[z, .bool false] else z
    | none => none
  | _, _ => none
def updateA (P : Program) (t : TypeId) (m k v : Value) (a : AW) : Option AW :=
  match mapTypes P t, m with
  | some (kt, _), .map (some r) =>
    match a.get r with
    | some (.obj (.map es clock)) =>
      match findA P kt k es.toList with
      | some (some (i, _)) => some (a.write r (.obj (.map (es.modify i fun e => { e with key := k, val := v }) clock)))
      | some none => some (a.write r (.obj (.map (es.push { key := k, val := v, born := clock }) (clock + 1))))
      | none => none
    | _ => none
  | _, _ => none
def deleteA (P : Program) (t : TypeId) (m k : Value) (a : AW) : Option AW :=
  match mapTypes P t, m with
  | some (kt, _), .map (some r) =>
    match a.get r with
    | some (.obj (.map es clock)) =>
      match findA P kt k es.toList with
      | some (some (i, _)) => some (a.write r (.obj (.map (es.eraseIdxIfInBounds i) clock)))
      | some none => some (a.write r (.obj (.map es clock)))
      | none => none
    | _ => none
  | _, _ => none
def rangeA (P : Program) (t : TypeId) (x : Value) (a : AW) : Option (Value × AW) :=
  match P.underlying t, x with
  | some .string, .string s => some (.pointer (some ⟨a.next, 0, none⟩), a.new (.obj (.stringIter s 0)))
  | some (.map _ _), .map none => some (.pointer (some ⟨a.next, 0, none⟩), a.new (.obj (.mapIter none 0 #[] 0)))
  | some (.map _ _), .map (some m) => match a.get m with
    | some (.obj (.map _ clock)) => some (.pointer (some ⟨a.next, 0, none⟩), a.new (.obj (.mapIter (some m) clock #[] clock)))
    | _ => none
  | _, _ => none
def nextA (it : Value) (isString : Bool) (a : AW) : Option (Value × AW) :=
  match it with
  | .pointer (some ⟨r, 0, none⟩) =>
    match a.get r, isString with
    | some (.obj (.stringIter s pos)), true =>
      if pos < s.size then
        let (c, width) := Utf8.decode s pos
        some (.tuple #[.bool true, .int .i64 pos, .int .i32 c], a.write r (.obj (.stringIter s (pos + width))))
      else some (.tuple #[.bool false], a)
    | some (.obj (.mapIter none _ _ _)), false => some (.tuple #[.bool false], a)
    | some (.obj (.mapIter (some m) since seen last)), false =>
      match a.get m with
      | some (.obj (.map es clock)) =>
        if !seen.isEmpty && !es.isEmpty && es.all (·.born ≥ last) then none else
        let left := es.filter fun e => !seen.contains e.born
        let old := left.filter (·.born < since)
        let new := left.filter (·.born ≥ since)
        match (if old.isEmpty then [none] else []) ++ (old ++ new).toList.map some with
        | [some e] => some (.tuple #[.bool true, e.key, e.val], a.write r (.obj (.mapIter (some m) since (seen.push e.born) clock)))
        | [none] => some (.tuple #[.bool false], a)
        | _ => none
      | _ => none
    | _, _ => none
  | _ => none

inductive NextA where
  | value (v : Value)
  | enter (f : FuncId) (args : Array Value)
  | round (l : Nat) (args : Array Value)

def evalA (tmps : List Value) : Operand → Option Value
  | .tmp t => some (tmps.getD t undef)
  | .const v => if flat v then some v else none
  | .global _ => none
  | .func f => some (.func (.func f) #[] #[])
def evals (tmps : List Value) : List Operand → Option (List Value)
  | [] => some []
  | x :: r => match evalA tmps x, evals tmps r with
    | some v, some vs => some (v :: vs)
    | _, _ => none
def evalO (tmps : List Value) : Option Operand → Option (Option Value)
  | none => some none
  | some x => (evalA tmps x).map some
def partsA (tmps : List Value) : List (Nat × Operand) → Option (List (Nat × Value))
  | [] => some []
  | (i, x) :: r => match evalA tmps x, partsA tmps r with
    | some v, some vs => some ((i, v) :: vs)
    | _, _ => none
def pureBuiltinA (P : Program) (b : Builtin) (ts : Array TypeId) (args : List Value) : Option Value :=
  match b, args with
  | .len, [x] => match (ts[0]?).bind P.underlying, x with
    | some .string, .string s => some (.int .i64 s.size)
    | some (.slice _), .slice _ n _ => some (.int .i64 n)
    | some (.array n _), _ => some (.int .i64 n)
    | _, _ => none
  | .cap, [x] => match (ts[0]?).bind P.underlying, x with
    | some (.slice _), .slice none _ n => some (.int .i64 n)
    | some (.slice _), .slice (some p) _ n => if p.spot = some 0 then some (.int .i64 n) else none
    | _, _ => none
  | .min, args => if args.all flat then prunF P (Builtin.min_ ts 0 args.toArray) else none
  | .max, args => if args.all flat then prunF P (Builtin.max_ ts 0 args.toArray) else none
  | _, _ => none
def builtinA (P : Program) (b : Builtin) (ts : Array TypeId) (args : List Value) (a : AW) : Option (Value × AW) :=
  match b, args with
  | .append, [s, x] => appendA P ts s x a
  | .copy, [d, x] => copyA P ts d x a
  | .delete, [m, k] => match ts[0]? with
    | some t => (deleteA P t m k a).map (.tuple #[], ·)
    | none => none
  | .clear, [x] => match (ts[0]?).bind (elemCells P), x with
    | some (e, z), .slice base n _ => match base with
      | none => some (.tuple #[], a)
      | some p => match zeroV P e with
        | some zv => if zv.cells.size = z then match a.storeN p ((List.replicate n zv.cells.toList).flatten) with
            | some a' => some (.tuple #[], a')
            | none => none
          else none
        | none => none
    | _, _ => none
  | _, _ => none

def val1 (a : AW) (v : Option Value) : Option (NextA × AW) := match v with
  | some v => some (.value v, a)
  | none => none
def val2 (v : Option (Value × AW)) : Option (NextA × AW) := match v with
  | some (v, a) => some (.value v, a)
  | none => none
def val0 (v : Option AW) : Option (NextA × AW) := match v with
  | some a => some (.value undef, a)
  | none => none

def placesA (P : Program) : List Field → Option (List (Nat × Nat))
  | [] => some []
  | f :: r => match typeSize P f.type, placesA P r with
    | some n, some l => some ((f.offset, n) :: l)
    | _, _ => none
def fillPlace (P : Program) (t : TypeId) : Option (Nat → Option (Nat × Nat)) :=
  match P.underlying t with
  | some (.struct fields) => (placesA P fields.toList).map fun l => fun i => l[i]?
  | some (.array _ e) => (typeSize P e).map fun n => fun i => some (i * n, n)
  | _ => none
def fillA (place : Nat → Option (Nat × Nat)) (cells : List Value) : List (Nat × Value) → Option (List Value)
  | [] => some cells
  | (i, v) :: rest =>
    match place i with
    | none => none
    | some (off, size) =>
      if v.cells.size ≠ size || off + v.cells.size > cells.length then none
      else fillA place (cells.take off ++ (v.cells.toList ++ cells.drop (off + v.cells.size))) rest

/-- An operation that asks no memory. -/
def pureA (P : Program) (tmps : List Value) (o : Oper) : Option Value :=
  match o.op with
  | .move x | .assign x => evalA tmps x
  | .pick c x y => match evalA tmps c with
    | some (.bool true) => evalA tmps x
    | some (.bool false) => evalA tmps y
    | _ => none
  | .build t parts => match zeroV P t, fillPlace P t, partsA tmps parts.toList with
    | some z, some pl, some vs => (fillA pl z.cells.toList vs).map fun cs => .agg cs.toArray
    | _, _, _ => none
  | .nilCheck x => match evalA tmps x with
    | some (.pointer (some p)) => some (.pointer (some p))
    | some (.func (.func f) fs cs) => some (.func (.func f) fs cs)
    | some (.func (.yield f) fs cs) => some (.func (.yield f) fs cs)
    | _ => none
  | .binOp op t x y _ => match evalA tmps x, evalA tmps y with
    | some v, some u => binA P op t x y v u
    | _, _ => none
  | .unOp op _ x => match evalA tmps x with
    | some v => if flat v then prunF P (Op.unary op v) else none
    | none => none
  | .convert s d x => match evalA tmps x with
    | some v => if flat v then (match v with | .slice .. => none | _ => prunF P (convert s d v)) else none
    | none => none
  | .makeInterface t x => match P.underlying t, evalA tmps x with
    | some (.interface _), _ => none
    | some _, some v => some (.iface t v)
    | _, _ => none
  | .makeFunc (.func f) first captured => match evals tmps first.toList, evals tmps captured.toList with
    | some vs, some us => some (.func (.func f) vs.toArray us.toArray)
    | _, _ => none
  | .slice t x lo hi mx => match evalA tmps x, evalO tmps lo, evalO tmps hi, evalO tmps mx with
    | some v, some lo, some hi, some mx => sliceA P t v lo hi mx
    | _, _, _, _ => none
  | .fieldAddr s x f => match P.underlying s, evalA tmps x with
    | some (.struct fs), some (.pointer (some p)) => match fs[f]? with
      | some fd => match typeSize P fd.type with
        | some (_ + 1) => some (.pointer (some ⟨p.block, p.off + fd.offset, none⟩))
        | _ => none
      | none => none
    | _, _ => none
  | .field t x f => match P.underlying t, evalA tmps x with
    | some (.struct fs), some (.agg cs) => match fs[f]? with
      | some fd => partA P fd.type cs fd.offset
      | none => none
    | _, _ => none
  | .indexAddr t x i => match evalA tmps x, evalA tmps i with
    | some v, some u => indexAddrA P t v u
    | _, _ => none
  | .index t x i => match evalA tmps x, evalA tmps i with
    | some v, some u => indexA P t v u
    | _, _ => none
  | .extract x i => match evalA tmps x with
    | some (.tuple vs) => vs[i]?
    | _ => none
  | .call c => match c.callee, evals tmps c.args.toList with
    | .builtin b, some args => pureBuiltinA P b c.argTypes args
    | _, _ => none
  | _ => none
/-- An operation that reads one block: which one, and what it answers. -/
def readA (P : Program) (tmps : List Value) (o : Oper) (a : AW) : Option (Nat × Value) :=
  match o.op with
  | .load t x => match evalA tmps x with
    | some (.pointer (some p)) => (loadVarA P t p a).map (p.block, ·)
    | _ => none
  | .convert _ _ x => match evalA tmps x with
    | some (.slice none _ _) => some (0, .string .empty)
    | some (.slice (some p) n _) => match a.loadN p n with
      | some cs => match bytesOfCells cs with
        | some bs => some (p.block, .string ⟨bs.toArray⟩)
        | none => none
      | none => none
    | _ => none
  | .lookup t m k ok => match evalA tmps m, evalA tmps k with
    | some (.map r), some u => (lookupA P t (.map r) u ok a).map (r.getD 0, ·)
    | _, _ => none
  | .call c => match c.callee, evals tmps c.args.toList with
    | .builtin .len, some [.map r] => (mapOf (.map r) a).map fun es => (r.getD 0, .int .i64 es.size)
    | _, _ => none
  | _ => none
/-- An operation that makes a block: which one, and what it answers where the block has this number. -/
def makeA (P : Program) (tmps : List Value) (o : Oper) : Option (Blk × (Nat → Value)) :=
  match o.op with
  | .alloc t => match zeroV P t with
    | some z => some (.cells z.cells.toList true, fun i => .pointer (some ⟨i, 0, none⟩))
    | none => none
  | .box _ x => match evalA tmps x with
    | some v => some (.cells v.cells.toList true, fun i => .pointer (some ⟨i, 0, none⟩))
    | none => none
  | .buildSlice t len parts => match elemCells P t, partsA tmps parts.toList with
    | some (e, n), some vs =>
      if len * n = 0 then (if vs.isEmpty then some (.cells [] true, fun i => .slice (some ⟨i, 0, some 0⟩) len len) else none)
      else match zeroV P e with
      | some z =>
        if len * n > 2 ^ 24 then none else if z.cells.size = n then
        match fillA (fun i => some (i * n, n)) ((List.replicate len z.cells.toList).flatten) vs with
        | some cs => some (.cells cs true, fun i => .slice (some ⟨i, 0, some 0⟩) len len)
        | none => none
        else none
      | none => none
    | _, _ => none
  | .convert _ _ x => match evalA tmps x with
    | some (.string b) => some (.cells (b.data.toList.map u8) true, fun i => .slice (some ⟨i, 0, some 2⟩) b.size b.size)
    | _ => none
  | .makeMap _ none => some (.obj (.map #[] 0), fun i => .map (some i))
  | .makeSlice t l c => match elemCells P t, evalA tmps l, evalA tmps c with
    | some (e, n), some (.int _ l), some (.int _ c) => match zeroV P e with
      | some z =>
        if 0 ≤ l ∧ l ≤ c ∧ c ≤ 1000000 ∧ z.cells.size = n ∧ (P.info? e).any (fun i => decide (i.bytes ≤ 1000000)) = true then
          some (.cells ((List.replicate c.toNat z.cells.toList).flatten) true, fun i => .slice (some ⟨i, 0, some 0⟩) l.toNat c.toNat)
        else none
      | none => none
    | _, _, _ => none
  | _ => none
/-- Any other operation. -/
def workA (P : Program) (tmps : List Value) (o : Oper) (a : AW) : Option (NextA × AW) :=
  match o.op with
  | .store t x y => match evalA tmps x, evalA tmps y with
    | some (.pointer (some p)), some v => val0 (storeVarA P t p v a)
    | _, _ => none
  | .mapUpdate t m k x | .insert t m k x => match evalA tmps m, evalA tmps k, evalA tmps x with
    | some v, some u, some y => val0 (updateA P t v u y a)
    | _, _, _ => none
  | .range t x => match evalA tmps x with
    | some v => val2 (rangeA P t v a)
    | none => none
  | .next it s => match evalA tmps it with
    | some v => val2 (nextA v s a)
    | none => none
  | .call c => match evals tmps c.args.toList with
    | some args => match c.callee with
      | .builtin b => val2 (builtinA P b c.argTypes args a)
      | .value f => match evalA tmps f with
        | some (.func (.func f) first captured) => some (.enter f (first ++ args.toArray ++ captured), a)
        | some (.func (.yield l) first _) => some (.round l (first ++ args.toArray), a)
        | _ => none
      | .invoke _ _ => none
    | none => none
  | _ => none

inductive Kind where
  | pure | read | make | work
  deriving DecidableEq
def kindO (P : Program) (o : Oper) : Kind :=
  match o.op with
  | .load .. | .lookup .. => .read
  | .alloc _ | .box .. | .buildSlice .. | .makeMap .. | .makeSlice .. => .make
  | .convert s d _ => match P.underlying s, P.underlying d with
    | some (.slice e), some .string => match P.underlying e with
      | some (.int .u8) => .read
      | _ => .work
    | some .string, some (.slice e) => match P.underlying e with
      | some (.int .u8) => .make
      | _ => .work
    | _, _ => .pure
  | .store .. | .mapUpdate .. | .insert .. | .range .. | .next .. => .work
  | .call c => match c.callee with
    | .builtin .len => match (c.argTypes[0]?).bind P.underlying with
      | some (.map _ _) => .read
      | _ => .pure
    | .builtin .min | .builtin .max | .builtin .cap => .pure
    | _ => .work
  | .entry _ | .typeAssert .. | .mapEntry .. | .entryStore .. | .go _ | .defer _ | .panic _ | .send .. | .recv .. | .select .. | .ready _ | .waits _ | .makeChan .. | .sliceToArrayPointer .. => .work
  | _ => .pure
/-- One operation, the next block's number being as it is. -/
def opA (P : Program) (tmps : List Value) (o : Oper) (a : AW) : Option (NextA × AW) :=
  match kindO P o with
  | .pure => val1 a (pureA P tmps o)
  | .read => val1 a ((readA P tmps o a).map (·.2))
  | .make => match makeA P tmps o with
    | some (b, v) => some (.value (v a.next), a.new b)
    | none => none
  | .work => workA P tmps o a

inductive ExitA where
  | normal | exit (id : Nat) | goto (l : Nat) | ret

/-- What was written of blocks from before an outer beginning. -/
def soilAll (dirty : List Nat) (base : Nat) (more : List Nat) : List Nat := more.foldr (fun i d => if i < base then (if d.contains i then d else i :: d) else d) dirty
/-- What stands for a called function, in place of its text. -/
abbrev Gives := FuncId → Option (Array Value → AW → Option (Value × AW))

/-- What is given of a call, if anything is. -/
def given (G : Gives) (f : FuncId) (args : Array Value) (a : AW) : Option (Value × AW) :=
  match G f with
  | some g => g args a
  | none => none
def putT (tmps : List Value) (d : Option Tmp) (v : Value) : List Value :=
  match d with
  | some d => tmps.set d v
  | none => tmps
def yieldedA (ops : Array Oper) (tmps : List Value) (j : Nat) : Option Bool :=
  match ((ops[j]?).bind (·.dst)).bind (tmps[·]?) with
  | some (.bool b) => some b
  | _ => none
def resultsA (P : Program) (a : AW) (tmps : List Value) : List ResultVar → Option (List Value)
  | [] => some []
  | .tmp t :: r => match resultsA P a tmps r with
    | some vs => some (tmps.getD t undef :: vs)
    | none => none
  | .cell d t :: r => match tmps.getD d undef with
    | .pointer (some p) => match loadVarA P t p a, resultsA P a tmps r with
      | some v, some vs => some (v :: vs)
      | _, _ => none
    | _ => none
def oneOf : List Value → Value
  | [v] => v
  | vs => .tuple vs.toArray
/-- The one result that lies in a new block of flat cells. -/
def freshOf (base : Nat) (a : AW) (v : Value) : Option (List Value × Nat) :=
  match v with
  | .pointer (some p) | .slice (some p) _ _ => if base ≤ p.block then match a.get p.block with
      | some (.cells c true) => if c.all flat then some (c, p.block) else none
      | _ => none
    else none
  | _ => none
def moveTo (i : Nat) : Value → Value
  | .pointer (some p) => .pointer (some { p with block := i })
  | .slice (some p) n c => .slice (some { p with block := i }) n c
  | v => v
/-- Behind a call: what the call alone made is forgotten where nothing speaks of it; of results one may lie in a block of its own. -/
def leaveA (before : AW) (vs : List Value) (a : AW) : List Value × AW :=
  if a.dirty.isEmpty then
    match vs.filter (fun v => !flat v) with
    | [] => (vs, before)
    | [v] => match freshOf before.next a v with
      | some (c, _) => (vs.map fun u => if flat u then u else moveTo before.next u, before.new (.cells c true))
      | none => (vs, { next := a.next, heap := a.heap, base := before.base, dirty := before.dirty })
    | _ => (vs, { next := a.next, heap := a.heap, base := before.base, dirty := before.dirty })
  else (vs, { next := a.next, heap := a.heap, base := before.base, dirty := soilAll before.dirty before.base a.dirty })

def jumpOf : ExitA → Option Code
  | .normal => none
  | .ret => some .ret
  | .exit id => some (.exit id)
  | .goto l => some (.goto l)

/-- Which operations of a region that draws its order are bound to come before another one (bits). -/
def ancs (ops : Array Oper) : Array Nat := Region.before ops
def unord (b : Array Nat) (x y : Nat) : Bool := !(b.getD y 0).testBit x && !(b.getD x 0).testBit y
def kindAt (P : Program) (ops : Array Oper) (i : Nat) : Kind := ((ops[i]?).map (kindO P)).getD .work
def heavy : Kind → Bool
  | .make | .work => true
  | _ => false
/-- A block may be made late: what is bound to wait for it waits for the other one too. -/
def lateOk (P : Program) (ops : Array Oper) (b : Array Nat) (x y : Nat) (oy : Oper) : Bool :=
  (match kindO P oy with
   | .make => true
   | _ => false) && oy.guard.isNone && (match oy.dst with
   | some d => !(oy.looksAt ops).contains d
   | none => true) && (List.range ops.size).all fun z => !(b.getD z 0).testBit y || (b.getD z 0).testBit x
/-- May a region's order be left open? What makes or writes is bound in its order; what is not bound does not meddle with each other's temporaries. -/
def planOk (P : Program) (ops : Array Oper) : Bool :=
  let b := ancs ops
  let l := List.range ops.size
  l.all (fun i => match ops[i]? with
    | some o => o.after.toList.all (fun e => !Region.binds .any e || decide (e.on < i)) &&
      b.getD i 0 == o.after.toList.foldl (fun s e => if Region.binds .any e then s ||| 2 ^ e.on ||| b.getD e.on 0 else s) 0 &&
      (match o.guard with
       | none => true
       | some (j, _) => (b.getD i 0).testBit j)
    | none => false) &&
  l.all fun y => l.all fun x => !(decide (x < y) && unord b x y) ||
    (match ops[x]?, ops[y]? with
     | some ox, some oy => ox.apart ops oy && oy.apart ops ox && (!(heavy (kindO P ox) && heavy (kindO P oy)) || lateOk P ops b x y oy)
     | _, _ => false)
inductive Note where
  | none
  | read (block : Nat)
  | work (next : Nat) (dirty : List Nat)
def clash : Note → Note → Bool
  | .read b, .work n d | .work n d, .read b => decide (n ≤ b) || d.contains b
  | _, _ => false
def calm (b : Array Nat) (i : Nat) (n : Note) (before : List (Nat × Note)) : Bool := before.all fun (j, m) => !unord b j i || !clash m n
/-- One operation of a region that draws its order: what it touches, and what it answers. -/
def stepO (E : Program) (call : FuncId → Array Value → AW → Option (Value × AW)) (round : Nat → Array Value → AW → Option (Value × AW)) (o : Oper) (tmps : List Value) (a : AW) : Option (Note × Value × AW) :=
  match kindO E o with
  | .pure => (pureA E tmps o).map fun (v : Value) => (Note.none, v, a)
  | .read => match readA E tmps o a with
    | some r => if r.1 < a.next then some (Note.read r.1, r.2, a) else none
    | none => none
  | .make => (makeA E tmps o).map fun (r : Blk × (Nat → Value)) => (Note.work a.next [], r.2 a.next, a.new r.1)
  | .work =>
    match workA E tmps o { a with base := a.next, dirty := [] } with
    | none => none
    | some (x, a0) =>
      (match x with
        | .value v => some (v, a0)
        | .enter f args => call f args a0
        | .round l args => round l args a0).map fun (r : Value × AW) =>
          (Note.work a.next r.2.dirty, r.1, { next := r.2.next, heap := r.2.heap, base := a.base, dirty := soilAll a.dirty a.base r.2.dirty })
def stepR (E : Program) (call : FuncId → Array Value → AW → Option (Value × AW)) (round : Nat → Array Value → AW → Option (Value × AW)) (ops : Array Oper) (i : Nat) (tmps : List Value) (a : AW) : Option (Note × List Value × AW) :=
  match ops[i]? with
  | none => none
  | some o =>
    if Region.wanted o (yieldedA ops tmps) then (stepO E call round o tmps a).map fun (r : Note × Value × AW) => (r.1, putT tmps o.dst r.2.1, r.2.2)
    else some (.none, putT tmps o.dst undef, a)

/-- The blocks for the deferred calls of loops over functions are taken: they are empty. -/
def unwindA : List Nat → AW → Option AW
  | [], a => some a
  | d :: ds, a => match a.get d with
    | some (.obj (.deferred (some []))) => unwindA ds (a.write d (.obj (.deferred none)))
    | _ => none

/-- A function without a text, of flat values. -/
def externA (P : Program) (fn : Func) (args : Array Value) (a : AW) : Option (Value × AW) :=
  if args.toList.all flat && !(fn.name == "runtime.NumGoroutine") then
    match Extern.findNext fn, Extern.find fn with
    | none, some e => match prunF P (e args) with
      | some v => some (v, a)
      | none => none
    | _, _ => none
  else none
mutual
def opsA (E : Program) (G : Gives) : Nat → FuncId → Option Nat → Array Oper → List Nat → List Value → AW → Option (List Value × AW)
  | 0, _, _, _, _, _, _ => none
  | _ + 1, _, _, _, [], tmps, a => some (tmps, a)
  | n + 1, fn, ro, ops, i :: rest, tmps, a =>
    match ops[i]? with
    | none => none
    | some o =>
      if Region.wanted o (yieldedA ops tmps) then
        match opA E tmps o a with
        | some (.value v, a) => opsA E G n fn ro ops rest (putT tmps o.dst v) a
        | some (.enter f args, a) =>
          match callA E G n f args a with
          | some (v, a) => opsA E G n fn ro ops rest (putT tmps o.dst v) a
          | none => none
        | some (.round l args, a) =>
          match roundA E G n l args a with
          | some (v, a) => opsA E G n fn ro ops rest (putT tmps o.dst v) a
          | none => none
        | none => none
      else opsA E G n fn ro ops rest (putT tmps o.dst undef) a
  termination_by structural n => n
def regA (E : Program) (G : Gives) : Nat → Array Oper → List Nat → List (Nat × Note) → List Value → AW → Option (List Value × AW)
  | 0, _, _, _, _, _ => none
  | _ + 1, _, [], _, tmps, a => some (tmps, a)
  | n + 1, ops, i :: rest, notes, tmps, a =>
    match stepR E (callA E G n) (roundA E G n) ops i tmps a with
    | none => none
    | some (note, tmps, a) => if calm (ancs ops) i note notes then regA E G n ops rest ((i, note) :: notes) tmps a else none
  termination_by structural n => n
def codeA (E : Program) (G : Gives) : Nat → FuncId → Option Nat → Code → List Value → List Nat → AW → Option (ExitA × List Value × List Nat × AW)
  | 0, _, _, _, _, _, _ => none
  | n + 1, fn, ro, c, tmps, ds, a =>
    match c with
    | .skip | .label _ => some (.normal, tmps, ds, a)
    | .seq x y =>
      match codeA E G n fn ro x tmps ds a with
      | some (.normal, tmps, ds, a) => codeA E G n fn ro y tmps ds a
      | r => r
    | .cond c x y =>
      match evalA tmps c with
      | some (.bool true) => codeA E G n fn ro x tmps ds a
      | some (.bool false) => codeA E G n fn ro y tmps ds a
      | _ => none
    | .block id c =>
      match codeA E G n fn ro c tmps ds a with
      | some (.exit id', tmps, ds, a) => if id' = id then some (.normal, tmps, ds, a) else some (.exit id', tmps, ds, a)
      | r => r
    | .loop c =>
      match codeA E G n fn ro c tmps ds a with
      | some (.normal, tmps, ds, a) => codeA E G n fn ro (.loop c) tmps ds a
      | r => r
    | .exit id => some (.exit id, tmps, ds, a)
    | .ret => some (.ret, tmps, ds, a)
    | .region _ ops draw =>
      match draw with
      | false =>
        match opsA E G n fn ro ops (List.range ops.size) tmps a with
        | some (tmps, a) => some (.normal, tmps, ds, a)
        | none => none
      | true =>
        if planOk E ops then
          match regA E G n ops (List.range ops.size) [] tmps { a with next := a.next + 1 } with
          | some (tmps, a) => some (.normal, tmps, ds, a)
          | none => none
        else none
    | .rangeFunc g ps assign body =>
      match ro, evalA tmps g with
      | none, some (.func (.func f) first captured) =>
        if (E.funcs[f]?).any (fun fn => fn.body.isSome) = false then none else
        let a1 := a.new (.obj (.deferred (some [])))
        let a2 := a1.new (.obj (.loop { state := .ready, pending := none, fn, tmps := tmps.toArray, params := ps, assign, body, defers := a.next }))
        match callA E G n f (first ++ #[.func (.yield a1.next) #[] #[]] ++ captured) a2 with
        | some (_, a) =>
          match a.get a1.next with
          | some (.obj (.loop r)) =>
            match r.state with
            | .busy => none
            | _ =>
              let a := a.write a1.next (.obj (.loop { r with state := .exhausted }))
              match r.pending with
              | none => some (.normal, tmps, (a1.next - 1) :: ds, a)
              | some c => codeA E G n fn ro c tmps ((a1.next - 1) :: ds) a
          | _ => none
        | none => none
      | _, _ => none
    | _ => none
  termination_by structural n => n
def callA (E : Program) (G : Gives) : Nat → FuncId → Array Value → AW → Option (Value × AW)
  | 0, _, _, _ => none
  | n + 1, f, args, a =>
    match given G f args a with
    | some r => some r
    | none =>
      match E.funcs[f]? with
      | none => none
      | some fn =>
        match fn.body with
        | none => externA E fn args a
        | some c =>
          match codeA E G n f none c (args.toList ++ List.replicate (fn.ntmps - args.size) undef) [] { a with base := a.next, dirty := [] } with
          | some (e, tmps, ds, a1) =>
            match e with
            | .normal | .ret =>
              match unwindA ds a1 with
              | some a1 => match resultsA E a1 tmps fn.results.toList with
                | some vs => match leaveA a vs a1 with
                  | (vs, a2) => some (oneOf vs, a2)
                | none => none
              | none => none
            | _ => none
          | none => none
  termination_by structural n => n
def roundA (E : Program) (G : Gives) : Nat → Nat → Array Value → AW → Option (Value × AW)
  | 0, _, _, _ => none
  | n + 1, l, args, a =>
    match a.get l with
    | some (.obj (.loop r)) =>
      if args.size = r.params.size then
        match codeA E G n r.fn (some l) r.assign ((r.params.toList.zip args.toList).foldl (fun t (d, v) => t.set d v) r.tmps.toList) [] a with
        | some (.normal, tmps, [], a) =>
          match a.get l with
          | some (.obj (.loop r1)) =>
            match r1.state with
            | .ready =>
              match codeA E G n r.fn (some l) r.body tmps [] (a.write l (.obj (.loop { r1 with state := .busy }))) with
              | some (e, _, _, a) =>
                match a.get l with
                | some (.obj (.loop r2)) =>
                  some (.bool (jumpOf e).isNone, a.write l (.obj (.loop { r2 with state := if (jumpOf e).isNone then .ready else .done, pending := jumpOf e })))
                | _ => none
              | none => none
            | _ => none
          | _ => none
        | _ => none
      else none
    | _ => none
  termination_by structural n => n
end
end Go.Proofs.YtmdfejlfdgaomaaAM
