/- Rules of operations over memory. -/
import Derived.Test.YtmdfejlfdgaomaaAM30
namespace Go.Proofs.YtmdfejlfdgaomaaAM
open Go Go.RowKit
set_option linter.unusedVariables false
set_option linter.unusedSimpArgs false

theorem get_mk {n h b d i} : AW.get ⟨n, h, b, d⟩ i = look i h := hide rfl
theorem look_hit {i j b r} (h : i = j) : look i ((j, b) :: r) = some b := by simp [look, h]
theorem look_self {i b r} : look i ((i, b) :: r) = some b := by simp [look]
theorem look_miss {i j b r} (h : i ≠ j) : look i ((j, b) :: r) = look i r := by simp [look, h]
theorem new_mk {n h bs d b} : AW.new ⟨n, h, bs, d⟩ b = ⟨n + 1, (n, b) :: h, bs, d⟩ := hide rfl
theorem put_hit {i j x b r} (h : i = j) : putAt i x ((j, b) :: r) = (j, x) :: r := by simp [putAt, h]
theorem put_self {i x b r} : putAt i x ((i, b) :: r) = (i, x) :: r := by simp [putAt]
theorem put_miss {i j x b r} (h : i ≠ j) : putAt i x ((j, b) :: r) = (j, b) :: putAt i x r := by simp [putAt, h]
theorem kill_self {i b r} : kill i ((i, b) :: r) = r := by simp [kill]
theorem kill_miss {i j b r} (h : i ≠ j) : kill i ((j, b) :: r) = (j, b) :: kill i r := by simp [kill, h]
theorem look_wput {i x} : ∀ {h : List (Nat × Blk)} {b}, look i h = some b → look i (putAt i x h) = some x := by
  intro h
  induction h with
  | nil => intro b hb; simp [look] at hb
  | cons p r ih =>
    intro b hb
    obtain ⟨j, c⟩ := p
    by_cases hij : i = j
    · subst hij; rw [put_self, look_self]
    · rw [put_miss hij, look_miss hij]; rw [look_miss hij] at hb; exact ih hb
theorem look_wput_ne {i j x} (hij : j ≠ i) : ∀ {h : List (Nat × Blk)}, look j (putAt i x h) = look j h := by
  intro h
  induction h with
  | nil => rfl
  | cons p r ih =>
    obtain ⟨k, c⟩ := p
    by_cases hik : i = k
    · subst hik; rw [put_self, look_miss hij, look_miss hij]
    · rw [put_miss hik]
      by_cases hjk : j = k
      · subst hjk; rw [look_self, look_self]
      · rw [look_miss hjk, look_miss hjk, ih]
theorem look_wkill_ne {i j} (hij : j ≠ i) : ∀ {h : List (Nat × Blk)}, look j (kill i h) = look j h := by
  intro h
  induction h with
  | nil => rfl
  | cons p r ih =>
    obtain ⟨k, c⟩ := p
    by_cases hik : i = k
    · subst hik; rw [kill_self, look_miss hij]
    · rw [kill_miss hik]
      by_cases hjk : j = k
      · subst hjk; rw [look_self, look_self]
      · rw [look_miss hjk, look_miss hjk, ih]
/-- A write to a block of the present call's own. -/
theorem write_own {n h bs d i b} (hi : bs ≤ i) : AW.write ⟨n, h, bs, d⟩ i b = ⟨n, putAt i b h, bs, d⟩ := by
  have : ¬ i < bs := by omega
  simp [AW.write, AW.soil, this]
theorem drop_own {n h bs d i} (hi : bs ≤ i) : AW.drop ⟨n, h, bs, d⟩ i = ⟨n, kill i h, bs, d⟩ := by
  have : ¬ i < bs := by omega
  simp [AW.drop, AW.soil, this]
/-- A write to a block from before. -/
theorem write_other {n h bs i b} (hi : i < bs) : AW.write ⟨n, h, bs, []⟩ i b = ⟨n, putAt i b h, bs, [i]⟩ := by
  simp [AW.write, AW.soil, hi]
theorem write_again {n h bs d i b} (hi : i < bs) (hd : d.contains i = true) : AW.write ⟨n, h, bs, d⟩ i b = ⟨n, putAt i b h, bs, d⟩ := by
  have hd' : i ∈ d := by simpa using hd
  simp [AW.write, AW.soil, hi, hd']

section
variable {E : Program} {G : Gives} {t : List Value} {a : AW} {K : Value → AW → Prop}
theorem cells_int {k n} : (Value.int k n).cells.toList = [.int k n] := hide rfl
theorem cells_bool {b} : (Value.bool b).cells.toList = [.bool b] := hide rfl
theorem cells_str {b} : (Value.string b).cells.toList = [.string b] := hide rfl
theorem cells_float {k b} : (Value.float k b).cells.toList = [.float k b] := hide rfl
theorem cells_agg {l : List Value} : (Value.agg l.toArray).cells.toList = l := hide rfl
theorem cells_slice {p n c} : (Value.slice p n c).cells.toList = [.slice p n c] := hide rfl
theorem cells_ptr {p} : (Value.pointer p).cells.toList = [.pointer p] := hide rfl
theorem cells_map {p} : (Value.map p).cells.toList = [.map p] := hide rfl
theorem cells_func {f x y} : (Value.func f x y).cells.toList = [.func f x y] := hide rfl
theorem cells_nilFunc : (Value.nilFunc).cells.toList = [.nilFunc] := hide rfl
theorem op_box {ty x} : WOp E G (.box ty x) t a K = WVal (evalA t x) fun v => K (.pointer (some ⟨a.next, 0, none⟩)) (a.new (.cells v.cells.toList true)) := by
  rw [op_make rfl]
  simp only [makeA, oper]
  cases evalA t x <;> rfl
theorem op_alloc {ty} : WOp E G (.alloc ty) t a K = WVal (zeroV E ty) fun v => K (.pointer (some ⟨a.next, 0, none⟩)) (a.new (.cells v.cells.toList true)) := by
  rw [op_make rfl]
  simp only [makeA, oper]
  cases zeroV E ty <;> rfl
def loadP (E : Program) (ty : TypeId) (v : Value) (a : AW) : Option Value := match v with
  | .pointer (some p) => loadVarA E ty p a
  | _ => none
theorem loadP_ptr {ty p} : loadP E ty (.pointer (some p)) a = loadVarA E ty p a := hide rfl
theorem op_load {ty x} : WOp E G (.load ty x) t a K = WVal (evalA t x) fun v => WVal (loadP E ty v a) fun r => K r a := by
  rw [op_read rfl]
  simp only [readA, oper]
  cases evalA t x with
  | none => rfl
  | some v =>
    simp only [WVal_some]
    cases v with
    | pointer p =>
      cases p with
      | none => rfl
      | some p => simp only [loadP]; cases loadVarA E ty p a <;> rfl
    | _ => rfl
def cellAt (b : Option Blk) (i : Nat) : Option Value := match b with
  | some (.cells c _) => c[i]?
  | _ => none
theorem cellAt_cells {c rw i} : cellAt (some (.cells c rw)) i = c[i]? := hide rfl
theorem load_one {ty p} (h : aggB E ty = some false) : loadVarA E ty p a = cellAt (a.get p.block) p.off := by
  unfold loadVarA AW.loadN cellAt
  rw [h]
  cases hb : a.get p.block with
  | none => rfl
  | some b =>
    cases b with
    | obj o => rfl
    | cells c rw =>
      simp only
      by_cases hl : p.off + 1 ≤ c.length
      · rw [if_pos hl]
        have : p.off < c.length := by omega
        rw [List.getElem?_eq_getElem this]
        have : (c.drop p.off).take 1 = [c[p.off]] := by
          rw [List.drop_eq_getElem_cons this]; rfl
        simp [this]
      · rw [if_neg hl]
        rw [List.getElem?_eq_none (by omega)]
def cellsAt (b : Option Blk) (i n : Nat) : Option (List Value) := match b with
  | some (.cells c _) => if i + n ≤ c.length then some ((c.drop i).take n) else none
  | _ => none
theorem cellsAt_cells {c rw i n} (h : i + n ≤ c.length) : cellsAt (some (.cells c rw)) i n = some ((c.drop i).take n) := by simp [cellsAt, h]
theorem load_agg {ty p n} (h : aggB E ty = some true) (hs : typeSize E ty = some n) : loadVarA E ty p a = (cellsAt (a.get p.block) p.off n).map fun l => .agg l.toArray := by
  unfold loadVarA AW.loadN cellsAt
  rw [h, hs]
  cases hb : a.get p.block with
  | none => rfl
  | some b =>
    cases b with
    | obj o => rfl
    | cells c rw =>
      simp only
      by_cases hl : p.off + n ≤ c.length
      · rw [if_pos hl]; rfl
      · rw [if_neg hl]; rfl
def storeP (E : Program) (ty : TypeId) (v u : Value) (a : AW) : Option AW := match v with
  | .pointer (some p) => storeVarA E ty p u a
  | _ => none
theorem storeP_ptr {ty p u} : storeP E ty (.pointer (some p)) u a = storeVarA E ty p u a := hide rfl
theorem op_store {ty x y} : WOp E G (.store ty x y) t a K = WVal (evalA t x) fun v => WVal (evalA t y) fun u => WVal (storeP E ty v u a) fun b => K undef b := by
  rw [op_work rfl]
  simp only [workA, oper]
  cases evalA t x with
  | none => rfl
  | some v =>
    simp only [WVal_some]
    cases v with
    | pointer p =>
      cases p with
      | none => cases evalA t y <;> rfl
      | some p =>
        cases evalA t y with
        | none => rfl
        | some u => simp only [storeP, WVal_some]; cases storeVarA E ty p u a <;> rfl
    | _ => cases evalA t y <;> rfl
/-- A store: what stands in the block, then what is written. -/
theorem store_cells {ty : TypeId} {p : Addr} {v : Value} {n : Nat} {c l : List Value} (hs : typeSize E ty = some n) (hv : v.cells.toList = l) (hn : l.length = n) (ho : l.all Value.oneCell' = true) (hg : a.get p.block = some (.cells c true)) (hl : p.off + n ≤ c.length) :
    storeVarA E ty p v a = some (a.write p.block (.cells (c.take p.off ++ (l ++ c.drop (p.off + n))) true)) := by
  subst hv
  unfold storeVarA AW.storeN
  rw [hs]
  have h1 : v.cells.size = n := by rw [← hn]; simp
  simp only [h1, if_true, hg]
  rw [if_pos]
  · rw [hn]
  · refine ⟨?_, ho⟩
    rw [hn]; exact hl
theorem store_one {ty : TypeId} {p : Addr} {v : Value} {c : List Value} (hs : typeSize E ty = some 1) (hv : v.cells.toList = [v]) (ho : v.oneCell' = true) (hg : a.get p.block = some (.cells c true)) (hl : p.off < c.length) :
    storeVarA E ty p v a = some (a.write p.block (.cells (c.set p.off v) true)) := by
  rw [store_cells hs hv rfl (by simp [ho]) hg (by omega)]
  have : c.take p.off ++ ([v] ++ c.drop (p.off + 1)) = c.set p.off v := by
    rw [List.set_eq_take_append_cons_drop]; simp [hl]
  rw [this]
def fieldAddrA (v : Value) (off : Nat) : Option Value := match v with
  | .pointer (some p) => some (.pointer (some ⟨p.block, p.off + off, none⟩))
  | _ => none
theorem fieldAddr_ptr {p off} : fieldAddrA (.pointer (some p)) off = some (.pointer (some ⟨p.block, p.off + off, none⟩)) := hide rfl
theorem op_fieldAddr {s x f fs fd m} (hu : E.underlying s = some (.struct fs)) (hf : fs[f]? = some fd) (hz : typeSize E fd.type = some (m + 1)) :
    WOp E G (.fieldAddr s x f) t a K = WVal (evalA t x) fun v => WVal (fieldAddrA v fd.offset) fun r => K r a := by
  rw [op_pure rfl]
  simp only [pureA, oper, hu]
  cases evalA t x with
  | none => rfl
  | some v =>
    cases v with
    | pointer p => cases p with
      | none => rfl
      | some p => simp only [hf, hz]; rfl
    | _ => rfl
def strBytes (v : Value) : Option (List UInt8) := match v with
  | .string b => some (strOf b)
  | _ => none
theorem strBytes_str {l} : strBytes (.string (mkStr l)) = some l := hide rfl
theorem op_toBytes {s d x e} (hs : E.underlying s = some .string) (hd : E.underlying d = some (.slice e)) (he : E.underlying e = some (.int .u8)) :
    WOp E G (.convert s d x) t a K = WVal (evalA t x) fun v => WVal (strBytes v) fun l => K (.slice (some ⟨a.next, 0, some 2⟩) l.length l.length) (a.new (.cells (l.map u8) true)) := by
  have hk : kindO E (oper (.convert s d x)) = .make := by simp [kindO, oper, hs, hd, he]
  rw [op_make hk]
  simp only [makeA, oper]
  cases evalA t x with
  | none => rfl
  | some v =>
    cases v with
    | string b => rfl
    | _ => rfl
theorem bytes_map (l : List UInt8) : bytesOfCells (l.map u8) = some l := by
  induction l with
  | nil => rfl
  | cons b l ih =>
    simp only [List.map_cons, u8, bytesOfCells]
    have : List.map (fun b : UInt8 => Value.int .u8 (b.toNat : Int)) l = l.map u8 := rfl
    rw [show bytesOfCells (List.map u8 l) = some l from ih]
    simp
def readBytes (v : Value) (a : AW) : Option Value := match v with
    | .slice none _ _ => some (.string (mkStr []))
    | .slice (some p) n _ => (cellsAt (a.get p.block) p.off n).bind fun cs => (bytesOfCells cs).map fun bs => .string (mkStr bs)
    | _ => none
theorem op_ofBytes {s d x e} (hs : E.underlying s = some (.slice e)) (hd : E.underlying d = some .string) (he : E.underlying e = some (.int .u8)) :
    WOp E G (.convert s d x) t a K = WVal (evalA t x) fun v => WVal (readBytes v a) fun r => K r a := by
  have hk : kindO E (oper (.convert s d x)) = .read := by simp [kindO, oper, hs, hd, he]
  rw [op_read hk]
  simp only [readA, oper]
  cases evalA t x with
  | none => rfl
  | some v =>
    simp only [WVal_some]
    cases v with
    | slice p n c =>
      cases p with
      | none => rfl
      | some p =>
        simp only [readBytes, AW.loadN, cellsAt]
        cases a.get p.block with
        | none => rfl
        | some b =>
          cases b with
          | obj o => rfl
          | cells c rw =>
            simp only
            by_cases hl : p.off + n ≤ c.length
            · rw [if_pos hl, Option.bind_some]
              simp only
              cases bytesOfCells ((c.drop p.off).take n) <;> rfl
            · rw [if_neg hl]; rfl
    | _ => rfl
theorem readBytes_nil {n c} : readBytes (.slice none n c) a = some (.string (mkStr [])) := hide rfl
theorem readBytes_at {p : Addr} {n c : Nat} {l : List UInt8} {rw : Bool} (hg : a.get p.block = some (.cells (l.map u8) rw)) (h : p.off + n ≤ l.length) : readBytes (.slice (some p) n c) a = some (.string (mkStr ((l.drop p.off).take n))) := by
  simp only [readBytes, hg, cellsAt, List.length_map, h, if_true, Option.bind_some]
  rw [← List.map_drop, ← List.map_take, bytes_map]
  rfl
theorem elem_of {ty e n} (h : E.underlying ty = some (.slice e)) (hn : typeSize E e = some n) : elemCells E ty = some (e, n) := by simp [elemCells, h, hn]
def makeSl (E : Program) (ty : TypeId) (l c : Value) (a : AW) : Option (Value × AW) := match elemCells E ty, l, c with
    | some (e, n), .int _ l, .int _ c => match zeroV E e with
      | some z =>
        if 0 ≤ l ∧ l ≤ c ∧ c ≤ 1000000 ∧ z.cells.size = n ∧ (E.info? e).any (fun i => decide (i.bytes ≤ 1000000)) = true then
          some (.slice (some ⟨a.next, 0, some 0⟩) l.toNat c.toNat, a.new (.cells ((List.replicate c.toNat z.cells.toList).flatten) true))
        else none
      | none => none
    | _, _, _ => none
theorem op_makeSlice {ty l c} : WOp E G (.makeSlice ty l c) t a K = WVal (evalA t l) fun v => WVal (evalA t c) fun u => WVal (makeSl E ty v u a) fun r => K r.1 r.2 := by
  rw [op_make rfl]
  simp only [makeA, oper, makeSl]
  cases evalA t l with
  | none => cases elemCells E ty <;> rfl
  | some v =>
    cases evalA t c with
    | none => cases elemCells E ty <;> cases v <;> rfl
    | some u =>
      cases elemCells E ty with
      | none => rfl
      | some q =>
        obtain ⟨e, n⟩ := q
        simp only [WVal_some]
        cases v with
        | int k l =>
          cases u with
          | int k' c =>
            simp only
            cases zeroV E e with
            | none => rfl
            | some z =>
              simp only
              by_cases hc : 0 ≤ l ∧ l ≤ c ∧ c ≤ 1000000 ∧ z.cells.size = n ∧ (E.info? e).any (fun i => decide (i.bytes ≤ 1000000)) = true
              · rw [if_pos hc, if_pos hc]; rfl
              · rw [if_neg hc, if_neg hc]; rfl
          | _ => rfl
        | _ => rfl
theorem makeSl_at {ty e : TypeId} {n : Nat} {z : Value} {k k' : IntKind} {l c : Int} (he : elemCells E ty = some (e, n)) (hz : zeroV E e = some z) (hn : z.cells.size = n) (hb : (E.info? e).any (fun i => decide (i.bytes ≤ 1000000)) = true) (h1 : 0 ≤ l) (h2 : l ≤ c) (h3 : c ≤ 1000000) :
    makeSl E ty (.int k l) (.int k' c) a = some (.slice (some ⟨a.next, 0, some 0⟩) l.toNat c.toNat, a.new (.cells ((List.replicate c.toNat z.cells.toList).flatten) true)) := by
  unfold makeSl
  rw [he]
  simp only [hz]
  rw [if_pos ⟨h1, h2, h3, hn, hb⟩]
theorem zero_bytes (n : Nat) : (List.replicate n (Value.int .u8 0).cells.toList).flatten = (List.replicate n (0 : UInt8)).map u8 := by
  induction n with
  | zero => rfl
  | succ n ih => rw [List.replicate_succ, List.flatten_cons, ih]; rfl
/-- A part of a call's new cells that lies at the end of its answer. -/
theorem leave_fresh {before : AW} {p : Addr} {n cp nx bs : Nat} {h : List (Nat × Blk)} {c : List Value} (hb : before.next ≤ p.block) (hg : look p.block h = some (.cells c true)) (hf : c.all flat = true) :
    leaveA before [.slice (some p) n cp] ⟨nx, h, bs, []⟩ = ([.slice (some { p with block := before.next }) n cp], before.new (.cells c true)) := by
  have h1 : flat (.slice (some p) n cp) = false := rfl
  have h2 : freshOf before.next ⟨nx, h, bs, []⟩ (.slice (some p) n cp) = some (c, p.block) := by
    simp only [freshOf, hb, if_true, get_mk, hg, hf]
  simp [leaveA, h1, h2, moveTo]
theorem leave_fresh2 {before : AW} {p : Addr} {n cp nx bs : Nat} {h : List (Nat × Blk)} {c : List Value} {v : Value} (hv : flat v = true) (hb : before.next ≤ p.block) (hg : look p.block h = some (.cells c true)) (hf : c.all flat = true) :
    leaveA before [.slice (some p) n cp, v] ⟨nx, h, bs, []⟩ = ([.slice (some { p with block := before.next }) n cp, v], before.new (.cells c true)) := by
  have h1 : flat (.slice (some p) n cp) = false := rfl
  have h2 : freshOf before.next ⟨nx, h, bs, []⟩ (.slice (some p) n cp) = some (c, p.block) := by
    simp only [freshOf, hb, if_true, get_mk, hg, hf]
  simp [leaveA, h1, h2, moveTo, hv]
theorem leave_freshPtr {before : AW} {p : Addr} {nx bs : Nat} {h : List (Nat × Blk)} {c : List Value} (hb : before.next ≤ p.block) (hg : look p.block h = some (.cells c true)) (hf : c.all flat = true) :
    leaveA before [.pointer (some p)] ⟨nx, h, bs, []⟩ = ([.pointer (some { p with block := before.next })], before.new (.cells c true)) := by
  have h1 : flat (.pointer (some p)) = false := rfl
  have h2 : freshOf before.next ⟨nx, h, bs, []⟩ (.pointer (some p)) = some (c, p.block) := by
    simp only [freshOf, hb, if_true, get_mk, hg, hf]
  simp [leaveA, h1, h2, moveTo]
theorem leave_func {before : AW} {f x y} {nx bs : Nat} {h : List (Nat × Blk)} (hv : flat (.func f x y) = false) :
    leaveA before [.func f x y] ⟨nx, h, bs, []⟩ = ([.func f x y], ⟨nx, h, before.base, before.dirty⟩) := by
  simp [leaveA, hv, freshOf]
theorem all_u8 (l : List UInt8) : (l.map u8).all flat = true := by
  rw [List.all_eq_true]
  intro v hv
  obtain ⟨b, _, rfl⟩ := List.mem_map.1 hv
  rfl
end
end Go.Proofs.YtmdfejlfdgaomaaAM
