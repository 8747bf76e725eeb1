/- Rules of append, copy and slices that are built. -/
import Derived.Test.YtmdfejlfdgaomaaAM31
namespace Go.Proofs.YtmdfejlfdgaomaaAM
open Go Go.RowKit
set_option linter.unusedVariables false
set_option linter.unusedSimpArgs false

section
variable {E : Program} {G : Gives} {t : List Value} {a : AW} {K : Value → AW → Prop}
theorem op_builtin {b args ts} (hb : b = .append ∨ b = .copy ∨ b = .delete ∨ b = .clear) : WOp E G (.call ⟨.builtin b, args, ts⟩) t a K = WVal (evals t args.toList) fun vs => WVal (builtinA E b ts vs a) fun r => K r.1 r.2 := by
  have hk : kindO E (oper (.call ⟨.builtin b, args, ts⟩)) = .work := by rcases hb with rfl | rfl | rfl | rfl <;> rfl
  rw [op_work hk]
  simp only [workA, oper]
  cases evals t args.toList with
  | none => rfl
  | some vs =>
    simp only [WVal_some]
    cases builtinA E b ts vs a <;> rfl
theorem op_append {args ts} : WOp E G (.call ⟨.builtin .append, args, ts⟩) t a K = WVal (evals t args.toList) fun vs => WVal (builtinA E .append ts vs a) fun r => K r.1 r.2 := op_builtin (.inl rfl)
theorem op_copy {args ts} : WOp E G (.call ⟨.builtin .copy, args, ts⟩) t a K = WVal (evals t args.toList) fun vs => WVal (builtinA E .copy ts vs a) fun r => K r.1 r.2 := op_builtin (.inr (.inl rfl))
theorem op_delete {args ts} : WOp E G (.call ⟨.builtin .delete, args, ts⟩) t a K = WVal (evals t args.toList) fun vs => WVal (builtinA E .delete ts vs a) fun r => K r.1 r.2 := op_builtin (.inr (.inr (.inl rfl)))
theorem op_clear {args ts} : WOp E G (.call ⟨.builtin .clear, args, ts⟩) t a K = WVal (evals t args.toList) fun vs => WVal (builtinA E .clear ts vs a) fun r => K r.1 r.2 := op_builtin (.inr (.inr (.inr rfl)))
/-- The cells behind a slice. -/
def sliceCells (z : Nat) (v : Value) (a : AW) : Option (List Value) := match v with
  | .slice (some p) n _ => cellsAt (a.get p.block) p.off (n * z)
  | .slice none n _ => if n = 0 then some [] else none
  | .string s => if z = 1 then some ((strOf s).map u8) else none
  | _ => none
theorem sliceCells_at {z : Nat} {p : Addr} {n m : Nat} {c : List Value} {rw : Bool} (hg : a.get p.block = some (.cells c rw)) (hl : p.off + n * z ≤ c.length) : sliceCells z (.slice (some p) n m) a = some ((c.drop p.off).take (n * z)) := by
  simp [sliceCells, hg, cellsAt, hl]
theorem firstA_all {z n : Nat} {v : Value} {l : List Value} (hn : lenA v = some n) (h : sliceCells z v a = some l) : firstA z n v a = some l := by
  cases v with
  | slice p m c =>
    cases hn
    cases p with
    | none => exact h
    | some p =>
      simp only [sliceCells, cellsAt] at h
      simp only [firstA, AW.loadN]
      split at h
      · rename_i b c rw hb
        rw [hb]; exact h
      · cases h
  | string s =>
    cases hn
    simp only [sliceCells] at h
    simp only [firstA]
    split at h
    · rename_i hz
      rw [if_pos hz]
      have : s.data.toList.take s.size = s.data.toList := List.take_of_length_le (by show s.data.toList.length ≤ s.data.size; simp)
      rw [this]; exact h
    · cases h
  | _ => cases hn
def appOk (E : Program) (t0 t1 : TypeId) (z : Nat) : Bool := match elemCells E t0, E.underlying t1 with
  | some (e, z'), some xd => z' == z && (match xd with | .int _ => false | _ => true) && (E.info? e).any (fun i => decide (i.bytes ≤ 1000000)) && (zeroV E e).any (fun v => v.cells.size == z)
  | _, _ => false
def grown (z : Nat) (base : Option Addr) (tot : Nat) (cs : List Value) (a : AW) : Option (Value × AW) := match base with
  | none => some (growA z tot cs a)
  | some p =>
    if p.spot = some 0 then some (growA z tot cs a)
    else if p.spot = some (z + 1) then some (growA z tot cs (a.drop p.block))
    else none
theorem append_core {t0 t1 : TypeId} {z : Nat} (hk : appOk E t0 t1 z = true) {base : Option Addr} {len cap n : Nat} {x : Value} {was new : List Value} (hn : lenA x = some n) (hx : sliceCells z x a = some new)
    (hs : sliceCells z (.slice base len cap) a = some was) (hc : cap < len + n) (hl : len + n ≤ 1000000) (ho : new.all Value.oneCell' = true) :
    builtinA E .append #[t0, t1] [.slice base len cap, x] a = grown z base (len + n) (was ++ new) a := by
  unfold appOk at hk
  split at hk
  · rename_i e z' xd he hxd
    simp only [Bool.and_eq_true, beq_iff_eq] at hk
    obtain ⟨⟨⟨rfl, h1⟩, h2⟩, h3⟩ := hk
    show appendA E #[t0, t1] (.slice base len cap) x a = _
    unfold appendA
    have e0 : (#[t0, t1] : Array TypeId)[0]? = some t0 := rfl
    have e1 : (#[t0, t1] : Array TypeId)[1]? = some t1 := rfl
    rw [e0, e1]
    simp only [he, hxd, hn]
    have f1 := firstA_all hn hx
    have f2 : firstA z' len (.slice base len cap) a = some was := firstA_all rfl hs
    have hif : ¬ (len + n ≤ cap) := by omega
    have hcond : ¬ (1000000 < len + n ∨ (E.info? e).any (fun i => decide (i.bytes ≤ 1000000)) = false ∨ (zeroV E e).any (fun v => v.cells.size == z') = false ∨ new.all Value.oneCell' = false) := by
      rw [h2, h3, ho]
      simp; omega
    cases xd with
    | int k => cases h1
    | _ => simp only [f1, f2]; rw [if_neg hif, if_neg hcond]; rfl
  · cases hk
theorem append_nil {t0 t1 : TypeId} {z : Nat} (hk : appOk E t0 t1 z = true) {n cp : Nat} {x : Value} {new : List Value} (hn : lenA x = some n) (hx : sliceCells z x a = some new) (h0 : 0 < n) (hl : n ≤ 1000000) (ho : new.all Value.oneCell' = true) :
    builtinA E .append #[t0, t1] [.slice none 0 0, x] a = some (.slice (some ⟨a.next, 0, some (z + 1)⟩) n n, a.new (.cells new true)) := by
  rw [append_core hk (was := []) hn hx rfl (by omega) (by omega) ho]
  simp [grown, growA]
theorem append_grown {t0 t1 : TypeId} {z : Nat} (hk : appOk E t0 t1 z = true) {p : Addr} {len cap n : Nat} {x : Value} {was new : List Value} (hn : lenA x = some n) (hx : sliceCells z x a = some new)
    (hp : p.spot = some (z + 1)) (hs : sliceCells z (.slice (some p) len cap) a = some was) (hc : cap < len + n) (hl : len + n ≤ 1000000) (ho : new.all Value.oneCell' = true) :
    builtinA E .append #[t0, t1] [.slice (some p) len cap, x] a = some (.slice (some ⟨a.next, 0, some (z + 1)⟩) (len + n) (len + n), (a.drop p.block).new (.cells (was ++ new) true)) := by
  rw [append_core hk hn hx hs hc hl ho]
  have : p.spot ≠ some 0 := by rw [hp]; simp
  simp only [grown, this, hp, if_true, if_false]
  rfl
theorem append_made {t0 t1 : TypeId} {z : Nat} (hk : appOk E t0 t1 z = true) {p : Addr} {len cap n : Nat} {x : Value} {was new : List Value} (hn : lenA x = some n) (hx : sliceCells z x a = some new)
    (hp : p.spot = some 0) (hs : sliceCells z (.slice (some p) len cap) a = some was) (hc : cap < len + n) (hl : len + n ≤ 1000000) (ho : new.all Value.oneCell' = true) :
    builtinA E .append #[t0, t1] [.slice (some p) len cap, x] a = some (.slice (some ⟨a.next, 0, some (z + 1)⟩) (len + n) (len + n), a.new (.cells (was ++ new) true)) := by
  rw [append_core hk hn hx hs hc hl ho]
  simp only [grown, hp, if_true]
  rfl
theorem copy_cells {t0 t1 e : TypeId} {z : Nat} (he : elemCells E t0 = some (e, z)) {p q : Addr} {len cp n cq : Nat} {c d : List Value} {rw : Bool} (hp : a.get p.block = some (.cells c true)) (hq : a.get q.block = some (.cells d rw))
    (hlq : q.off + n * z ≤ d.length) (hlp : p.off + len * z ≤ c.length) (ho : d.all Value.oneCell' = true) :
    builtinA E .copy #[t0, t1] [.slice (some p) len cp, .slice (some q) n cq] a = some (.int .i64 (Nat.min n len), a.write p.block (.cells (c.take p.off ++ ((d.drop q.off).take (Nat.min n len * z) ++ c.drop (p.off + Nat.min n len * z))) true)) := by
  show copyA E #[t0, t1] (.slice (some p) len cp) (.slice (some q) n cq) a = _
  unfold copyA
  have e0 : (#[t0, t1] : Array TypeId)[0]? = some t0 := rfl
  rw [e0]
  have hm1 : Nat.min n len * z ≤ n * z := Nat.mul_le_mul_right z (Nat.min_le_left n len)
  have hm2 : Nat.min n len * z ≤ len * z := Nat.mul_le_mul_right z (Nat.min_le_right n len)
  have hlen : ((d.drop q.off).take (Nat.min n len * z)).length = Nat.min n len * z := by simp; omega
  have hf : firstA z (Nat.min n len) (.slice (some q) n cq) a = some ((d.drop q.off).take (Nat.min n len * z)) := by
    simp only [firstA, AW.loadN, hq]
    rw [if_pos (by omega)]
  have hst : a.storeN p ((d.drop q.off).take (Nat.min n len * z)) = some (a.write p.block (.cells (c.take p.off ++ ((d.drop q.off).take (Nat.min n len * z) ++ c.drop (p.off + Nat.min n len * z))) true)) := by
    simp only [AW.storeN, hp]
    rw [if_pos]
    · rw [hlen]
    · refine ⟨by rw [hlen]; omega, ?_⟩
      rw [List.all_eq_true]
      intro v hv
      exact List.all_eq_true.1 ho v (List.mem_of_mem_drop (List.mem_of_mem_take hv))
  simp only [he, lenA, hf, hst]
theorem u8_one (l : List UInt8) : (l.map u8).all Value.oneCell' = true := by
  rw [List.all_eq_true]
  intro v hv
  obtain ⟨b, _, rfl⟩ := List.mem_map.1 hv
  rfl
theorem copy_bytes {t0 t1 e : TypeId} (he : elemCells E t0 = some (e, 1)) {p q : Addr} {len cp n cq : Nat} {c d : List UInt8} {rw : Bool} (hp : a.get p.block = some (.cells (c.map u8) true)) (hq : a.get q.block = some (.cells (d.map u8) rw))
    (hlq : q.off + n ≤ d.length) (hlp : p.off + len ≤ c.length) :
    builtinA E .copy #[t0, t1] [.slice (some p) len cp, .slice (some q) n cq] a = some (.int .i64 (Nat.min n len), a.write p.block (.cells ((c.take p.off ++ ((d.drop q.off).take (Nat.min n len) ++ c.drop (p.off + Nat.min n len))).map u8) true)) := by
  rw [copy_cells he hp hq (by simpa using hlq) (by simpa using hlp) (u8_one d)]
  simp [List.map_take, List.map_drop]
def buildSl (E : Program) (ty : TypeId) (len : Nat) (vs : List (Nat × Value)) (a : AW) : Option (Value × AW) := match elemCells E ty with
  | some (e, n) =>
    if len * n = 0 then (if vs.isEmpty then some (.slice (some ⟨a.next, 0, some 0⟩) len len, a.new (.cells [] true)) else none)
    else match zeroV E e with
    | some z =>
      if len * n > 2 ^ 24 then none else if z.cells.size = n then
      match fillA (fun i => some (i * n, n)) ((List.replicate len z.cells.toList).flatten) vs with
      | some cs => some (.slice (some ⟨a.next, 0, some 0⟩) len len, a.new (.cells cs true))
      | none => none
      else none
    | none => none
  | none => none
theorem op_buildSlice {ty len parts} : WOp E G (.buildSlice ty len parts) t a K = WVal (partsA t parts.toList) fun vs => WVal (buildSl E ty len vs a) fun r => K r.1 r.2 := by
  rw [op_make rfl]
  simp only [makeA, oper, buildSl]
  cases partsA t parts.toList with
  | none => cases elemCells E ty <;> rfl
  | some vs =>
    cases elemCells E ty with
    | none => rfl
    | some q =>
      obtain ⟨e, n⟩ := q
      simp only [WVal_some]
      by_cases h0 : len * n = 0
      · rw [if_pos h0, if_pos h0]
        by_cases h1 : vs.isEmpty = true
        · rw [if_pos h1, if_pos h1]; rfl
        · rw [if_neg h1, if_neg h1]; rfl
      · rw [if_neg h0, if_neg h0]
        cases zeroV E e with
        | none => rfl
        | some z =>
          simp only
          by_cases h1 : len * n > 2 ^ 24
          · rw [if_pos h1, if_pos h1]; rfl
          · rw [if_neg h1, if_neg h1]
            by_cases h2 : z.cells.size = n
            · rw [if_pos h2, if_pos h2]
              cases fillA (fun i => some (i * n, n)) ((List.replicate len z.cells.toList).flatten) vs <;> rfl
            · rw [if_neg h2, if_neg h2]; rfl
/-- A part by part filling in order. -/
theorem fill_seq {n : Nat} : ∀ (vs : List Value) (k : Nat) (pre zs : List Value), (∀ v ∈ vs, v.cells.size = n) → pre.length = k * n → zs.length = vs.length * n →
    fillA (fun i => some (i * n, n)) (pre ++ zs) ((vs.zipIdx k).map fun p => (p.2, p.1)) = some (pre ++ (vs.map (·.cells.toList)).flatten)
  | [], k, pre, zs, _, _, hz => by
    have : zs = [] := List.eq_nil_of_length_eq_zero (by simpa using hz)
    subst this
    rfl
  | v :: vs, k, pre, zs, hv, hp, hz => by
    have hvn : v.cells.size = n := hv v (by simp)
    have hvl : v.cells.toList.length = n := by simpa using hvn
    have hzl : zs.length = n + vs.length * n := by rw [hz, List.length_cons]; rw [Nat.add_mul]; omega
    simp only [List.zipIdx_cons, List.map_cons, fillA]
    have hcond : (decide (v.cells.size ≠ n) || decide (k * n + v.cells.size > (pre ++ zs).length)) = false := by
      simp only [Bool.or_eq_false_iff, decide_eq_false_iff_not, List.length_append]
      exact ⟨fun h => h hvn, by omega⟩
    rw [if_neg (by rw [hcond]; simp)]
    have e1 : (pre ++ zs).take (k * n) = pre := by rw [← hp]; simp
    have e2 : (pre ++ zs).drop (k * n + v.cells.size) = zs.drop n := by
      rw [hvn, ← hp, List.drop_append]
      simp
    rw [e1, e2]
    have := fill_seq vs (k + 1) (pre ++ v.cells.toList) (zs.drop n) (fun u hu => hv u (by simp [hu])) (by rw [List.length_append, hp, hvl]; rw [Nat.add_mul]; omega) (by rw [List.length_drop, hzl]; omega)
    rw [← List.append_assoc, this]
    simp
theorem flat_len {l : List Value} : ∀ (m : Nat), (List.replicate m l).flatten.length = m * l.length
  | 0 => by simp
  | m + 1 => by rw [List.replicate_succ, List.flatten_cons, List.length_append, flat_len m, Nat.add_mul]; omega
def slOk (E : Program) (ty : TypeId) (n : Nat) : Bool := match elemCells E ty with
  | some (e, n') => n' == n && decide (0 < n) && (zeroV E e).any (fun v => v.cells.size == n)
  | none => false
theorem buildSl_seq {ty : TypeId} {n len : Nat} (hk : slOk E ty n = true) {vs : List Value} (hv : ∀ v ∈ vs, v.cells.size = n) (hl : vs.length = len) (h0 : 0 < len) (hb : len * n ≤ 2 ^ 24) {ps : List (Nat × Value)} (hps : ps = (vs.zipIdx 0).map fun p => (p.2, p.1)) :
    buildSl E ty len ps a = some (.slice (some ⟨a.next, 0, some 0⟩) len len, a.new (.cells ((vs.map (·.cells.toList)).flatten) true)) := by
  subst hps
  unfold slOk at hk
  split at hk
  · rename_i e n' he
    simp only [Bool.and_eq_true, beq_iff_eq, decide_eq_true_eq] at hk
    obtain ⟨⟨rfl, h1⟩, h2⟩ := hk
    unfold buildSl
    rw [he]
    simp only
    have hne : ¬ len * n' = 0 := by
      intro h
      rcases Nat.mul_eq_zero.1 h with h | h <;> omega
    rw [if_neg hne]
    cases hz : zeroV E e with
    | none => rw [hz] at h2; cases h2
    | some z =>
      rw [hz] at h2
      have hz' : z.cells.size = n' := by simpa using h2
      simp only
      rw [if_neg (by omega), if_pos hz']
      have := fill_seq vs 0 [] ((List.replicate len z.cells.toList).flatten) hv (by simp) (by rw [flat_len, hl]; simp [hz'])
      simp only [List.nil_append] at this
      rw [this]
  · cases hk
end
end Go.Proofs.YtmdfejlfdgaomaaAM
