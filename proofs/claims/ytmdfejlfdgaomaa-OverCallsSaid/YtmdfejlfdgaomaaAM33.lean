/- Rules of regions that draw their order, and of loops over functions. -/
import Derived.Test.YtmdfejlfdgaomaaAM32
namespace Go.Proofs.YtmdfejlfdgaomaaAM
open Go Go.RowKit
set_option linter.unusedVariables false
set_option linter.unusedSimpArgs false

/-- Unordered pairs, by a list. -/
def memP (p : List (Nat × Nat)) (j i : Nat) : Bool := match p with
  | [] => false
  | (x, y) :: r => decide (x = j ∧ y = i) || memP r j i
def calmP (p : List (Nat × Nat)) (i : Nat) (n : Note) (before : List (Nat × Note)) : Bool := match before with
  | [] => true
  | (j, m) :: r => (!clash m n || !memP p j i) && calmP p i n r
def pairsOk (b : Array Nat) (n : Nat) (p : List (Nat × Nat)) : Bool := (List.range n).all fun j => (List.range n).all fun i => !decide (j < i) || !unord b j i || memP p j i
theorem clash_none {m} : clash m .none = false := by cases m <;> rfl
theorem clash_none' {m} : clash .none m = false := by cases m <;> rfl
theorem clash_read {i j} : clash (.read i) (.read j) = false := hide rfl
theorem clash_work {m d n e} : clash (.work m d) (.work n e) = false := hide rfl
theorem clash_rw {b n d} : clash (.read b) (.work n d) = (decide (n ≤ b) || d.contains b) := hide rfl
theorem clash_wr {b n d} : clash (.work n d) (.read b) = (decide (n ≤ b) || d.contains b) := hide rfl
theorem calm_of {b : Array Nat} {n : Nat} {p : List (Nat × Nat)} (h : pairsOk b n p = true) {i : Nat} (hi : i < n) {note : Note} : ∀ {before : List (Nat × Note)}, (∀ q ∈ before, q.1 < i) → calmP p i note before = true → calm b i note before = true := by
  intro before
  induction before with
  | nil => intro _ _; rfl
  | cons q r ih =>
    obtain ⟨j, m⟩ := q
    intro hb hc
    simp only [calmP, Bool.and_eq_true, Bool.or_eq_true] at hc
    have hr := ih (fun q hq => hb q (by simp [hq])) hc.2
    unfold calm at hr ⊢
    rw [List.all_cons, hr, Bool.and_true]
    simp only [Bool.or_eq_true]
    rcases hc.1.symm with h1 | h1
    · left
      have hj : j < i := hb (j, m) (by simp)
      unfold pairsOk at h
      have := List.all_eq_true.1 (List.all_eq_true.1 h j (List.mem_range.2 (Nat.lt_trans hj hi))) i (List.mem_range.2 hi)
      simp only [Bool.or_eq_true, decide_eq_true hj, Bool.not_true, Bool.false_eq_true, false_or] at this
      rcases this with h2 | h2
      · exact h2
      · rw [h2] at h1; cases h1
    · right; exact h1

section
variable (E : Program) (G : Gives)
def WNote (op : Op) (t : List Value) (a : AW) (K : Note → Value → AW → Prop) (_ : Tag op K := .mk) : Prop :=
  match kindO E (oper op) with
  | .pure => WOp E G op t a fun v b => K .none v b
  | .read => WVal (readA E t (oper op) a) fun r => r.1 < a.next ∧ K (.read r.1) r.2 a
  | .make => WOp E G op t a fun v b => K (.work a.next []) v b
  | .work => WOp E G op t ⟨a.next, a.heap, a.next, []⟩ fun v b => K (.work a.next b.dirty) v ⟨b.next, b.heap, a.base, soilAll a.dirty a.base b.dirty⟩
/-- The operations of a region that draws: unordered pairs, destinations, place, what is left, what was touched. -/
def WR0 (p : List (Nat × Nat)) (dsts : List (Option Tmp)) : Nat → List Oper → List (Nat × Note) → List Value → AW → (List Value → AW → Prop) → Prop
  | _, [], _, t, a, Q => Q t a
  | i, o :: l, ns, t, a, Q => wantD o.guard dsts t
      (WNote E G o.op t a fun note v b => calmP p i note ns = true ∧ WR0 p dsts (i + 1) l ((i, note) :: ns) (putT t o.dst v) b Q)
      (calmP p i .none ns = true ∧ WR0 p dsts (i + 1) l ((i, .none) :: ns) (putT t o.dst undef) a Q)
def WR (p : List (Nat × Nat)) (dsts : List (Option Tmp)) (i : Nat) (l : List Oper) (ns : List (Nat × Note)) (t : List Value) (a : AW) (Q : List Value → AW → Prop) (_ : Tag l Q := .mk) : Prop := WR0 E G p dsts i l ns t a Q
end
section
variable {E : Program} {G : Gives} {t : List Value} {a : AW} {p : List (Nat × Nat)} {dsts : List (Option Tmp)} {Q : List Value → AW → Prop}
theorem opA_kind {o : Oper} {x : NextA} {b : AW} (h : opA E t o a = some (x, b)) : (kindO E o = .pure → ∃ v, x = .value v ∧ b = a ∧ pureA E t o = some v) ∧ (kindO E o = .make → ∃ r, makeA E t o = some r ∧ x = .value (r.2 a.next) ∧ b = a.new r.1) := by
  refine ⟨fun hk => ?_, fun hk => ?_⟩
  · unfold opA at h
    rw [hk] at h
    simp only at h
    cases hp : pureA E t o with
    | none => rw [hp] at h; cases h
    | some v => rw [hp] at h; cases h; exact ⟨v, rfl, rfl, rfl⟩
  · unfold opA at h
    rw [hk] at h
    simp only at h
    cases hp : makeA E t o with
    | none => rw [hp] at h; cases h
    | some r => rw [hp] at h; cases h; exact ⟨r, rfl, rfl, rfl⟩
theorem note_step {o : Oper} {K : Note → Value → AW → Prop} (h : WNote E G o.op t a K) : ∃ n note v b, stepO E (callA E G n) (roundA E G n) o t a = some (note, v, b) ∧ K note v b := by
  have hko : kindO E (oper o.op) = kindO E o := rfl
  unfold WNote at h
  rw [hko] at h
  unfold stepO
  cases hk : kindO E o with
  | pure =>
    rw [hk] at h
    simp only at h
    rw [op_pure (hko.trans hk)] at h
    have hp : pureA E t (oper o.op) = pureA E t o := rfl
    rw [hp] at h
    cases hv : pureA E t o with
    | none => rw [hv] at h; exact h.elim
    | some v => rw [hv] at h; exact ⟨0, _, _, _, rfl, h⟩
  | read =>
    rw [hk] at h
    simp only at h
    have hp : readA E t (oper o.op) a = readA E t o a := rfl
    rw [hp] at h
    cases hv : readA E t o a with
    | none => rw [hv] at h; exact h.elim
    | some r =>
      rw [hv, WVal_some] at h
      refine ⟨0, _, _, _, ?_, h.2⟩
      simp only
      rw [if_pos h.1]
  | make =>
    rw [hk] at h
    simp only at h
    rw [op_make (hko.trans hk)] at h
    have hp : makeA E t (oper o.op) = makeA E t o := rfl
    rw [hp] at h
    cases hv : makeA E t o with
    | none => rw [hv] at h; exact h.elim
    | some r => rw [hv] at h; exact ⟨0, _, _, _, rfl, h⟩
  | work =>
    rw [hk] at h
    simp only at h
    rw [op_work (hko.trans hk)] at h
    have hp : workA E t (oper o.op) ⟨a.next, a.heap, a.next, []⟩ = workA E t o ⟨a.next, a.heap, a.next, []⟩ := rfl
    rw [hp] at h
    cases hv : workA E t o ⟨a.next, a.heap, a.next, []⟩ with
    | none => rw [hv] at h; exact h.elim
    | some r =>
      obtain ⟨x, b⟩ := r
      rw [hv, WVal_some] at h
      cases x with
      | value v => exact ⟨0, _, _, _, rfl, h⟩
      | enter f args =>
        obtain ⟨n, v, b', hc, hk'⟩ := h
        refine ⟨n, .work a.next b'.dirty, v, ⟨b'.next, b'.heap, a.base, soilAll a.dirty a.base b'.dirty⟩, ?_, hk'⟩
        have hc' : callA E G n f args b = some (v, b') := by simpa using hc
        simp only [hc', Option.map_some]
      | round f args =>
        obtain ⟨n, v, b', hc, hk'⟩ := h
        refine ⟨n, .work a.next b'.dirty, v, ⟨b'.next, b'.heap, a.base, soilAll a.dirty a.base b'.dirty⟩, ?_, hk'⟩
        have hc' : roundA E G n f args b = some (v, b') := by simpa using hc
        simp only [hc', Option.map_some]
theorem step_more {n m : Nat} (h : n ≤ m) {ops i t a r} (e : stepR E (callA E G n) (roundA E G n) ops i t a = some r) : stepR E (callA E G m) (roundA E G m) ops i t a = some r := by
  induction h with
  | refl => exact e
  | step _ ih => exact mono_step (mono_at _) _ _ _ _ _ ih
theorem wr_reg {ops : Array Oper} (hp : pairsOk (ancs ops) ops.size p = true) {Q} : ∀ (l : List Oper) (k : Nat) (ns : List (Nat × Note)) (t : List Value) (a : AW), ops.toList.drop k = l → (∀ q ∈ ns, q.1 < k) → WR E G p (dstsOf ops.toList) k l ns t a Q →
    ∃ n t' b, regA E G n ops (List.range' k l.length) ns t a = some (t', b) ∧ Q t' b := by
  intro l
  induction l with
  | nil => intro k ns t a _ _ h; exact ⟨1, t, a, by simp [regA], h⟩
  | cons o l ih =>
    intro k ns t a hk hns h
    have hlt : k < ops.toList.length := by
      rcases Nat.lt_or_ge k ops.toList.length with h | h
      · exact h
      · rw [List.drop_eq_nil_of_le h] at hk; cases hk
    have hd := List.drop_eq_getElem_cons hlt
    rw [hk] at hd
    obtain ⟨ho, hl⟩ := List.cons.inj hd
    have hok : ops[k]? = some o := by
      rw [← Array.getElem?_toList, List.getElem?_eq_getElem hlt, ho]
    have hks : k < ops.size := by simpa using hlt
    have hns' : ∀ note : Note, ∀ q ∈ (k, note) :: ns, q.1 < k + 1 := by
      intro note q hq
      rcases List.mem_cons.1 hq with rfl | hq
      · exact Nat.lt_succ_self k
      · exact Nat.lt_succ_of_lt (hns q hq)
    have key : ∀ {n note t1 a1}, stepR E (callA E G n) (roundA E G n) ops k t a = some (note, t1, a1) → calmP p k note ns = true → WR E G p (dstsOf ops.toList) (k + 1) l ((k, note) :: ns) t1 a1 Q → ∃ n t' b, regA E G n ops (List.range' k (o :: l).length) ns t a = some (t', b) ∧ Q t' b := by
      intro n note t1 a1 hs hc hr
      obtain ⟨m, t', b, hm, hq⟩ := ih (k + 1) ((k, note) :: ns) t1 a1 hl.symm (hns' note) hr
      refine ⟨max n m + 1, t', b, ?_, hq⟩
      rw [List.length_cons, List.range'_succ, regA, step_more (Nat.le_max_left n m) hs]
      simp only
      rw [if_pos (calm_of hp hks hns hc)]
      exact reg_mono (Nat.le_max_right n m) hm
    unfold WR WR0 at h
    rw [← wanted_eq] at h
    split at h
    · rename_i hw
      obtain ⟨n, note, v, b, hs, hc, hr⟩ := note_step h
      refine key (n := n) (note := note) (t1 := putT t o.dst v) (a1 := b) ?_ hc hr
      unfold stepR
      rw [hok]
      simp only
      rw [if_pos hw, hs]
      rfl
    · rename_i hw
      refine key (n := 0) (note := .none) (t1 := putT t o.dst undef) (a1 := a) ?_ h.1 h.2
      unfold stepR
      rw [hok]
      simp only
      rw [if_neg hw]
/-- A region that draws its order. -/
theorem code_draw {fn ro ds id} {l : List Oper} {Q : ExitA → List Value → List Nat → AW → Prop} (p : List (Nat × Nat)) (h1 : planOk E l.toArray = true) (h2 : pairsOk (ancs l.toArray) l.length p = true)
    (h : WR E G p (dstsOf l) 0 l [] t ⟨a.next + 1, a.heap, a.base, a.dirty⟩ fun t a => Q .normal t ds a) : WCode E G fn ro (.region id l.toArray true) t ds a Q := by
  obtain ⟨n, t', b, hr, hq⟩ := wr_reg (ops := l.toArray) (by simpa using h2) l 0 [] t ⟨a.next + 1, a.heap, a.base, a.dirty⟩ (by simp) (by simp) (by simpa using h)
  refine ⟨n + 1, _, _, _, _, ?_, hq⟩
  rw [codeA]
  rw [if_pos h1]
  have hsz : List.range l.toArray.size = List.range' 0 l.length := by rw [List.range_eq_range']; simp
  rw [hsz, hr]
theorem WR_nil {i ns} : WR E G p dsts i [] ns t a Q = Q t a := hide rfl
theorem WR_plain {i ns d op ty pos af l} : WR E G p dsts i (⟨some d, op, ty, pos, af, none⟩ :: l) ns t a Q = WNote E G op t a fun note v b => calmP p i note ns = true ∧ WR E G p dsts (i + 1) l ((i, note) :: ns) (putV t d v) b Q := hide rfl
theorem WR_none {i ns op ty pos af l} : WR E G p dsts i (⟨none, op, ty, pos, af, none⟩ :: l) ns t a Q = WNote E G op t a fun note v b => calmP p i note ns = true ∧ WR E G p dsts (i + 1) l ((i, note) :: ns) t b Q := hide rfl
theorem WR_guard {i ns d op ty pos af j b l} : WR E G p dsts i (⟨some d, op, ty, pos, af, some (j, b)⟩ :: l) ns t a Q = WGuard (yieldedD dsts t j) b (WNote E G op t a fun note v b => calmP p i note ns = true ∧ WR E G p dsts (i + 1) l ((i, note) :: ns) (putV t d v) b Q) (calmP p i .none ns = true ∧ WR E G p dsts (i + 1) l ((i, .none) :: ns) (putV t d undef) a Q) := hide rfl
theorem calmP_nil {i n} : calmP p i n [] = true := hide rfl
theorem calmP_cons {i n j m r} : calmP p i n ((j, m) :: r) = ((!clash m n || !memP p j i) && calmP p i n r) := hide rfl
theorem memP_nil {j i} : memP [] j i = false := hide rfl
theorem memP_cons {j i x y r} : memP ((x, y) :: r) j i = (decide (x = j ∧ y = i) || memP r j i) := hide rfl
variable {K : Note → Value → AW → Prop}
theorem note_pure {op} (h : kindO E (oper op) = .pure) : WNote E G op t a K = WOp E G op t a fun v b => K .none v b := by unfold WNote; rw [h]
theorem note_make {op} (h : kindO E (oper op) = .make) : WNote E G op t a K = WOp E G op t a fun v b => K (.work a.next []) v b := by unfold WNote; rw [h]
theorem note_work {op} (h : kindO E (oper op) = .work) : WNote E G op t a K = WOp E G op t ⟨a.next, a.heap, a.next, []⟩ fun v b => K (.work a.next b.dirty) v ⟨b.next, b.heap, a.base, soilAll a.dirty a.base b.dirty⟩ := by unfold WNote; rw [h]
theorem note_read {op} (h : kindO E (oper op) = .read) : WNote E G op t a K = WVal (readA E t (oper op) a) fun r => r.1 < a.next ∧ K (.read r.1) r.2 a := by unfold WNote; rw [h]
theorem note_move {x} : WNote E G (.move x) t a K = WOp E G (.move x) t a fun v b => K .none v b := note_pure rfl
theorem note_assign {x} : WNote E G (.assign x) t a K = WOp E G (.assign x) t a fun v b => K .none v b := note_pure rfl
theorem note_pick {x y z} : WNote E G (.pick x y z) t a K = WOp E G (.pick x y z) t a fun v b => K .none v b := note_pure rfl
theorem note_bin {op ty x y z} : WNote E G (.binOp op ty x y z) t a K = WOp E G (.binOp op ty x y z) t a fun v b => K .none v b := note_pure rfl
theorem note_un {op ty x} : WNote E G (.unOp op ty x) t a K = WOp E G (.unOp op ty x) t a fun v b => K .none v b := note_pure rfl
theorem note_field {ty x f} : WNote E G (.field ty x f) t a K = WOp E G (.field ty x f) t a fun v b => K .none v b := note_pure rfl
theorem note_build {ty x} : WNote E G (.build ty x) t a K = WOp E G (.build ty x) t a fun v b => K .none v b := note_pure rfl
theorem note_slice {ty x l h m} : WNote E G (.slice ty x l h m) t a K = WOp E G (.slice ty x l h m) t a fun v b => K .none v b := note_pure rfl
theorem note_indexAddr {ty x i} : WNote E G (.indexAddr ty x i) t a K = WOp E G (.indexAddr ty x i) t a fun v b => K .none v b := note_pure rfl
theorem note_index {ty x i} : WNote E G (.index ty x i) t a K = WOp E G (.index ty x i) t a fun v b => K .none v b := note_pure rfl
theorem note_extract {x i} : WNote E G (.extract x i) t a K = WOp E G (.extract x i) t a fun v b => K .none v b := note_pure rfl
theorem note_box {ty x} : WNote E G (.box ty x) t a K = WOp E G (.box ty x) t a fun v b => K (.work a.next []) v b := note_make rfl
theorem note_alloc {ty} : WNote E G (.alloc ty) t a K = WOp E G (.alloc ty) t a fun v b => K (.work a.next []) v b := note_make rfl
theorem note_buildSlice {ty n x} : WNote E G (.buildSlice ty n x) t a K = WOp E G (.buildSlice ty n x) t a fun v b => K (.work a.next []) v b := note_make rfl
theorem note_makeSlice {ty n x} : WNote E G (.makeSlice ty n x) t a K = WOp E G (.makeSlice ty n x) t a fun v b => K (.work a.next []) v b := note_make rfl
theorem note_store {ty x y} : WNote E G (.store ty x y) t a K = WOp E G (.store ty x y) t ⟨a.next, a.heap, a.next, []⟩ fun v b => K (.work a.next b.dirty) v ⟨b.next, b.heap, a.base, soilAll a.dirty a.base b.dirty⟩ := note_work rfl
theorem note_call {f args ts} : WNote E G (.call ⟨.value f, args, ts⟩) t a K = WOp E G (.call ⟨.value f, args, ts⟩) t ⟨a.next, a.heap, a.next, []⟩ fun v b => K (.work a.next b.dirty) v ⟨b.next, b.heap, a.base, soilAll a.dirty a.base b.dirty⟩ := note_work rfl
theorem note_append {args ts} : WNote E G (.call ⟨.builtin .append, args, ts⟩) t a K = WOp E G (.call ⟨.builtin .append, args, ts⟩) t ⟨a.next, a.heap, a.next, []⟩ fun v b => K (.work a.next b.dirty) v ⟨b.next, b.heap, a.base, soilAll a.dirty a.base b.dirty⟩ := note_work rfl
theorem note_copy {args ts} : WNote E G (.call ⟨.builtin .copy, args, ts⟩) t a K = WOp E G (.call ⟨.builtin .copy, args, ts⟩) t ⟨a.next, a.heap, a.next, []⟩ fun v b => K (.work a.next b.dirty) v ⟨b.next, b.heap, a.base, soilAll a.dirty a.base b.dirty⟩ := note_work rfl
theorem note_len {x ty d} (h : E.underlying ty = some d) (hm : (match d with | .map _ _ => false | _ => true) = true) : WNote E G (.call ⟨.builtin .len, #[x], #[ty]⟩) t a K = WOp E G (.call ⟨.builtin .len, #[x], #[ty]⟩) t a fun v b => K .none v b := by
  refine note_pure ?_
  simp only [kindO, oper]
  have : ((#[ty] : Array TypeId)[0]?).bind E.underlying = some d := h
  rw [this]
  cases d <;> first | rfl | cases hm
theorem note_min {x ts} : WNote E G (.call ⟨.builtin .min, x, ts⟩) t a K = WOp E G (.call ⟨.builtin .min, x, ts⟩) t a fun v b => K .none v b := note_pure rfl
theorem note_max {x ts} : WNote E G (.call ⟨.builtin .max, x, ts⟩) t a K = WOp E G (.call ⟨.builtin .max, x, ts⟩) t a fun v b => K .none v b := note_pure rfl
theorem note_convI {s d x j k} (hs : E.underlying s = some (.int j)) (hd : E.underlying d = some (.int k)) : WNote E G (.convert s d x) t a K = WOp E G (.convert s d x) t a fun v b => K .none v b := note_pure (kind_conv_int hs hd)
def blockOf (v : Value) : Nat := match v with
  | .pointer (some p) => p.block
  | .slice (some p) _ _ => p.block
  | .map r => r.getD 0
  | _ => 0
theorem blockOf_ptr {p} : blockOf (.pointer (some p)) = p.block := hide rfl
theorem lt_ok {i j : Nat} (h : i < j) : (i < j) = True := eq_true h
theorem le_no {i j : Nat} (h : j < i) : decide (i ≤ j) = false := by simp; omega
theorem blockOf_slice {p n c} : blockOf (.slice (some p) n c) = p.block := hide rfl
theorem note_load {ty x} : WNote E G (.load ty x) t a K = WVal (evalA t x) fun v => WVal (loadP E ty v a) fun r => blockOf v < a.next ∧ K (.read (blockOf v)) r a := by
  rw [note_read rfl]
  simp only [readA, oper]
  cases evalA t x with
  | none => rfl
  | some v =>
    simp only [WVal_some]
    cases v with
    | pointer p =>
      cases p with
      | none => rfl
      | some p => simp only [loadP]; cases loadVarA E ty p a <;> rfl
    | _ => rfl
theorem note_ofBytes {s d x e} (hs : E.underlying s = some (.slice e)) (hd : E.underlying d = some .string) (he : E.underlying e = some (.int .u8)) :
    WNote E G (.convert s d x) t a K = WVal (evalA t x) fun v => WVal (readBytes v a) fun r => blockOf v < a.next ∧ K (.read (blockOf v)) r a := by
  have hk : kindO E (oper (.convert s d x)) = .read := by simp [kindO, oper, hs, hd, he]
  rw [note_read hk]
  simp only [readA, oper]
  cases evalA t x with
  | none => rfl
  | some v =>
    simp only [WVal_some]
    cases v with
    | slice p n c =>
      cases p with
      | none => rfl
      | some p =>
        simp only [readBytes, AW.loadN, cellsAt]
        cases a.get p.block with
        | none => rfl
        | some b =>
          cases b with
          | obj o => rfl
          | cells c rw =>
            simp only
            by_cases hl : p.off + n ≤ c.length
            · rw [if_pos hl, Option.bind_some]
              simp only
              cases bytesOfCells ((c.drop p.off).take n) <;> rfl
            · rw [if_neg hl]; rfl
    | _ => rfl
theorem note_toBytes {s d x e} (hs : E.underlying s = some .string) (hd : E.underlying d = some (.slice e)) (he : E.underlying e = some (.int .u8)) :
    WNote E G (.convert s d x) t a K = WOp E G (.convert s d x) t a fun v b => K (.work a.next []) v b := by
  have hk : kindO E (oper (.convert s d x)) = .make := by simp [kindO, oper, hs, hd, he]
  exact note_make hk
theorem soil_none {d base} : soilAll d base [] = d := hide rfl
end
end Go.Proofs.YtmdfejlfdgaomaaAM
