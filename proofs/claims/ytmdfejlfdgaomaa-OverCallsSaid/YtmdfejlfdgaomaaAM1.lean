/- How the evaluator's memory stands to the program's: which block is which, and what they hold. -/
import Derived.Test.YtmdfejlfdgaomaaAM0
namespace Go.Proofs.YtmdfejlfdgaomaaAM
open Go Go.RowKit
set_option linter.unusedVariables false

structure Info where
  b : Nat
  sh : Nat
  n : Nat
  rw : Bool

abbrev Ren := Nat → Option Info

inductive FnRel (ρ : Ren) (K : Nat) : Fn → Fn → Prop
  | func (f : FuncId) : FnRel ρ K (.func f) (.func f)
  | yield {l l' : Nat} (h : l < K) (h1 : ∀ I, ρ l = some I → l' = I.b) : FnRel ρ K (.yield l) (.yield l')

inductive VRel (ρ : Ren) (K : Nat) : Value → Value → Prop
  | bool (b : Bool) : VRel ρ K (.bool b) (.bool b)
  | int (k : IntKind) (n : Int) : VRel ρ K (.int k n) (.int k n)
  | float (k : FloatKind) (n : Nat) : VRel ρ K (.float k n) (.float k n)
  | complex (k : FloatKind) (n m : Nat) : VRel ρ K (.complex k n m) (.complex k n m)
  | string (s : ByteArray) : VRel ρ K (.string s) (.string s)
  | nilFunc : VRel ρ K .nilFunc .nilFunc
  | nilIface : VRel ρ K .nilIface .nilIface
  | ptrNil : VRel ρ K (.pointer none) (.pointer none)
  | mapNil : VRel ρ K (.map none) (.map none)
  | chanNil : VRel ρ K (.chan none) (.chan none)
  | sliceNil (n c : Nat) : VRel ρ K (.slice none n c) (.slice none n c)
  | ptr {a a' : Addr} (h : a.block < K) (hs : a.spot = none) (h1 : ∀ I, ρ a.block = some I → a' = ⟨I.b, a.off + I.sh, none⟩) : VRel ρ K (.pointer (some a)) (.pointer (some a'))
  | slice {a a' : Addr} {n c c' : Nat} (h : a.block < K) (h1 : ∀ I, ρ a.block = some I → c' = 0 ∨ a' = ⟨I.b, a.off + I.sh, none⟩) (hn : n ≤ c) (hc : c ≤ c') (h0 : a.spot = some 0 → c' = c)
      (h2 : ∀ z, a.spot = some (z + 1) → ∀ I, ρ a.block = some I → I.rw = true ∧ a.off + I.sh + c' * z ≤ I.n) : VRel ρ K (.slice (some a) n c) (.slice (some a') n c')
  | map {r r' : Nat} (h : r < K) (h1 : ∀ I, ρ r = some I → r' = I.b) : VRel ρ K (.map (some r)) (.map (some r'))
  | func {fn fn' : Fn} {f f' c c' : Array Value} (h : FnRel ρ K fn fn') (hf : f.size = f'.size) (h1 : ∀ i (p : i < f.size) (q : i < f'.size), VRel ρ K f[i] f'[i])
      (hc : c.size = c'.size) (h2 : ∀ i (p : i < c.size) (q : i < c'.size), VRel ρ K c[i] c'[i]) : VRel ρ K (.func fn f c) (.func fn' f' c')
  | iface (t : TypeId) {v v' : Value} (h : VRel ρ K v v') : VRel ρ K (.iface t v) (.iface t v')
  | agg {c c' : Array Value} (hc : c.size = c'.size) (h : ∀ i (p : i < c.size) (q : i < c'.size), VRel ρ K c[i] c'[i]) : VRel ρ K (.agg c) (.agg c')
  | tuple {c c' : Array Value} (hc : c.size = c'.size) (h : ∀ i (p : i < c.size) (q : i < c'.size), VRel ρ K c[i] c'[i]) : VRel ρ K (.tuple c) (.tuple c')

def Ext (ρ : Ren) (K : Nat) (ρ' : Ren) (K' : Nat) : Prop := K ≤ K' ∧ ∀ i, i < K → ρ' i = ρ i ∨ ρ' i = none
theorem Ext.refl (ρ : Ren) (K : Nat) : Ext ρ K ρ K := ⟨Nat.le_refl _, fun _ _ => .inl rfl⟩
theorem Ext.trans {ρ ρ' ρ'' : Ren} {K K' K'' : Nat} (h : Ext ρ K ρ' K') (h' : Ext ρ' K' ρ'' K'') : Ext ρ K ρ'' K'' := by
  refine ⟨Nat.le_trans h.1 h'.1, fun i hi => ?_⟩
  rcases h'.2 i (Nat.lt_of_lt_of_le hi h.1) with e | e
  · rw [e]; exact h.2 i hi
  · exact .inr e
theorem Ext.some {ρ ρ' : Ren} {K K' : Nat} (h : Ext ρ K ρ' K') {i : Nat} (hi : i < K) {I : Info} (e : ρ' i = some I) : ρ i = some I := by
  rcases h.2 i hi with e' | e'
  · rw [← e']; exact e
  · rw [e'] at e; cases e

theorem FnRel.mono {ρ ρ' : Ren} {K K' : Nat} (hx : Ext ρ K ρ' K') {f f' : Fn} (h : FnRel ρ K f f') : FnRel ρ' K' f f' := by
  cases h with
  | func f => exact .func f
  | yield h h1 => exact .yield (Nat.lt_of_lt_of_le h hx.1) (fun I e => h1 I (hx.some h e))
theorem VRel.mono {ρ ρ' : Ren} {K K' : Nat} (hx : Ext ρ K ρ' K') {v v' : Value} (h : VRel ρ K v v') : VRel ρ' K' v v' := by
  induction h with
  | bool b => exact .bool b
  | int k n => exact .int k n
  | float k n => exact .float k n
  | complex k n m => exact .complex k n m
  | string s => exact .string s
  | nilFunc => exact .nilFunc
  | nilIface => exact .nilIface
  | ptrNil => exact .ptrNil
  | mapNil => exact .mapNil
  | chanNil => exact .chanNil
  | sliceNil n c => exact .sliceNil n c
  | ptr h hs h1 => exact .ptr (Nat.lt_of_lt_of_le h hx.1) hs (fun I e => h1 I (hx.some h e))
  | slice h h1 hn hc h0 h2 => exact .slice (Nat.lt_of_lt_of_le h hx.1) (fun I e => h1 I (hx.some h e)) hn hc h0 (fun z hz I e => h2 z hz I (hx.some h e))
  | map h h1 => exact .map (Nat.lt_of_lt_of_le h hx.1) (fun I e => h1 I (hx.some h e))
  | func h hf h1 hc h2 ih1 ih2 => exact .func (h.mono hx) hf ih1 hc ih2
  | iface t h ih => exact .iface t ih
  | agg hc h ih => exact .agg hc ih
  | tuple hc h ih => exact .tuple hc ih

/-- Lists, element by element. -/
inductive LRel (ρ : Ren) (K : Nat) : List Value → List Value → Prop
  | nil : LRel ρ K [] []
  | cons {v v' : Value} {l l' : List Value} (h : VRel ρ K v v') (r : LRel ρ K l l') : LRel ρ K (v :: l) (v' :: l')
section
variable {ρ : Ren} {K : Nat}
theorem LRel.length {l l' : List Value} (h : LRel ρ K l l') : l.length = l'.length := by
  induction h with
  | nil => rfl
  | cons _ _ ih => simp [ih]
theorem LRel.mono {ρ' : Ren} {K' : Nat} (hx : Ext ρ K ρ' K') {l l' : List Value} (h : LRel ρ K l l') : LRel ρ' K' l l' := by
  induction h with
  | nil => exact .nil
  | cons h _ ih => exact .cons (h.mono hx) ih
theorem LRel.append {l l' m m' : List Value} (h : LRel ρ K l l') (h' : LRel ρ K m m') : LRel ρ K (l ++ m) (l' ++ m') := by
  induction h with
  | nil => exact h'
  | cons h _ ih => exact .cons h ih
theorem LRel.take {l l' : List Value} (h : LRel ρ K l l') : ∀ n, LRel ρ K (l.take n) (l'.take n) := by
  induction h with
  | nil => intro n; simp; exact .nil
  | cons h _ ih =>
    intro n
    cases n with
    | zero => exact .nil
    | succ n => exact .cons h (ih n)
theorem LRel.drop {l l' : List Value} (h : LRel ρ K l l') : ∀ n, LRel ρ K (l.drop n) (l'.drop n) := by
  induction h with
  | nil => intro n; simp; exact .nil
  | cons h r ih =>
    intro n
    cases n with
    | zero => exact .cons h r
    | succ n => exact ih n
theorem LRel.get {l l' : List Value} (h : LRel ρ K l l') : ∀ {i : Nat} {v : Value}, l[i]? = some v → ∃ v', l'[i]? = some v' ∧ VRel ρ K v v' := by
  induction h with
  | nil => intro i v e; simp at e
  | cons h _ ih =>
    intro i v e
    cases i with
    | zero => simp at e; subst e; exact ⟨_, rfl, h⟩
    | succ i => simpa using ih (by simpa using e)
theorem LRel.of_get {l l' : List Value} (hl : l.length = l'.length) (h : ∀ (i : Nat) (v v' : Value), l[i]? = some v → l'[i]? = some v' → VRel ρ K v v') : LRel ρ K l l' := by
  induction l generalizing l' with
  | nil => cases l' with
    | nil => exact .nil
    | cons => simp at hl
  | cons v l ih => cases l' with
    | nil => simp at hl
    | cons v' l' => exact .cons (h 0 v v' rfl rfl) (ih (by simpa using hl) (fun i u u' e e' => h (i + 1) u u' (by simpa using e) (by simpa using e')))
theorem LRel.set {l l' : List Value} (h : LRel ρ K l l') {v v' : Value} (hv : VRel ρ K v v') : ∀ i, LRel ρ K (l.set i v) (l'.set i v') := by
  induction h with
  | nil => intro i; exact .nil
  | cons h r ih =>
    intro i
    cases i with
    | zero => exact .cons hv r
    | succ i => exact .cons h (ih i)
theorem LRel.arr {c c' : Array Value} (h : LRel ρ K c.toList c'.toList) : c.size = c'.size ∧ ∀ i (p : i < c.size) (q : i < c'.size), VRel ρ K c[i] c'[i] := by
  refine ⟨by simpa using h.length, fun i p q => ?_⟩
  obtain ⟨v', e, hv⟩ := h.get (i := i) (v := c[i]) (by simp [p])
  have : v' = c'[i] := by simp [q] at e; exact e.symm
  exact this ▸ hv
theorem LRel.of_arr {c c' : Array Value} (hc : c.size = c'.size) (h : ∀ i (p : i < c.size) (q : i < c'.size), VRel ρ K c[i] c'[i]) : LRel ρ K c.toList c'.toList := by
  refine LRel.of_get (by simpa using hc) fun i v v' e e' => ?_
  obtain ⟨p, e⟩ := List.getElem?_eq_some_iff.1 e
  obtain ⟨q, e'⟩ := List.getElem?_eq_some_iff.1 e'
  subst e e'
  simpa using h i (by simpa using p) (by simpa using q)
theorem VRel.agg' {l l' : List Value} (h : LRel ρ K l l') : VRel ρ K (.agg l.toArray) (.agg l'.toArray) := by
  obtain ⟨h1, h2⟩ := LRel.arr (c := l.toArray) (c' := l'.toArray) (by simpa using h)
  exact .agg h1 h2
theorem VRel.tuple' {l l' : List Value} (h : LRel ρ K l l') : VRel ρ K (.tuple l.toArray) (.tuple l'.toArray) := by
  obtain ⟨h1, h2⟩ := LRel.arr (c := l.toArray) (c' := l'.toArray) (by simpa using h)
  exact .tuple h1 h2
theorem LRel.replicate {v v' : Value} (h : VRel ρ K v v') : ∀ n, LRel ρ K (List.replicate n v) (List.replicate n v')
  | 0 => .nil
  | n + 1 => .cons h (LRel.replicate h n)
theorem LRel.one {v v' : Value} (h : VRel ρ K v v') : LRel ρ K [v] [v'] := .cons h .nil
theorem VRel.cells {v v' : Value} (h : VRel ρ K v v') : LRel ρ K v.cells.toList v'.cells.toList := by
  cases h with
  | agg hc h => exact LRel.of_arr hc h
  | _ => first
    | exact .one (by constructor <;> assumption)
    | exact .one (by constructor)

theorem flat_rel : ∀ n v, flatN n v = true → VRel ρ K v v ∧ ∀ v', VRel ρ K v v' → v' = v := by
  intro n
  induction n with
  | zero => intro v h; simp [flatN] at h
  | succ n ih =>
    have arr : ∀ c : Array Value, c.toList.all (flatN n) = true → (∀ i (p : i < c.size), VRel ρ K c[i] c[i]) ∧
        ∀ c' : Array Value, c.size = c'.size → (∀ i (p : i < c.size) (q : i < c'.size), VRel ρ K c[i] c'[i]) → c' = c := by
      intro c h
      simp only [List.all_eq_true, Array.mem_toList_iff] at h
      refine ⟨fun i p => (ih _ (h _ (Array.getElem_mem p))).1, fun c' hc hr => ?_⟩
      refine Array.ext hc.symm fun i p q => (ih _ (h _ (Array.getElem_mem q))).2 _ (hr i q p)
    intro v h
    cases v with
    | bool b => exact ⟨.bool b, fun v' h' => by cases h'; rfl⟩
    | int k m => exact ⟨.int k m, fun v' h' => by cases h'; rfl⟩
    | float k m => exact ⟨.float k m, fun v' h' => by cases h'; rfl⟩
    | complex k m m' => exact ⟨.complex k m m', fun v' h' => by cases h'; rfl⟩
    | string s => exact ⟨.string s, fun v' h' => by cases h'; rfl⟩
    | nilFunc => exact ⟨.nilFunc, fun v' h' => by cases h'; rfl⟩
    | nilIface => exact ⟨.nilIface, fun v' h' => by cases h'; rfl⟩
    | pointer a => cases a with
      | none => exact ⟨.ptrNil, fun v' h' => by cases h'; rfl⟩
      | some a => simp [flatN] at h
    | slice a m c => cases a with
      | none => exact ⟨.sliceNil m c, fun v' h' => by cases h'; rfl⟩
      | some a => simp [flatN] at h
    | map a => cases a with
      | none => exact ⟨.mapNil, fun v' h' => by cases h'; rfl⟩
      | some a => simp [flatN] at h
    | chan a => cases a with
      | none => exact ⟨.chanNil, fun v' h' => by cases h'; rfl⟩
      | some a => simp [flatN] at h
    | func fn f c => cases fn with
      | func g =>
        simp only [flatN, Bool.and_eq_true] at h
        have hf := arr f h.1
        have hc := arr c h.2
        refine ⟨.func (.func g) rfl (fun i p _ => hf.1 i p) rfl (fun i p _ => hc.1 i p), fun v' h' => ?_⟩
        cases h' with
        | func hfn e1 r1 e2 r2 => cases hfn; rw [hf.2 _ e1 r1, hc.2 _ e2 r2]
      | _ => simp [flatN] at h
    | iface t v =>
      simp only [flatN] at h
      obtain ⟨h1, h2⟩ := ih v h
      exact ⟨.iface t h1, fun v' h' => by cases h' with | iface _ hv => rw [h2 _ hv]⟩
    | agg c =>
      simp only [flatN] at h
      have hc := arr c h
      exact ⟨.agg rfl (fun i p _ => hc.1 i p), fun v' h' => by cases h' with | agg e r => rw [hc.2 _ e r]⟩
    | tuple c =>
      simp only [flatN] at h
      have hc := arr c h
      exact ⟨.tuple rfl (fun i p _ => hc.1 i p), fun v' h' => by cases h' with | tuple e r => rw [hc.2 _ e r]⟩
theorem flat_self {v : Value} (h : flat v = true) : VRel ρ K v v := (flat_rel 5 v h).1
theorem flat_eq {v v' : Value} (h : flat v = true) (hr : VRel ρ K v v') : v' = v := (flat_rel 5 v h).2 v' hr
theorem flats_eq {l l' : List Value} (h : l.all flat = true) (hr : LRel ρ K l l') : l' = l := by
  induction hr with
  | nil => rfl
  | cons hv _ ih =>
    simp only [List.all_cons, Bool.and_eq_true] at h
    rw [flat_eq h.1 hv, ih h.2]
theorem flats_self {l : List Value} (h : l.all flat = true) : LRel ρ K l l := by
  induction l with
  | nil => exact .nil
  | cons v l ih =>
    simp only [List.all_cons, Bool.and_eq_true] at h
    exact .cons (flat_self h.1) (ih h.2)
theorem VRel.oneCell {v v' : Value} (h : VRel ρ K v v') : v.oneCell' = v'.oneCell' := by cases h <;> rfl
end

/-- The frame's temporaries. -/
def TRel (ρ : Ren) (K : Nat) (l : List Value) (t : Array Value) : Prop := LRel ρ K l t.toList

inductive ERel (ρ : Ren) (K : Nat) : MapEntry → MapEntry → Prop
  | mk {k k' v v' : Value} (n : Nat) (hk : VRel ρ K k k') (hv : VRel ρ K v v') : ERel ρ K ⟨k, v, n⟩ ⟨k', v', n⟩
inductive EsRel (ρ : Ren) (K : Nat) : List MapEntry → List MapEntry → Prop
  | nil : EsRel ρ K [] []
  | cons {e e' : MapEntry} {l l' : List MapEntry} (h : ERel ρ K e e') (r : EsRel ρ K l l') : EsRel ρ K (e :: l) (e' :: l')

inductive OORel (ρ : Ren) (K : Nat) : Obj → Obj → Prop
  | map {es es' : Array MapEntry} (n : Nat) (h : EsRel ρ K es.toList es'.toList) : OORel ρ K (.map es n) (.map es' n)
  | stringIter (s : ByteArray) (n : Nat) : OORel ρ K (.stringIter s n) (.stringIter s n)
  | mapIterNil (n : Nat) (s : Array Nat) (m : Nat) : OORel ρ K (.mapIter none n s m) (.mapIter none n s m)
  | mapIter {r r' : Nat} (n : Nat) (s : Array Nat) (m : Nat) (h : r < K) (h1 : ∀ I, ρ r = some I → r' = I.b) : OORel ρ K (.mapIter (some r) n s m) (.mapIter (some r') n s m)
  | loop (st : LoopState) (pd : Option Code) (f : FuncId) {t t' : Array Value} (ps : Array Tmp) (x y : Code) {d d' : Nat} (h : LRel ρ K t.toList t'.toList) (hd : d < K) (h1 : ∀ I, ρ d = some I → d' = I.b) :
      OORel ρ K (.loop ⟨st, pd, f, t, ps, x, y, d⟩) (.loop ⟨st, pd, f, t', ps, x, y, d'⟩)
  | deferred : OORel ρ K (.deferred (some [])) (.deferred (some []))
  | taken : OORel ρ K (.deferred none) (.deferred none)

inductive ORel (ρ : Ren) (K : Nat) (I : Info) : Blk → Obj → Prop
  | cells {c : List Value} {c' : Array Value} {e : TypeId} {fr : Nat × Nat} (hc : ∀ (j : Nat) v, c[j]? = some v → ∃ v', c'[j + I.sh]? = some v' ∧ VRel ρ K v v')
      (hw : I.rw = true → c'.size = I.n ∧ ∀ o, o < I.n → ¬ (fr.1 ≤ o ∧ o < fr.2)) : ORel ρ K I (.cells c I.rw) (.cells c' e fr)
  | obj {o o' : Obj} (h : OORel ρ K o o') (hr : I.rw = true) (hn : ∀ c e f, o' ≠ .cells c e f) (hs : I.sh = 0) : ORel ρ K I (.obj o) o'

theorem ERel.mono {ρ ρ' : Ren} {K K' : Nat} (hx : Ext ρ K ρ' K') {e e' : MapEntry} (h : ERel ρ K e e') : ERel ρ' K' e e' := by
  cases h with | mk n hk hv => exact .mk n (hk.mono hx) (hv.mono hx)
theorem EsRel.mono {ρ ρ' : Ren} {K K' : Nat} (hx : Ext ρ K ρ' K') {e e' : List MapEntry} (h : EsRel ρ K e e') : EsRel ρ' K' e e' := by
  induction h with
  | nil => exact .nil
  | cons h _ ih => exact .cons (h.mono hx) ih
theorem OORel.mono {ρ ρ' : Ren} {K K' : Nat} (hx : Ext ρ K ρ' K') {o o' : Obj} (h : OORel ρ K o o') : OORel ρ' K' o o' := by
  cases h with
  | map n h => exact .map n (h.mono hx)
  | stringIter s n => exact .stringIter s n
  | mapIterNil n s m => exact .mapIterNil n s m
  | mapIter n s m h h1 => exact .mapIter n s m (Nat.lt_of_lt_of_le h hx.1) (fun I e => h1 I (hx.some h e))
  | loop st pd f ps x y h hd h1 => exact .loop st pd f ps x y (h.mono hx) (Nat.lt_of_lt_of_le hd hx.1) (fun I e => h1 I (hx.some hd e))
  | deferred => exact .deferred
  | taken => exact .taken
theorem ORel.mono {ρ ρ' : Ren} {K K' : Nat} (hx : Ext ρ K ρ' K') {I : Info} {b : Blk} {o : Obj} (h : ORel ρ K I b o) : ORel ρ' K' I b o := by
  cases h with
  | cells hc hw => exact .cells (fun j v e => let ⟨v', e', hv⟩ := hc j v e; ⟨v', e', hv.mono hx⟩) hw
  | obj h hr hn hs => exact .obj (h.mono hx) hr hn hs

theorem ORel.inv {ρ : Ren} {K : Nat} {I : Info} {c : List Value} {rw_ : Bool} {o : Obj} (h : ORel ρ K I (.cells c rw_) o) : I.rw = rw_ ∧ ∃ c' e fr, o = .cells c' e fr ∧
    (∀ (j : Nat) v, c[j]? = some v → ∃ v', c'[j + I.sh]? = some v' ∧ VRel ρ K v v') ∧ (I.rw = true → c'.size = I.n ∧ ∀ o, o < I.n → ¬ (fr.1 ≤ o ∧ o < fr.2)) := by
  generalize hB : Blk.cells c rw_ = B at h
  cases h with
  | cells hc hw =>
    injection hB with h1 h2
    subst h1
    exact ⟨h2.symm, _, _, _, rfl, hc, hw⟩
  | obj => cases hB

/-- Falling numbers. -/
inductive Falls : Nat → List (Nat × Blk) → Prop
  | nil (n : Nat) : Falls n []
  | cons {n i : Nat} {b : Blk} {l : List (Nat × Blk)} (h : i < n) (r : Falls i l) : Falls n ((i, b) :: l)

structure WRel (ρ : Ren) (a : AW) (w : World) : Prop where
  falls : Falls a.next a.heap
  lt : ∀ i I, ρ i = some I → i < a.next
  blk : ∀ i I, ρ i = some I → ∃ b o, a.get i = some b ∧ w.heap[I.b]? = some o ∧ ORel ρ a.next I b o
  has : ∀ i b, a.get i = some b → ∃ I, ρ i = some I
  inj : ∀ i j I J, ρ i = some I → ρ j = some J → I.b = J.b → i = j ∨ (I.rw = false ∧ J.rw = false)

structure Step (ρ : Ren) (K : Nat) (w : World) (ρ' : Ren) (a' : AW) (w' : World) : Prop where
  rel : WRel ρ' a' w'
  ext : Ext ρ K ρ' a'.next
  img : ∀ i I, ρ' i = some I → (∃ j J, ρ j = some J ∧ J.rw = I.rw ∧ J.b = I.b) ∨ w.heap.size ≤ I.b
  frame : ∀ b, b < w.heap.size → (∀ i I, ρ i = some I → I.rw = true → I.b ≠ b) → w'.heap[b]? = w.heap[b]?
  size : w.heap.size ≤ w'.heap.size
  os : w'.os = w.os
  tape : w'.tape = w.tape
  output : w'.output = w.output
theorem Step.refl {ρ : Ren} {a : AW} {w : World} (h : WRel ρ a w) : Step ρ a.next w ρ a w :=
  ⟨h, .refl _ _, fun i I e => .inl ⟨i, I, e, rfl, rfl⟩, fun _ _ _ => rfl, Nat.le_refl _, rfl, rfl, rfl⟩
theorem Step.trans {ρ ρ' ρ'' : Ren} {K : Nat} {a' a'' : AW} {w w' w'' : World} (h : Step ρ K w ρ' a' w') (h' : Step ρ' a'.next w' ρ'' a'' w'') : Step ρ K w ρ'' a'' w'' := by
  refine ⟨h'.rel, h.ext.trans h'.ext, fun i I e => ?_, fun b hb hn => ?_, Nat.le_trans h.size h'.size, h'.os.trans h.os, h'.tape.trans h.tape, h'.output.trans h.output⟩
  · rcases h'.img i I e with ⟨j, J, e1, e2, e3⟩ | hl
    · rcases h.img j J e1 with ⟨k, L, f1, f2, f3⟩ | hl
      · exact .inl ⟨k, L, f1, f2.trans e2, f3.trans e3⟩
      · exact .inr (e3 ▸ hl)
    · exact .inr (Nat.le_trans h.size hl)
  · rw [h'.frame b (Nat.lt_of_lt_of_le hb h.size) fun i I e hr hbI => ?_, h.frame b hb hn]
    rcases h.img i I e with ⟨j, J, e1, e2, e3⟩ | hl
    · exact hn j J e1 (e2.trans hr) (e3.trans hbI)
    · omega
end Go.Proofs.YtmdfejlfdgaomaaAM
