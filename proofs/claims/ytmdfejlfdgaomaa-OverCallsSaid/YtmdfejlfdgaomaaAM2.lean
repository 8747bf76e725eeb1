/- The evaluator's steps over memory, and the program's. -/
import Derived.Test.YtmdfejlfdgaomaaAM1
namespace Go.Proofs.YtmdfejlfdgaomaaAM
open Go Go.RowKit
set_option linter.unusedVariables false

/-! ### the list of blocks -/
theorem look_put {i : Nat} {x : Blk} : ∀ {l : List (Nat × Blk)} {b : Blk}, look i l = some b → ∀ j, look j (putAt i x l) = if j = i then some x else look j l := by
  intro l
  induction l with
  | nil => intro b h; simp [look] at h
  | cons p l ih =>
    obtain ⟨k, c⟩ := p
    intro b h j
    by_cases hk : i = k
    · subst hk
      simp only [putAt, if_true, look]
      by_cases hj : j = i <;> simp [hj]
    · simp only [look, if_neg hk] at h
      simp only [putAt, if_neg hk, look, ih h j]
      by_cases hj : j = k
      · subst hj; simp [Ne.symm hk]
      · simp [hj]
theorem Falls.mono {n m : Nat} {l : List (Nat × Blk)} (h : Falls n l) (hm : n ≤ m) : Falls m l := by
  cases h with
  | nil => exact .nil m
  | cons h r => exact .cons (Nat.lt_of_lt_of_le h hm) r
theorem Falls.lt {n : Nat} {l : List (Nat × Blk)} (h : Falls n l) {i : Nat} {b : Blk} (e : look i l = some b) : i < n := by
  induction h with
  | nil => simp [look] at e
  | cons h _ ih =>
    simp only [look] at e
    split at e
    · subst_vars; exact h
    · exact Nat.lt_trans (ih e) h
theorem Falls.put {n : Nat} {l : List (Nat × Blk)} (h : Falls n l) (i : Nat) (x : Blk) : Falls n (putAt i x l) := by
  induction h with
  | nil => exact .nil _
  | cons h r ih =>
    simp only [putAt]
    split
    · exact .cons h r
    · exact .cons h ih
theorem Falls.kill {n : Nat} {l : List (Nat × Blk)} (h : Falls n l) (i : Nat) : Falls n (kill i l) := by
  induction h with
  | nil => exact .nil _
  | cons h r ih =>
    simp only [Go.Proofs.YtmdfejlfdgaomaaAM.kill]
    split
    · exact r.mono (Nat.le_of_lt h)
    · exact .cons h ih
theorem look_kill {n : Nat} {l : List (Nat × Blk)} (h : Falls n l) (i : Nat) : ∀ j, look j (kill i l) = if j = i then none else look j l := by
  induction h with
  | nil => intro j; simp [kill, look]
  | @cons n k b l h r ih =>
    intro j
    simp only [kill]
    by_cases hk : i = k
    · subst hk
      simp only [if_true, look]
      by_cases hj : j = i
      · subst hj
        simp only [if_true]
        cases e : look j l with
        | none => rfl
        | some b => exact absurd (r.lt e) (Nat.lt_irrefl _)
      · simp [hj]
    · simp only [if_neg hk, look, ih j]
      by_cases hj : j = k
      · subst hj; simp [Ne.symm hk]
      · simp [hj]
theorem look_big {n : Nat} {l : List (Nat × Blk)} (h : Falls n l) {i : Nat} (hi : n ≤ i) : look i l = none := by
  cases e : look i l with
  | none => rfl
  | some b => exact absurd (h.lt e) (by omega)

/-! ### worlds -/
def upd (ρ : Ren) (i : Nat) (I : Option Info) : Ren := fun j => if j = i then I else ρ j
theorem upd_self (ρ : Ren) (i : Nat) (I : Option Info) : upd ρ i I i = I := by simp [upd]
theorem upd_ne (ρ : Ren) {i j : Nat} (I : Option Info) (h : j ≠ i) : upd ρ i I j = ρ j := by simp [upd, h]
theorem WRel.none {ρ : Ren} {a : AW} {w : World} (h : WRel ρ a w) {i : Nat} (hi : a.next ≤ i) : ρ i = none := by
  cases e : ρ i with
  | none => rfl
  | some I => exact absurd (h.lt i I e) (by omega)
theorem WRel.bound {ρ : Ren} {a : AW} {w : World} (h : WRel ρ a w) {i : Nat} {I : Info} (e : ρ i = some I) : I.b < w.heap.size := by
  obtain ⟨_, o, _, ho, _⟩ := h.blk i I e
  exact (Array.getElem?_eq_some_iff.1 ho).1
theorem ext_new {ρ : Ren} {a : AW} {w : World} (h : WRel ρ a w) (I : Info) : Ext ρ a.next (upd ρ a.next (some I)) (a.next + 1) :=
  ⟨Nat.le_succ _, fun i hi => .inl (upd_ne _ _ (by omega))⟩
/-- A new block on either side. -/
theorem step_new {ρ : Ren} {a : AW} {w : World} (h : WRel ρ a w) {n : Nat} {b : Blk} {o : Obj}
    (ho : ORel (upd ρ a.next (some ⟨w.heap.size, 0, n, true⟩)) (a.next + 1) ⟨w.heap.size, 0, n, true⟩ b o) :
    Step ρ a.next w (upd ρ a.next (some ⟨w.heap.size, 0, n, true⟩)) (a.new b) { w with heap := w.heap.push o } := by
  have hx := ext_new h ⟨w.heap.size, 0, n, true⟩
  have hold : ∀ k, k < w.heap.size → (w.heap.push o)[k]? = w.heap[k]? := fun k hk => by rw [Array.getElem?_push, if_neg (by omega)]
  refine ⟨⟨.cons (Nat.lt_succ_self _) h.falls, ?_, ?_, ?_, ?_⟩, hx, ?_, ?_, by simp, rfl, rfl, rfl⟩
  · intro i I e
    by_cases hi : i = a.next
    · subst hi; exact Nat.lt_succ_self _
    · rw [upd_ne _ _ hi] at e; exact Nat.lt_succ_of_lt (h.lt i I e)
  · intro i I e
    by_cases hi : i = a.next
    · subst hi
      rw [upd_self] at e
      cases e
      exact ⟨b, o, by simp [AW.get, AW.new, look], by simp, ho⟩
    · rw [upd_ne _ _ hi] at e
      obtain ⟨b', o', e1, e2, e3⟩ := h.blk i I e
      refine ⟨b', o', ?_, ?_, e3.mono hx⟩
      · simp only [AW.get, AW.new, look, if_neg hi]; exact e1
      · show (w.heap.push o)[I.b]? = _
        rw [hold _ (h.bound e)]; exact e2
  · intro i b' e
    by_cases hi : i = a.next
    · subst hi; exact ⟨_, upd_self _ _ _⟩
    · simp only [AW.get, AW.new, look, if_neg hi] at e
      rw [upd_ne _ _ hi]; exact h.has i b' e
  · intro i j I J e1 e2 e3
    by_cases hi : i = a.next <;> by_cases hj : j = a.next
    · exact .inl (hi.trans hj.symm)
    · subst hi
      rw [upd_self] at e1; rw [upd_ne _ _ hj] at e2; cases e1
      have := h.bound e2; exact absurd e3 (by simp; omega)
    · subst hj
      rw [upd_self] at e2; rw [upd_ne _ _ hi] at e1; cases e2
      have := h.bound e1; exact absurd e3 (by simp; omega)
    · rw [upd_ne _ _ hi] at e1; rw [upd_ne _ _ hj] at e2; exact h.inj i j I J e1 e2 e3
  · intro i I e
    by_cases hi : i = a.next
    · subst hi; rw [upd_self] at e; cases e; exact .inr (Nat.le_refl _)
    · rw [upd_ne _ _ hi] at e; exact .inl ⟨i, I, e, rfl, rfl⟩
  · intro k hk _; exact hold k hk
/-- One block is written. -/
theorem step_write {ρ : Ren} {a : AW} {w w' : World} (h : WRel ρ a w) {i : Nat} {I : Info} (e : ρ i = some I) (hr : I.rw = true) {b : Blk} {o : Obj}
    (ho : ORel ρ a.next I b o) (hb : w'.heap[I.b]? = some o) (hs : w'.heap.size = w.heap.size) (hk : ∀ k, k ≠ I.b → w'.heap[k]? = w.heap[k]?)
    (h1 : w'.os = w.os) (h2 : w'.tape = w.tape) (h3 : w'.output = w.output) : Step ρ a.next w ρ (a.write i b) w' := by
  obtain ⟨b0, o0, g0, _, _⟩ := h.blk i I e
  have hl := fun j => look_put (x := b) g0 j
  refine ⟨⟨h.falls.put i b, h.lt, ?_, ?_, h.inj⟩, .refl _ _, fun i I e => .inl ⟨i, I, e, rfl, rfl⟩, fun k hkb hn => hk k fun hh => hn i I e hr hh.symm, by omega, h1, h2, h3⟩
  · intro j J ej
    by_cases hj : j = i
    · subst hj
      rw [e] at ej; cases ej
      exact ⟨b, o, by simp only [AW.get, AW.write, hl, if_true], hb, ho⟩
    · obtain ⟨b', o', f1, f2, f3⟩ := h.blk j J ej
      refine ⟨b', o', by simp only [AW.get, AW.write, hl, if_neg hj]; exact f1, ?_, f3⟩
      rw [hk _ fun hh => ?_]
      · exact f2
      · rcases h.inj j i J I ej e hh with h' | h'
        · exact hj h'
        · rw [hr] at h'; exact absurd h'.2 (by simp)
  · intro j b' ej
    by_cases hj : j = i
    · subst hj; exact ⟨I, e⟩
    · simp only [AW.get, AW.write, hl, if_neg hj] at ej; exact h.has j b' ej
/-- Nothing but the tape's place moves. -/
theorem step_drew {ρ : Ren} {a : AW} {w w' : World} (h : WRel ρ a w) (hh : w'.heap = w.heap) (h1 : w'.os = w.os) (h2 : w'.tape = w.tape) (h3 : w'.output = w.output) : Step ρ a.next w ρ a w' := by
  refine ⟨⟨h.falls, h.lt, fun i I e => ?_, h.has, h.inj⟩, .refl _ _, fun i I e => .inl ⟨i, I, e, rfl, rfl⟩, fun k _ _ => by rw [hh], by rw [hh]; exact Nat.le_refl _, h1, h2, h3⟩
  rw [hh]; exact h.blk i I e
/-- A block gets another number, and other cells in place. -/
theorem step_move {ρ : Ren} {a : AW} {w w' : World} (h : WRel ρ a w) {i : Nat} {I : Info} (e : ρ i = some I) (hr : I.rw = true) {J : Info} (hJb : J.b = I.b) (hJr : J.rw = true) {b : Blk} {o : Obj}
    (ho : ORel (upd (upd ρ i none) a.next (some J)) (a.next + 1) J b o) (hb : w'.heap[I.b]? = some o) (hs : w'.heap.size = w.heap.size) (hk : ∀ k, k ≠ I.b → w'.heap[k]? = w.heap[k]?)
    (h1 : w'.os = w.os) (h2 : w'.tape = w.tape) (h3 : w'.output = w.output) : Step ρ a.next w (upd (upd ρ i none) a.next (some J)) ((a.drop i).new b) w' := by
  have hi := h.lt i I e
  have hx : Ext ρ a.next (upd (upd ρ i none) a.next (some J)) (a.next + 1) := by
    refine ⟨Nat.le_succ _, fun j hj => ?_⟩
    rw [upd_ne _ _ (by omega)]
    by_cases hji : j = i
    · subst hji; exact .inr (upd_self _ _ _)
    · exact .inl (upd_ne _ _ hji)
  have hρ : ∀ j K, upd (upd ρ i none) a.next (some J) j = some K → (j = a.next ∧ K = J) ∨ (j ≠ a.next ∧ j ≠ i ∧ ρ j = some K) := by
    intro j K ej
    by_cases hj : j = a.next
    · subst hj; rw [upd_self] at ej; cases ej; exact .inl ⟨rfl, rfl⟩
    · rw [upd_ne _ _ hj] at ej
      by_cases hji : j = i
      · subst hji; rw [upd_self] at ej; cases ej
      · rw [upd_ne _ _ hji] at ej; exact .inr ⟨hj, hji, ej⟩
  have hget : ∀ j, ((a.drop i).new b).get j = if j = a.next then some b else if j = i then none else a.get j := by
    intro j
    simp only [AW.get, AW.new, AW.drop, look]
    by_cases hj : j = a.next
    · simp [hj]
    · simp only [if_neg hj, look_kill h.falls i j]
  refine ⟨⟨.cons (Nat.lt_succ_self _) (h.falls.kill i), ?_, ?_, ?_, ?_⟩, hx, ?_, fun k hkb hn => hk k fun hh => hn i I e hr hh.symm, by omega, h1, h2, h3⟩
  · intro j K ej
    rcases hρ j K ej with ⟨rfl, _⟩ | ⟨_, _, ej⟩
    · exact Nat.lt_succ_self _
    · exact Nat.lt_succ_of_lt (h.lt j K ej)
  · intro j K ej
    rcases hρ j K ej with ⟨rfl, rfl⟩ | ⟨hj, hji, ej⟩
    · exact ⟨b, o, by rw [hget, if_pos rfl], by rw [hJb]; exact hb, ho⟩
    · obtain ⟨b', o', f1, f2, f3⟩ := h.blk j K ej
      refine ⟨b', o', by rw [hget, if_neg hj, if_neg hji]; exact f1, ?_, f3.mono hx⟩
      rw [hk _ fun hh => ?_]
      · exact f2
      · rcases h.inj j i K I ej e hh with h' | h'
        · exact hji h'
        · rw [hr] at h'; exact absurd h'.2 (by simp)
  · intro j b' ej
    rw [hget] at ej
    by_cases hj : j = a.next
    · subst hj; exact ⟨J, upd_self _ _ _⟩
    · rw [if_neg hj] at ej
      by_cases hji : j = i
      · rw [if_pos hji] at ej; cases ej
      · rw [if_neg hji] at ej
        obtain ⟨K, eK⟩ := h.has j b' ej
        exact ⟨K, by rw [upd_ne _ _ hj, upd_ne _ _ hji]; exact eK⟩
  · intro j k K L ej ek hb'
    have ej := hρ j K ej
    have ek := hρ k L ek
    rcases ej with ⟨hj, hK⟩ | ⟨hj, hji, ej⟩ <;> rcases ek with ⟨hk', hL⟩ | ⟨hk', hki, ek⟩
    · exact .inl (hj.trans hk'.symm)
    · rcases h.inj i k I L e ek (by rw [← hJb, ← hK]; exact hb') with h' | h'
      · exact absurd h'.symm hki
      · rw [hr] at h'; exact absurd h'.1 (by simp)
    · rcases h.inj j i K I ej e (by rw [← hJb, ← hL]; exact hb') with h' | h'
      · exact absurd h' hji
      · rw [hr] at h'; exact absurd h'.2 (by simp)
    · exact h.inj j k K L ej ek hb'
  · intro j K ej
    rcases hρ j K ej with ⟨rfl, rfl⟩ | ⟨_, _, ej⟩
    · exact .inl ⟨i, I, e, hr.trans hJr.symm, hJb.symm⟩
    · exact .inl ⟨j, K, ej, rfl, rfl⟩

/-! ### rows of cells -/
theorem run_loads (P : Program) (w : World) {b : Nat} {c : Array Value} {e : TypeId} {fr : Nat × Nat} (hb : w.heap[b]? = some (.cells c e fr)) :
    ∀ (n off i : Nat) (acc : Array Value) (vs : List Value), vs.length = n → (∀ j v, vs[j]? = some v → c[off + i + j]? = some v) →
      (loadCellsFrom ⟨b, off, none⟩ i n acc).run P w = .ok (acc ++ vs.toArray) w := by
  intro n
  induction n with
  | zero => intro off i acc vs hl _; obtain rfl := List.eq_nil_of_length_eq_zero hl; simp [loadCellsFrom]
  | succ n ih =>
    intro off i acc vs hl hv
    cases vs with
    | nil => simp at hl
    | cons v vs =>
      have h0 := hv 0 v rfl
      have hc : w.cell? (Addr.add ⟨b, off, none⟩ i) = some v := by
        unfold Addr.add
        split
        · subst_vars; simp only [World.cell?, hb]; simpa using h0
        · simp only [World.cell?, hb]; simpa using h0
      simp only [loadCellsFrom, Sem.run_bind, run_load, hc, Result.andThen_ok]
      rw [ih off (i + 1) (acc.push v) vs (by simpa using hl) (fun j u hu => by
        have := hv (j + 1) u (by simpa using hu)
        rwa [show off + (i + 1) + j = off + i + (j + 1) by omega])]
      simp
theorem run_loadCells (P : Program) (w : World) {b : Nat} {c : Array Value} {e : TypeId} {fr : Nat × Nat} (hb : w.heap[b]? = some (.cells c e fr)) {off n : Nat} {vs : List Value} (hl : vs.length = n)
    (hv : ∀ j v, vs[j]? = some v → c[off + j]? = some v) : (loadCells ⟨b, off, none⟩ n).run P w = .ok vs.toArray w := by
  have := run_loads P w hb n off 0 #[] vs hl (by simpa using hv)
  simpa [loadCells] using this
/-- The row with some cells put in. -/
def over (c : Array Value) (off : Nat) (vs : List Value) : Array Value := (c.toList.take off ++ (vs ++ c.toList.drop (off + vs.length))).toArray
theorem over_size {c : Array Value} {off : Nat} {vs : List Value} (h : off + vs.length ≤ c.size) : (over c off vs).size = c.size := by
  simp [over]; omega
theorem over_cons {c : Array Value} {off : Nat} {v : Value} {vs : List Value} (h : off < c.size) : over (c.setIfInBounds off v) (off + 1) vs = over c off (v :: vs) := by
  have h' : off < c.toList.length := by simpa using h
  have key : ∀ l : List Value, off < l.length → (l.set off v).take (off + 1) ++ (vs ++ (l.set off v).drop (off + 1 + vs.length)) = l.take off ++ (v :: vs ++ l.drop (off + (vs.length + 1))) := by
    intro l hl
    have e1 : (l.set off v).take (off + 1) = l.take off ++ [v] := by
      rw [List.take_succ_eq_append_getElem (by simpa using hl), List.take_set_of_le (Nat.le_refl _)]; simp
    have e2 : (l.set off v).drop (off + 1 + vs.length) = l.drop (off + (vs.length + 1)) := by
      rw [List.drop_set_of_lt (by omega), show off + 1 + vs.length = off + (vs.length + 1) by omega]
    rw [e1, e2, List.append_assoc, List.singleton_append, List.cons_append]
  unfold over
  rw [Array.toList_setIfInBounds, List.length_cons, key _ h']
theorem run_stores (P : Program) {b : Nat} {e : TypeId} {fr : Nat × Nat} : ∀ (vs : List Value) (w : World) (c : Array Value) (off i : Nat), w.heap[b]? = some (.cells c e fr) → vs.all Value.oneCell' = true →
    off + i + vs.length ≤ c.size → (∀ o, off + i ≤ o → o < off + i + vs.length → ¬ (fr.1 ≤ o ∧ o < fr.2)) →
      (storeCells ⟨b, off, none⟩ vs i).run P w = .ok () { w with heap := w.heap.setIfInBounds b (.cells (over c (off + i) vs) e fr) } := by
  intro vs
  induction vs with
  | nil =>
    intro w c off i hb _ _ _
    have : over c (off + i) [] = c := by simp [over]
    simp only [storeCells, Sem.run_pure, this]
    congr 1
    have hlt := (Array.getElem?_eq_some_iff.1 hb)
    have : w.heap.setIfInBounds b (.cells c e fr) = w.heap := by
      apply Array.ext_getElem?
      intro k
      rw [Array.getElem?_setIfInBounds]
      split
      · subst_vars; simp [hlt.1, hlt.2]
      · rfl
    rw [this]
  | cons v vs ih =>
    intro w c off i hb ho hl hf
    simp only [List.all_cons, Bool.and_eq_true] at ho
    simp only [List.length_cons] at hl hf
    have hadd : Addr.add ⟨b, off, none⟩ i = ⟨b, off + i, none⟩ := by
      unfold Addr.add; split
      · subst_vars; rfl
      · rfl
    have hc : w.cell? ⟨b, off + i, none⟩ = some c[off + i] := by simp only [World.cell?, hb]; simp
    have hz : w.frozen? ⟨b, off + i, none⟩ = false := by
      simp only [World.frozen?, hb]
      have := hf (off + i) (Nat.le_refl _) (by omega)
      simpa using this
    have hset : w.setCell ⟨b, off + i, none⟩ v = { w with heap := w.heap.setIfInBounds b (.cells (c.setIfInBounds (off + i) v) e fr) } := by
      simp only [World.setCell]
      congr 1
      apply Array.ext_getElem?
      intro k
      rw [Array.getElem?_modify, Array.getElem?_setIfInBounds]
      have hlt := (Array.getElem?_eq_some_iff.1 hb)
      split
      · subst_vars; simp [hlt.1, hlt.2]
      · rfl
    simp only [storeCells, Sem.run_bind, hadd, run_store P w _ v _ ho.1, hc, hz, Bool.false_eq_true, if_false, Result.andThen_ok]
    have hlt := (Array.getElem?_eq_some_iff.1 hb).1
    rw [hset, ih _ (c.setIfInBounds (off + i) v) off (i + 1) (by simp [hlt]) ho.2 (by simp; omega) (fun o h1 h2 => hf o (by omega) (by omega))]
    congr 2
    rw [Array.setIfInBounds_setIfInBounds]
    rw [show off + (i + 1) = off + i + 1 by omega, over_cons (by omega)]
end Go.Proofs.YtmdfejlfdgaomaaAM
