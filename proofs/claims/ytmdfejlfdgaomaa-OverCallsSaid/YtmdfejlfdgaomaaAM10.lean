/- The other operations that write. -/
import Derived.Test.YtmdfejlfdgaomaaAM9
namespace Go.Proofs.YtmdfejlfdgaomaaAM
open Go Go.RowKit
set_option linter.unusedVariables false
set_option linter.unusedSimpArgs false

section
variable {P : Program} {ρ : Ren} {a : AW} {w : World}

/-- Cells are put where a slice lies. -/
theorem sim_storeS (h : WRel ρ a w) {p p' : Addr} {c' : Nat} {vs vs' : List Value} {a' : AW} (h1 : ∀ I, ρ p.block = some I → c' = 0 ∨ p' = ⟨I.b, p.off + I.sh, none⟩) (hv : LRel ρ a.next vs vs') (hz : c' = 0 → vs = [])
    (hs : a.storeN p vs = some a') : ∃ w', (storeCells p' vs').run P w = .ok () w' ∧ Step ρ a.next w ρ a' w' := by
  by_cases hc : c' = 0
  · have := hz hc
    subst this
    cases hv
    exact ⟨w, rfl, sim_storeN_nil h hs⟩
  · exact sim_storeN (P := P) h (fun I eI => (h1 I eI).resolve_left hc) hv hs
theorem sim_copy (h : WRel ρ a w) {ts : Array TypeId} {d d' x x' v : Value} {a' : AW} (hd : VRel ρ a.next d d') (hx : VRel ρ a.next x x') (e : copyA P ts d x a = some (v, a')) (ty : TypeId) :
    ∃ w' v', (Builtin.copy_ ts ty #[d', x']).run P w = .ok v' w' ∧ Step ρ a.next w ρ a' w' ∧ VRel ρ a'.next v v' := by
  unfold copyA at e
  split at e
  · rename_i t ht
    split at e
    · rename_i te z base len cap n hel hlen
      obtain ⟨hu, hsz⟩ := elem_run hel
      split at e
      · rename_i new hnew
        obtain ⟨hlx, new', hn1, hn2, hn3⟩ := sim_first (P := P) h hx hlen (Nat.min_le_left _ _) hnew
        have hl2 := lenOf_run (P := P) hlx w
        cases base with
        | none =>
          cases e
          cases hd
          refine ⟨w, .int .i64 (Nat.min n len), ?_, .refl h, .int _ _⟩
          unfold Builtin.copy_
          simp only [ht, List.getElem?_toArray, List.getElem?_cons_zero, List.getElem?_cons_succ, Sem.run_bind, run_underlying hu, run_sizeOf hsz, hl2, Result.andThen_ok, hn2 w rfl, Sem.run_pure]
          rfl
        | some p =>
          simp only at e
          split at e
          · rename_i a1 hst
            cases e
            cases hd with
            | @slice _ p' _ _ c' hK h1 hln hc h0 h2 =>
              obtain ⟨w', g1, st⟩ := sim_storeS (P := P) h h1 hn1 (fun hz => by
                have : new.length = 0 := by
                  rw [hn1.length, hn3]
                  have hl0 : len = 0 := by omega
                  subst hl0
                  simp
                exact List.eq_nil_of_length_eq_zero this) hst
              refine ⟨w', .int .i64 (Nat.min n len), ?_, st, .int _ _⟩
              unfold Builtin.copy_
              simp only [ht, List.getElem?_toArray, List.getElem?_cons_zero, List.getElem?_cons_succ, Sem.run_bind, run_underlying hu, run_sizeOf hsz, hl2, Result.andThen_ok, hn2 w rfl, Sem.run_pure, List.toList_toArray, g1]
              rfl
          · cases e
      · cases e
    · cases e
  · cases e

theorem run_setObj {r : Nat} {o o' : Obj} (h : w.heap[r]? = some o) (hn : ∀ c e f, o ≠ .cells c e f) : (setObj r o').run P w = .ok () { w with heap := w.heap.setIfInBounds r o' } := by
  unfold setObj
  cases o <;> first
    | exact absurd rfl (hn _ _ _)
    | simp only [Sem.run, h]
/-- An object is put in the place of another one. -/
theorem sim_setObj (h : WRel ρ a w) {r : Nat} {I : Info} {o o' n n' : Obj} (hg : a.get r = some (.obj o)) (e : ρ r = some I) (hb : w.heap[I.b]? = some o') (hn : ∀ c e f, o' ≠ .cells c e f) (hr : I.rw = true)
    (hrel : OORel ρ a.next n n') (hn' : ∀ c e f, n' ≠ .cells c e f) : (setObj I.b n').run P w = .ok () { w with heap := w.heap.setIfInBounds I.b n' } ∧ Step ρ a.next w ρ (a.write r (.obj n)) { w with heap := w.heap.setIfInBounds I.b n' } := by
  refine ⟨run_setObj hb hn, ?_⟩
  have hlt := (Array.getElem?_eq_some_iff.1 hb).1
  exact step_write h e hr (.obj hrel hr hn' (obj_sh h hg e)) (by simp [hlt]) (by simp) (fun k hk => by simp [Ne.symm hk]) rfl rfl rfl
theorem EsRel.length {K : Nat} {l l' : List MapEntry} (h : EsRel ρ K l l') : l.length = l'.length := by
  induction h with
  | nil => rfl
  | cons _ _ ih => simp [ih]
theorem EsRel.append {K : Nat} {l l' m m' : List MapEntry} (h : EsRel ρ K l l') (h' : EsRel ρ K m m') : EsRel ρ K (l ++ m) (l' ++ m') := by
  induction h with
  | nil => exact h'
  | cons h _ ih => exact .cons h ih
theorem EsRel.get {K : Nat} {l l' : List MapEntry} (h : EsRel ρ K l l') : ∀ {i : Nat} {x : MapEntry}, l[i]? = some x → ∃ x', l'[i]? = some x' ∧ ERel ρ K x x' := by
  induction h with
  | nil => intro i x e; simp at e
  | cons h _ ih =>
    intro i x e
    cases i with
    | zero => simp at e; subst e; exact ⟨_, rfl, h⟩
    | succ i => simpa using ih (by simpa using e)
theorem EsRel.modify {K : Nat} {l l' : List MapEntry} {f f' : MapEntry → MapEntry} (hf : ∀ x x', ERel ρ K x x' → ERel ρ K (f x) (f' x')) (h : EsRel ρ K l l') : ∀ i, EsRel ρ K (l.modify i f) (l'.modify i f') := by
  induction h with
  | nil => intro i; cases i <;> exact .nil
  | cons h r ih =>
    intro i
    cases i with
    | zero => exact .cons (hf _ _ h) r
    | succ i => exact .cons h (ih i)
theorem EsRel.eraseIdx {K : Nat} {l l' : List MapEntry} (h : EsRel ρ K l l') : ∀ i, EsRel ρ K (l.eraseIdx i) (l'.eraseIdx i) := by
  induction h with
  | nil => intro i; cases i <;> exact .nil
  | cons h r ih =>
    intro i
    cases i with
    | zero => exact r
    | succ i => exact .cons h (ih i)
/-- The key that is found is the key. -/
theorem found_key {d : TypeDesc} {k : Value} : ∀ {es : List MapEntry} {n i : Nat} {v : Value}, Instr.findNow d k es n = some (some (i, v)) → n ≤ i ∧ ∃ x, es[i - n]? = some x ∧ Instr.sameNow d k x.key = some true
  | [], n, i, v, h => by cases h
  | x :: es, n, i, v, h => by
    unfold Instr.findNow at h
    split at h
    · rename_i e1; cases h; exact ⟨Nat.le_refl _, x, by simp, e1⟩
    · obtain ⟨h1, y, h2, h3⟩ := found_key h
      exact ⟨by omega, y, by rw [show i - n = (i - (n + 1)) + 1 by omega]; exact h2, h3⟩
    · cases h
theorem bytes_beq {a b : ByteArray} (h : (a == b) = true) : a = b := by
  change ByteArray.beq a b = true at h
  unfold ByteArray.beq at h
  cases a; cases b
  simp at h
  rw [h]
theorem same_bits {d : TypeDesc} {k e : Value} (h : Instr.sameNow d k e = some true) (n : Nat) : Instr.sameBits n e k = true := by
  unfold Instr.sameNow at h
  split at h
  · split at h
    · rename_i hk
      subst hk
      simp at h
      subst h
      simp [Instr.sameBits]
    · cases h
  · simp only [Option.some.injEq] at h
    have h' := bytes_beq h
    subst h'
    cases n <;> exact h
  · simp at h; subst h; simp [Instr.sameBits]
  · cases h
theorem sim_update (h : WRel ρ a w) {t : TypeId} {m m' k k' v v' : Value} {a' : AW} (hm : VRel ρ a.next m m') (hk : VRel ρ a.next k k') (hv : VRel ρ a.next v v') (e : updateA P t m k v a = some a') :
    ∃ w', (Instr.mapUpdate t m' k' v').run P w = .ok () w' ∧ Step ρ a.next w ρ a' w' := by
  unfold updateA at e
  split at e
  · rename_i kt et r ht
    have hu := mapTypes_run ht
    obtain ⟨r', rfl, hK, hr'⟩ := map_inv hm
    split at e
    · rename_i es clock hg
      obtain ⟨I, o', h1, h2, h3, h4, h5⟩ := obj_rel h hg
      cases h3 with
      | @map _ es' n hes =>
        have hgo := run_getObj (P := P) h2 h5
        obtain rfl := hr' I h1
        split at e
        · rename_i i v0 hf
          cases e
          obtain ⟨r', f1, f2, f3⟩ := findA_run (P := P) hk hes hf
          cases f1 with
          | some i hv0 =>
            have hkey : ∀ w : World, (Instr.keyThatStays (((es'[i]?).map (·.key)).getD k') k').run P w = .ok k' w := by
              intro w
              have : ∃ x, es'.toList[i]? = some x ∧ Instr.sameBits 10000 x.key k' = true := by
                unfold findA at hf
                split at hf
                · obtain ⟨_, x, g1, g2⟩ := found_key hf
                  obtain ⟨x', g3, g4⟩ := hes.get (i := i) (by simpa using g1)
                  cases g4 with
                  | mk n hk1 hv1 => exact ⟨_, g3, same_bits (same_now hk hk1 g2) _⟩
                · obtain ⟨_, x, g1, g2⟩ := found_key hf
                  obtain ⟨x', g3, g4⟩ := hes.get (i := i) (by simpa using g1)
                  cases g4 with
                  | mk n hk1 hv1 => exact ⟨_, g3, same_bits (same_now hk hk1 g2) _⟩
                · cases hf
              obtain ⟨x, g1, g2⟩ := this
              have g1' : es'[i]? = some x := by simpa using g1
              unfold Instr.keyThatStays
              rw [g1']
              simp only [Option.map_some, Option.getD_some, g2, if_true, Sem.run_pure]
            obtain ⟨s1, st⟩ := sim_setObj (P := P) h hg h1 h2 h5 h4 (n := .map (es.modify i fun e => { e with key := k, val := v }) clock) (n' := .map (es'.modify i fun e => { e with key := k', val := v' }) clock)
              (.map clock (by
                rw [Array.toList_modify, Array.toList_modify]
                exact hes.modify (fun x x' hx => by cases hx with | mk n _ _ => exact .mk n hk hv) i)) (by simp)
            refine ⟨_, ?_, st⟩
            unfold Instr.mapUpdate
            simp only [Sem.run_bind, run_underlying hu, Result.andThen_ok, hgo, f3, f2, hkey]
            exact s1
        · rename_i hf
          cases e
          obtain ⟨r', f1, f2, f3⟩ := findA_run (P := P) hk hes hf
          cases f1
          obtain ⟨s1, st⟩ := sim_setObj (P := P) h hg h1 h2 h5 h4 (n := .map (es.push { key := k, val := v, born := clock }) (clock + 1)) (n' := .map (es'.push { key := k', val := v', born := clock }) (clock + 1))
            (.map (clock + 1) (by
              rw [Array.toList_push, Array.toList_push]
              exact hes.append (.cons (.mk clock hk hv) .nil))) (by simp)
          refine ⟨_, ?_, st⟩
          unfold Instr.mapUpdate
          simp only [Sem.run_bind, run_underlying hu, Result.andThen_ok, hgo, f3, f2]
          exact s1
        · cases e
    · cases e
  · cases e
theorem sim_delete (h : WRel ρ a w) {ts : Array TypeId} {t : TypeId} (hts : ts[0]? = some t) {m m' k k' : Value} {a' : AW} (hm : VRel ρ a.next m m') (hk : VRel ρ a.next k k') (e : deleteA P t m k a = some a') (ty : TypeId) :
    ∃ w', (Builtin.delete_ ts ty #[m', k']).run P w = .ok (.tuple #[]) w' ∧ Step ρ a.next w ρ a' w' := by
  unfold deleteA at e
  split at e
  · rename_i kt et r ht
    have hu := mapTypes_run ht
    obtain ⟨r', rfl, hK, hr'⟩ := map_inv hm
    split at e
    · rename_i es clock hg
      obtain ⟨I, o', h1, h2, h3, h4, h5⟩ := obj_rel h hg
      cases h3 with
      | @map _ es' n hes =>
        have hgo := run_getObj (P := P) h2 h5
        obtain rfl := hr' I h1
        split at e
        · rename_i i v0 hf
          cases e
          obtain ⟨r', f1, f2, f3⟩ := findA_run (P := P) hk hes hf
          cases f1 with
          | some i hv0 =>
            obtain ⟨s1, st⟩ := sim_setObj (P := P) h hg h1 h2 h5 h4 (n := .map (es.eraseIdxIfInBounds i) clock) (n' := .map (es'.eraseIdxIfInBounds i) clock)
              (.map clock (by
                have : ∀ l : Array MapEntry, (l.eraseIdxIfInBounds i).toList = l.toList.eraseIdx i := by
                  intro l
                  unfold Array.eraseIdxIfInBounds
                  split
                  · simp
                  · rename_i hi; rw [List.eraseIdx_of_length_le (by simpa using hi)]
                rw [this, this]
                exact hes.eraseIdx i)) (by simp)
            refine ⟨_, ?_, st⟩
            unfold Builtin.delete_
            simp only [hts, List.getElem?_toArray, List.getElem?_cons_zero, List.getElem?_cons_succ, Sem.run_bind, run_underlying hu, Result.andThen_ok, hgo, f3, f2, s1, Sem.run_pure]
        · rename_i hf
          cases e
          obtain ⟨r', f1, f2, f3⟩ := findA_run (P := P) hk hes hf
          cases f1
          obtain ⟨s1, st⟩ := sim_setObj (P := P) h hg h1 h2 h5 h4 (n := .map es clock) (n' := .map es' clock) (.map clock hes) (by simp)
          refine ⟨_, ?_, st⟩
          unfold Builtin.delete_
          simp only [hts, List.getElem?_toArray, List.getElem?_cons_zero, List.getElem?_cons_succ, Sem.run_bind, run_underlying hu, Result.andThen_ok, hgo, f3, f2, s1, Sem.run_pure]
        · cases e
    · cases e
  · cases e
end
end Go.Proofs.YtmdfejlfdgaomaaAM
