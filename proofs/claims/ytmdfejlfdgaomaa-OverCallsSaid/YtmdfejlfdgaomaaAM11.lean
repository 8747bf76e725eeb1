/- clear, range, next; any operation that is no call of a function. -/
import Derived.Test.YtmdfejlfdgaomaaAM10
namespace Go.Proofs.YtmdfejlfdgaomaaAM
open Go Go.RowKit
set_option linter.unusedVariables false
set_option linter.unusedSimpArgs false

section
variable {P : Program} {ρ : Ren} {a : AW} {w : World}

/-- A new object on either side. -/
theorem step_obj (h : WRel ρ a w) {o o' : Obj} (ho : OORel (upd ρ a.next (some ⟨w.heap.size, 0, 0, true⟩)) (a.next + 1) o o') (hn : ∀ c e f, o' ≠ .cells c e f) :
    Step ρ a.next w (upd ρ a.next (some ⟨w.heap.size, 0, 0, true⟩)) (a.new (.obj o)) { w with heap := w.heap.push o' } :=
  step_new h (n := 0) (.obj ho rfl hn rfl)
theorem new_ptr (h : WRel ρ a w) (n : Nat) : VRel (upd ρ a.next (some ⟨w.heap.size, 0, n, true⟩)) (a.next + 1) (.pointer (some ⟨a.next, 0, none⟩)) (.pointer (some ⟨w.heap.size, 0, none⟩)) :=
  .ptr (Nat.lt_succ_self _) rfl fun I eI => by rw [upd_self] at eI; cases eI; rfl

theorem sim_range (h : WRel ρ a w) {t : TypeId} {x x' v : Value} {a' : AW} (hx : VRel ρ a.next x x') (e : rangeA P t x a = some (v, a')) :
    ∃ ρ' w' v', (Instr.range t x').run P w = .ok v' w' ∧ Step ρ a.next w ρ' a' w' ∧ VRel ρ' a'.next v v' := by
  unfold rangeA at e
  unfold Instr.range
  split at e
  · rename_i s hu
    cases e; cases hx
    have st := step_obj h (o := .stringIter s 0) (o' := .stringIter s 0) (.stringIter s 0) (by simp)
    refine ⟨_, _, .pointer (some ⟨w.heap.size, 0, none⟩), ?_, st, new_ptr h 0⟩
    simp only [Sem.run_bind, run_underlying hu, Result.andThen_ok, Sem.run_pure, run_newObj]
  · rename_i k el hu
    cases e; cases hx
    have st := step_obj h (o := .mapIter none 0 #[] 0) (o' := .mapIter none 0 #[] 0) (.mapIterNil 0 #[] 0) (by simp)
    refine ⟨_, _, .pointer (some ⟨w.heap.size, 0, none⟩), ?_, st, new_ptr h 0⟩
    simp only [Sem.run_bind, run_underlying hu, Result.andThen_ok, Sem.run_pure, run_newObj]
  · rename_i k el m hu
    obtain ⟨m', rfl, hK, hm'⟩ := map_inv hx
    split at e
    · rename_i es clock hg
      cases e
      obtain ⟨I, o', h1, h2, h3, h4, h5⟩ := obj_rel h hg
      cases h3 with
      | @map _ es' n hes =>
        have hgo := run_getObj (P := P) h2 h5
        obtain rfl := hm' I h1
        have st := step_obj h (o := .mapIter (some m) clock #[] clock) (o' := .mapIter (some I.b) clock #[] clock) (.mapIter clock #[] clock (Nat.lt_succ_of_lt hK) (fun J eJ => by
          rw [upd_ne _ _ (by omega)] at eJ; exact hm' J eJ)) (by simp)
        refine ⟨_, _, .pointer (some ⟨w.heap.size, 0, none⟩), ?_, st, new_ptr h 0⟩
        simp only [Sem.run_bind, run_underlying hu, Result.andThen_ok, Sem.run_pure, run_newObj, hgo]
    · cases e
  · cases e

theorem EsRel.filter {K : Nat} {f : MapEntry → Bool} (hf : ∀ x x', ERel ρ K x x' → f x = f x') {l l' : List MapEntry} (h : EsRel ρ K l l') : EsRel ρ K (l.filter f) (l'.filter f) := by
  induction h with
  | nil => exact .nil
  | cons h r ih =>
    simp only [List.filter_cons, ← hf _ _ h]
    split
    · exact .cons h ih
    · exact ih
theorem EsRel.all {K : Nat} {f : MapEntry → Bool} (hf : ∀ x x', ERel ρ K x x' → f x = f x') {l l' : List MapEntry} (h : EsRel ρ K l l') : l.all f = l'.all f := by
  induction h with
  | nil => rfl
  | cons h r ih => simp only [List.all_cons, hf _ _ h, ih]
theorem rel_born {K : Nat} {x x' : MapEntry} (h : ERel ρ K x x') : x.born = x'.born := by cases h; rfl
theorem iter_inv {it it' : Value} {r : Nat} {K : Nat} (h : VRel ρ K it it') (e : it = .pointer (some ⟨r, 0, none⟩)) : ∃ p', it' = .pointer (some p') ∧ r < K ∧ ∀ I, ρ r = some I → p' = ⟨I.b, 0 + I.sh, none⟩ := by
  subst e
  cases h with | ptr h hs h1 => exact ⟨_, rfl, h, h1⟩
theorem sim_next (h : WRel ρ a w) {it it' v : Value} {s : Bool} {a' : AW} (hi : VRel ρ a.next it it') (e : nextA it s a = some (v, a')) (ty : TypeId) :
    ∃ w' v', (Instr.next it' s ty).run P w = .ok v' w' ∧ Step ρ a.next w ρ a' w' ∧ VRel ρ a'.next v v' := by
  unfold nextA at e
  split at e
  · rename_i r
    obtain ⟨p', rfl, hK, hp'⟩ := iter_inv hi rfl
    unfold Instr.next
    split at e
    · rename_i s0 pos hg
      obtain ⟨I, o', h1, h2, h3, h4, h5⟩ := obj_rel h hg
      cases h3
      have hgo := run_getObj (P := P) h2 h5
      have hsh := obj_sh h hg h1
      obtain rfl := hp' I h1
      rw [hsh]
      split at e
      · rename_i hlt
        cases e
        obtain ⟨s1, st⟩ := sim_setObj (P := P) h hg h1 h2 h5 h4 (n := .stringIter s0 (pos + (Utf8.decode s0 pos).2)) (n' := .stringIter s0 (pos + (Utf8.decode s0 pos).2)) (.stringIter _ _) (by simp)
        refine ⟨_, .tuple #[.bool true, .int .i64 pos, .int .i32 (Utf8.decode s0 pos).1], ?_, st, ?_⟩
        · simp only [Nat.add_zero, Sem.run_bind, hgo, Result.andThen_ok, if_pos hlt, s1, Sem.run_pure]
          rfl
        · exact VRel.tuple' (.cons (.bool _) (.cons (.int _ _) (.cons (.int _ _) .nil)))
      · rename_i hlt
        cases e
        refine ⟨w, .tuple #[.bool false], ?_, .refl h, VRel.tuple' (.cons (.bool _) .nil)⟩
        simp only [Nat.add_zero, Sem.run_bind, hgo, Result.andThen_ok, if_neg hlt, Sem.run_pure]
    · rename_i x1 x2 x3 hg
      obtain ⟨I, o', h1, h2, h3, h4, h5⟩ := obj_rel h hg
      cases h3
      have hgo := run_getObj (P := P) h2 h5
      have hsh := obj_sh h hg h1
      obtain rfl := hp' I h1
      rw [hsh]
      cases e
      refine ⟨w, .tuple #[.bool false], ?_, .refl h, VRel.tuple' (.cons (.bool _) .nil)⟩
      simp only [Nat.add_zero, Sem.run_bind, hgo, Result.andThen_ok, Sem.run_pure]
    · rename_i m since seen last hg
      obtain ⟨I, o', h1, h2, h3, h4, h5⟩ := obj_rel h hg
      cases h3 with
      | @mapIter _ m' _ _ _ hmK hm' =>
        have hgo := run_getObj (P := P) h2 h5
        have hsh := obj_sh h hg h1
        obtain rfl := hp' I h1
        rw [hsh]
        split at e
        · rename_i es clock hgm
          obtain ⟨J, om, j1, j2, j3, j4, j5⟩ := obj_rel h hgm
          cases j3 with
          | @map _ es' n hes =>
            have hgm := run_getObj (P := P) j2 j5
            obtain rfl := hm' J j1
            split at e
            · cases e
            · rename_i hcond
              dsimp only at e
              have hemp : es'.isEmpty = es.isEmpty := by
                have := hes.length
                simp only [Array.isEmpty]
                rw [show es'.size = es.size by simpa using this.symm]
              have hall : es'.all (fun x => decide (x.born ≥ last)) = es.all (fun x => decide (x.born ≥ last)) := by
                rw [← Array.all_toList, ← Array.all_toList]
                exact (hes.all (fun x x' hx => by rw [rel_born hx])).symm
              have hcond' : ¬ ((!seen.isEmpty && !es'.isEmpty && es'.all (fun x => decide (x.born ≥ last))) = true) := by rw [hemp, hall]; exact hcond
              have q1 : EsRel ρ a.next (es.filter fun e => !seen.contains e.born).toList (es'.filter fun e => !seen.contains e.born).toList := by
                rw [Array.toList_filter, Array.toList_filter]; exact hes.filter (fun x x' hx => by rw [rel_born hx])
              have q2 : EsRel ρ a.next ((es.filter fun e => !seen.contains e.born).filter (fun e => decide (e.born < since))).toList ((es'.filter fun e => !seen.contains e.born).filter (fun e => decide (e.born < since))).toList := by
                simp only [Array.toList_filter] at q1 ⊢; exact q1.filter (fun x x' hx => by rw [rel_born hx])
              have q3 : EsRel ρ a.next ((es.filter fun e => !seen.contains e.born).filter (fun e => decide (e.born ≥ since))).toList ((es'.filter fun e => !seen.contains e.born).filter (fun e => decide (e.born ≥ since))).toList := by
                simp only [Array.toList_filter] at q1 ⊢; exact q1.filter (fun x x' hx => by rw [rel_born hx])
              generalize hO : (es.filter fun e => !seen.contains e.born).filter (fun e => decide (e.born < since)) = O at q2 e
              generalize hO' : (es'.filter fun e => !seen.contains e.born).filter (fun e => decide (e.born < since)) = O' at q2
              generalize hN : (es.filter fun e => !seen.contains e.born).filter (fun e => decide (e.born ≥ since)) = N at q3 e
              generalize hN' : (es'.filter fun e => !seen.contains e.born).filter (fun e => decide (e.born ≥ since)) = N' at q3
              have hOe : O'.isEmpty = O.isEmpty := by
                have := q2.length
                simp only [Array.isEmpty]
                rw [show O'.size = O.size by simpa using this.symm]
              simp only [Nat.add_zero, Sem.run_bind, hgo, Result.andThen_ok, hgm, if_neg hcond', hO', hN', hOe]
              have q4 := q2.append q3
              rw [← Array.toList_append, ← Array.toList_append] at q4
              have hLN : (O' ++ N') = (O' ++ N').toList.toArray := by simp
              rw [hLN]
              generalize (O' ++ N').toList = L' at q4
              generalize (O ++ N).toList = L at q4 e
              have hch : ∀ w, (choose (Question.mapNext 1)).run P w = .ok 0 w := fun w => by
                rw [run_choose]; rfl
              by_cases hO0 : O.isEmpty = true
              · simp only [hO0, if_true] at e ⊢
                cases q4 with
                | nil =>
                  simp only [List.map_nil, List.append_nil, Option.some.injEq, Prod.mk.injEq] at e
                  obtain ⟨rfl, rfl⟩ := e
                  refine ⟨w, .tuple #[.bool false], ?_, .refl h, VRel.tuple' (.cons (.bool _) .nil)⟩
                  simp only [List.map_toArray, List.map_nil, Array.append_empty, List.size_toArray, List.length_cons, List.length_nil, Nat.zero_add, hch, Result.andThen_ok, List.getElem?_toArray, List.getElem?_cons_zero, Sem.run_pure]
                | cons => simp at e
              · simp only [hO0, Bool.false_eq_true, if_false, List.nil_append, Array.empty_append] at e ⊢
                cases q4 with
                | nil => simp at e
                | @cons x x' l l' hx hr =>
                  cases hr with
                  | cons => simp at e
                  | nil =>
                    simp only [List.map_cons, List.map_nil, Option.some.injEq, Prod.mk.injEq] at e
                    obtain ⟨rfl, rfl⟩ := e
                    obtain ⟨s1, st⟩ := sim_setObj (P := P) h hg h1 h2 h5 h4 (n := .mapIter (some m) since (seen.push x.born) clock) (n' := .mapIter (some J.b) since (seen.push x'.born) clock)
                      (by rw [rel_born hx]; exact .mapIter _ _ _ hmK (fun K eK => hm' K eK)) (by simp)
                    refine ⟨_, .tuple #[.bool true, x'.key, x'.val], ?_, st, ?_⟩
                    · simp only [List.map_toArray, List.map_cons, List.map_nil, List.size_toArray, List.length_cons, List.length_nil, Nat.zero_add, hch, Result.andThen_ok, List.getElem?_toArray, List.getElem?_cons_zero, Sem.run_bind, s1, Sem.run_pure]
                    · cases hx with
                      | mk n hk hv => exact VRel.tuple' (.cons (.bool _) (.cons hk (.cons hv .nil)))
        · cases e
    · cases e
  · cases e
end
end Go.Proofs.YtmdfejlfdgaomaaAM
