/- Operations that read, and that make a block. -/
import Derived.Test.YtmdfejlfdgaomaaAM6
import Derived.Laws.BytesString
import Derived.Lib.ConvBytes
namespace Go.Proofs.YtmdfejlfdgaomaaAM
open Go Go.RowKit
set_option linter.unusedVariables false
set_option linter.unusedSimpArgs false

section
variable {P : Program} {ρ : Ren} {tmps : List Value} {t : Act} {a : AW} {w : World}

/-! ### maps -/
theorem same_now {d : TypeDesc} {K : Nat} {k k' e e' : Value} (hk : VRel ρ K k k') (he : VRel ρ K e e') {b : Bool} (h : Instr.sameNow d k e = some b) : Instr.sameNow d k' e' = some b := by
  unfold Instr.sameNow at h
  split at h
  · cases hk; cases he; exact h
  · cases hk; cases he; exact h
  · cases hk; cases he; exact h
  · cases h
inductive FRel (ρ : Ren) (K : Nat) : Option (Nat × Value) → Option (Nat × Value) → Prop
  | none : FRel ρ K none none
  | some (i : Nat) {v v' : Value} (h : VRel ρ K v v') : FRel ρ K (some (i, v)) (some (i, v'))
theorem find_now {d : TypeDesc} {K : Nat} {k k' : Value} (hk : VRel ρ K k k') : ∀ {es es' : List MapEntry} (n : Nat) {r : Option (Nat × Value)}, EsRel ρ K es es' → Instr.findNow d k es n = some r →
    ∃ r', Instr.findNow d k' es' n = some r' ∧ FRel ρ K r r'
  | _, _, n, r, .nil, h => by cases h; exact ⟨none, rfl, .none⟩
  | _, _, n, r, .cons (e := e) (e' := e') he hr, h => by
    cases he with
    | mk m hke hve =>
      unfold Instr.findNow at h ⊢
      split at h
      · rename_i e1; cases h
        rw [same_now hk hke e1]; exact ⟨_, rfl, .some n hve⟩
      · rename_i e1
        rw [same_now hk hke e1]; exact find_now hk (n + 1) hr h
      · cases h
theorem run_checkKey {kt : TypeId} {d : TypeDesc} (hu : P.underlying kt = some d) (hd : d = .string ∨ ∃ j, d = .int j) (e : Bool) (k : Value) (w : World) : (Instr.checkKey e 10000 kt k).run P w = .ok () w := by
  unfold Instr.checkKey
  simp only [Sem.run_bind, run_underlying hu, Result.andThen_ok]
  rcases hd with rfl | ⟨j, rfl⟩ <;> rfl
theorem findA_run {kt : TypeId} {k k' : Value} {K : Nat} (hk : VRel ρ K k k') {es es' : List MapEntry} (hes : EsRel ρ K es es') {r : Option (Nat × Value)} (h : findA P kt k es = some r) :
    ∃ r', FRel ρ K r r' ∧ (∀ w, (Instr.findKey kt k' es').run P w = .ok r' w) ∧ ∀ e w, (Instr.checkKey e 10000 kt k').run P w = .ok () w := by
  unfold findA at h
  split at h
  · rename_i j hu
    obtain ⟨r', h1, h2⟩ := find_now hk 0 hes h
    refine ⟨r', h2, fun w => ?_, fun e w => run_checkKey hu (.inr ⟨j, rfl⟩) e k' w⟩
    unfold Instr.findKey
    simp only [Sem.run_bind, run_underlying hu, Result.andThen_ok, h1, Sem.run_pure]
  · rename_i hu
    obtain ⟨r', h1, h2⟩ := find_now hk 0 hes h
    refine ⟨r', h2, fun w => ?_, fun e w => run_checkKey hu (.inl rfl) e k' w⟩
    unfold Instr.findKey
    simp only [Sem.run_bind, run_underlying hu, Result.andThen_ok, h1, Sem.run_pure]
  · cases h
theorem run_getObj {r : Nat} {o : Obj} (h : w.heap[r]? = some o) (hn : ∀ c e f, o ≠ .cells c e f) : (getObj r).run P w = .ok o w := by
  unfold getObj
  cases o <;> first
    | exact absurd rfl (hn _ _ _)
    | simp only [Sem.run, h]
/-- The other object that a block is. -/
theorem obj_rel (h : WRel ρ a w) {r : Nat} {o : Obj} (hg : a.get r = some (.obj o)) : ∃ I o', ρ r = some I ∧ w.heap[I.b]? = some o' ∧ OORel ρ a.next o o' ∧ I.rw = true ∧ (∀ c e f, o' ≠ .cells c e f) := by
  obtain ⟨I, e⟩ := h.has _ _ hg
  obtain ⟨b, o', g1, g2, g3⟩ := h.blk _ _ e
  rw [hg] at g1
  cases g1
  cases g3 with
  | obj h1 h2 h3 h4 => exact ⟨I, o', e, g2, h1, h2, h3⟩
theorem obj_sh (h : WRel ρ a w) {r : Nat} {o : Obj} {I : Info} (hg : a.get r = some (.obj o)) (e : ρ r = some I) : I.sh = 0 := by
  obtain ⟨b, o', g1, g2, g3⟩ := h.blk _ _ e
  rw [hg] at g1
  cases g1
  cases g3 with
  | obj h1 h2 h3 h4 => exact h4
theorem map_inv {r : Nat} {v' : Value} {K : Nat} (h : VRel ρ K (.map (some r)) v') : ∃ r', v' = .map (some r') ∧ r < K ∧ ∀ I, ρ r = some I → r' = I.b := by
  cases h with | map h h1 => exact ⟨_, rfl, h, h1⟩
/-- The entries of a map, and the program's. -/
theorem mapOf_rel (h : WRel ρ a w) {m m' : Value} (hm : VRel ρ a.next m m') {es : Array MapEntry} (e : mapOf m a = some es) :
    (m' = .map none ∧ es = #[]) ∨ ∃ r r' I es' n, m = .map (some r) ∧ m' = .map (some r') ∧ ρ r = some I ∧ I.rw = true ∧ r' = I.b ∧ w.heap[I.b]? = some (.map es' n) ∧ a.get r = some (.obj (.map es n)) ∧ EsRel ρ a.next es.toList es'.toList := by
  unfold mapOf at e
  split at e
  · cases e; cases hm; exact .inl ⟨rfl, rfl⟩
  · rename_i r
    split at e
    · rename_i es0 n hg
      cases e
      obtain ⟨r', rfl, hK, hr'⟩ := map_inv hm
      obtain ⟨I, o', h1, h2, h3, h4, h5⟩ := obj_rel h hg
      cases h3 with
      | map n hes => exact .inr ⟨r, r', I, _, n, rfl, rfl, h1, h4, hr' I h1, h2, hg, hes⟩
    · cases e
  · cases e
theorem mapTypes_run {t k e : TypeId} (h : mapTypes P t = some (k, e)) : P.underlying t = some (.map k e) := by
  unfold mapTypes at h
  split at h
  · cases h; assumption
  · cases h

theorem sim_lookup (h : WRel ρ a w) {t : TypeId} {m m' k k' v : Value} {ok : Bool} (hm : VRel ρ a.next m m') (hk : VRel ρ a.next k k') (e : lookupA P t m k ok a = some v) :
    ∃ v', (Instr.lookup t m' k' ok).run P w = .ok v' w ∧ VRel ρ a.next v v' := by
  unfold lookupA at e
  split at e
  · rename_i kt et es ht hes
    have hu := mapTypes_run ht
    have fin : ∀ es' : Array MapEntry, EsRel ρ a.next es.toList es'.toList → ∃ v', ((do
        Instr.checkKey es'.isEmpty 10000 kt k'
        let (v, o) ← match ← Instr.findKey kt k' es'.toList with
          | some (_, v) => pure (v, true)
          | none => pure (← zeroValue et, false)
        pure (if ok then .tuple #[v, .bool o] else v) : Sem Value)).run P w = .ok v' w ∧ VRel ρ a.next v v' := by
      intro es' hr
      split at e
      · rename_i i v0 hf
        cases e
        obtain ⟨r', f1, f2, f3⟩ := findA_run hk hr hf
        cases f1 with
        | @some _ _ v1 hv =>
          refine ⟨if ok then .tuple #[v1, .bool true] else v1, ?_, ?_⟩
          · simp only [Sem.run_bind, f3, Result.andThen_ok, f2, Sem.run_pure]
          · cases ok
            · exact hv
            · exact VRel.tuple' (.cons hv (.cons (.bool true) .nil))
      · rename_i hf
        obtain ⟨z, hz, rfl⟩ := Option.map_eq_some_iff.1 e
        obtain ⟨z1, z2⟩ := run_zeroValue hz w
        obtain ⟨r', f1, f2, f3⟩ := findA_run hk hr hf
        cases f1
        refine ⟨if ok then .tuple #[z, .bool false] else z, ?_, ?_⟩
        · simp only [Sem.run_bind, f3, Result.andThen_ok, f2, Sem.run_pure, z1]
        · cases ok
          · exact flat_self z2
          · exact VRel.tuple' (.cons (flat_self z2) (.cons (.bool false) .nil))
      · cases e
    rcases mapOf_rel h hm hes with ⟨rfl, rfl⟩ | ⟨r, r', I, es', n, rfl, rfl, h1, h2, h3, h4, h5, h6⟩
    · obtain ⟨v', g1, g2⟩ := fin #[] .nil
      refine ⟨v', ?_, g2⟩
      unfold Instr.lookup
      simp only [Sem.run_bind, run_underlying hu, Result.andThen_ok, Sem.run_pure] at g1 ⊢
      exact g1
    · obtain ⟨v', g1, g2⟩ := fin es' h6
      refine ⟨v', ?_, g2⟩
      have hg := run_getObj (P := P) h4 (by simp)
      unfold Instr.lookup
      simp only [Sem.run_bind, run_underlying hu, Result.andThen_ok, Sem.run_pure, h3, hg] at g1 ⊢
      exact g1
  · cases e

/-! ### reads -/
theorem bytes_nums {K : Nat} : ∀ {l l' : List Value} {bs : List UInt8}, LRel ρ K l l' → bytesOfCells l = some bs → ∃ ns : List Int, l' = ns.map (Value.int .u8) ∧ bs = ns.map fun n => UInt8.ofNat n.toNat
  | _, _, bs, .nil, h => by cases h; exact ⟨[], rfl, rfl⟩
  | v :: l, _, bs, .cons (v' := v') hv hr, h => by
    cases v with
    | int k n =>
      cases k <;> simp only [bytesOfCells] at h <;> first
        | (cases h; done)
        | skip
      obtain ⟨bs', h1, rfl⟩ := Option.map_eq_some_iff.1 h
      obtain ⟨ns, rfl, rfl⟩ := bytes_nums hr h1
      cases hv
      exact ⟨n :: ns, rfl, rfl⟩
    | _ => simp [bytesOfCells] at h
theorem push_all : ∀ (ns : List Int) (s : ByteArray), ns.foldl (fun r n => r.push (UInt8.ofNat n.toNat)) s = ⟨⟨s.data.toList ++ ns.map fun n => UInt8.ofNat n.toNat⟩⟩
  | [], s => by simp
  | n :: ns, s => by
    rw [List.foldl_cons, push_all ns]
    apply ByteArray.ext; apply Array.ext'
    simp [ByteArray.push]
theorem sim_read (h : WRel ρ a w) (ht : TRel ρ a.next tmps t.tmps) {o : Oper} {b : Nat} {v : Value} (hk : kindO P o = .read) (e : readA P tmps o a = some (b, v)) :
    ∃ v', (execOp t.eval o).run P w = .ok (.value v') w ∧ VRel ρ a.next v v' := by
  obtain ⟨dst, op, type, pos, after, guard⟩ := o
  cases op <;> simp only [readA] at e <;> first
    | (cases e; done)
    | skip
  case load ty x =>
    split at e
    · rename_i p hx
      obtain ⟨v0, e1, e2⟩ := Option.map_eq_some_iff.1 e
      cases e2
      have := rel_eval ht hx
      generalize hcv : t.eval x = cv at this
      cases this with
      | @ptr _ p' hK hs h1 =>
        obtain ⟨v', g1, g2⟩ := sim_loadVar (P := P) h h1 e1
        refine ⟨v', ?_, g2⟩
        simp only [execOp, hcv]
        refine run_value ?_
        unfold Instr.loadAt
        simp only [Instr.sureAddr, Sem.run_bind, Sem.run_pure, Result.andThen_ok, g1]
    · cases e
  case convert s d x =>
    have hty : ∃ e, P.underlying s = some (.slice e) ∧ P.underlying d = some .string ∧ P.underlying e = some (.int .u8) := by
      simp only [kindO] at hk
      split at hk
      · rename_i e h1 h2
        split at hk
        · exact ⟨e, h1, h2, by assumption⟩
        · cases hk
      · split at hk <;> cases hk
      · cases hk
    obtain ⟨te, hs, hd, he⟩ := hty
    split at e
    · rename_i n c hx
      cases e
      have := rel_eval ht hx
      generalize hcv : t.eval x = cv at this
      cases this
      refine ⟨.string .empty, ?_, .string _⟩
      simp only [execOp, hcv]
      refine run_value ?_
      unfold convert
      simp only [Sem.run_bind, run_underlying hs, run_underlying hd, Result.andThen_ok, run_underlying he]
      rfl
    · rename_i p n c hx
      split at e
      · rename_i cs hcs
        split at e
        · rename_i bs hbs
          cases e
          have := rel_eval ht hx
          generalize hcv : t.eval x = cv at this
          cases this with
          | @slice _ p' _ _ c' hK h1 hn hc h0 h2 =>
            have hat : c' = 0 ∨ AtRel ρ p p' := by
              by_cases hz : c' = 0
              · exact .inl hz
              · exact .inr fun I eI => (h1 I eI).resolve_left hz
            have key : ∃ vs', LRel ρ a.next cs vs' ∧ (loadCells p' n).run P w = .ok vs'.toArray w := by
              rcases hat with hz | hat
              · have hn0 : n = 0 := by omega
                subst hn0
                have : cs = [] := by
                  unfold AW.loadN at hcs
                  split at hcs
                  · split at hcs
                    · cases hcs; simp
                    · cases hcs
                  · cases hcs
                subst this
                exact ⟨[], .nil, rfl⟩
              · obtain ⟨vs', g1, _, g2⟩ := sim_loadN (P := P) h hat hcs
                exact ⟨vs', g1, g2⟩
            obtain ⟨vs', g1, g2⟩ := key
            obtain ⟨ns, rfl, rfl⟩ := bytes_nums g1 hbs
            have hrun := run_bytesToString w p' n c' ns g2
            rw [push_all] at hrun
            refine ⟨_, ?_, .string _⟩
            simp only [execOp, hcv]
            refine run_value ?_
            unfold convert
            simp only [Sem.run_bind, run_underlying hs, run_underlying hd, Result.andThen_ok, run_underlying he, hrun]
            rfl
        · cases e
      · cases e
    · cases e
  case lookup ty m k ok =>
    split at e
    · rename_i r u hm hkk
      obtain ⟨v0, e1, e2⟩ := Option.map_eq_some_iff.1 e
      cases e2
      obtain ⟨v', g1, g2⟩ := sim_lookup (P := P) h (rel_eval ht hm) (rel_eval ht hkk) e1
      exact ⟨v', run_value g1, g2⟩
    · cases e
  case call c =>
    split at e
    · rename_i r hb ha
      obtain ⟨es, e1, e2⟩ := Option.map_eq_some_iff.1 e
      cases e2
      obtain ⟨x', hl, hx⟩ := one_inv (rel_evalsA ht ha)
      have ha' : c.args.map t.eval = #[x'] := arr_of_list hl
      have hty : ∃ ty k e, c.argTypes[0]? = some ty ∧ P.underlying ty = some (.map k e) := by
        simp only [kindO, hb] at hk
        split at hk
        · rename_i k e hu
          obtain ⟨ty, h1, h2⟩ := Option.bind_eq_some_iff.1 hu
          exact ⟨ty, k, e, h1, h2⟩
        · cases hk
      obtain ⟨ty, kt, et, hty, hu⟩ := hty
      refine ⟨.int .i64 es.size, ?_, .int _ _⟩
      simp only [execOp]
      rw [run_callB hb]
      unfold builtin
      refine run_value ?_
      unfold Builtin.len_
      rcases mapOf_rel h hx e1 with ⟨rfl, rfl⟩ | ⟨r, r', I, es', n, e3, rfl, h1, h2, h3, h4, h5, h6⟩
      · simp [ha', hty, run_underlying hu]; rfl
      · have hg := run_getObj (P := P) h4 (by simp)
        have hsz : es.size = es'.size := by
          have : ∀ {l l' : List MapEntry}, EsRel ρ a.next l l' → l.length = l'.length := by
            intro l l' hr
            induction hr with
            | nil => rfl
            | cons _ _ ih => simp [ih]
          simpa using this h6
        simp [ha', hty, run_underlying hu, h3, hg, hsz]; rfl
    · cases e
end
end Go.Proofs.YtmdfejlfdgaomaaAM
