/- Operations that ask no memory, one by one. -/
import Derived.Test.YtmdfejlfdgaomaaAM4
namespace Go.Proofs.YtmdfejlfdgaomaaAM
open Go Go.RowKit
set_option linter.unusedVariables false
set_option linter.unusedSimpArgs false

section
variable {P : Program} {ρ : Ren} {K : Nat} {tmps : List Value} {a : Act}

/-! ### filling -/
theorem fold_over (off : Nat) : ∀ (l : List Value) (k : Nat) (c : Array Value), off + k + l.length ≤ c.size →
    (l.zipIdx k).foldl (fun cs (x : Value × Nat) => cs.setIfInBounds (off + x.2) x.1) c = over c (off + k) l := by
  intro l
  induction l with
  | nil => intro k c _; simp [over]
  | cons v l ih =>
    intro k c h
    simp only [List.length_cons] at h
    simp only [List.zipIdx_cons, List.foldl_cons]
    rw [ih (k + 1) _ (by simp; omega), show off + (k + 1) = off + k + 1 by omega, over_cons (by omega)]
theorem run_fill {place : Nat → Option (Nat × Nat)} : ∀ {vs vs' : List (Nat × Value)} {c r : List Value} {c' : Array Value}, PsRel ρ K vs vs' → LRel ρ K c c'.toList → fillA place c vs = some r →
    ∃ r', Instr.fill place c' vs' = some r' ∧ LRel ρ K r r'.toList
  | _, _, c, r, c', .nil, hc, e => by cases e; exact ⟨c', rfl, hc⟩
  | _, _, c, r, c', .cons i (v := v) (v' := v') h hr, hc, e => by
    simp only [fillA] at e
    unfold Instr.fill
    split at e
    · cases e
    · rename_i off size hp
      have hcl := h.cells
      have hsz : v.cells.size = v'.cells.size := by simpa using hcl.length
      have hlen : c.length = c'.size := by simpa using hc.length
      split at e
      · cases e
      · rename_i hcond
        simp only [hp]
        simp only [bne_iff_ne, ne_eq, Bool.or_eq_true, decide_eq_true_eq, not_or, Decidable.not_not, Nat.not_lt] at hcond
        rw [if_neg (by rw [← hsz, ← hlen]; simp only [bne_iff_ne, ne_eq, Bool.or_eq_true, decide_eq_true_eq, not_or, Decidable.not_not, Nat.not_lt]; exact hcond)]
        have hfold : (v'.cells.zipIdx.foldl (fun cs (x : Value × Nat) => cs.setIfInBounds (off + x.2) x.1) c') = over c' off v'.cells.toList := by
          rw [← Array.foldl_toList, Array.toList_zipIdx]
          have := fold_over off v'.cells.toList 0 c' (by simp; omega)
          simpa using this
        have hrel : LRel ρ K (c.take off ++ (v.cells.toList ++ c.drop (off + v.cells.size))) (over c' off v'.cells.toList).toList := by
          have e2 : off + v.cells.size = off + v'.cells.toList.length := by rw [hsz]; simp
          unfold over
          rw [e2]
          exact (hc.take off).append (hcl.append (hc.drop _))
        rw [hfold]
        exact run_fill hr hrel e

theorem run_mapM {α β : Type} (P : Program) (w : World) (f : α → Sem β) : ∀ (l : List α) (r : List β), l.length = r.length → (∀ (i : Nat) (x : α) (y : β), l[i]? = some x → r[i]? = some y → (f x).run P w = .ok y w) → (l.mapM f).run P w = .ok r w := by
  intro l
  induction l with
  | nil => intro r hl _; cases r with
    | nil => rfl
    | cons => simp at hl
  | cons x l ih =>
    intro r hl h
    cases r with
    | nil => simp at hl
    | cons y r =>
      have h0 := h 0 x y rfl rfl
      have h1 := ih r (by simpa using hl) (fun i x y e e' => h (i + 1) x y (by simpa using e) (by simpa using e'))
      simp only [List.mapM_cons, Sem.run_bind, h0, Result.andThen_ok, h1, Sem.run_pure]
theorem places_len : ∀ {l : List Field} {r : List (Nat × Nat)}, placesA P l = some r → l.length = r.length ∧ ∀ (i : Nat) f y, l[i]? = some f → r[i]? = some y → y.1 = f.offset ∧ typeSize P f.type = some y.2
  | [], r, e => by cases e; exact ⟨rfl, fun i f y h => by simp at h⟩
  | f :: l, r, e => by
    simp only [placesA] at e
    split at e
    · rename_i n l0 e1 e2
      cases e
      obtain ⟨h1, h2⟩ := places_len e2
      refine ⟨by simp [h1], fun i g y h h' => ?_⟩
      cases i with
      | zero => simp at h h'; subst h h'; exact ⟨rfl, e1⟩
      | succ i => exact h2 i g y (by simpa using h) (by simpa using h')
    · cases e
theorem run_places {fs : Array Field} {r : List (Nat × Nat)} (h : placesA P fs.toList = some r) (w : World) :
    (fs.mapM fun (f : Field) => (do pure (f.offset, ← sizeOf f.type) : Sem (Nat × Nat))).run P w = .ok r.toArray w := by
  obtain ⟨h1, h2⟩ := places_len h
  rw [Array.mapM_eq_mapM_toList, Sem.run_map]
  rw [run_mapM P w _ fs.toList r h1 fun i f y e e' => ?_]
  · rfl
  · obtain ⟨g1, g2⟩ := h2 i f y e e'
    simp only [Sem.run_bind, run_sizeOf g2, Result.andThen_ok, Sem.run_pure, ← g1]
theorem run_build {t : TypeId} {parts : Array (Nat × Operand)} {z : Value} {pl : Nat → Option (Nat × Nat)} {vs : List (Nat × Value)} {r : List Value} (h : TRel ρ K tmps a.tmps) (hz : zeroV P t = some z)
    (hp : fillPlace P t = some pl) (hv : partsA tmps parts.toList = some vs) (hf : fillA pl z.cells.toList vs = some r) (w : World) :
    ∃ v', (Instr.build t (parts.map fun (i, x) => (i, a.eval x))).run P w = .ok v' w ∧ VRel ρ K (.agg r.toArray) v' := by
  obtain ⟨hz1, hz2⟩ := run_zeroValue hz w
  have hzr : LRel ρ K z.cells.toList z.cells.toList := (flat_self hz2).cells
  have hps := rel_parts h hv
  obtain ⟨r', hr1, hr2⟩ := run_fill hps hzr hf
  refine ⟨.agg r', ?_, by have := VRel.agg' (ρ := ρ) (K := K) hr2; simpa using this⟩
  unfold fillPlace at hp
  unfold Instr.build
  split at hp
  · rename_i fields hu
    obtain ⟨l, hl, rfl⟩ := Option.map_eq_some_iff.1 hp
    simp only [Sem.run_bind, hz1, Result.andThen_ok, run_underlying hu, run_places hl]
    have : (fun (i : Nat) => (l.toArray)[i]?) = (fun (i : Nat) => l[i]?) := by funext i; simp
    simp only [this, Array.toList_map, hr1, Sem.run_pure]
  · rename_i n e hu
    obtain ⟨n, hn, rfl⟩ := Option.map_eq_some_iff.1 hp
    simp only [Sem.run_bind, hz1, Result.andThen_ok, run_underlying hu, run_sizeOf hn, Array.toList_map, hr1, Sem.run_pure]
  · cases hp

/-! ### parts -/
theorem run_part {t : TypeId} {cs cs' : Array Value} {off : Nat} {v : Value} (hc : LRel ρ K cs.toList cs'.toList) (h : partA P t cs off = some v) (w : World) :
    ∃ v', (part t cs' off).run P w = .ok v' w ∧ VRel ρ K v v' := by
  unfold partA at h
  unfold part
  split at h
  · rename_i ha
    obtain ⟨n, hn, rfl⟩ := Option.map_eq_some_iff.1 h
    refine ⟨.agg (cs'.extract off (off + n)), ?_, ?_⟩
    · simp only [Sem.run_bind, run_isAgg ha, Result.andThen_ok, if_true, run_sizeOf hn, Sem.run_pure]
    · have := VRel.agg' (ρ := ρ) (K := K) ((hc.take (off + n)).drop off)
      have e : ∀ c : Array Value, ((c.toList.take (off + n)).drop off).toArray = c.extract off (off + n) := by
        intro c; apply Array.ext'; rw [Array.toList_extract]; simp [List.drop_take]
      rwa [e, e] at this
  · rename_i ha
    have h' : cs.toList[off]? = some v := by simpa using h
    obtain ⟨v', e, hv⟩ := hc.get h'
    have e' : cs'[off]? = some v' := by simpa using e
    refine ⟨v', ?_, hv⟩
    simp only [Sem.run_bind, run_isAgg ha, Result.andThen_ok, Bool.false_eq_true, if_false, e', Sem.run_pure]
  · cases h
theorem agg_inv {cs : Array Value} {v' : Value} (h : VRel ρ K (.agg cs) v') : ∃ cs', v' = .agg cs' ∧ LRel ρ K cs.toList cs'.toList := by
  cases h with | agg hc h => exact ⟨_, rfl, LRel.of_arr hc h⟩
theorem run_indexAddr {t : TypeId} {x x' i i' r : Value} (hx : VRel ρ K x x') (hi : VRel ρ K i i') (h : indexAddrA P t x i = some r) (w : World) :
    ∃ r', (Instr.indexAt t x' i').run P w = .ok r' w ∧ VRel ρ K r r' := by
  have hadd : ∀ (p p' : Addr) (I : Info) (n : Nat), p' = ⟨I.b, p.off + I.sh, none⟩ → p'.add n = ⟨I.b, p.off + n + I.sh, none⟩ := by
    intro p p' I n hp
    rw [hp]
    unfold Addr.add
    split
    · subst_vars; rfl
    · simp only [Addr.mk.injEq, and_true, true_and]; omega
  unfold indexAddrA at h
  unfold Instr.indexAt
  split at h
  · rename_i e p len c k j hu
    cases hi
    split at h
    · rename_i z hz
      split at h
      · rename_i hj
        cases h
        cases hx with
        | @slice _ p' _ _ c' hK ha hn hc h0 hg =>
          refine ⟨.pointer (some (p'.add (j.toNat * z))), ?_, .ptr hK rfl fun I eI => ?_⟩
          · simp only [asIntOf, Sem.run_bind, Sem.run_pure, Result.andThen_ok, run_underlying hu, run_sizeOf hz, if_pos hj]
          · exact hadd p p' I _ ((ha I eI).resolve_left (by omega))
      · cases h
    · cases h
  · rename_i len e p k j hu
    cases hi
    split at h
    · rename_i z hz
      split at h
      · rename_i hj
        cases h
        cases hx with
        | @ptr _ p' hK hs ha =>
          refine ⟨.pointer (some (p'.add (j.toNat * z))), ?_, .ptr hK rfl fun I eI => hadd p p' I _ (ha I eI)⟩
          simp only [asIntOf, Sem.run_bind, Sem.run_pure, Result.andThen_ok, run_underlying hu, run_sizeOf hz, Instr.sureAddr, if_pos hj]
      · cases h
    · cases h
  · cases h
theorem run_index {t : TypeId} {x x' i i' r : Value} (hx : VRel ρ K x x') (hi : VRel ρ K i i') (h : indexA P t x i = some r) (w : World) :
    ∃ r', (Instr.index t x' i').run P w = .ok r' w ∧ VRel ρ K r r' := by
  unfold indexA at h
  unfold Instr.index
  split at h
  · rename_i len e cs k j hu
    cases hi
    obtain ⟨cs', rfl, hcs⟩ := agg_inv hx
    split at h
    · rename_i z hz
      split at h
      · rename_i hj
        obtain ⟨v', hr, hv⟩ := run_part (P := P) hcs h w
        refine ⟨v', ?_, hv⟩
        simp only [asIntOf, Sem.run_bind, Sem.run_pure, Result.andThen_ok, run_underlying hu, run_sizeOf hz, if_pos hj, hr]
      · cases h
    · cases h
  · rename_i s k j hu
    cases hi
    cases hx
    split at h
    · rename_i hj
      split at h
      · rename_i b hb
        cases h
        refine ⟨.int .u8 b.toNat, ?_, .int _ _⟩
        simp only [asIntOf, Sem.run_bind, Sem.run_pure, Result.andThen_ok, run_underlying hu, if_pos hj, hb]
      · cases h
    · cases h
  · cases h

/-! ### two operands -/
theorem run_str {op : BinOp} {x y : ByteArray} {r : Value} (h : strA op x y = some r) (w : World) : (Op.stringOp op x y).run P w = .ok r w := by
  have heq : ∀ a b : List UInt8, eqBytes a b = (a == b) := by
    intro a
    induction a with
    | nil => intro b; cases b <;> rfl
    | cons u a ih =>
      intro b
      cases b with
      | nil => rfl
      | cons v b =>
        simp only [eqBytes, ih b, List.cons_beq_cons]
        congr 1
        rw [Bool.eq_iff_iff]
        simp [UInt8.toNat_inj]
  have happ : mkStr (strOf x ++ strOf y) = x ++ y := by
    apply ByteArray.ext; apply Array.ext'; simp [mkStr, strOf]
  have hx : x.toList = strOf x := Lib.toList_data x
  have hy : y.toList = strOf y := Lib.toList_data y
  unfold Op.stringOp
  simp only [hx, hy]
  unfold strA at h
  cases op <;> simp only [heq] at h ⊢ <;> first
    | (cases h; done)
    | (cases h; rfl)
    | (split at h
       · rename_i hs
         cases h
         rw [happ, if_neg (by simp [IntKind.max, IntKind.bits, IntKind.signed]; omega)]
         rfl
       · cases h)
theorem run_nilEq {t : TypeId} {d : TypeDesc} (hu : P.underlying t = some d) {v v' u u' : Value} (hv : VRel ρ K v v') (hw : VRel ρ K u u') {c : Bool} (h : nilEq d v u = some c) (w : World) :
    (Op.equal t v' u').run P w = .ok c w := by
  unfold Op.equal Op.maxDepth
  unfold Op.equalIn
  simp only [Sem.run_bind, run_underlying hu, Result.andThen_ok]
  unfold nilEq at h
  split at h <;> cases h <;> cases hv <;> cases hw <;> simp [Sem.run_pure]
theorem run_bin {op : BinOp} {t : TypeId} {x y : Operand} {v v' u u' r : Value} (hv : VRel ρ K v v') (hu : VRel ρ K u u') (h : binA P op t x y v u = some r) (w : World) :
    ∃ r', (eqGuard op t x y v' u' >>= fun _ => binOp op t v' u').run P w = .ok r' w ∧ VRel ρ K r r' := by
  unfold binA at h
  split at h
  · cases hv
    cases hu
    refine ⟨r, ?_, ?_⟩
    · have hg : ∀ s s' : ByteArray, (eqGuard op t x y (.string s) (.string s')).run P w = .ok () w := by
        intro s s'; unfold eqGuard; cases op <;> rfl
      rw [Sem.run_bind, hg, Result.andThen_ok]
      rw [← run_str h w]
      cases op <;> rfl
    · unfold strA at h
      split at h <;> first
        | (cases h; exact .bool _)
        | (split at h
           · cases h; exact .string _
           · cases h)
        | cases h
  · split at h
    · rename_i hf
      simp only [Bool.and_eq_true] at hf
      have e1 := flat_eq hf.1 hv
      have e2 := flat_eq hf.2 hu
      subst e1 e2
      exact ⟨r, (run_prunF h w).1, flat_self (run_prunF h w).2⟩
    · split at h
      · rename_i d hd
        split at h
        · rename_i c hc
          split at h
          · rename_i hco
            cases h
            refine ⟨.bool c, ?_, .bool _⟩
            have heq := run_nilEq hd hv hu hc w
            have hg : (eqGuard .eql t x y v' u').run P w = .ok () w := by
              clear heq
              unfold nilEq at hc
              split at hc <;> cases hc <;> cases hv <;> cases hu <;> first
                | rfl
                | (cases x <;> cases y <;> first
                    | rfl
                    | (simp [isConstO] at hco; done))
            rw [Sem.run_bind, hg, Result.andThen_ok]
            have hb : binOp .eql t v' u' = (do pure (.bool (← Op.equal t v' u'))) := by
              clear heq hg
              unfold nilEq at hc
              split at hc <;> cases hc <;> cases hv <;> cases hu <;> rfl
            rw [hb, Sem.run_bind, heq]; rfl
          · cases h
        · rename_i c hc
          split at h
          · rename_i hco
            cases h
            refine ⟨.bool (!c), ?_, .bool _⟩
            have heq := run_nilEq hd hv hu hc w
            have hg : (eqGuard .neq t x y v' u').run P w = .ok () w := by
              clear heq
              unfold nilEq at hc
              split at hc <;> cases hc <;> cases hv <;> cases hu <;> first
                | rfl
                | (cases x <;> cases y <;> first
                    | rfl
                    | (simp [isConstO] at hco; done))
            rw [Sem.run_bind, hg, Result.andThen_ok]
            have hb : binOp .neq t v' u' = (do pure (.bool (!(← Op.equal t v' u')))) := by
              clear heq hg
              unfold nilEq at hc
              split at hc <;> cases hc <;> cases hv <;> cases hu <;> rfl
            rw [hb, Sem.run_bind, heq]; rfl
          · cases h
        · cases h
      · cases h
end
end Go.Proofs.YtmdfejlfdgaomaaAM
