/- Chapter 14: what stands for slices.Sorted of a set's keys, and of all that is free. -/
import Derived.Test.YtlbmjpmonaekgaaU4
namespace Go.Proofs.YtlbmjpmonaekgaaAM
open Go Go.RowKit
set_option linter.unusedVariables false
set_option linter.unusedSimpArgs false
set_option maxRecDepth 10000
set_option maxHeartbeats 4000000

def setA (r : Nat) (a : AW) : Option (List Int) := match a.get r with
  | some (.obj (.map es clock)) => setU es clock
  | _ => none
def gatherU (f : FuncId) (o : Nat) (c : List Value) (a : AW) : Option (List Int) :=
  if f = 52 then match c[o]? with
    | some (.map (some r)) => setA r a
    | _ => none
  else if f = 36 then match c[o]? with
    | some (.pointer (some ⟨p, po, none⟩)) => match a.get p with
      | some (.cells cp true) => match cp[po]?, cp[po + 2]? with
        | some v9, some (.map (some r)) => match rowU v9 a, setA r a with
          | some xs, some ks => some (xs ++ ks)
          | _, _ => none
        | _, _ => none
      | _ => none
    | _ => none
  else none
def outU (xs : List Int) (a : AW) : Value × AW := match srtU xs with
  | [] => (.slice none 0 0, a)
  | x :: r => growA 1 (r.length + 1) ((x :: r).map (Value.int .u32)) a
def sortG (args : List Value) (a : AW) : Option (Value × AW) := match args with
  | [.func (.func f) fs cs] =>
    if fs.size = 0 ∧ a.base ≤ a.next then match cs.toList with
      | [.pointer (some ⟨q, o, none⟩)] => match a.get q with
        | some (.cells c true) => match gatherU f o c a with
          | some xs => if xs.length ≤ 60000 then some (outU xs a) else none
          | none => none
        | _ => none
      | _ => none
    else none
  | _ => none
theorem out_list {xs : List Int} {a b : AW} {v : Value} (h : ListR encN 2 a (srtU xs) v b) : outU xs a = (v, b) := by
  unfold outU
  rcases h with ⟨e, rfl, rfl⟩ | ⟨hne, rfl, rfl⟩
  · rw [e]
  · cases hs : srtU xs with
    | nil => exact absurd hs hne
    | cons x r => simp only [growA, encN_map, List.length_cons]; rfl
theorem falls_lt : ∀ {n : Nat} {h : List (Nat × Blk)}, Falls n h → ∀ p ∈ h, p.1 < n
  | n, [], _, p, hp => by cases hp
  | n, (i, b) :: r, hf, p, hp => by
    cases hf with
    | cons h1 h2 =>
      rcases List.mem_cons.1 hp with rfl | hp
      · exact h1
      · exact Nat.lt_trans (falls_lt h2 p hp) h1
theorem falls_cl {n : Nat} {h : List (Nat × Blk)} (hf : Falls n h) : Cl n h := fun p hp hk => absurd (falls_lt hf p hp) (by omega)
theorem setA_inv {r : Nat} {a : AW} {ks : List Int} (h : setA r a = some ks) : ∃ es clock, a.get r = some (.obj (.map es clock)) ∧ setU es clock = some ks := by
  unfold setA at h
  split at h
  · exact ⟨_, _, ‹_›, h⟩
  · cases h
theorem rowU_keep {v : Value} {a a1 : AW} {xs : List Int} {k : Nat} (h : rowU v a = some xs) (hk : ∀ p n m, v = .slice (some p) n m → p.block < k) (hs : ∀ i, i < k → a1.get i = a.get i) : rowU v a1 = some xs := by
  unfold rowU at h ⊢
  split at h
  · exact h
  · rename_i p n m
    rw [hs _ (hk p n m rfl)]
    exact h
  · cases h
theorem sort_sim {ρ : Ren} {a : AW} {w : World} {args args' : List Value} {v : Value} {a' : AW} (hw : WRel ρ a w) (ha : LRel ρ a.next args args') (h : sortG args a = some (v, a')) :
    CallTo Try.prog 35 args'.toArray w fun v' w' => ∃ ρ', Step ρ a.next w ρ' a' w' ∧ VRel ρ' a'.next v v' := by
  have low : ∀ {i : Nat} {b : Blk}, a.get i = some b → i < a.next := fun h => by
    obtain ⟨I, e⟩ := hw.has _ _ h
    exact hw.lt _ _ e
  have use : ∀ {f : FuncId} {q o : Nat} {xs : List Int}, args = [.func (.func f) #[] #[.pointer (some ⟨q, o, none⟩)]] → CallSim Try.prog 35 #[.func (.func f) #[] #[.pointer (some ⟨q, o, none⟩)]] a (fun v b => ListR encN 2 a (srtU xs) v b) → outU xs a = (v, a') →
      CallTo Try.prog 35 args'.toArray w fun v' w' => ∃ ρ', Step ρ a.next w ρ' a' w' ∧ VRel ρ' a'.next v v' := by
    intro f q o xs he hs ho
    subst he
    refine CallTo.mono (hs ρ w args'.toArray hw (by simpa using ha)) ?_
    rintro v' w' ⟨v1, a1, ρ', hl, -, st, hv⟩
    have := out_list hl
    rw [ho] at this
    cases this
    exact ⟨ρ', st, hv⟩
  unfold sortG at h
  split at h
  · rename_i f fs cs
    split at h
    · rename_i hc
      obtain ⟨hfs, hb⟩ := hc
      split at h
      · rename_i q o hcs
        split at h
        · rename_i c hq
          split at h
          · rename_i xs hg
            split at h
            · rename_i hlen
              have hxs := Option.some.inj h
              have e1 : fs = #[] := Array.eq_empty_of_size_eq_zero hfs
              have e2 : cs = #[.pointer (some ⟨q, o, none⟩)] := Array.ext' hcs
              subst e1 e2
              have hcl := falls_cl hw.falls
              have hqn := low hq
              unfold gatherU at hg
              split at hg
              · rename_i hf
                subst hf
                split at hg
                · rename_i r ho
                  obtain ⟨es, clock, hr, hset⟩ := setA_inv hg
                  refine use rfl (sorted35 (N := xs.length) (S := fun x => x ∈ xs) (R := fun ss => ss.Perm xs) Try.func52 rfl hb hcl (by omega) ?_ (fun ss h => h) (by omega)) hxs
                  intro a1 l I h1 h2 h3 h4 it
                  exact iter52 cut_ok h1 h3 hqn (low hr) ((h4 q hqn).trans hq) ho ((h4 r (low hr)).trans hr) hset h2 it
                · cases hg
              · split at hg
                · rename_i hf
                  subst hf
                  split at hg
                  · rename_i p po ho
                    split at hg
                    · rename_i cp hp
                      split at hg
                      · rename_i v9 r h0 h2
                        split at hg
                        · rename_i xs1 ks hrow hset
                          cases hg
                          obtain ⟨es, clock, hr, hsu⟩ := setA_inv hset
                          have hrk : ∀ p n m, v9 = .slice (some p) n m → p.block < a.next := by
                            rintro p n m rfl
                            unfold rowU at hrow
                            simp only at hrow
                            split at hrow
                            · exact low ‹_›
                            · cases hrow
                          rw [List.length_append] at hlen
                          refine use rfl (sorted35 (N := xs1.length + ks.length) (S := fun x => x ∈ xs1 ∨ x ∈ ks) (R := fun ss => ss.Perm (xs1 ++ ks)) Try.func36 rfl hb hcl (by omega) ?_ (fun ss h => h) (by rw [List.length_append]; omega)) hxs
                          intro a1 l I g1 g2 g3 g4 it
                          refine callsim_mono (iter36 cut_ok g1 g3 hqn (low hp) (low hr) ((g4 q hqn).trans hq) ho ((g4 p (low hp)).trans hp) h0 h2 (rowU_keep hrow hrk g4) hrk ((g4 r (low hr)).trans hr) hsu g2 it) ?_
                          rintro v b ⟨ss, hp, hI⟩
                          exact ⟨xs1 ++ ss, List.Perm.append_left xs1 hp, hI⟩
                        · cases hg
                      · cases hg
                    · cases hg
                  · cases hg
                · cases hg
            · cases h
          · cases h
        · cases h
      · cases h
    · cases h
  · cases h
theorem sort_evo {args : List Value} {a : AW} {v : Value} {a' : AW} (hb : a.base ≤ a.next) (h : sortG args a = some (v, a')) : Evo a a' := by
  have key : ∀ xs, outU xs a = (v, a') → Evo a a' := by
    intro xs ho
    unfold outU at ho
    split at ho
    · cases ho; exact .refl _
    · cases ho; exact evo_new a _ hb
  unfold sortG at h
  repeat' split at h
  all_goals first
    | (cases h; done)
    | exact key _ (Option.some.inj h)
def GD : Gives := fun g => if g = 35 then some (fun args a => sortG args.toList a) else GC g
theorem sort_ok : GD.Sound Try.prog := by
  refine ⟨fun g k hk ρ a w args args' v a' hw ha hr => ?_, fun g k hk args a v a' hb hr => ?_⟩
  · unfold GD at hk
    split at hk
    · rename_i hg
      subst hg
      cases hk
      have := sort_sim hw ha hr
      simpa using this
    · exact cut_ok.sim g k hk ρ a w args args' v a' hw ha hr
  · unfold GD at hk
    split at hk
    · cases hk; exact sort_evo hb hr
    · exact cut_ok.evo g k hk args a v a' hb hr
end Go.Proofs.YtlbmjpmonaekgaaAM
