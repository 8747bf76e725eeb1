/- Chapter 14: what stands for maps.Clone. -/
import Derived.Test.YtlbmjpmonaekgaaU5
import Derived.Shelf.SlMaps.Clone
namespace Go.Proofs
open Go.Shelf
def Try.clone42_ren : Go.Shelf.Ren := ⟨fun | 5 => 42 | 7 => 55 | n => n, fun | 4 => 4 | 20 => 20 | 23 => 55 | 25 => 27 | 3 => 60 | n => n, fun | n => n⟩
theorem Try.clone42 : SlLaysW.n5 Try.prog Try.clone42_ren := {
  mixed := by kernel_rfl
  f5 := ⟨Try.f42.name, by decide, Try.func42.trans (congrArg some (by kernel_rfl))⟩
  f7 := Try.func55.trans (congrArg some (by kernel_rfl))
  t4 := Try.underlying4
  a4 := Try.isAgg4
  z4 := Try.sizeOf4
  v4 := Try.zeroValue4
  t20 := Try.underlying20
  a20 := Try.isAgg20
  z20 := Try.sizeOf20
  v20 := Try.zeroValue20
  t23 := Try.underlying55
  a23 := Try.isAgg55
  z23 := Try.sizeOf55
  v23 := Try.zeroValue55 }
end Go.Proofs
namespace Go.Proofs.YtlbmjpmonaekgaaAM
open Go Go.RowKit
set_option linter.unusedVariables false
set_option linter.unusedSimpArgs false
set_option maxRecDepth 10000
set_option maxHeartbeats 4000000

def cloneG (args : List Value) (a : AW) : Option (Value × AW) := match args with
  | [.map none] => some (.map none, a)
  | [.map (some r)] => match a.get r with
    | some (.obj (.map es clock)) => if a.base ≤ a.next then some (.map (some a.next), a.new (.obj (.map es clock))) else none
    | _ => none
  | _ => none
theorem clone_sim {ρ : Ren} {a : AW} {w : World} {args args' : List Value} {v : Value} {a' : AW} (hw : WRel ρ a w) (ha : LRel ρ a.next args args') (h : cloneG args a = some (v, a')) :
    CallTo Try.prog 42 args'.toArray w fun v' w' => ∃ ρ', Step ρ a.next w ρ' a' w' ∧ VRel ρ' a'.next v v' := by
  unfold cloneG at h
  split at h
  · cases h
    cases ha with
    | cons h1 hr =>
      cases hr
      cases h1
      refine .inr ⟨names_enter plain Try.func42 rfl _ w, (AnyW.maps_Clone_nil Try.clone42 w).mono ?_⟩
      rintro e w' ⟨he, rfl⟩
      exact ⟨_, he, ρ, .refl hw, .mapNil⟩
  · rename_i r
    split at h
    · rename_i es clock hr
      split at h
      · rename_i hb
        cases h
        cases ha with
        | cons h1 hrest =>
          cases hrest
          cases h1 with
          | map hk hm =>
            obtain ⟨J, eJ⟩ := hw.has _ _ hr
            obtain ⟨bl, o, g1, g2, g3⟩ := hw.blk _ _ eJ
            rw [hr] at g1; cases g1
            obtain rfl := hm J eJ
            generalize hB : Blk.obj (.map es clock) = B at g3
            cases g3 with
            | cells => cases hB
            | holey => cases hB
            | obj hoo hrJ hnJ hsJ =>
              injection hB with hB
              subst hB
              cases hoo with
              | map n hes =>
                rename_i es'
                refine .inr ⟨names_enter plain Try.func42 rfl _ w, (AnyW.maps_Clone Try.clone42 J.b es' clock w g2).mono ?_⟩
                rintro e w' ⟨he, rfl⟩
                have st := step_obj hw (o := .map es clock) (o' := .map es' clock) (.map _ (hes.mono (ext_new hw _))) (by simp)
                exact ⟨_, he, _, st, .map (Nat.lt_succ_self _) fun I e => by rw [upd_self] at e; cases e; rfl⟩
      · cases h
    · cases h
  · cases h
theorem clone_evo {args : List Value} {a : AW} {v : Value} {a' : AW} (hb : a.base ≤ a.next) (h : cloneG args a = some (v, a')) : Evo a a' := by
  unfold cloneG at h
  repeat' split at h
  all_goals first
    | (cases h; done)
    | (cases h; exact .refl _)
    | (cases h; exact evo_new a _ hb)
def GE : Gives := fun g => if g = 42 then some (fun args a => cloneG args.toList a) else GD g
theorem clone_ok : GE.Sound Try.prog := by
  refine ⟨fun g k hk ρ a w args args' v a' hw ha hr => ?_, fun g k hk args a v a' hb hr => ?_⟩
  · unfold GE at hk
    split at hk
    · rename_i hg
      subst hg
      cases hk
      have := clone_sim hw ha hr
      simpa using this
    · exact sort_ok.sim g k hk ρ a w args args' v a' hw ha hr
  · unfold GE at hk
    split at hk
    · cases hk; exact clone_evo hb hr
    · exact sort_ok.evo g k hk args a v a' hb hr
end Go.Proofs.YtlbmjpmonaekgaaAM
