/- append. -/
import Derived.Test.YtmdfejlfdgaomaaAM8
namespace Go.Proofs.YtmdfejlfdgaomaaAM
open Go Go.RowKit
set_option linter.unusedVariables false
set_option linter.unusedSimpArgs false

section
variable {P : Program} {ρ : Ren} {a : AW} {w : World}

theorem sim_storeN_nil (h : WRel ρ a w) {p : Addr} {a' : AW} (hs : a.storeN p [] = some a') : Step ρ a.next w ρ a' w := by
  unfold AW.storeN at hs
  split at hs
  · rename_i c hg
    split at hs
    · rename_i hle
      cases hs
      obtain ⟨I, e⟩ := h.has _ _ hg
      obtain ⟨b, o, g1, g2, g3⟩ := h.blk _ _ e
      rw [hg] at g1
      cases g1
      obtain ⟨hIrw, _⟩ := g3.inv
      refine step_write h e hIrw (b := .cells (c.take p.off ++ ([] ++ c.drop (p.off + ([] : List Value).length))) true) (o := o) ?_ g2 rfl (fun _ _ => rfl) rfl rfl rfl
      have hcc : c.take p.off ++ ([] ++ c.drop (p.off + ([] : List Value).length)) = c := by simp
      rw [hcc]
      exact g3
    · cases hs
  · cases hs
theorem loadN_zero {p : Addr} {vs : List Value} (h : a.loadN p 0 = some vs) : vs = [] := by
  unfold AW.loadN at h
  split at h
  · split at h
    · cases h; simp
    · cases h
  · cases h
/-- The first cells of what is read. -/
theorem sim_first (h : WRel ρ a w) {x x' : Value} (hx : VRel ρ a.next x x') {z n m : Nat} (hl : lenA x = some m) (hm : n ≤ m) {vs : List Value} (e : firstA z n x a = some vs) :
    Builtin.lenOf x' = (Pure.pure m : Sem Nat) ∧ ∃ vs' : List Value, LRel ρ a.next vs vs' ∧ (∀ w2 : World, w2.heap = w.heap → (Builtin.firstCells z n x').run P w2 = .ok vs'.toArray w2) ∧ vs'.length = n * z := by
  unfold firstA at e
  split at e
  · rename_i p k c
    simp only [lenA, Option.some.injEq] at hl
    subst hl
    cases hx with
    | @slice _ p' _ _ c' hK h1 hn hc h0 h2 =>
      refine ⟨rfl, ?_⟩
      by_cases hz : c' = 0
      · have hn0 : n = 0 := by omega
        subst hn0
        rw [Nat.zero_mul] at e ⊢
        obtain rfl := loadN_zero e
        refine ⟨[], .nil, fun w2 _ => ?_, by simp⟩
        unfold Builtin.firstCells
        rw [Nat.zero_mul]; rfl
      · obtain ⟨vs', g1, g2, g3⟩ := sim_loads (P := P) h (fun I eI => (h1 I eI).resolve_left hz) e
        exact ⟨vs', g1, g3, g2⟩
  · split at e
    · cases e
      rename_i hn0
      simp only [lenA, Option.some.injEq] at hl
      subst hl
      cases hx
      exact ⟨rfl, [], .nil, fun _ _ => rfl, by simp [hn0]⟩
    · cases e
  · rename_i s
    split at e
    case isFalse => cases e
    rename_i hz1
    cases e
    simp only [lenA, Option.some.injEq] at hl
    subst hl
    cases hx
    refine ⟨rfl, (s.data.toList.take n).map u8, ?_, ?_, ?_⟩
    · have : ∀ l : List UInt8, LRel ρ a.next (l.map u8) (l.map u8) := by
        intro l
        induction l with
        | nil => exact .nil
        | cons b l ih => exact .cons (.int _ _) ih
      exact this _
    · intro w2 _
      unfold Builtin.firstCells
      simp only [Sem.run_pure]
      congr 1
      apply Array.ext'
      simp [ByteArray.data_extract, Array.toList_extract, List.extract]
      rfl
    · have : s.size = s.data.toList.length := by simp
      subst hz1
      simp; omega
  · cases e
theorem next_cap {need c : Nat} (h : c < need) : Builtin.nextslicecap need c ≤ 2 * need + 1000 := by
  unfold Builtin.nextslicecap
  split
  · omega
  · split
    · omega
    · have step : ∀ k x, x ≤ need + (need + 768) / 4 → Builtin.growBy need k x ≤ need + (need + 768) / 4 := by
        intro k
        induction k with
        | zero => intro x hx; exact hx
        | succ k ih =>
          intro x hx
          unfold Builtin.growBy
          split
          · exact hx
          · exact ih _ (by omega)
      have := step 4 c (by omega)
      omega
theorem lenOf_run {x' : Value} {m : Nat} (h : Builtin.lenOf x' = (Pure.pure m : Sem Nat)) (w : World) : (Builtin.lenOf x').run P w = .ok m w := by rw [h]; rfl
theorem upd_comm_none (ρ : Ren) (i k : Nat) (J : Info) : ∀ j, upd (upd ρ i none) k (some J) j = if j = k then some J else if j = i then none else ρ j := by
  intro j; simp only [upd]
/-- A grown row on either side. -/
theorem step_grow (h : WRel ρ a w) {z n N : Nat} {cs : List Value} {c' : Array Value} {e : TypeId} {cap : Nat} {w1 : World} (hh : w1.heap = w.heap.push (.cells c' e)) (h1 : w1.os = w.os) (h2 : w1.tape = w.tape) (h3 : w1.output = w.output)
    (hc : ∀ (j : Nat) v, cs[j]? = some v → ∃ v', c'[j]? = some v' ∧ VRel ρ a.next v v') (hn : n ≤ cap) (hN : cap * z ≤ c'.size) :
    ∃ ρ', Step ρ a.next w ρ' (a.new (.cells cs true)) w1 ∧ VRel ρ' (a.next + 1) (.slice (some ⟨a.next, 0, some (z + 1)⟩) n n) (.slice (some ⟨w.heap.size, 0, none⟩) n cap) := by
  have hx := ext_new h ⟨w.heap.size, 0, c'.size, true⟩
  have st := step_new h (n := c'.size) (b := .cells cs true) (o := .cells c' e) (.cells (fun j v e => let ⟨v', g1, g2⟩ := hc j v e; ⟨v', g1, g2.mono hx⟩) (fun _ => ⟨rfl, fun o ho hh => absurd hh.2 (Nat.not_lt_zero _)⟩))
  have st2 := step_drew st.rel (w' := w1) hh h1 h2 h3
  refine ⟨_, st.trans st2, .slice (Nat.lt_succ_self _) (fun I eI => ?_) (Nat.le_refl _) hn (fun hs => by simp at hs) (fun z' hz' I eI => ?_)⟩
  · rw [upd_self] at eI; cases eI; exact .inr rfl
  · rw [upd_self] at eI; cases eI
    have : z' = z := by simpa using hz'.symm
    subst this
    exact ⟨rfl, by simpa using hN⟩

def isIntD : TypeDesc → Bool
  | .int _ => true
  | _ => false
theorem isIntD_match (d : TypeDesc) : (match d with | .int _ => true | _ => false) = isIntD d := by cases d <;> rfl
/-- append, once its arguments' kinds are known. -/
theorem append_fits {ts : Array TypeId} {t xt te : TypeId} {xd : TypeDesc} {z n sLen cap : Nat} {base : Option Addr} {x' : Value} (ht : ts[0]? = some t) (hxt : ts[1]? = some xt) (hu : P.underlying t = some (.slice te)) (hsz : typeSize P te = some z)
    (hxd : P.underlying xt = some xd) (hni : isIntD xd = false) (hl : Builtin.lenOf x' = (Pure.pure n : Sem Nat)) (hfit : sLen + n ≤ cap) (ty : TypeId) (w : World) :
    (Builtin.append_ ts ty #[.slice base sLen cap, x']).run P w =
      (Builtin.firstCells z n x' >>= fun new => (match base with | some a => storeCells (a.add (sLen * z)) new.toList | none => Pure.pure ()) >>= fun _ => (Pure.pure (Value.slice base (sLen + n) cap) : Sem Value)).run P w := by
  unfold Builtin.append_
  simp only [ht, hxt, List.getElem?_toArray, List.getElem?_cons_zero, List.getElem?_cons_succ, Sem.run_bind, run_underlying hu, run_sizeOf hsz, run_underlying hxd, Result.andThen_ok, Sem.run_pure, hl]
  cases xd <;> first
    | (cases hni; done)
    | (simp only [Bool.false_eq_true, if_false, hl, Sem.run_bind, Sem.run_pure, Result.andThen_ok, if_pos hfit, Bool.not_false, if_true]
       cases base <;> simp only [Sem.run_bind, Sem.run_pure, Result.andThen_ok])
theorem append_grows {ts : Array TypeId} {t xt te : TypeId} {xd : TypeDesc} {z n sLen cap : Nat} {base : Option Addr} {x' zv : Value} {ti : TypeInfo} (ht : ts[0]? = some t) (hxt : ts[1]? = some xt) (hu : P.underlying t = some (.slice te)) (hsz : typeSize P te = some z)
    (hxd : P.underlying xt = some xd) (hni : isIntD xd = false) (hl : Builtin.lenOf x' = (Pure.pure n : Sem Nat)) (hfit : ¬ sLen + n ≤ cap) (hbig : sLen + n ≤ 1000000)
    (hti : P.info? te = some ti) (hby : ti.bytes ≤ 1000000) (hz : zeroV P te = some zv) {old new : List Value} {w : World} (ho : ∀ w', w'.heap = w.heap → (Builtin.firstCells z sLen (.slice base sLen cap)).run P w' = .ok old.toArray w')
    (hnw : ∀ w', w'.heap = w.heap → (Builtin.firstCells z n x').run P w' = .ok new.toArray w') (ty : TypeId) :
    ∃ w1 c, (Builtin.append_ ts ty #[.slice base sLen cap, x']).run P w = .ok (.slice (some ⟨w.heap.size, 0, none⟩) (sLen + n) c) w1 ∧ sLen + n ≤ c ∧ w1.os = w.os ∧ w1.tape = w.tape ∧ w1.output = w.output ∧
      w1.heap = w.heap.push (.cells (old.toArray ++ new.toArray ++ Builtin.zeroCells zv.cells (c - (sLen + n))) te) := by
  have hq : (Question.appendCap (sLen + n) cap te).forced = false := rfl
  refine ⟨{ w with drawn := w.drawn + 1, heap := w.heap.push (.cells (old.toArray ++ new.toArray ++ Builtin.zeroCells zv.cells (grownCap w (sLen + n) cap te - (sLen + n))) te) }, grownCap w (sLen + n) cap te, ?_, grownCap_ge w _ _ _, rfl, rfl, rfl, rfl⟩
  unfold Builtin.append_
  have hcap := next_cap (show cap < sLen + n by omega)
  have hb : ¬ (Builtin.nextslicecap (sLen + n) cap * ti.bytes > 2 ^ 48) := by
    have : Builtin.nextslicecap (sLen + n) cap * ti.bytes ≤ 2001000 * 1000000 := Nat.mul_le_mul (by omega) hby
    omega
  have hmax : ¬ (((sLen + n : Nat) : Int) > IntKind.i64.max ∧ (False ∨ ti.bytes = 0)) := by
    intro hh
    have := hh.1
    simp [IntKind.max, IntKind.bits, IntKind.signed] at this
    omega
  simp only [ht, hxt, List.getElem?_toArray, List.getElem?_cons_zero, List.getElem?_cons_succ, Sem.run_bind, run_underlying hu, run_sizeOf hsz, run_underlying hxd, Result.andThen_ok, Sem.run_pure, hl]
  have ho0 := fun w' => ho w'
  cases xd <;> first
    | (cases hni; done)
    | (simp only [Bool.false_eq_true, if_false, hl, Sem.run_bind, Sem.run_pure, Result.andThen_ok, if_neg hfit, Bool.not_false, if_true, run_typeInfo hti, if_neg hmax, if_neg hb, run_choose, hq, run_askRoom, ho, hnw, (run_zeroValue hz _).1, newRow, run_newObj]
       rfl)
/-- A number is given up. -/
theorem step_drop (h : WRel ρ a w) (i : Nat) : Step ρ a.next w (upd ρ i none) (a.drop i) w := by
  have hρ : ∀ j K, upd ρ i none j = some K → j ≠ i ∧ ρ j = some K := by
    intro j K ej
    by_cases hj : j = i
    · subst hj; rw [upd_self] at ej; cases ej
    · rw [upd_ne _ _ hj] at ej; exact ⟨hj, ej⟩
  have hx : Ext ρ a.next (upd ρ i none) a.next := ⟨Nat.le_refl _, fun j hj => by
    by_cases hji : j = i
    · subst hji; exact .inr (upd_self _ _ _)
    · exact .inl (upd_ne _ _ hji)⟩
  have hg : ∀ j, (a.drop i).get j = if j = i then none else a.get j := fun j => by
    simp only [AW.get, AW.drop, look_kill h.falls i j]
  refine ⟨⟨h.falls.kill i, fun j K ej => h.lt j K (hρ j K ej).2, fun j K ej => ?_, fun j b ej => ?_, fun j k K L ej ek hb => h.inj j k K L (hρ j K ej).2 (hρ k L ek).2 hb⟩, hx, fun j K ej => .inl ⟨j, K, (hρ j K ej).2, rfl, rfl⟩, fun _ _ _ => rfl, Nat.le_refl _, rfl, rfl, rfl⟩
  · obtain ⟨hj, ej⟩ := hρ j K ej
    obtain ⟨b, o, g1, g2, g3⟩ := h.blk j K ej
    exact ⟨b, o, by rw [hg, if_neg hj]; exact g1, g2, g3.mono hx⟩
  · rw [hg] at ej
    split at ej
    · cases ej
    · rename_i hj
      obtain ⟨K, eK⟩ := h.has j b ej
      exact ⟨K, by rw [upd_ne _ _ hj]; exact eK⟩
theorem pushed_cells {was new was' new' : List Value} {zv : Value} {c need z K : Nat} (h1 : LRel ρ K was was') (h2 : LRel ρ K new new') (hz : zv.cells.size = z) :
    (∀ (j : Nat) v, (was ++ new)[j]? = some v → ∃ v', (was'.toArray ++ new'.toArray ++ Builtin.zeroCells zv.cells (c - need))[j]? = some v' ∧ VRel ρ K v v') ∧
    (was'.toArray ++ new'.toArray ++ Builtin.zeroCells zv.cells (c - need)).size = was'.length + new'.length + (c - need) * z := by
  refine ⟨fun j v e => ?_, by simp [Builtin.zeroCells, hz, Nat.add_assoc]⟩
  obtain ⟨v', e1, e2⟩ := (h1.append h2).get e
  refine ⟨v', ?_, e2⟩
  have hlt := (List.getElem?_eq_some_iff.1 e1).1
  rw [Array.getElem?_append_left (by simpa using hlt)]
  rw [← e1]
  simp

theorem all_one {K : Nat} {l l' : List Value} (h : LRel ρ K l l') (ho : l.all Value.oneCell' = true) : l'.all Value.oneCell' = true := by
  induction h with
  | nil => rfl
  | cons hh _ ih =>
    simp only [List.all_cons, Bool.and_eq_true] at ho ⊢
    exact ⟨by rw [← hh.oneCell]; exact ho.1, ih ho.2⟩
/-- An append that fits where the evaluator does not know it: the row gets another number. -/
theorem move_in (h : WRel ρ a w) {ts : Array TypeId} {t xt te : TypeId} {xd : TypeDesc} {z n sLen sCap c' : Nat} {p p' : Addr} {x' v : Value} {a' : AW} {was new new' : List Value}
    (hK : p.block < a.next) (h1 : ∀ I, ρ p.block = some I → c' = 0 ∨ p' = ⟨I.b, p.off + I.sh, none⟩)
    (h2 : ∀ z, p.spot = some (z + 1) → ∀ I, ρ p.block = some I → I.rw = true ∧ p.off + I.sh + c' * z ≤ I.n) (hsp : p.spot = some (z + 1)) (hfit : ¬ sLen + n ≤ sCap) (hfit' : sLen + n ≤ c') (hln : sLen ≤ sCap)
    (ht : ts[0]? = some t) (hxt : ts[1]? = some xt) (hu : P.underlying t = some (.slice te)) (hsz : typeSize P te = some z) (hxd : P.underlying xt = some xd) (hni : isIntD xd = false) (hlx : Builtin.lenOf x' = (Pure.pure n : Sem Nat))
    (hwas : firstA z sLen (.slice (some p) sLen sCap) a = some was) (hn1 : LRel ρ a.next new new') (hn2 : (Builtin.firstCells z n x').run P w = .ok new'.toArray w) (hn3 : new'.length = n * z) (hone : new.all Value.oneCell' = true)
    (e : growA z (sLen + n) (was ++ new) (a.drop p.block) = (v, a')) (ty : TypeId) :
    ∃ ρ' w' v', (Builtin.append_ ts ty #[.slice (some p') sLen c', x']).run P w = .ok v' w' ∧ Step ρ a.next w ρ' a' w' ∧ VRel ρ' a'.next v v' := by
  have hrun := append_fits (P := P) (base := some p') ht hxt hu hsz hxd hni hlx hfit' ty w
  simp only [Sem.run_bind, hn2, Result.andThen_ok, List.toList_toArray] at hrun
  simp only [firstA, AW.loadN] at hwas
  split at hwas
  · rename_i c rw_ hg
    split at hwas
    · rename_i hle
      simp only [Option.some.injEq] at hwas
      obtain ⟨I, eI⟩ := h.has _ _ hg
      obtain ⟨b, o, g1, g2, g3⟩ := h.blk _ _ eI
      rw [hg] at g1
      cases g1
      obtain ⟨hIrw, cc, te', fr, rfl, hc, hw⟩ := g3.inv
      obtain ⟨hr, hN⟩ := h2 z hsp I eI
      obtain ⟨hn, hf⟩ := hw hr
      have hp : p' = ⟨I.b, p.off + I.sh, none⟩ := (h1 I eI).resolve_left (by omega)
      subst hp
      have hmul : (sLen + n) * z ≤ c' * z := Nat.mul_le_mul_right z hfit'
      have hadd : (sLen + n) * z = sLen * z + n * z := Nat.add_mul _ _ _
      have hroom : p.off + I.sh + sLen * z + new'.length ≤ cc.size := by omega
      have hone' : new'.all Value.oneCell' = true := all_one hn1 hone
      have hst := run_stores P new' w cc (p.off + I.sh + sLen * z) 0 g2 hone' (by omega) (fun o h1 h2 => hf o (by omega))
      have hat : Addr.add ⟨I.b, p.off + I.sh, none⟩ (sLen * z) = ⟨I.b, p.off + I.sh + sLen * z, none⟩ := by
        unfold Addr.add
        split
        · rename_i h0; rw [h0]; rfl
        · rfl
      rw [hat, hst] at hrun
      simp only [Result.andThen_ok, Sem.run_pure, Nat.add_zero] at hrun
      have hlt := (Array.getElem?_eq_some_iff.1 g2).1
      have hwl : was.length = sLen * z := by rw [← hwas]; simp; omega
      have st := step_move h eI hr (J := ⟨I.b, p.off + I.sh, I.n, true⟩) rfl rfl (b := .cells (was ++ new) true) (o := .cells (over cc (p.off + I.sh + sLen * z) new') te' fr)
        (w' := { w with heap := w.heap.setIfInBounds I.b (.cells (over cc (p.off + I.sh + sLen * z) new') te' fr) })
        (.cells (fun j u ej => by
          show ∃ v', (over cc (p.off + I.sh + sLen * z) new')[j + (p.off + I.sh)]? = some v' ∧ _
          have hx : Ext ρ a.next (upd (upd ρ p.block none) a.next (some ⟨I.b, p.off + I.sh, I.n, true⟩)) (a.next + 1) := by
            refine ⟨Nat.le_succ _, fun i hi => ?_⟩
            rw [upd_ne _ _ (by omega)]
            by_cases hi2 : i = p.block
            · subst hi2; exact .inr (upd_self _ _ _)
            · exact .inl (upd_ne _ _ hi2)
          rw [over_get hroom]
          by_cases hj : j < sLen * z
          · rw [if_pos (by omega)]
            rw [List.getElem?_append_left (by omega)] at ej
            rw [← hwas, List.getElem?_take_of_lt hj, List.getElem?_drop] at ej
            obtain ⟨v', k1, k2⟩ := hc _ _ ej
            exact ⟨v', by rw [show j + (p.off + I.sh) = p.off + j + I.sh by omega]; exact k1, k2.mono hx⟩
          · rw [List.getElem?_append_right (by omega), hwl] at ej
            obtain ⟨v', k1, k2⟩ := hn1.get ej
            have hjl := (List.getElem?_eq_some_iff.1 k1).1
            rw [if_neg (by omega), if_pos (by omega)]
            exact ⟨v', by rw [show j + (p.off + I.sh) - (p.off + I.sh + sLen * z) = j - sLen * z by omega]; exact k1, k2.mono hx⟩)
          (fun _ => ⟨by rw [over_size hroom]; exact hn, hf⟩))
        (by simp [hlt]) (by simp) (fun k hk => by simp [Ne.symm hk]) rfl rfl rfl
      simp only [growA, Prod.mk.injEq] at e
      obtain ⟨rfl, rfl⟩ := e
      refine ⟨_, _, _, hrun, st, ?_⟩
      refine .slice (Nat.lt_succ_self _) (fun J eJ => ?_) (Nat.le_refl _) hfit' (fun hs => by simp at hs) (fun z' hz' J eJ => ?_)
      · rw [show (a.drop p.block).next = a.next from rfl, upd_self] at eJ
        cases eJ
        right; simp
      · rw [show (a.drop p.block).next = a.next from rfl, upd_self] at eJ
        cases eJ
        have : z' = z := by simpa using hz'.symm
        subst this
        refine ⟨rfl, ?_⟩
        show 0 + (p.off + I.sh) + c' * z' ≤ I.n
        omega
    · cases hwas
  · cases hwas
theorem sim_append (h : WRel ρ a w) {ts : Array TypeId} {s s' x x' v : Value} {a' : AW} (hs : VRel ρ a.next s s') (hx : VRel ρ a.next x x') (e : appendA P ts s x a = some (v, a')) (ty : TypeId) :
    ∃ ρ' w' v', (Builtin.append_ ts ty #[s', x']).run P w = .ok v' w' ∧ Step ρ a.next w ρ' a' w' ∧ VRel ρ' a'.next v v' := by
  unfold appendA at e
  split at e
  · rename_i t xt ht hxt
    split at e
    · rename_i te z xd hel hxd
      obtain ⟨hu, hsz⟩ := elem_run hel
      split at e
      · cases e
      · rename_i xdr xd0 s0 lo base sLen sCap n hnint hlen
        have hni : isIntD xdr = false := by
          cases xdr <;> first | rfl | exact absurd rfl (hnint _)
        split at e
        · cases e
        · rename_i new hnew
          obtain ⟨hlx, new', hn1, hn2, hn3⟩ := sim_first (P := P) h hx hlen (Nat.le_refl _) hnew
          by_cases hfit : sLen + n ≤ sCap
          · -- in place
            rw [if_pos hfit] at e
            cases base with
            | none => cases e
            | some p =>
              cases hs with
              | @slice _ p' _ _ c' hK h1 hln hc h0 h2 =>
                simp only at e
                split at e
                · rename_i a1 hst
                  cases e
                  have hrun := append_fits (P := P) (base := some p') ht hxt hu hsz hxd hni hlx (show sLen + n ≤ c' by omega) ty w
                  simp only [Sem.run_bind, hn2 w rfl, Result.andThen_ok] at hrun
                  by_cases hz : c' = 0
                  · have hnl : new'.length = 0 := by
                      have hn0 : n = 0 := by omega
                      rw [hn3]; subst hn0
                      simp
                    obtain rfl := List.eq_nil_of_length_eq_zero hnl
                    have hnn : new = [] := List.eq_nil_of_length_eq_zero (by rw [hn1.length]; rfl)
                    subst hnn
                    have st := sim_storeN_nil h hst
                    exact ⟨ρ, w, .slice (some p') (sLen + n) c', by rw [hrun]; rfl, st, (VRel.slice hK h1 hfit hc h0 h2).mono st.ext⟩
                  · have hat : AtRel ρ p p' := fun I eI => (h1 I eI).resolve_left hz
                    obtain ⟨w', g1, st⟩ := sim_storeN (P := P) h (hat.add (sLen * z) p.spot) hn1 hst
                    refine ⟨ρ, w', .slice (some p') (sLen + n) c', ?_, st, (VRel.slice hK h1 hfit hc h0 h2).mono st.ext⟩
                    rw [hrun]
                    simp only [List.toList_toArray, g1, Result.andThen_ok, Sem.run_pure]
                · cases e
          · rw [if_neg hfit] at e
            split at e
            · cases e
            · rename_i was hwas
              split at e
              · cases e
              · rename_i hcond
                simp only [not_or, Nat.not_lt, Bool.not_eq_false] at hcond
                obtain ⟨c1, c2, c3, c4⟩ := hcond
                obtain ⟨ti, hti, hby⟩ : ∃ ti, P.info? te = some ti ∧ ti.bytes ≤ 1000000 := by
                  cases hpi : P.info? te with
                  | none => rw [hpi] at c2; simp at c2
                  | some ti => rw [hpi] at c2; exact ⟨ti, rfl, by simpa using c2⟩
                obtain ⟨zv, hzv, hzz⟩ : ∃ zv, zeroV P te = some zv ∧ zv.cells.size = z := by
                  cases hpi : zeroV P te with
                  | none => rw [hpi] at c3; simp at c3
                  | some zv => rw [hpi] at c3; exact ⟨zv, rfl, by simpa using c3⟩
                -- a new row, whatever the old one's number becomes
                have grow : ∀ (ρ1 : Ren) (a1 : AW) (base' : Option Addr) (cap' : Nat) (was' : List Value), Step ρ a.next w ρ1 a1 w → a1.next = a.next → ¬ sLen + n ≤ cap' → LRel ρ a.next was was' → (∀ w2 : World, w2.heap = w.heap → (Builtin.firstCells z sLen (.slice base' sLen cap')).run P w2 = .ok was'.toArray w2) →
                    was'.length + new'.length = (sLen + n) * z →
                    ∃ ρ' w' v', (Builtin.append_ ts ty #[.slice base' sLen cap', x']).run P w = .ok v' w' ∧ Step ρ a.next w ρ' (growA z (sLen + n) (was ++ new) a1).2 w' ∧ VRel ρ' (growA z (sLen + n) (was ++ new) a1).2.next (growA z (sLen + n) (was ++ new) a1).1 v' := by
                  intro ρ1 a1 base' cap' was' st0 hnx hnf g1 g3 hlen2
                  obtain ⟨w1, c, r1, r2, r3, r4, r5, r6⟩ := append_grows (P := P) (w := w) ht hxt hu hsz hxd hni hlx hnf (by omega) hti hby hzv g3 hn2 ty
                  obtain ⟨q1, q2⟩ := pushed_cells (c := c) (need := sLen + n) (g1.mono st0.ext) (hn1.mono st0.ext) hzz
                  obtain ⟨ρ', st, hv⟩ := step_grow st0.rel (z := z) (n := sLen + n) (N := 0) r6 r3 r4 r5 q1 r2 (by
                    rw [q2, hlen2, ← Nat.add_mul, Nat.add_sub_cancel' r2]; exact Nat.le_refl _)
                  exact ⟨ρ', w1, _, r1, st0.trans st, hv⟩
                obtain ⟨_, was', o1, o2, o3⟩ := sim_first (P := P) h hs (show lenA (.slice base sLen sCap) = some sLen from rfl) (Nat.le_refl _) hwas
                have hsum : was'.length + new'.length = (sLen + n) * z := by rw [o3, hn3, Nat.add_mul]
                cases base with
                | none =>
                  simp only [Option.some.injEq] at e
                  cases hs
                  obtain ⟨ρ', w', v', r1, r2, r3⟩ := grow ρ a none sCap was' (.refl h) rfl hfit o1 o2 hsum
                  rw [e] at r2 r3
                  exact ⟨ρ', w', v', r1, r2, r3⟩
                | some p =>
                  cases hs with
                  | @slice _ p' _ _ c' hK h1 hln hc h0 h2 =>
                    simp only at e
                    split at e
                    · -- the capacity is known
                      rename_i hsp
                      simp only [Option.some.injEq] at e
                      obtain ⟨ρ', w', v', r1, r2, r3⟩ := grow ρ a (some p') c' was' (.refl h) rfl (by rw [h0 hsp]; exact hfit) o1 o2 hsum
                      rw [e] at r2 r3
                      exact ⟨ρ', w', v', r1, r2, r3⟩
                    · split at e
                      · rename_i hsp0 hsp
                        simp only [Option.some.injEq] at e
                        by_cases hfit' : sLen + n ≤ c'
                        · exact move_in h hK h1 h2 hsp hfit hfit' hln ht hxt hu hsz hxd hni hlx hwas hn1 (hn2 w rfl) hn3 (by simpa using c4) e ty
                        · obtain ⟨ρ', w', v', r1, r2, r3⟩ := grow (upd ρ p.block none) (a.drop p.block) (some p') c' was' (step_drop h p.block) rfl hfit' o1 o2 hsum
                          rw [e] at r2 r3
                          exact ⟨ρ', w', v', r1, r2, r3⟩
                      · cases e
      · cases e
    · cases e
  · cases e
end
end Go.Proofs.YtmdfejlfdgaomaaAM
