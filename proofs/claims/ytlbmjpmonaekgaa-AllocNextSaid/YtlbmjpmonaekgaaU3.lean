/- Chapter 14: slices.AppendSeq, slices.Collect, slices.Sorted of an iterator. -/
import Derived.Test.YtlbmjpmonaekgaaU2
namespace Go.Proofs.YtlbmjpmonaekgaaAM
open Go Go.RowKit
set_option linter.unusedVariables false
set_option linter.unusedSimpArgs false
set_option maxRecDepth 10000
set_option maxHeartbeats 4000000

def encN (x : Int) : List Value := [.int .u32 x]
theorem encN_len (x : Int) : (encN x).length = 1 := rfl
theorem encN_one (x : Int) : (encN x).all Value.oneCell' = true := rfl
theorem encN_flat (x : Int) : (encN x).all flat = true := rfl
theorem encN_map (xs : List Int) : xs.flatMap encN = xs.map (Value.int .u32) := by
  induction xs with
  | nil => rfl
  | cons x r ih => rw [List.flatMap_cons, ih]; rfl
/-- From here on there are cells only. -/
def Cl (k : Nat) (h : List (Nat × Blk)) : Prop := ∀ p ∈ h, k ≤ p.1 → ∀ o, p.2 ≠ .obj o
theorem look_mem {i : Nat} {b : Blk} : ∀ {h : List (Nat × Blk)}, look i h = some b → (i, b) ∈ h
  | [], e => by cases e
  | (j, c) :: r, e => by
    by_cases hij : i = j
    · subst hij
      rw [look_self] at e; cases e; exact List.mem_cons_self ..
    · rw [look_miss hij] at e
      exact List.mem_cons_of_mem _ (look_mem e)
theorem Cl.cons {k i : Nat} {c : List Value} {rw_ : Bool} {h : List (Nat × Blk)} (hc : Cl k h) : Cl k ((i, .cells c rw_) :: h) := by
  intro p hp hk o
  rcases List.mem_cons.1 hp with rfl | hp
  · intro e; cases e
  · exact hc p hp hk o
theorem kill_sub {i : Nat} : ∀ {h : List (Nat × Blk)} {p}, p ∈ kill i h → p ∈ h
  | [], p, hp => by cases hp
  | (j, c) :: r, p, hp => by
    simp only [kill] at hp
    split at hp
    · exact List.mem_cons_of_mem _ hp
    · rcases List.mem_cons.1 hp with rfl | hp
      · exact List.mem_cons_self ..
      · exact List.mem_cons_of_mem _ (kill_sub hp)
theorem Cl.kill {k i : Nat} {h : List (Nat × Blk)} (hc : Cl k h) : Cl k (kill i h) := fun p hp => hc p (kill_sub hp)
theorem put_sub {i : Nat} {b : Blk} : ∀ {h : List (Nat × Blk)} {p}, p ∈ putAt i b h → p ∈ h ∨ p = (i, b)
  | [], p, hp => by cases hp
  | (j, c) :: r, p, hp => by
    simp only [putAt] at hp
    split at hp
    · rename_i hij
      subst hij
      rcases List.mem_cons.1 hp with rfl | hp
      · exact .inr rfl
      · exact .inl (List.mem_cons_of_mem _ hp)
    · rcases List.mem_cons.1 hp with rfl | hp
      · exact .inl (List.mem_cons_self ..)
      · rcases put_sub hp with h | h
        · exact .inl (List.mem_cons_of_mem _ h)
        · exact .inr h
theorem Cl.put {k i : Nat} {b : Blk} {h : List (Nat × Blk)} (hc : Cl k h) (hi : i < k) : Cl k (putAt i b h) := by
  intro p hp hk
  rcases put_sub hp with h | rfl
  · exact hc p h hk
  · simp only at hk; omega
theorem Cl.noobj {k n bs : Nat} {d : List Nat} {h : List (Nat × Blk)} (hc : Cl k h) : NoObj k ⟨n, h, bs, d⟩ := fun i o hi e => hc _ (look_mem e) hi o rfl
theorem app_cl {enc : Int → List Value} {t0 t1 : TypeId} {z y : Nat} (hk : appOk Try.prog t0 t1 z = true) (hz : z + 1 = y) (he : ∀ x, (enc x).length = z) (ho1 : ∀ x, (enc x).all Value.oneCell' = true)
    {h : List (Nat × Blk)} {n lo bs : Nat} {v : Value} {xs : List Int} {x : Int} {q : Addr} {cq : Nat} (ho : OutG enc y h n lo v xs) (hlo : lo ≤ n) (hbs : bs ≤ lo)
    (hq : cellsAt (look q.block h) q.off z = some (enc x)) (hl : xs.length + 1 ≤ 1000000) (hcl : Cl lo h) :
    ∃ v' h', builtinA Try.prog .append #[t0, t1] [v, .slice (some q) 1 cq] ⟨n, h, bs, []⟩ = some (v', ⟨n + 1, h', bs, []⟩) ∧ OutG enc y h' (n + 1) lo v' (xs ++ [x]) ∧ (∀ j, j < lo → look j h' = look j h) ∧ Cl lo h' := by
  rcases ho with ⟨rfl, rfl⟩ | ⟨b, rfl, hne, hb, h1, h2⟩
  · refine ⟨_, _, wp_append_nil (new := enc x) hk hz (by omega) (by omega) (by rw [get_mk, Nat.one_mul]; exact hq) (ho1 x), ?_, ?_, hcl.cons⟩
    · refine .inr ⟨n, by simp, by simp, ?_, by omega, by omega⟩
      simp [look]
    · intro j hj
      show look j ((n, _) :: h) = look j h
      exact look_miss (by omega)
  · have hlen := flatMap_len he xs
    have hw : cellsAt (AW.get ⟨n, h, bs, []⟩ b) 0 (xs.length * z) = some (xs.flatMap enc) := by
      rw [get_mk, hb, cellsAt_cells (by omega)]
      rw [List.drop_zero, ← hlen, List.take_length]
    have hap := wp_append_grown (E := Try.prog) (a := ⟨n, h, bs, []⟩) (o := 0) (len := xs.length) (cap := xs.length) (n := 1) (cq := cq) (q := q) hk hz (by omega) hl hw (by rw [get_mk, Nat.one_mul]; exact hq) (ho1 x)
    rw [drop_own (by omega)] at hap
    refine ⟨_, _, hap, .inr ⟨n, by simp, by simp, ?_, by omega, by omega⟩, ?_, hcl.kill.cons⟩
    · simp [AW.new, look]
    · intro j hj
      simp only [AW.new]
      rw [look_miss (by omega), look_wkill_ne (by omega)]
structure Box58 (n0 : Nat) (h0 : List (Nat × Blk)) (r0 : Loop) (done : List Int) (n : Nat) (h : List (Nat × Blk)) : Prop where
  b0 : ∃ v, look n0 h = some (.cells [v] true) ∧ OutG encN 2 h n (n0 + 3) v done
  b1 : look (n0 + 1) h = some (.obj (.deferred (some [])))
  b2 : look (n0 + 2) h = some (.obj (.loop r0))
  n3 : n0 + 3 ≤ n
  cl : Cl (n0 + 3) h
  old : ∀ i, i < n0 → look i h = look i h0
theorem soilW_nil {bs i : Nat} (h : bs ≤ i) : soilW bs [] i = [] := by unfold soilW; rw [if_neg (by omega)]
theorem leave_list' {a : AW} {v : Value} {h : List (Nat × Blk)} {n lo bs : Nat} {xs : List Int} (ho : OutG encN 2 h n lo v xs) (hlo : a.next ≤ lo) : ListR encN 2 a xs (oneOf (leaveA a [v] ⟨n, h, bs, []⟩).1) (leaveA a [v] ⟨n, h, bs, []⟩).2 := by
  obtain ⟨v', w, e, hr⟩ := leave_list (a := a) (bs := bs) encN_flat ho hlo
  rw [e]; exact hr
theorem ListR.evo {a w : AW} {xs : List Int} {v : Value} (hb : a.base ≤ a.next) (h : ListR encN 2 a xs v w) : Evo a w := by
  rcases h with ⟨_, _, rfl⟩ | ⟨_, _, rfl⟩
  · exact .refl _
  · exact evo_new a _ hb
theorem callsim_mono {P : Program} {f : FuncId} {args : Array Value} {a : AW} {R R' : Value → AW → Prop} (h : CallSim P f args a R) (hr : ∀ v b, R v b → R' v b) : CallSim P f args a R' := by
  intro ρ w args' hw ha
  refine CallTo.mono (h ρ w args' hw ha) ?_
  rintro v' w' ⟨v, a', ρ', h1, h2, h3, h4⟩
  exact ⟨v, a', ρ', hr _ _ h1, h2, h3, h4⟩
theorem coll58 {G : Gives} (hG : G.Sound Try.prog) {f : FuncId} {fd : Func} (hfd : Try.prog.funcs[f]? = some fd) (hbd : fd.body.isSome = true) {q o : Nat} {a : AW} (hb : a.base ≤ a.next) (hcl : Cl a.next a.heap) {N : Nat} (hN : N ≤ 1000000) {S : Int → Prop} {R : List Int → Prop}
    (hit : ∀ (a1 : AW) l I, a1.base ≤ a1.next → l < a1.next → a.next ≤ a1.next → (∀ i, i < a.next → a1.get i = a.get i) → Iter Try.prog G l a1 a.next N S I → CallSim Try.prog f #[.func (.yield l) #[] #[], .pointer (some ⟨q, o, none⟩)] a1 fun v b => ∃ ss, R ss ∧ I ss b) :
    CallSim Try.prog 58 #[.slice none 0 0, .func (.func f) #[] #[.pointer (some ⟨q, o, none⟩)]] a fun v b => ∃ ss, R ss ∧ ListR encN 2 a ss v b := by
  refine callsim_code plain Try.func58 rfl Try.ntmps58 rfl (args := [.slice none 0 0, .func (.func f) #[] #[.pointer (some ⟨q, o, none⟩)]]) hb ?_
  refine csimd_seq (csimd_W mixed plain hG (Nat.le_refl _) ?_)
  simp -dsimp (maxSteps := 4000000) (disch := first | omega | assumption | (simp only [FB, Nat.reduceAdd]; done) | (simp only [LB]; omega)) only [WB, Nat.reduceSub, Nat.reduceAdd, Int.reduceEq, Int.reduceNe, Int.reduceLT, Int.reduceLE, Int.reduceAdd, Int.reduceSub, Int.reduceMul, Int.reduceNeg, Int.reduceToNat, Nat.reduceEqDiff, Nat.reduceLT, Nat.reduceLeDiff, Nat.reduceMul, List.replicate, reduceCtorEq, TB, NB, MB, ]
  refine ⟨trivial, ?_⟩
  refine csimd_seq ?_
  refine csimd_seq (csimd_W mixed plain hG (by simp only; omega) ?_)
  simp -dsimp (maxSteps := 4000000) (disch := first | omega | assumption | (simp only [FB, Nat.reduceAdd]; done) | (simp only [LB]; omega)) only [WB, Nat.reduceSub, Nat.reduceAdd, Int.reduceEq, Int.reduceNe, Int.reduceLT, Int.reduceLE, Int.reduceAdd, Int.reduceSub, Int.reduceMul, Int.reduceNeg, Int.reduceToNat, Nat.reduceEqDiff, Nat.reduceLT, Nat.reduceLeDiff, Nat.reduceMul, List.replicate, reduceCtorEq, TB, NB, MB, ]
  refine ⟨trivial, ?_⟩
  refine csimd_block ?_
  refine csimd_range (f := f) (first := #[]) (captured := #[.pointer (some ⟨q, o, none⟩)]) (fd := fd) (R := fun v b => ∃ ss, R ss ∧ ∃ n h r0, b = ⟨n, h, a.next, []⟩ ∧ Box58 a.next a.heap r0 ss n h ∧ r0.state = .ready ∧ r0.pending = none) plain (by simp -dsimp (maxSteps := 4000000) (disch := first | omega | assumption | (simp only [FB, Nat.reduceAdd]; done) | (simp only [LB]; omega)) only [WB, Nat.reduceSub, Nat.reduceAdd, Int.reduceEq, Int.reduceNe, Int.reduceLT, Int.reduceLE, Int.reduceAdd, Int.reduceSub, Int.reduceMul, Int.reduceNeg, Int.reduceToNat, Nat.reduceEqDiff, Nat.reduceLT, Nat.reduceLeDiff, Nat.reduceMul, List.replicate, reduceCtorEq, TB, NB, MB, ]) hfd hbd (by simp only; omega) ?_ ?_
  · generalize hr0 : ringA _ _ _ _ _ _ = a1
    unfold ringA at hr0
    simp only [AW.new] at hr0
    generalize hrr : Loop.mk _ _ _ _ _ _ _ _ = r0 at hr0
    subst hr0
    refine callsim_mono (R := fun v b => ∃ ss, R ss ∧ ∃ n h, b = ⟨n, h, a.next, []⟩ ∧ Box58 a.next a.heap r0 ss n h) ?_ ?_
    · have hst : look (a.next + 2) ((a.next + 2, Blk.obj (.loop r0)) :: (a.next + 1, Blk.obj (.deferred (some []))) :: (a.next, Blk.cells [.slice none 0 0] true) :: a.heap) = some (.obj (.loop r0)) := look_self
      refine hit _ _ (fun ss b => ∃ n h, b = ⟨n, h, a.next, []⟩ ∧ Box58 a.next a.heap r0 ss n h) (by simp only; omega) (by simp only; omega) (by simp only; omega) (fun i hi => ?_) ⟨?_, ?_, ?_, ?_, ?_⟩
      · show look i _ = look i _
        rw [look_miss (by omega), look_miss (by omega), look_miss (by omega)]
      · refine ⟨_, _, rfl, ⟨_, ?_, .inl ⟨rfl, rfl⟩⟩, ?_, hst, Nat.le_refl _, ?_, fun i hi => ?_⟩
        · rw [look_miss (by omega), look_miss (by omega), look_self]
        · rw [look_miss (by omega), look_self]
        · intro p hp hk
          rcases List.mem_cons.1 hp with rfl | hp
          · simp only at hk; omega
          rcases List.mem_cons.1 hp with rfl | hp
          · simp only at hk; omega
          rcases List.mem_cons.1 hp with rfl | hp
          · simp only at hk; omega
          · exact hcl p hp (by omega)
        · rw [look_miss (by omega), look_miss (by omega), look_miss (by omega)]
      · rintro pre b ⟨n, h, rfl, hB⟩
        have := hB.n3
        refine ⟨rfl, hB.n3, fun i hi => hi, fun i hi _ => ?_⟩
        show look i h = look i _
        simp only at hi
        rw [hB.old i hi, look_miss (by omega), look_miss (by omega), look_miss (by omega)]
      · rintro pre b ⟨n, h, rfl, hB⟩
        exact hB.cl.noobj
      · rintro pre b ⟨n, h, rfl, hB⟩ i hi
        show look i h = look i _
        rw [hB.old i hi, look_miss (by omega), look_miss (by omega), look_miss (by omega)]
      · rintro pre x b ⟨n, h, rfl, hB⟩ hpre hS
        obtain ⟨u, hu, ho⟩ := hB.b0
        obtain ⟨up, uc, rfl⟩ := ho.shape
        have hn3 := hB.n3
        have hr1 : r0.params = #[7] := by rw [← hrr]
        have hr2 : r0.state = .ready := by rw [← hrr]
        have hasg := congrArg Loop.assign hrr
        have hbody := congrArg Loop.body hrr
        have htm := congrArg Loop.tmps hrr
        simp only at hasg hbody htm
        refine round_rule hB.b2 (by rw [hr1]; rfl) ?_
        rw [← hasg, hr1, ← htm]
        simp -dsimp (maxSteps := 4000000) (disch := first | omega | assumption | (simp only [FB, Nat.reduceAdd]; done) | (simp only [LB]; omega)) only [WB, Nat.reduceSub, Nat.reduceAdd, Int.reduceEq, Int.reduceNe, Int.reduceLT, Int.reduceLE, Int.reduceAdd, Int.reduceSub, Int.reduceMul, Int.reduceNeg, Int.reduceToNat, Nat.reduceEqDiff, Nat.reduceLT, Nat.reduceLeDiff, Nat.reduceMul, List.replicate, reduceCtorEq, TB, NB, MB, List.zip_cons_cons, List.zip_nil_left, List.zip_nil_right, List.foldl_cons, List.foldl_nil, List.set_cons_succ, List.set_cons_zero]
        refine ⟨trivial, trivial, r0, hB.b2, hr2, ?_⟩
        generalize hrb : { r0 with state := LoopState.busy } = rb
        rw [← hbody]
        have hfin : ({ rb with state := LoopState.ready, pending := none } : Loop) = r0 := by
          rw [← hrb, ← hrr]
        simp only [write_soil, soilW_nil (show a.next ≤ a.next + 2 by omega)]
        simp -dsimp (maxSteps := 4000000) (disch := first | omega | assumption | (simp only [FB, Nat.reduceAdd]; done) | (simp only [LB]; omega)) only [WB, Nat.reduceSub, Nat.reduceAdd, Int.reduceEq, Int.reduceNe, Int.reduceLT, Int.reduceLE, Int.reduceAdd, Int.reduceSub, Int.reduceMul, Int.reduceNeg, Int.reduceToNat, Nat.reduceEqDiff, Nat.reduceLT, Nat.reduceLeDiff, Nat.reduceMul, List.replicate, reduceCtorEq, TB, NB, MB, hu, load_one agg25, look_wput_ne, buildSl1 sl25]
        have ho2 : OutG encN 2 ((n, Blk.cells [Value.int .u32 x] true) :: putAt (a.next + 2) (Blk.obj (Obj.loop rb)) h) (n + 1) (a.next + 3) (.slice up pre.length uc) pre := by
          refine ho.keep (by omega) fun j h1 h2 => ?_
          rw [look_miss (by omega), look_wput_ne (by omega)]
        obtain ⟨v', h2, e1, e2, e3, e4⟩ := app_cl (bs := a.next) (q := ⟨n, 0, some 0⟩) (cq := 1) (x := x) app25 rfl encN_len encN_one ho2 (by omega) (by omega) (by rw [look_self]; rfl) (by omega) (hB.cl.put (by omega)).cons
        rw [e1]
        have hk : ∀ j, j < a.next + 2 → look j h2 = look j h := by
          intro j hj
          rw [e3 j (by omega), look_miss (by omega), look_wput_ne (by omega)]
        have hk7 : look (a.next + 2) h2 = some (.obj (.loop rb)) := by
          rw [e3 _ (by omega), look_miss (by omega), look_wput_self, hB.b2]; rfl
        obtain ⟨vp, vc, rfl⟩ := e2.shape
        simp -dsimp (maxSteps := 4000000) (disch := first | omega | assumption | (simp only [FB, Nat.reduceAdd]; done) | (simp only [LB]; omega)) only [WB, Nat.reduceSub, Nat.reduceAdd, Int.reduceEq, Int.reduceNe, Int.reduceLT, Int.reduceLE, Int.reduceAdd, Int.reduceSub, Int.reduceMul, Int.reduceNeg, Int.reduceToNat, Nat.reduceEqDiff, Nat.reduceLT, Nat.reduceLeDiff, Nat.reduceMul, List.replicate, reduceCtorEq, TB, NB, MB, hk a.next (by omega), hu, storeVar_eq size25, write_soil, List.set_cons_zero, hk7]
        refine ⟨rb, rfl, rfl, _, _, rfl, ?_⟩
        change Box58 a.next a.heap r0 (pre ++ [x]) (n + 2) (putAt (a.next + 2) (.obj (.loop { rb with state := .ready, pending := none })) (putAt a.next _ h2))
        rw [hfin]
        refine ⟨⟨.slice vp (pre ++ [x]).length vc, ?_, ?_⟩, ?_, ?_, by omega, (e4.put (by omega)).put (by omega), fun i hi => ?_⟩
        · rw [look_wput_ne (by omega), look_wput_self, hk _ (by omega), hu]; rfl
        · refine e2.keep (by omega) fun j h1 h2 => ?_
          rw [look_wput_ne (by omega), look_wput_ne (by omega)]
        · rw [look_wput_ne (by omega), look_wput_ne (by omega), hk _ (by omega)]; exact hB.b1
        · rw [look_wput_self, look_wput_ne (by omega), hk7]; rfl
        · rw [look_wput_ne (by omega), look_wput_ne (by omega), hk _ (by omega)]; exact hB.old i hi
    · rintro v b ⟨ss, hR, n, h, rfl, hB⟩
      exact ⟨ss, hR, n, h, r0, rfl, hB, by rw [← hrr], by rw [← hrr]⟩
  · rintro v a3 ⟨ss, hR, n, h, r0, rfl, hB, hs, hp⟩
    obtain ⟨u, hu, ho⟩ := hB.b0
    refine ⟨r0, hB.b2, by rw [hs]; simp, hp, ?_⟩
    have hn3 := hB.n3
    refine ⟨rfl, rfl, csimd_W mixed plain hG (show a.next ≤ n by omega) ?_⟩
    simp only [write_soil, soilW_nil (show a.next ≤ a.next + 1 + 1 by omega)]
    obtain ⟨up, uc, rfl⟩ := ho.shape
    simp -dsimp (maxSteps := 4000000) (disch := first | omega | assumption | (simp only [FB, Nat.reduceAdd]; done) | (simp only [LB]; omega)) only [WB, Nat.reduceSub, Nat.reduceAdd, Int.reduceEq, Int.reduceNe, Int.reduceLT, Int.reduceLE, Int.reduceAdd, Int.reduceSub, Int.reduceMul, Int.reduceNeg, Int.reduceToNat, Nat.reduceEqDiff, Nat.reduceLT, Nat.reduceLeDiff, Nat.reduceMul, List.replicate, reduceCtorEq, TB, NB, MB, hu, hB.b1, load_one agg25, write_soil]
    generalize Blk.obj (Obj.loop _) = X
    have ho' : OutG encN 2 (putAt (a.next + 1) (Blk.obj (.deferred none)) (putAt (a.next + 2) X h)) n (a.next + 3) (.slice up ss.length uc) ss := ho.keep (Nat.le_refl _) fun j h1 h2 => by rw [look_wput_ne (by omega), look_wput_ne (by omega)]
    have hl := leave_list' (a := a) (bs := a.next) ho' (by omega)
    exact ⟨⟨ss, hR, hl⟩, hl.evo hb⟩
end Go.Proofs.YtlbmjpmonaekgaaAM
