/- Chapter 14: the iterators, seen from the evaluator. -/
import Derived.Test.YtlbmjpmonaekgaaU1
namespace Go.Proofs.YtlbmjpmonaekgaaAM
open Go Go.RowKit Go.WideElems
set_option linter.unusedVariables false
set_option linter.unusedSimpArgs false
set_option maxRecDepth 10000
set_option maxHeartbeats 4000000

section
variable {P : Program} {G : Gives}
theorem yield_of {l : Nat} {args : Array Value} {w : World} {Q : Value → World → Prop} (h : RoundTo P l args w Q) (m : Nat) : YieldAt Fence.wide m P l args w fun e w' => ∃ v, e = .returned v ∧ Q v w' := by
  obtain ⟨f, tmps, x, y, e, hr⟩ := h
  refine ⟨f, tmps, x, y, e, trivial, fun c cs _ => ?_⟩
  obtain ⟨v, w', hq, hs⟩ := hr c cs
  exact ⟨.returned v, w', ⟨v, rfl, hq⟩, comesIn_wide.2 hs⟩
def NoObj (n : Nat) (b : AW) : Prop := ∀ i o, n ≤ i → b.get i ≠ some (.obj o)
/-- What the rounds of a loop keep, as the evaluator sees it. -/
structure Iter (P : Program) (G : Gives) (l : Nat) (a : AW) (k0 N : Nat) (S : Int → Prop) (I : List Int → AW → Prop) : Prop where
  start : I [] a
  evo : ∀ pre b, I pre b → Evo a b
  noobj : ∀ pre b, I pre b → NoObj a.next b
  keep : ∀ pre b, I pre b → ∀ i, i < k0 → b.get i = a.get i
  round : ∀ pre x b, I pre b → pre.length < N → S x → WRound P G l [.int .u32 x] b fun v b' => v = .bool true ∧ I (pre ++ [x]) b'
def JJ (ρ : Ren) (a : AW) (w : World) (I : List Int → AW → Prop) (pre : List Int) (W : World) : Prop := ∃ ρ' b, I pre b ∧ Step ρ a.next w ρ' b W
section
variable {ρ : Ren} {a : AW} {w : World} {l k0 N : Nat} {S : Int → Prop} {I : List Int → AW → Prop} (hw : WRel ρ a w) (it : Iter P G l a k0 N S I)
include hw it
theorem jj_apart {pre : List Int} {ρ' : Ren} {b : AW} {W : World} (hI : I pre b) (st : Step ρ a.next w ρ' b W) {r : Nat} {o : Obj} (hr : w.heap.size ≤ r) (ho : W.heap[r]? = some o) (hwk : o.isWalk = true) (i : Nat) (I0 : Info) (e : ρ' i = some I0) : I0.b ≠ r := by
  rintro rfl
  by_cases hi : i < a.next
  · have := hw.bound (st.ext.some hi e); omega
  · obtain ⟨bl, o', g1, g2, g3⟩ := st.rel.blk _ _ e
    rw [ho] at g2; cases g2
    cases g3 with
    | cells => simp [Obj.isWalk] at hwk
    | holey => simp [Obj.isWalk] at hwk
    | obj h => exact it.noobj _ _ hI i _ (by omega) g1
theorem jj_from : AbidesFrom w.heap.size (JJ ρ a w I) := by
  rintro s W W' row ⟨ρ', b, hI, st⟩ hg hr
  have key : ∀ i I0, ρ' i = some I0 → W'.heap[I0.b]? = W.heap[I0.b]? := by
    intro i I0 e
    refine hg.block _ (st.rel.bound e) fun hrow => ?_
    obtain ⟨hge, o, ho, hwk⟩ := hr _ hrow.symm
    exact jj_apart hw it hI st hge ho hwk i I0 e rfl
  refine ⟨ρ', b, hI, ⟨st.rel.falls, st.rel.lt, fun i I e => ?_, st.rel.has, st.rel.inj⟩, st.ext, st.img, fun c hc hn => ?_, Nat.le_trans st.size hg.size, hg.os.trans st.os, hg.tape.trans st.tape, hg.output.trans st.output⟩
  · obtain ⟨bl, o, g1, g2, g3⟩ := st.rel.blk i I e
    exact ⟨bl, o, g1, (key i I e).trans g2, g3⟩
  · refine (hg.block c (Nat.lt_of_lt_of_le hc st.size) fun hrow => ?_).trans (st.frame c hc hn)
    have := (hr _ hrow.symm).1
    omega
theorem jj_yield (hm : P.follows .mixedOrders = true) (hn : plainNames P = true) (hG : G.Sound P) (hb : a.base ≤ a.next) (hl : l < a.next) {l' : Nat} (hl' : ∀ I0, ρ l = some I0 → l' = I0.b) (m : Nat) {pre : List Int} {x : Int} {W : World} (hj : JJ ρ a w I pre W) (hN : pre.length < N) (hS : S x) :
    YieldAt Fence.wide m P l' #[.int .u32 x] W fun e W' => e = .returned (.bool true) ∧ JJ ρ a w I (pre ++ [x]) W' ∧ WKept w.heap.size W W' := by
  obtain ⟨ρ', b, hI, st⟩ := hj
  obtain ⟨n, v, b', hc, rfl, hI'⟩ := it.round pre x b hI hN hS
  have ev := it.evo _ _ hI
  obtain ⟨ev', sim⟩ := (sound_all hm hn hG n n (Nat.le_refl _)).2.2.2.2 _ _ _ _ _ hc (ev.le hb)
  have h := sim ρ' W l' #[.int .u32 x] st.rel (Nat.lt_of_lt_of_le hl st.ext.1) (fun I0 e => hl' I0 (st.ext.some hl e)) (.one (.int _ _))
  obtain ⟨fn, tmps, asg, bd, y1, y2⟩ := yield_of h m
  refine ⟨fn, tmps, asg, bd, y1, y2.mono ?_⟩
  rintro e W' ⟨v', rfl, ρ'', st2, hv⟩
  cases hv
  refine ⟨rfl, ⟨ρ'', b', hI', st.trans st2⟩, fun r o hr ho hwk => ?_⟩
  have hlt : r < W.heap.size := by
    rcases Nat.lt_or_ge r W.heap.size with h | h
    · exact h
    · rw [Array.getElem?_eq_none h] at ho; cases ho
  exact (st2.frame r hlt fun i I0 e _ => jj_apart hw it hI st hr ho hwk i I0 e).trans ho
omit hw in
theorem jj_same {pre : List Int} {ρ' : Ren} {b : AW} {W : World} (hk : k0 ≤ a.next) (hI : I pre b) (st : Step ρ a.next w ρ' b W) {r : Nat} (hr : r < k0) {bl : Blk} (hg : a.get r = some bl) {J : Info} (e : ρ r = some J) : ρ' r = some J ∧ b.get r = some bl := by
  have h1 := (it.keep _ _ hI r hr).trans hg
  obtain ⟨J', e'⟩ := st.rel.has _ _ h1
  have := st.ext.some (Nat.lt_of_lt_of_le hr hk) e'
  rw [e] at this; cases this
  exact ⟨e', h1⟩
omit hw in
theorem jj_map {pre : List Int} {W : World} (hk : k0 ≤ a.next) (hj : JJ ρ a w I pre W) {r : Nat} (hr : r < k0) {es : Array MapEntry} {clock : Nat} {ks : List Int} (hg : a.get r = some (.obj (.map es clock))) (hs : setU es clock = some ks) {J : Info} (e : ρ r = some J) : W.heap[J.b]? = some (.map es clock) := by
  obtain ⟨ρ', b, hI, st⟩ := hj
  obtain ⟨e', h1⟩ := jj_same it hk hI st hr hg e
  obtain ⟨bl, o, g1, g2, g3⟩ := st.rel.blk _ _ e'
  rw [h1] at g1; cases g1
  generalize hB : Blk.obj (.map es clock) = B at g3
  cases g3 with
  | cells => cases hB
  | holey => cases hB
  | obj hoo =>
    injection hB with hB
    subst hB
    cases hoo with
    | map n hes =>
      obtain ⟨z1, -, z3, -⟩ := setU_inv hs
      have := es_same hes z1 fun x hx => (z3 x hx).2
      rw [g2]
      rename_i es'
      exact congrArg (fun x => some (Obj.map x clock)) (Array.ext' this)
omit hw in
theorem jj_cell {pre : List Int} {W : World} (hk : k0 ≤ a.next) (hj : JJ ρ a w I pre W) {q o : Nat} {c : List Value} {v : Value} (hq : q < k0) (hg : a.get q = some (.cells c true)) (ho : c[o]? = some v) {J : Info} (e : ρ q = some J) :
    ∃ v' ρ' K, W.cell? ⟨J.b, o + J.sh, none⟩ = some v' ∧ VRel ρ' K v v' ∧ ∀ i I0 bl, i < k0 → a.get i = some bl → ρ i = some I0 → ρ' i = some I0 := by
  obtain ⟨ρ', b, hI, st⟩ := hj
  obtain ⟨e', h1⟩ := jj_same it hk hI st hq hg e
  obtain ⟨I0, cc, te, fr, eI, gI, hcI, -⟩ := blk_view st.rel (.inl ⟨_, h1⟩)
  rw [e'] at eI; cases eI
  obtain ⟨v', hm1, hm2⟩ := hcI o _ ho
  refine ⟨v', ρ', b.next, ?_, hm2, fun i I1 bl hi hgi ei => (jj_same it hk hI st hi hgi ei).1⟩
  simp only [World.cell?, gI]
  simpa using hm1
end
end
section
variable {a : AW} {k0 l q o r : Nat} {c : List Value} {es : Array MapEntry} {clock : Nat} {ks : List Int} {I : List Int → AW → Prop} {G : Gives}
theorem func_arg {ρ : Ren} {K l : Nat} {v' : Value} (h : VRel ρ K (.func (.yield l) #[] #[]) v') : ∃ l', v' = .func (.yield l') #[] #[] ∧ ∀ I0, ρ l = some I0 → l' = I0.b := by
  cases h with
  | func hfn hf h1 hcl h2 =>
    cases hfn with
    | yield hl hl1 =>
      rename_i f' c' l'
      have e1 : f' = #[] := Array.eq_empty_of_size_eq_zero (by simpa using hf.symm)
      have e2 : c' = #[] := Array.eq_empty_of_size_eq_zero (by simpa using hcl.symm)
      subst e1 e2
      exact ⟨_, rfl, hl1⟩
/-- The keys of a set. -/
theorem iter52 (hG : G.Sound Try.prog) (hb : a.base ≤ a.next) (hk : k0 ≤ a.next) (hq : q < k0) (hr : r < k0) (hg : a.get q = some (.cells c true)) (ho : c[o]? = some (.map (some r))) (hmap : a.get r = some (.obj (.map es clock))) (hs : setU es clock = some ks) (hl : l < a.next) (it : Iter Try.prog G l a k0 ks.length (fun x => x ∈ ks) I) :
    CallSim Try.prog 52 #[.func (.yield l) #[] #[], .pointer (some ⟨q, o, none⟩)] a fun v b => ∃ ss : List Int, ss.Perm ks ∧ I ss b := by
  intro ρ w args' hw ha
  obtain ⟨args'⟩ := args'
  cases ha with
  | cons h1 hr1 => cases hr1 with
    | cons h2 hr2 =>
      cases hr2
      obtain ⟨l', rfl, hl'⟩ := func_arg h1
      cases h2 with
      | ptr hk2 hs2 hp =>
        obtain ⟨I0, e0⟩ := hw.has _ _ hg
        obtain ⟨J, eJ⟩ := hw.has _ _ hmap
        obtain rfl := hp I0 e0
        obtain ⟨D, d1, d2, d3⟩ := own_u32 hs
        have hJ0 : JJ ρ a w I [] w := ⟨ρ, a, it.start, .refl hw⟩
        have hmp := fun pre W (hj : JJ ρ a w I pre W) => jj_map it hk hj hr hmap hs eJ
        obtain ⟨v', ρ', K, c1, c2, c3⟩ := jj_cell it hk hJ0 hq hg ho e0
        cases c2 with
        | map hk3 hm3 =>
          obtain rfl := hm3 J (c3 r J _ hr hmap eJ)
          refine .inr ⟨names_enter plain Try.func52 rfl _ w, ?_⟩
          have hwalk := keysU_walk 2 (by omega) l' I0.b (o + I0.sh) J.b es.size D ks (setU_inv hs).2.2.2.2.2.1 d2 (.map es clock) (JJ ρ a w I) w
            (fun pre x W1 hj hlt hx => jj_yield hw it mixed plain hG hb hl hl' _ hj (by omega) hx) hmp (jj_from hw it) c1 (d3 w J.b (hmp _ _ hJ0)) hJ0
          refine ((callsIn_wide (n := 2)).1 hwalk).mono ?_
          rintro e W' ⟨rfl, ss, hp, ρ'', b, hI, st⟩
          exact ⟨_, rfl, .tuple #[], b, ρ'', ⟨ss, hp, hI⟩, it.evo _ _ hI, st, .tuple rfl fun i p => by simp at p⟩
/-- A row of numbers, as it reads. -/
def numsA : List Value → Option (List Int)
  | [] => some []
  | .int .u32 x :: r => (numsA r).map (x :: ·)
  | _ => none
theorem numsA_eq : ∀ {cs : List Value} {xs}, numsA cs = some xs → cs = xs.map (Value.int .u32)
  | [], xs, h => by cases h; rfl
  | .int .u32 x :: r, xs, h => by
    unfold numsA at h
    cases hr : numsA r with
    | none => rw [hr] at h; cases h
    | some l =>
      rw [hr] at h
      cases h
      rw [numsA_eq hr]; rfl
theorem numsA_map : ∀ xs : List Int, numsA (xs.map (Value.int .u32)) = some xs
  | [] => rfl
  | x :: r => by show (numsA (r.map _)).map _ = _; rw [numsA_map r]; rfl
def rowU (v : Value) (a : AW) : Option (List Int) := match v with
  | .slice none 0 0 => some []
  | .slice (some p) n m => match a.get p.block with
    | some (.cells cs true) => if p.off = 0 ∧ n = cs.length ∧ m = n ∧ n ≤ 60000 then numsA cs else none
    | _ => none
  | _ => none
/-- What is free: the row, then the given set. -/
theorem iter36 (hG : G.Sound Try.prog) (hb : a.base ≤ a.next) (hk : k0 ≤ a.next) (hq : q < k0) {pb po : Nat} (hpb : pb < k0) (hr : r < k0) (hg : a.get q = some (.cells c true)) (ho : c[o]? = some (.pointer (some ⟨pb, po, none⟩))) {cp : List Value} {v9 : Value} {xs : List Int}
    (hgp : a.get pb = some (.cells cp true)) (ho0 : cp[po]? = some v9) (ho2 : cp[po + 2]? = some (.map (some r))) (hrow : rowU v9 a = some xs) (hrk : ∀ p n m, v9 = .slice (some p) n m → p.block < k0)
    (hmap : a.get r = some (.obj (.map es clock))) (hs : setU es clock = some ks) (hl : l < a.next) (it : Iter Try.prog G l a k0 (xs.length + ks.length) (fun x => x ∈ xs ∨ x ∈ ks) I) :
    CallSim Try.prog 36 #[.func (.yield l) #[] #[], .pointer (some ⟨q, o, none⟩)] a fun v b => ∃ ss : List Int, ss.Perm ks ∧ I (xs ++ ss) b := by
  intro ρ w args' hw ha
  obtain ⟨args'⟩ := args'
  cases ha with
  | cons h1 hr1 => cases hr1 with
    | cons h2 hr2 =>
      cases hr2
      obtain ⟨l', rfl, hl'⟩ := func_arg h1
      cases h2 with
      | ptr hk2 hs2 hp =>
        obtain ⟨I0, e0⟩ := hw.has _ _ hg
        obtain ⟨IP, eP⟩ := hw.has _ _ hgp
        obtain ⟨J, eJ⟩ := hw.has _ _ hmap
        obtain rfl := hp I0 e0
        obtain ⟨D, d1, d2, d3⟩ := own_u32 hs
        have hJ0 : JJ ρ a w I [] w := ⟨ρ, a, it.start, .refl hw⟩
        have hmp := fun pre W (hj : JJ ρ a w I pre W) => jj_map it hk hj hr hmap hs eJ
        have f1 : ∀ pre W, JJ ρ a w I pre W → W.cell? ⟨I0.b, o + I0.sh, none⟩ = some (.pointer (some ⟨IP.b, po + IP.sh, none⟩)) := fun pre W hj => by
          obtain ⟨v', ρ', K, c1, c2, c3⟩ := jj_cell it hk hj hq hg ho e0
          cases c2 with
          | ptr hk3 hs3 hp3 => rw [c1, hp3 IP (c3 pb IP _ hpb hgp eP)]
        have f2 : ∀ pre W, JJ ρ a w I pre W → W.cell? ⟨IP.b, po + IP.sh + 2, none⟩ = some (.map (some J.b)) := fun pre W hj => by
          obtain ⟨v', ρ', K, c1, c2, c3⟩ := jj_cell it hk hj hpb hgp ho2 eP
          cases c2 with
          | map hk3 hm3 =>
            rw [show po + IP.sh + 2 = po + 2 + IP.sh by omega, c1, hm3 J (c3 r J _ hr hmap eJ)]
        obtain ⟨v', ρ', K, c1, c2, c3⟩ := jj_cell it hk hJ0 hpb hgp ho0 eP
        obtain ⟨pp, cc, nb, no, rfl, hv⟩ : ∃ pp cc nb no, v' = .slice pp xs.length cc ∧ (xs = [] ∨ (pp = some ⟨nb, no, none⟩ ∧ xs.length ≤ cc ∧ ∀ pre W, JJ ρ a w I pre W → ∀ j x, xs[j]? = some x → W.cell? ⟨nb, no + j, none⟩ = some (.int .u32 x))) := by
          unfold rowU at hrow
          split at hrow
          · cases hrow
            cases c2
            exact ⟨none, 0, 0, 0, rfl, .inl rfl⟩
          · rename_i p n m
            split at hrow
            · rename_i cs hcs
              split at hrow
              · rename_i hc
                obtain ⟨q1, q3, q4, q5⟩ := hc
                have hx := numsA_eq hrow
                have hlen : n = xs.length := by rw [q3, hx, List.length_map]
                cases c2 with
                | @slice _ p' _ _ c' hK hp1 hln hcc h0 h2' =>
                  obtain ⟨IN, eN⟩ := hw.has _ _ hcs
                  have hpk := hrk _ _ _ rfl
                  refine ⟨some p', c', p'.block, p'.off, by rw [hlen], ?_⟩
                  rcases Nat.eq_zero_or_pos xs.length with h | h
                  · exact .inl (List.eq_nil_of_length_eq_zero h)
                  · have hp2 := (hp1 IN (c3 _ IN _ hpk hcs eN)).resolve_left (by omega)
                    refine .inr ⟨by rw [hp2], by omega, fun pre W hj j x hjx => ?_⟩
                    obtain ⟨v2, ρ2, K2, g1, g2, -⟩ := jj_cell it hk hj hpk hcs (o := j) (v := .int .u32 x) (by rw [hx, List.getElem?_map, hjx]; rfl) eN
                    cases g2
                    rw [hp2]
                    simp only [q1]
                    rw [Nat.zero_add, Nat.add_comm]
                    exact g1
              · cases hrow
            · cases hrow
          · cases hrow
        have hxl : xs.length < 4611686018427387904 := by
          unfold rowU at hrow
          split at hrow
          · cases hrow; simp
          · split at hrow
            · split at hrow
              · rename_i hc
                obtain ⟨q1, q3, q4, q5⟩ := hc
                have hx := congrArg List.length (numsA_eq hrow)
                rw [List.length_map] at hx
                omega
              · cases hrow
            · cases hrow
          · cases hrow
        refine .inr ⟨names_enter plain Try.func36 rfl _ w, ?_⟩
        have hwalk := freeU_walk 2 (by omega) l' I0.b (o + I0.sh) IP.b (po + IP.sh) J.b es.size D ks (setU_inv hs).2.2.2.2.2.1 d2 (.map es clock) (JJ ρ a w I) pp xs nb no cc hxl hv w
          (fun pre x W1 hj hlt hx => jj_yield hw it mixed plain hG hb hl hl' _ hj (by omega) hx) (fun pre W hj => ⟨hmp pre W hj, f1 pre W hj, f2 pre W hj, d3 W J.b (hmp pre W hj), by obtain ⟨_, _, _, st⟩ := hj; exact st.size⟩) c1 (jj_from hw it) hJ0
        refine ((callsIn_wide (n := 2)).1 hwalk).mono ?_
        rintro e W' ⟨rfl, ss, hp, ρ'', b, hI, st⟩
        exact ⟨_, rfl, .tuple #[], b, ρ'', ⟨ss, hp, hI⟩, it.evo _ _ hI, st, .tuple rfl fun i p => by simp at p⟩
end
end Go.Proofs.YtlbmjpmonaekgaaAM
