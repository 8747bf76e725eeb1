/- Chapter 14: what the keys' iterator gives, keys being numbers of 32 bits. -/
import Derived.Test.YtlbmjpmonaekgaaProg
import Derived.Shelf.SlIter.Keys
import Derived.RangeFuncGives
namespace Go.Proofs.YtlbmjpmonaekgaaAM
open Go Go.Proofs Go.RowKit Go.Maps Go.Sort Go.Shelf
set_option maxRecDepth 100000
set_option maxHeartbeats 1000000
set_option linter.unusedVariables false

theorem key_u32 {P : Program} {k : TypeId} (hk : P.underlying k = some (.int .u32)) {key : Value} {kl : Lit} (h : keyOf P k key = some kl) : ∃ x : Int, key = .int .u32 x ∧ kl = .int .u32 x ∧ (Lit.int .u32 x).wf = true := by
  cases key <;> simp [keyOf, hk, mapKey] at h
  rename_i q a
  obtain ⟨⟨rfl, hw⟩, rfl⟩ := h
  exact ⟨a, rfl, rfl, hw⟩
/-- What has come, and what is still to come. -/
def ColU (ks : List Int) (left : Lit → Bool) (ss : List Int) : Prop :=
  ss.Nodup ∧ (∀ x ∈ ss, x ∈ ks ∧ left (.int .u32 x) = false) ∧ ∀ x ∈ ks, x ∉ ss → left (.int .u32 x) = true
theorem ColU.step {ks ss : List Int} {left : Lit → Bool} (h : ColU ks left ss) {x : Int} (hx : x ∈ ks) (hl : left (.int .u32 x) = true) : ColU ks (fun z => left z && !z.sameKey (.int .u32 x)) (ss ++ [x]) := by
  have hnew : x ∉ ss := fun hm => by have := (h.2.1 x hm).2; rw [hl] at this; cases this
  refine ⟨List.nodup_append.2 ⟨h.1, by simp, fun a ha b hb => by simp at hb; subst hb; exact fun e => hnew (e ▸ ha)⟩, fun y hy => ?_, fun y hy hn => ?_⟩
  · rcases List.mem_append.1 hy with hy | hy
    · exact ⟨(h.2.1 y hy).1, by simp [(h.2.1 y hy).2]⟩
    · obtain rfl : y = x := by simpa using hy
      exact ⟨hx, by simp [Lit.sameKey]⟩
  · have h1 : y ∉ ss := fun hm => hn (List.mem_append_left _ hm)
    have h2 : y ≠ x := fun e => hn (by simp [e])
    simp [h.2.2 y hy h1, h2, Lit.sameKey]
theorem ColU.perm {ks ss : List Int} {left : Lit → Bool} (h : ColU ks left ss) (hn : ks.Nodup) (hl : ∀ kl, left kl = false) : ss.Perm ks := by
  refine (List.perm_ext_iff_of_nodup h.1 hn).2 fun x => ⟨fun hx => (h.2.1 x hx).1, fun hx => ?_⟩
  apply Classical.byContradiction
  intro hc
  have := h.2.2 x hx hc
  rw [hl] at this; cases this
/-- Map objects and iterators laid from here on lie as they lay. -/
def WKept (B : Nat) (W W' : World) : Prop := ∀ r o, B ≤ r → W.heap[r]? = some o → o.isWalk = true → W'.heap[r]? = some o
theorem ranges_keep {H : Type} {P : Program} {k : TypeId} {R : Value → Option (DataW H × List MemPlace)} {w w' : World} {b r n B : Nat} {D : DataW H} {left : Lit → Bool} {cnt : Nat}
    (h : w.ranges P k R b r n D left cnt) (h1 : w'.heap[b]? = w.heap[b]?) (hB : B ≤ r) (h2 : WKept B w w') : w'.ranges P k R b r n D left cnt := by
  obtain ⟨es, clock, since, seen, c0, hb, F, hs, hD, hr, rest⟩ := h
  exact ⟨es, clock, since, seen, c0, h1.trans hb, F, hs, hD, h2 r _ hB hr rfl, rest⟩
/-- The iterator's body: every key comes once, in some order. -/
theorem keysU_walk {H : Type} (n : Nat) (hn : 1 ≤ n) (l Bm s b nn : Nat) (D0 : DataW H) (ks : List Int) (hnd : ks.Nodup) (hks : ∀ x, x ∈ ks ↔ Maps.has D0 (.int .u32 x) = true) {R : Value → Option (DataW H × List MemPlace)} (o : Obj) (J : List Int → World → Prop)
    (W : World) (hY : ∀ pre x W1, J pre W1 → pre.length < Maps.size D0 → x ∈ ks → YieldAt Fence.wide (n - 1) Try.prog l #[.int .u32 x] W1 fun e W' => e = .returned (.bool true) ∧ J (pre ++ [x]) W' ∧ WKept W.heap.size W1 W')
    (hM : ∀ pre W1, J pre W1 → W1.heap[b]? = some o)
    (hJ : AbidesFrom W.heap.size J) (hm : W.cell? ⟨Bm, s, none⟩ = some (.map (some b))) (hown : W.ownsMap Try.prog 27 R b nn D0) (h0 : J [] W) :
    CallsIn Fence.wide n Try.prog 52 #[.func (.yield l) #[] #[], .pointer (some ⟨Bm, s, none⟩)] W fun e W' => e = .returned (.tuple #[]) ∧ ∃ ss : List Int, ss.Perm ks ∧ J ss W' := by
  have hk27 := int_keyed (P := Try.prog) Try.underlying27
  refine callsIn_of_wp Try.func52 rfl trivial ?_ rfl
  simp only [Try.ntmps52, List.size_toArray, List.length_cons, List.length_nil, Nat.reduceAdd, Nat.reduceSub, Array.replicate_succ, Array.replicate_zero, List.push_toArray, List.append_toArray, List.nil_append, List.cons_append]
  gi_wp2_with (first
    | (gi_at_range; refine wpListIn_range_own _ rfl _ 55 rfl 27 60 hk27 Try.underlying55 _ b nn _ rfl hown ?_; intro W0 q1 q2 q3)
    | gi_in)
  go_frame
  gi_loopw [3] (fun _ wr => ∃ (left : Lit → Bool) (c : Nat) (got : List Int), wr.ranges Try.prog 27 R b W.heap.size nn D0 left c ∧ got.length + c ≤ Maps.size D0 ∧ ColU ks left got ∧ J got wr) (fun _ wr => wr.rangeLeft b W.heap.size)
  case atStart => exact ⟨_, _, [], q1, by simp, ⟨List.nodup_nil, fun x hx => (by cases hx), fun x hx _ => (hks x).1 hx⟩, hJ [] W W0 none h0 q2 (fun r e => by cases e)⟩
  case round =>
    obtain ⟨left, c, got, g1, g2, g3, g4⟩ := hrel
    gi_wp2_with (first
      | (gi_at_next; refine wpListIn_next_ranges _ rfl _ rfl 27 hk27 R (Value.int .u32) id (fun key kl hk => by obtain ⟨x, hx, _⟩ := key_u32 Try.underlying27 hk; exact ⟨x, hx⟩) (fun v _ _ => ⟨v, rfl⟩) b W.heap.size nn _ _ _ rfl g1 ?_ ?_)
      | gi_in)
    · intro z1 z2
      gi_wp2
      go_end0
      exact ⟨rfl, got, g3.perm hnd z2, g4⟩
    · intro x cc kl yd yp V2 c2 p1 p2 p3 p4 p5 p6 p7 p8 p9
      obtain ⟨y, e1, rfl, _⟩ := key_u32 Try.underlying27 p1
      obtain rfl : x = y := by injection e1
      have j2 : J got V2 := hJ got wr V2 (some W.heap.size) g4 p7 (fun r e => by cases e; exact ⟨Nat.le_refl _, g1.iter_walk⟩)
      have hxk : x ∈ ks := (hks x).2 (has_true_of_atKey p4)
      obtain ⟨fn, tmps, assign, body, y1, y2⟩ := hY got x V2 j2 (by omega) hxk
      clear p8
      gi_wp2
      refine y2.mono ?_
      rintro e V3 ⟨rfl, j3, k4⟩
      gi_wp2
      have g5 := ranges_keep p5 ((hM _ _ j3).trans (hM _ _ j2).symm) (Nat.le_refl _) k4
      go_roundw
      case rel => exact ⟨_, c2, got ++ [x], g5, by simp; omega, g3.step hxk p2, j3⟩
      case measure => rw [g5.left_eq, g1.left_eq]; exact p6
/-- The other iterator's body: the row's numbers, then every key. -/
theorem freeU_walk {H : Type} (n : Nat) (hn : 1 ≤ n) (l Bm s pb po b nn : Nat) (D0 : DataW H) (ks : List Int) (hnd : ks.Nodup) (hks : ∀ x, x ∈ ks ↔ Maps.has D0 (.int .u32 x) = true) {R : Value → Option (DataW H × List MemPlace)} (o : Obj) (J : List Int → World → Prop)
    (pp : Option Addr) (xs : List Int) (nb no c : Nat) (hlen : xs.length < 4611686018427387904)
    (hv : xs = [] ∨ (pp = some ⟨nb, no, none⟩ ∧ xs.length ≤ c ∧ ∀ pre W1, J pre W1 → ∀ j x, xs[j]? = some x → W1.cell? ⟨nb, no + j, none⟩ = some (.int .u32 x)))
    (W : World) (hY : ∀ pre x W1, J pre W1 → pre.length < xs.length + Maps.size D0 → x ∈ xs ∨ x ∈ ks → YieldAt Fence.wide (n - 1) Try.prog l #[.int .u32 x] W1 fun e W' => e = .returned (.bool true) ∧ J (pre ++ [x]) W' ∧ WKept W.heap.size W1 W')
    (hM : ∀ pre W1, J pre W1 → W1.heap[b]? = some o ∧ W1.cell? ⟨Bm, s, none⟩ = some (.pointer (some ⟨pb, po, none⟩)) ∧ W1.cell? ⟨pb, po + 2, none⟩ = some (.map (some b)) ∧ W1.ownsMap Try.prog 27 R b nn D0 ∧ W.heap.size ≤ W1.heap.size)
    (h9 : W.cell? ⟨pb, po, none⟩ = some (.slice pp xs.length c)) (hJ : AbidesFrom W.heap.size J) (h0 : J [] W) :
    CallsIn Fence.wide n Try.prog 36 #[.func (.yield l) #[] #[], .pointer (some ⟨Bm, s, none⟩)] W fun e W' => e = .returned (.tuple #[]) ∧ ∃ ss : List Int, ss.Perm ks ∧ J (xs ++ ss) W' := by
  have hk27 := int_keyed (P := Try.prog) Try.underlying27
  obtain ⟨m1, m2, m4, hown, _⟩ := hM _ _ h0
  refine callsIn_of_wp Try.func36 rfl trivial ?_ rfl
  simp only [Try.ntmps36, List.size_toArray, List.length_cons, List.length_nil, Nat.reduceAdd, Nat.reduceSub, Array.replicate_succ, Array.replicate_zero, List.push_toArray, List.append_toArray, List.nil_append, List.cons_append]
  gi_wp2
  gi_loopw [4, 11] (fun _ v11 wr => ∃ i : Nat, v11 = .int .i64 i ∧ i ≤ xs.length ∧ J (xs.take i) wr) (fun _ v11 _ => xs.length - (intOf v11).toNat)
  case atStart => exact ⟨0, rfl, by omega, by simpa using h0⟩
  case round =>
    obtain ⟨i, rfl, hi, hj⟩ := hrel
    obtain ⟨m1', m2', m4', hown', hsz'⟩ := hM _ _ hj
    by_cases hlt : i < xs.length
    · obtain ⟨x, hx⟩ : ∃ x, xs[i]? = some x := ⟨_, List.getElem?_eq_getElem hlt⟩
      rcases hv with rfl | ⟨rfl, hcap, hcells⟩
      · simp at hlt
      have hcx := hcells _ _ hj i x hx
      have hlx : (xs.take i).length < xs.length + Maps.size D0 := by rw [List.length_take]; omega
      obtain ⟨fn, tmps, assign, body, y1, y2⟩ := hY _ x _ hj hlx (.inl (List.mem_of_getElem? hx))
      have htk : xs.take i ++ [x] = xs.take (i + 1) := by rw [List.take_add_one, hx]; rfl
      rw [htk] at y2
      gi_wp2
      refine y2.mono ?_
      rintro e V3 ⟨rfl, j3, k4⟩
      gi_wp2
      go_roundw
      case rel => exact ⟨i + 1, rfl, by omega, j3⟩
      case measure =>
        simp only [intOf]; omega
    · obtain rfl : i = xs.length := by omega
      rename World => W9
      rw [List.take_of_length_le (Nat.le_refl _)] at hj
      gi_wp2_with (first
        | (gi_at_range; refine wpListIn_range_own _ rfl _ 55 rfl 27 60 hk27 Try.underlying55 _ b nn _ rfl hown' ?_; intro W0 q1 q2 q3)
        | gi_in)
      go_frame
      gi_loopw [5] (fun _ w2 => ∃ (left : Lit → Bool) (c : Nat) (got : List Int), w2.ranges Try.prog 27 R b W9.heap.size nn D0 left c ∧ got.length + c ≤ Maps.size D0 ∧ ColU ks left got ∧ J (xs ++ got) w2) (fun _ w2 => w2.rangeLeft b W9.heap.size)
      case atStart => exact ⟨_, _, [], q1, by simp, ⟨List.nodup_nil, fun x hx => (by cases hx), fun x hx _ => (hks x).1 hx⟩, by rw [List.append_nil]; exact hJ _ W9 W0 none hj q2 (fun r e => by cases e)⟩
      case round =>
        obtain ⟨left, c, got, g1, g2, g3, g4⟩ := hrel
        gi_wp2_with (first
          | (gi_at_next; refine wpListIn_next_ranges _ rfl _ rfl 27 hk27 R (Value.int .u32) id (fun key kl hk => by obtain ⟨x, hx, _⟩ := key_u32 Try.underlying27 hk; exact ⟨x, hx⟩) (fun v _ _ => ⟨v, rfl⟩) b W9.heap.size nn _ _ _ rfl g1 ?_ ?_)
          | gi_in)
        · intro z1 z2
          gi_wp2
          go_end0
          exact ⟨rfl, got, g3.perm hnd z2, g4⟩
        · intro x cc kl yd yp V2 c2 p1 p2 p3 p4 p5 p6 p7 p8 p9
          obtain ⟨y, e1, rfl, _⟩ := key_u32 Try.underlying27 p1
          obtain rfl : x = y := by injection e1
          have j2 : J (xs ++ got) V2 := hJ _ _ V2 (some W9.heap.size) g4 p7 (fun r e => by cases e; exact ⟨hsz', g1.iter_walk⟩)
          have hxk : x ∈ ks := (hks x).2 (has_true_of_atKey p4)
          obtain ⟨fn, tmps, assign, body, y1, y2⟩ := hY _ x V2 j2 (by rw [List.length_append]; omega) (.inr hxk)
          clear p8
          gi_wp2
          refine y2.mono ?_
          rintro e V3 ⟨rfl, j3, k4⟩
          gi_wp2
          have g5 := ranges_keep p5 ((hM _ _ j3).1.trans (hM _ _ j2).1.symm) hsz' k4
          go_roundw
          case rel => exact ⟨_, c2, got ++ [x], g5, by simp; omega, g3.step hxk p2, by rw [← List.append_assoc]; exact j3⟩
          case measure => rw [g5.left_eq, g1.left_eq]; exact p6
end Go.Proofs.YtlbmjpmonaekgaaAM
