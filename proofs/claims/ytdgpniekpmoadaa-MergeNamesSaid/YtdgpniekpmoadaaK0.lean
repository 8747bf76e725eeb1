/- Chapter 26: what the keys' iterator gives, wherever the map lies. -/
import Derived.Test.YtdgpniekpmoadaaProg
import Derived.Shelf.SlIter.Nil
import Derived.Shelf.SortM.Plain
import Derived.Shelf.SortM.SortNone
import Derived.Ground.GgzProg
import Derived.Ground.SlgmProg
namespace Go.Proofs.YtdgpniekpmoadaaAM
open Go Go.Proofs Go.RowKit Go.Maps Go.Sort Go.Shelf
set_option maxRecDepth 100000
set_option maxHeartbeats 1000000
/-- The iterator's body: every key comes once, in some order. -/
theorem keys_walk {H : Type} (n : Nat) (hn : 1 ≤ n) (l Bm s b nn : Nat) (D0 : DataW H) {R : Value → Option (DataW H × List MemPlace)} (J : List (List UInt8) → World → Prop)
    (hY : ∀ pre x W, J pre W → pre.length < Maps.size D0 → YieldAt Fence.wide (n - 1) Try.prog l #[encStr x] W fun e W' => e = .returned (.bool true) ∧ J (pre ++ [x]) W' ∧ KeepsWalks W W')
    (W : World) (hJ : AbidesFrom W.heap.size J) (hm : W.cell? ⟨Bm, s, none⟩ = some (.map (some b))) (hown : W.ownsMap Try.prog 9 R b nn D0) (h0 : J [] W) :
    CallsIn Fence.wide n Try.prog 31 #[.func (.yield l) #[] #[], .pointer (some ⟨Bm, s, none⟩)] W fun e W' => (∃ v, e = .returned v) ∧ ∃ ss : List (List UInt8), ss.Perm (strKeys D0) ∧ J ss W' := by
  have hk9 := string_keyed (P := Try.prog) Try.underlying9
  refine callsIn_of_wp Try.func31 rfl trivial ?_ rfl
  simp only [Try.ntmps31, List.size_toArray, List.length_cons, List.length_nil, Nat.reduceAdd, Nat.reduceSub, Array.replicate_succ, Array.replicate_zero, List.push_toArray, List.append_toArray, List.nil_append, List.cons_append]
  gi_wp2_with (first
    | (gi_at_range; refine wpListIn_range_own _ rfl _ 51 rfl 9 3 hk9 Try.underlying51 _ b nn _ rfl hown ?_; intro W0 q1 q2 q3)
    | gi_in)
  go_frame
  gi_loopw [3] (fun _ wr => ∃ (left : Lit → Bool) (c : Nat) (got : List (List UInt8)), wr.ranges Try.prog 9 R b W.heap.size nn D0 left c ∧ got.length + c ≤ Maps.size D0 ∧ Collected D0 left got ∧ J got wr) (fun _ wr => wr.rangeLeft b W.heap.size)
  case atStart => exact ⟨_, _, [], q1, by simp, Collected.start D0, hJ [] W W0 none h0 q2 (fun r e => by cases e)⟩
  case round =>
    obtain ⟨left, c, got, g1, g2, g3, g4⟩ := hrel
    gi_wp2_with (first
      | (gi_at_next; refine wpListIn_next_ranges _ rfl _ rfl 9 hk9 R encStr id (fun key kl hk => by obtain ⟨x, hx, _⟩ := Maps.keyOf_str Try.underlying9 hk; exact ⟨x, hx⟩) (fun v _ _ => ⟨v, rfl⟩) b W.heap.size nn _ _ _ rfl g1 ?_ ?_)
      | gi_in)
    · intro z1 z2
      gi_wp2
      go_end0
      exact ⟨⟨_, rfl⟩, got, g3.perm hown hk9 Try.underlying9 z2, g4⟩
    · intro x cc kl yd yp V2 c2 p1 p2 p3 p4 p5 p6 p7 p8 p9
      obtain ⟨y, e1, rfl, _⟩ := Maps.keyOf_str Try.underlying9 p1
      obtain rfl : x = y := encStr_inj e1
      have j2 : J got V2 := hJ got wr V2 (some W.heap.size) g4 p7 (fun r e => by cases e; exact ⟨Nat.le_refl _, g1.iter_walk⟩)
      obtain ⟨fn, tmps, assign, body, y1, y2⟩ := hY got x V2 j2 (by omega)
      clear p8
      gi_wp2
      refine y2.mono ?_
      rintro e V3 ⟨rfl, j3, k3⟩
      gi_wp2
      have g5 := p5.of_walks k3
      go_roundw
      case rel => exact ⟨_, c2, got ++ [x], g5, by simp; omega, g3.step p2 p4, j3⟩
      case measure => rw [g5.left_eq, g1.left_eq]; exact p6
end Go.Proofs.YtdgpniekpmoadaaAM
