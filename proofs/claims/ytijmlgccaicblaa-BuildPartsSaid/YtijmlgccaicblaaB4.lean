/- Chapter 13: Cut; lists of lists. -/
import Derived.Test.YtijmlgccaicblaaB3
namespace Go.Proofs.YtijmlgccaicblaaAM
open Go Go.RowKit
set_option linter.unusedVariables false
set_option linter.unusedSimpArgs false
set_option maxRecDepth 10000
set_option maxHeartbeats 4000000

def encN (x : Int) : List Value := [.int .i64 x]
theorem encN_len (b : Int) : (encN b).length = 1 := rfl
theorem encN_one (b : Int) : (encN b).all Value.oneCell' = true := rfl
theorem encN_flat (b : Int) : (encN b).all flat = true := rfl
/-- The ends of all parts but the last one. -/
def cutGo (room : Int) : List Int → Nat → Int → List Int
  | [], _, _ => []
  | n :: r, i, sum => if room - sum < n then (i : Int) :: cutGo room r (i + 1) n else cutGo room r (i + 1) (sum + n)
def cutIn (room : Int) (l : List Int) : Prop := ∀ n ∈ l, 0 ≤ n ∧ n ≤ room
noncomputable def cutL (room : Int) (l : List Int) : List Int := if @decide (cutIn room l) (Classical.propDecidable _) = true then (if l = [] then [] else cutGo room l 0 0 ++ [(l.length : Int)]) else []
theorem cutL_bad {room : Int} {l : List Int} (h : ¬ cutIn room l) : cutL room l = [] := by unfold cutL; simp [h]
theorem cutL_ok {room : Int} {l : List Int} (h : cutIn room l) (h0 : l ≠ []) : cutL room l = cutGo room l 0 0 ++ [(l.length : Int)] := by unfold cutL; simp [h, h0]
theorem cutL_nil {room : Int} : cutL room [] = [] := by unfold cutL; simp
theorem cutGo_len (room : Int) : ∀ (l : List Int) (i : Nat) (s : Int), (cutGo room l i s).length ≤ l.length
  | [], _, _ => Nat.le_refl _
  | n :: r, i, s => by
    unfold cutGo
    have h1 := cutGo_len room r (i + 1) n
    have h2 := cutGo_len room r (i + 1) (s + n)
    split <;> simp only [List.length_cons] <;> omega
theorem cut11 (v : Value) (l : List Int) (room : Int) (hl : l.length ≤ 100000) (hr : room ≤ 9223372036854775807) (a : AW) (m : Nat) (hm : m ≤ a.next) (hv : RV encN 1 a.heap m v l) (K : Value → AW → Prop)
    (hK : ∀ v' n' h', a.next ≤ n' → n' ≤ a.next + 1 → OwnS encN 1 h' n' a.next v' (cutL room l) → (∀ j, j < a.next → look j h' = look j a.heap) → K v' ⟨n', h', a.base, a.dirty⟩) :
    WCall Try.prog GV 11 [v, .int .i64 room] a K := by
  rw [call_env Try.func11 rfl Try.ntmps11 rfl rfl (by simp)]
  obtain ⟨p, c, rfl⟩ := hv.len
  simp -dsimp (maxSteps := 4000000) (disch := first | omega | assumption | (simp only [FB, Nat.reduceAdd]; done) | (simp only [LB]; omega)) only [EB, ↓reduceIte, WB, Nat.reduceSub, Nat.reduceAdd, Int.reduceEq, Int.reduceNe, Int.reduceLT, Int.reduceLE, Int.reduceAdd, Int.reduceSub, Int.reduceMul, Int.reduceNeg, Int.reduceToNat, Nat.reduceEqDiff, Nat.reduceLT, Nat.reduceLeDiff, Nat.reduceMul, List.replicate, reduceCtorEq, TB, NB, ]
  refine loop_inv (fun r t w => ∃ i n h q v s out, ∃ e : Nat → Value, r = l.length - i ∧ i ≤ l.length ∧ w = ⟨n, h, a.next, []⟩ ∧ a.next ≤ n ∧ (∀ j, j < a.next → look j h = look j a.heap) ∧ t = TT 44 e ∧ OwnS encN 1 h n q v out ∧ a.next ≤ q ∧ out.length ≤ i ∧ (∀ j (hj : j < l.length), j < i → 0 ≤ l[j] ∧ l[j] ≤ room) ∧ cutGo room l 0 0 = out ++ cutGo room (l.drop i) i s ∧ 0 ≤ s ∧ (s = 0 ∨ s ≤ room) ∧
    e 0 = .slice p l.length c ∧ e 1 = .int .i64 room ∧ e 4 = v ∧ e 5 = .int .i64 s ∧ e 8 = .slice p l.length c ∧ e 9 = .int .i64 l.length ∧ e 10 = .int .i64 i)
    ⟨0, a.next, a.heap, a.next, _, 0, [], _, rfl, by omega, rfl, Nat.le_refl _, fun _ _ => rfl, rfl, OwnS.nil, Nat.le_refl _, Nat.le_refl _, fun j _ h => absurd h (by omega), rfl, Int.le_refl _, .inl rfl, rfl, rfl, rfl, rfl, rfl, rfl, rfl⟩ ?_
  rintro r t w ⟨i, n, h, q, vo, s, out, e, rfl, hi, rfl, hn, hh, rfl, ho, hq, hol, hin, hcut, hs0, hs1, t0, t1, t4, t5, t8, t9, t10⟩
  by_cases hlt : i < l.length
  · obtain ⟨b, o, sp, rw0, cc, rfl, hlk, hbn, hle, hat, hkk⟩ := hv.at encN_len hlt
    have hlk' : look b h = some (.cells cc rw0) := by rw [hh b (by omega)]; exact hlk
    have hx : cc[o + i]? = some (.int .i64 l[i]) := by have := hkk 0 (by omega); simpa [encN] using this
    have hdr : l.drop i = l[i] :: l.drop (i + 1) := List.drop_eq_getElem_cons hlt
    by_cases h1 : l[i] < 0
    · simp -dsimp (maxSteps := 4000000) (disch := first | omega | assumption | (simp only [FB, Nat.reduceAdd]; done) | (simp only [LB]; omega)) only [EB, ↓reduceIte, WB, Nat.reduceSub, Nat.reduceAdd, Int.reduceEq, Int.reduceNe, Int.reduceLT, Int.reduceLE, Int.reduceAdd, Int.reduceSub, Int.reduceMul, Int.reduceNeg, Int.reduceToNat, Nat.reduceEqDiff, Nat.reduceLT, Nat.reduceLeDiff, Nat.reduceMul, List.replicate, reduceCtorEq, TB, NB, t0, t1, t4, t5, t8, t9, t10, show (i : Int) < l.length by omega, hlk', hx, h1]
      have hb : cutL room l = [] := cutL_bad fun hc => by have := (hc l[i] (List.getElem_mem hlt)).1; omega
      rw [hb] at hK
      exact hK _ a.next a.heap (Nat.le_refl _) (by omega) OwnS.nil fun _ _ => rfl
    · by_cases h2 : room < l[i]
      · simp -dsimp (maxSteps := 4000000) (disch := first | omega | assumption | (simp only [FB, Nat.reduceAdd]; done) | (simp only [LB]; omega)) only [EB, ↓reduceIte, WB, Nat.reduceSub, Nat.reduceAdd, Int.reduceEq, Int.reduceNe, Int.reduceLT, Int.reduceLE, Int.reduceAdd, Int.reduceSub, Int.reduceMul, Int.reduceNeg, Int.reduceToNat, Nat.reduceEqDiff, Nat.reduceLT, Nat.reduceLeDiff, Nat.reduceMul, List.replicate, reduceCtorEq, TB, NB, t0, t1, t4, t5, t8, t9, t10, show (i : Int) < l.length by omega, hlk', hx, h1, h2]
        have hb : cutL room l = [] := cutL_bad fun hc => by have := (hc l[i] (List.getElem_mem hlt)).2; omega
        rw [hb] at hK
        exact hK _ a.next a.heap (Nat.le_refl _) (by omega) OwnS.nil fun _ _ => rfl
      · have hin' : ∀ j (hj : j < l.length), j < i + 1 → 0 ≤ l[j] ∧ l[j] ≤ room := fun j hj hji => by
          rcases Nat.lt_or_ge j i with h3 | h3
          · exact hin j hj h3
          · obtain rfl : j = i := by omega
            omega
        by_cases h3 : room - s < l[i]
        · simp -dsimp (maxSteps := 4000000) (disch := first | omega | assumption | (simp only [FB, Nat.reduceAdd]; done) | (simp only [LB]; omega)) only [EB, ↓reduceIte, WB, Nat.reduceSub, Nat.reduceAdd, Int.reduceEq, Int.reduceNe, Int.reduceLT, Int.reduceLE, Int.reduceAdd, Int.reduceSub, Int.reduceMul, Int.reduceNeg, Int.reduceToNat, Nat.reduceEqDiff, Nat.reduceLT, Nat.reduceLeDiff, Nat.reduceMul, List.replicate, reduceCtorEq, TB, NB, t0, t1, t4, t5, t8, t9, t10, show (i : Int) < l.length by omega, hlk', hx, h1, h2, h3, wrap64]
          have ho' : OwnS encN 1 ((n, Blk.cells [Value.int IntKind.i64 i] true) :: h) (n + 1) q vo out := ho.keep (by omega) fun hq2 => look_miss (by omega)
          obtain ⟨v2, q2, n2, h2', e2, o2, f1, f2, f3, f4, f5⟩ := append_mine (E := Try.prog) (t0 := 25) (t1 := 25) (bs := a.next) (d := []) app25 encN_len encN_one ho' (by omega) (by omega) (RV.one (n := n + 1) (x := (i : Int)) encN_len look_self (by omega)) (by simp only [List.length_cons, List.length_nil]; omega)
          rw [e2]
          simp -dsimp (maxSteps := 4000000) (disch := first | omega | assumption | (simp only [FB, Nat.reduceAdd]; done) | (simp only [LB]; omega)) only [EB, ↓reduceIte, WB, Nat.reduceSub, Nat.reduceAdd, Int.reduceEq, Int.reduceNe, Int.reduceLT, Int.reduceLE, Int.reduceAdd, Int.reduceSub, Int.reduceMul, Int.reduceNeg, Int.reduceToNat, Nat.reduceEqDiff, Nat.reduceLT, Nat.reduceLeDiff, Nat.reduceMul, List.replicate, reduceCtorEq, TB, NB, t10, wrap64]
          refine ⟨trivial, l.length - (i + 1), by omega, i + 1, n2, h2', q2, v2, l[i], out ++ [(i : Int)], _, rfl, by omega, rfl, by omega, fun j hj => by rw [f5 j (by omega) (by omega), look_miss (by omega), hh j hj], rfl, o2, f3, by simp; omega, hin', ?_, by omega, by omega, ?_⟩
          · rw [hcut, hdr, cutGo, if_pos h3, List.append_assoc]; rfl
          · simp only [ups_at, ↓reduceIte, Nat.reduceEqDiff]
            exact ⟨t0, t1, trivial, by simp, t8, t9, (by first | trivial | rfl | omega)⟩
        · simp -dsimp (maxSteps := 4000000) (disch := first | omega | assumption | (simp only [FB, Nat.reduceAdd]; done) | (simp only [LB]; omega)) only [EB, ↓reduceIte, WB, Nat.reduceSub, Nat.reduceAdd, Int.reduceEq, Int.reduceNe, Int.reduceLT, Int.reduceLE, Int.reduceAdd, Int.reduceSub, Int.reduceMul, Int.reduceNeg, Int.reduceToNat, Nat.reduceEqDiff, Nat.reduceLT, Nat.reduceLeDiff, Nat.reduceMul, List.replicate, reduceCtorEq, TB, NB, t0, t1, t4, t5, t8, t9, t10, show (i : Int) < l.length by omega, hlk', hx, h1, h2, h3, wrap64]
          refine ⟨trivial, l.length - (i + 1), by omega, i + 1, n, h, q, vo, s + l[i], out, _, rfl, by omega, rfl, by omega, hh, rfl, ho, hq, by omega, hin', ?_, by omega, by omega, ?_⟩
          · rw [hcut, hdr, cutGo, if_neg h3]
          · simp only [ups_at, ↓reduceIte, Nat.reduceEqDiff]
            exact ⟨t0, t1, t4, (by first | trivial | rfl | omega), t8, t9, (by first | trivial | rfl | omega)⟩
  · obtain rfl : i = l.length := by omega
    have hci : cutIn room l := fun x hx => by
      obtain ⟨j, hj, rfl⟩ := List.mem_iff_getElem.1 hx
      exact hin j hj hj
    rw [List.drop_length] at hcut
    simp only [cutGo, List.append_nil] at hcut
    by_cases h0 : 0 < l.length
    · simp -dsimp (maxSteps := 4000000) (disch := first | omega | assumption | (simp only [FB, Nat.reduceAdd]; done) | (simp only [LB]; omega)) only [EB, ↓reduceIte, WB, Nat.reduceSub, Nat.reduceAdd, Int.reduceEq, Int.reduceNe, Int.reduceLT, Int.reduceLE, Int.reduceAdd, Int.reduceSub, Int.reduceMul, Int.reduceNeg, Int.reduceToNat, Nat.reduceEqDiff, Nat.reduceLT, Nat.reduceLeDiff, Nat.reduceMul, List.replicate, reduceCtorEq, TB, NB, t0, t1, t4, t5, t8, t9, t10, show ¬ (l.length : Int) < l.length by omega, show (0 : Int) < l.length by omega]
      have ho' : OwnS encN 1 ((n, Blk.cells [Value.int IntKind.i64 l.length] true) :: h) (n + 1) q vo out := ho.keep (by omega) fun hq2 => look_miss (by omega)
      obtain ⟨v2, q2, n2, h2', e2, o2, f1, f2, f3, f4, f5⟩ := append_mine (E := Try.prog) (t0 := 25) (t1 := 25) (bs := a.next) (d := []) app25 encN_len encN_one ho' (by omega) (by omega) (RV.one (n := n + 1) (x := (l.length : Int)) encN_len look_self (by omega)) (by simp only [List.length_cons, List.length_nil]; omega)
      rw [e2]
      simp -dsimp (maxSteps := 4000000) (disch := first | omega | assumption | (simp only [FB, Nat.reduceAdd]; done) | (simp only [LB]; omega)) only [EB, ↓reduceIte, WB, Nat.reduceSub, Nat.reduceAdd, Int.reduceEq, Int.reduceNe, Int.reduceLT, Int.reduceLE, Int.reduceAdd, Int.reduceSub, Int.reduceMul, Int.reduceNeg, Int.reduceToNat, Nat.reduceEqDiff, Nat.reduceLT, Nat.reduceLeDiff, Nat.reduceMul, List.replicate, reduceCtorEq, TB, NB, ]
      have hb : cutL room l = out ++ [(l.length : Int)] := by rw [cutL_ok hci (by intro h; rw [h] at h0; simp at h0), hcut]
      rw [hb] at hK
      exact leave_own (a := a) encN_flat o2 f3 fun v' n' h' x1 x2 x3 x4 _ => hK v' n' h' x1 x2 x3 x4
    · simp -dsimp (maxSteps := 4000000) (disch := first | omega | assumption | (simp only [FB, Nat.reduceAdd]; done) | (simp only [LB]; omega)) only [EB, ↓reduceIte, WB, Nat.reduceSub, Nat.reduceAdd, Int.reduceEq, Int.reduceNe, Int.reduceLT, Int.reduceLE, Int.reduceAdd, Int.reduceSub, Int.reduceMul, Int.reduceNeg, Int.reduceToNat, Nat.reduceEqDiff, Nat.reduceLT, Nat.reduceLeDiff, Nat.reduceMul, List.replicate, reduceCtorEq, TB, NB, t0, t1, t4, t5, t8, t9, t10, show ¬ (l.length : Int) < l.length by omega, show ¬ (0 : Int) < l.length by omega]
      have hl0 : l = [] := List.eq_nil_of_length_eq_zero (by omega)
      have hb : cutL room l = out := by
        have : out = [] := by rw [← hcut, hl0]; rfl
        rw [hl0, this, cutL_nil]
      rw [hb] at hK
      exact leave_own (a := a) encN_flat ho hq fun v' n' h' x1 x2 x3 x4 _ => hK v' n' h' x1 x2 x3 x4
/-- A slice, as a value. -/
abbrev Sl := Option Addr × Nat × Nat
def slV (x : Sl) : Value := .slice x.1 x.2.1 x.2.2
section
variable {α : Type}
def encQ (x : Sl × List α) : List Value := [.slice x.1.1 x.1.2.1 x.1.2.2]
theorem encQ_len (x : Sl × List α) : (encQ x).length = 1 := rfl
theorem encQ_one (x : Sl × List α) : (encQ x).all Value.oneCell' = true := rfl
/-- A list of lists that is read. -/
def RVV (enc : α → List Value) (z : Nat) (h : List (Nat × Blk)) (n : Nat) (v : Value) (ps : List (List α)) : Prop :=
  ∃ qs : List (Sl × List α), ps = qs.map (·.2) ∧ RV encQ 1 h n v qs ∧ ∀ x ∈ qs, RV enc z h n (slV x.1) x.2
theorem RVV.nil {enc : α → List Value} {z : Nat} {h : List (Nat × Blk)} {n : Nat} : RVV enc z h n (.slice none 0 0) [] := ⟨[], rfl, .inl ⟨rfl, rfl⟩, fun x hx => by cases hx⟩
theorem RVV.keep {enc : α → List Value} {z : Nat} {h h' : List (Nat × Blk)} {n n' : Nat} {v : Value} {ps : List (List α)} (hv : RVV enc z h n v ps) (hn : n ≤ n') (hf : ∀ j, j < n → look j h' = look j h) : RVV enc z h' n' v ps := by
  obtain ⟨qs, e, h1, h2⟩ := hv
  exact ⟨qs, e, h1.keep hn hf, fun x hx => (h2 x hx).keep hn hf⟩
theorem RVV.len {enc : α → List Value} {z h n v} {ps : List (List α)} (hv : RVV enc z h n v ps) : ∃ p c, v = .slice p ps.length c := by
  obtain ⟨qs, rfl, h1, h2⟩ := hv
  obtain ⟨p, c, rfl⟩ := h1.len
  exact ⟨p, c, by rw [List.length_map]⟩
/-- How a call is left, where no block from before was written. -/
theorem leave_1 {a : AW} {n bs : Nat} {h : List (Nat × Blk)} {v : Value} (hv : flat v = false) : leaveA a [v] ⟨n, h, bs, []⟩ = match freshOf a.next ⟨n, h, bs, []⟩ v with
    | some (c, _) => ([moveTo a.next v], a.new (.cells c true))
    | none => ([v], ⟨n, h, a.base, a.dirty⟩) := by
  have hf : [v].filter (fun v => !flat v) = [v] := by simp [hv]
  unfold leaveA
  simp only [List.isEmpty_nil, if_true]
  rw [hf]
  cases hc : freshOf a.next ⟨n, h, bs, []⟩ v <;> simp [hv, hc]
theorem leave_2l {a : AW} {n bs : Nat} {h : List (Nat × Blk)} {v u : Value} (hv : flat v = false) (hu : flat u = true) : leaveA a [v, u] ⟨n, h, bs, []⟩ = match freshOf a.next ⟨n, h, bs, []⟩ v with
    | some (c, _) => ([moveTo a.next v, u], a.new (.cells c true))
    | none => ([v, u], ⟨n, h, a.base, a.dirty⟩) := by
  have hf : [v, u].filter (fun v => !flat v) = [v] := by simp [hv, hu]
  unfold leaveA
  simp only [List.isEmpty_nil, if_true]
  rw [hf]
  cases hc : freshOf a.next ⟨n, h, bs, []⟩ v <;> simp [hv, hu, hc]
theorem leave_2r {a : AW} {n bs : Nat} {h : List (Nat × Blk)} {v u : Value} (hv : flat v = false) (hu : flat u = true) : leaveA a [u, v] ⟨n, h, bs, []⟩ = match freshOf a.next ⟨n, h, bs, []⟩ v with
    | some (c, _) => ([u, moveTo a.next v], a.new (.cells c true))
    | none => ([u, v], ⟨n, h, a.base, a.dirty⟩) := by
  have hf : [u, v].filter (fun v => !flat v) = [v] := by simp [hv, hu]
  unfold leaveA
  simp only [List.isEmpty_nil, if_true]
  rw [hf]
  cases hc : freshOf a.next ⟨n, h, bs, []⟩ v <;> simp [hv, hu, hc]
theorem leave_2b {a : AW} {n bs : Nat} {h : List (Nat × Blk)} {v u : Value} (hv : flat v = false) (hu : flat u = false) : leaveA a [v, u] ⟨n, h, bs, []⟩ = ([v, u], ⟨n, h, a.base, a.dirty⟩) := by
  have hf : [v, u].filter (fun v => !flat v) = [v, u] := by simp [hv, hu]
  unfold leaveA
  simp only [List.isEmpty_nil, if_true]
  rw [hf]
theorem leave_rvv2 {enc : α → List Value} {z : Nat} {h : List (Nat × Blk)} {n bs : Nat} {v u : Value} {qs : List (Sl × List α)} {a : AW} (hu : flat u = true) (ho : RV encQ 1 h n v qs) (hp : ∀ x ∈ qs, RV enc z h n (slV x.1) x.2) (hn : a.next ≤ n) (hf : ∀ j, j < a.next → look j h = look j a.heap) {K : Value → AW → Prop}
    (hK : ∀ v' n' h', a.next ≤ n' → RVV enc z h' n' v' (qs.map (·.2)) → (∀ j, j < a.next → look j h' = look j a.heap) → K (.tuple #[v', u]) ⟨n', h', a.base, a.dirty⟩) :
    K (oneOf (leaveA a [v, u] ⟨n, h, bs, []⟩).1) (leaveA a [v, u] ⟨n, h, bs, []⟩).2 := by
  have ho' := ho
  rcases ho with ⟨rfl, rfl⟩ | ⟨b, o, sp, cap, rw0, c, rfl, hb, hbn, hc, ht, hsp, hcap⟩
  · rw [leave_flat (by rw [List.all_cons, List.all_cons, hu]; rfl)]
    exact hK _ a.next a.heap (Nat.le_refl _) RVV.nil fun _ _ => rfl
  · have hnf : flat (.slice (some ⟨b, o, sp⟩) qs.length cap) = false := rfl
    have hg : (⟨n, h, bs, []⟩ : AW).get b = some (.cells c rw0) := hb
    by_cases hcc : a.next ≤ b ∧ rw0 = true ∧ c.all flat = true
    · obtain ⟨c1, rfl, c3⟩ := hcc
      have hlv : leaveA a [.slice (some ⟨b, o, sp⟩) qs.length cap, u] ⟨n, h, bs, []⟩ = ([.slice (some ⟨a.next, o, sp⟩) qs.length cap, u], ⟨a.next + 1, (a.next, .cells c true) :: a.heap, a.base, a.dirty⟩) := by
        have hfr : freshOf a.next ⟨n, h, bs, []⟩ (.slice (some ⟨b, o, sp⟩) qs.length cap) = some (c, b) := by simp only [freshOf, hg]; rw [if_pos c1, if_pos c3]
        rw [leave_2l hnf hu, hfr]
        rfl
      rw [hlv]
      refine hK _ (a.next + 1) _ (by omega) ⟨qs, rfl, .inr ⟨a.next, o, sp, cap, true, c, rfl, look_self, by omega, hc, ht, hsp, hcap⟩, fun x hx => ?_⟩ fun j hj => look_miss (by omega)
      have hx2 := hp x hx
      have hfl : flat (slV x.1) = true := by
        rw [List.all_eq_true] at c3
        refine c3 _ (List.mem_of_mem_drop (i := o) (List.mem_of_mem_take (i := qs.length * 1) ?_))
        rw [ht]
        exact List.mem_flatMap.2 ⟨x, hx, by simp [encQ, slV]⟩
      rcases hx2 with ⟨e1, e2⟩ | ⟨b, o, sp2, cap2, rw2, c2, e1, -⟩
      · exact .inl ⟨e1, e2⟩
      · rw [e1] at hfl; cases hfl
    · have hfr : freshOf a.next ⟨n, h, bs, []⟩ (.slice (some ⟨b, o, sp⟩) qs.length cap) = none := by
        simp only [freshOf, hg]
        by_cases c1 : a.next ≤ b
        · cases rw0 with
          | false => simp [c1]
          | true =>
            have c3 : ¬ c.all flat = true := fun h => hcc ⟨c1, rfl, h⟩
            rw [if_pos c1]
            simp only [c3]
            rfl
        · rw [if_neg c1]
      have hlv : leaveA a [.slice (some ⟨b, o, sp⟩) qs.length cap, u] ⟨n, h, bs, []⟩ = ([.slice (some ⟨b, o, sp⟩) qs.length cap, u], ⟨n, h, a.base, a.dirty⟩) := by
        rw [leave_2l hnf hu, hfr]
      rw [hlv]
      exact hK _ n h hn ⟨qs, rfl, ho', hp⟩ hf
theorem leave_vv2 {enc : α → List Value} {z : Nat} {h : List (Nat × Blk)} {n q bs : Nat} {v u : Value} {qs : List (Sl × List α)} {a : AW} (hu : flat u = true) (ho : OwnS encQ 1 h n q v qs) (hp : ∀ x ∈ qs, RV enc z h n (slV x.1) x.2) (hn : a.next ≤ n) (hf : ∀ j, j < a.next → look j h = look j a.heap) {K : Value → AW → Prop}
    (hK : ∀ v' n' h', a.next ≤ n' → RVV enc z h' n' v' (qs.map (·.2)) → (∀ j, j < a.next → look j h' = look j a.heap) → K (.tuple #[v', u]) ⟨n', h', a.base, a.dirty⟩) :
    K (oneOf (leaveA a [v, u] ⟨n, h, bs, []⟩).1) (leaveA a [v, u] ⟨n, h, bs, []⟩).2 := leave_rvv2 hu ho.rv hp hn hf hK
theorem RV.blk_lt {enc : α → List Value} {z : Nat} {h : List (Nat × Blk)} {n : Nat} {v : Value} {xs : List α} (hv : RV enc z h n v xs) {j : Nat} (hj : blkOf v = some j) : j < n := by
  rcases hv with ⟨rfl, rfl⟩ | ⟨b, o, sp, cap, rw0, c, rfl, hb, hbm, hc, ht, hsp⟩
  · cases hj
  · cases hj; exact hbm
end
/-- A list, cut at its ends. -/
def cutAt {α : Type} (l : List α) : Nat → List Int → List (List α)
  | _, [] => []
  | at_, t :: r => ((l.take t.toNat).drop at_) :: cutAt l t.toNat r
end Go.Proofs.YtijmlgccaicblaaAM
