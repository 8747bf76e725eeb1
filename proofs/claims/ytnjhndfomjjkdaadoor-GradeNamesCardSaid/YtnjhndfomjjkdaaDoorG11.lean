/- Chapter 22: a list copied. -/
import Derived.Test.YtnjhndfomjjkdaaDoorG10
namespace Go.Proofs.YtnjhndfomjjkdaaDoorAM
open Go Go.RowKit
set_option linter.unusedVariables false
set_option linter.unusedSimpArgs false
set_option maxRecDepth 10000
set_option maxHeartbeats 4000000

theorem elem32 : elemCells Tryd.prog 32 = some (35, 3) := rfl
theorem app32 : appOk Tryd.prog 32 32 3 = true := by decide +kernel
theorem app_own2 {E : Program} {α : Type} {enc : α → List Value} {t0 t1 : TypeId} {z y : Nat} (hk : appOk E t0 t1 z = true) (hz : z + 1 = y) (he : ∀ x, (enc x).length = z) (ho1 : ∀ x, (enc x).all Value.oneCell' = true)
    {h : List (Nat × Blk)} {n bs : Nat} {d : List Nat} {x : Value} {ys : List α} (hy : ListV enc h n x ys) (hbs : bs ≤ n) (hl : ys.length ≤ 1000000) :
    ∃ b sp n' h', builtinA E .append #[t0, t1] [.slice (some ⟨n, 0, some 0⟩) 0 0, x] ⟨n + 1, (n, .cells [] true) :: h, bs, d⟩ = some (.slice (some ⟨b, 0, sp⟩) ys.length ys.length, ⟨n', h', bs, d⟩) ∧ look b h' = some (.cells (ys.flatMap enc) true) ∧ n ≤ b ∧ b < n' ∧ (∀ j, j < n → look j h' = look j h) ∧ ((ys = [] ∧ sp = some 0) ∨ (ys ≠ [] ∧ sp = some y)) := by
  have hflat := flatMap_len he
  have hall : ∀ l : List α, (l.flatMap enc).all Value.oneCell' = true := by
    intro l
    rw [List.all_eq_true]
    intro u hu
    obtain ⟨x, _, hx⟩ := List.mem_flatMap.1 hu
    exact List.all_eq_true.1 (ho1 x) u hx
  have hself : look n ((n, Blk.cells [] true) :: h) = some (.cells [] true) := look_self
  have hnb : ∀ {b : Nat} {bl}, look b h = some bl → b < n → look b ((n, Blk.cells [] true) :: h) = some bl := by
    intro b bl hb hlt; rw [look_miss (by omega)]; exact hb
  by_cases hys : ys = []
  · subst hys
    have hx0 : lenA x = some 0 ∧ sliceCells z x ⟨n + 1, (n, .cells [] true) :: h, bs, d⟩ = some [] := by
      rcases hy with ⟨rfl, _⟩ | ⟨b, sp, cap, rw, rfl, hb, hbn⟩
      · exact ⟨rfl, rfl⟩
      · refine ⟨rfl, ?_⟩
        simp only [List.length_nil, sliceCells, get_mk, hnb hb hbn, Nat.zero_mul]
        rw [cellsAt_cells (by omega)]
        simp
    have hap := append_fit0 (E := E) (p := ⟨n, 0, some 0⟩) (len := 0) (cap := 0) hk hx0.1 hx0.2 (Nat.le_refl _) (c := []) (by rw [get_mk]; exact hself) (by simp)
    rw [write_soil, soilW_past (by simp only; omega)] at hap
    refine ⟨n, some 0, _, _, hap, ?_, Nat.le_refl _, Nat.lt_succ_self _, fun j hj => ?_, .inl ⟨rfl, rfl⟩⟩
    · rw [look_wput_self, hself]; rfl
    · rw [look_wput_ne (by simp only; omega), look_miss (by omega)]
  · have hpos : 0 < ys.length := List.length_pos_iff.2 hys
    rcases hy with ⟨_, rfl⟩ | ⟨q, sp, cap, rw, rfl, hq, hqn⟩
    · exact absurd rfl hys
    · have hqc : cellsAt (AW.get ⟨n + 1, (n, .cells [] true) :: h, bs, d⟩ q) 0 (ys.length * z) = some (ys.flatMap enc) := by
        rw [get_mk, hnb hq hqn, cellsAt_cells (by rw [hflat]; omega), List.drop_zero, ← hflat ys, List.take_length]
      have hw : cellsAt (AW.get ⟨n + 1, (n, .cells [] true) :: h, bs, d⟩ n) 0 (0 * z) = some [] := by
        rw [get_mk, hself, cellsAt_cells (by simp)]; simp
      have hap := wp_append_made (E := E) (a := ⟨n + 1, (n, .cells [] true) :: h, bs, d⟩) (o := 0) (len := 0) (cap := 0) (n := ys.length) (cq := cap) (q := ⟨q, 0, sp⟩) hk hz (by omega) (by omega) hw hqc (hall ys)
      rw [Nat.zero_add, List.nil_append] at hap
      refine ⟨n + 1, _, _, _, hap, look_self, by omega, Nat.lt_succ_self _, fun j hj => ?_, .inr ⟨hys, rfl⟩⟩
      show look j ((n + 1, _) :: (n, _) :: h) = look j h
      rw [look_miss (by omega), look_miss (by omega)]
theorem own16 (v : Value) (xs : List Find) (hl : xs.length ≤ 1000000) {h : List (Nat × Blk)} {n bs : Nat} {d : List Nat} (hv : ListV encF h n v xs) (K : Value → AW → Prop)
    (hK : ∀ sp h', ((xs = [] ∧ sp = some 0) ∨ (xs ≠ [] ∧ sp = some 4)) → look n h' = some (.cells (xs.flatMap encF) true) → (∀ j, j < n → look j h' = look j h) → K (.slice (some ⟨n, 0, sp⟩) xs.length xs.length) ⟨n + 1, h', bs, d⟩) : WCall Tryd.prog GV 16 [v] ⟨n, h, bs, d⟩ K := by
  rw [call_body' Tryd.func16 rfl Tryd.ntmps16 rfl rfl]
  obtain ⟨p, cp, rfl⟩ := hv.len
  simp -dsimp (maxSteps := 4000000) (disch := first | omega | assumption | (simp only [FB, Nat.reduceAdd]; done) | (simp only [LB]; omega)) only [WB, Nat.reduceSub, Nat.reduceAdd, Int.reduceEq, Int.reduceNe, Int.reduceLT, Int.reduceLE, Int.reduceAdd, Int.reduceSub, Int.reduceMul, Int.reduceNeg, Int.reduceToNat, Nat.reduceEqDiff, Nat.reduceLT, Nat.reduceLeDiff, Nat.reduceMul, List.replicate, reduceCtorEq, buildSl0 elem32]
  obtain ⟨b, sp, n', h', e, hb, h1, h2, h3, h4⟩ := app_own2 (E := Tryd.prog) (t0 := 32) (t1 := 32) (z := 3) (y := 4) (bs := n) (d := []) app32 rfl (fun x => rfl) (fun x => rfl) hv (Nat.le_refl _) hl
  rw [e]
  simp -dsimp (maxSteps := 4000000) (disch := first | omega | assumption | (simp only [FB, Nat.reduceAdd]; done) | (simp only [LB]; omega)) only [WB, Nat.reduceSub, Nat.reduceAdd, Int.reduceEq, Int.reduceNe, Int.reduceLT, Int.reduceLE, Int.reduceAdd, Int.reduceSub, Int.reduceMul, Int.reduceNeg, Int.reduceToNat, Nat.reduceEqDiff, Nat.reduceLT, Nat.reduceLeDiff, Nat.reduceMul, List.replicate, reduceCtorEq, ]
  have hall : (xs.flatMap encF).all flat = true := by
    rw [List.all_eq_true]
    intro u hu
    obtain ⟨x, _, hx⟩ := List.mem_flatMap.1 hu
    simp [encF] at hx; rcases hx with rfl | rfl | rfl <;> rfl
  rw [leave_fresh (p := ⟨b, 0, sp⟩) (by simpa using h1) hb hall]
  exact hK _ _ h4 look_self (fun j hj => look_miss (Nat.ne_of_lt hj))
/-- One more behind a copy. -/
theorem copy_app {h : List (Nat × Blk)} {q n bs m : Nat} {d : List Nat} {sp : Option Nat} {xs : List Find} {x : Find} (hs : (xs = [] ∧ sp = some 0) ∨ (xs ≠ [] ∧ sp = some 4)) (hqc : look q h = some (.cells (xs.flatMap encF) true)) (hl : xs.length ≤ 100000) (hm2 : look m h = some (.cells (encF x) true)) (hbq : bs ≤ q ∨ True) :
    ∃ h' d', builtinA Tryd.prog .append #[32, 32] [.slice (some ⟨q, 0, sp⟩) xs.length xs.length, .slice (some ⟨m, 0, some 0⟩) 1 1] ⟨n, h, bs, d⟩ = some (.slice (some ⟨n, 0, some 4⟩) (xs ++ [x]).length (xs ++ [x]).length, ⟨n + 1, h', bs, d'⟩) ∧ look n h' = some (.cells ((xs ++ [x]).flatMap encF) true) ∧ (∀ j, j < n → j ≠ q → look j h' = look j h) ∧ (d' = d ∨ d' = soilW bs d q) := by
  have hc : cellsAt (AW.get ⟨n, h, bs, d⟩ m) 0 (1 * 3) = some (encF x) := by rw [get_mk, hm2, cellsAt_cells (by simp [encF])]; rfl
  have hw : cellsAt (AW.get ⟨n, h, bs, d⟩ q) 0 (xs.length * 3) = some (xs.flatMap encF) := by
    rw [get_mk, hqc, cellsAt_cells (by rw [encF_len]; omega), List.drop_zero, ← encF_len xs, List.take_length]
  rcases hs with ⟨hx, rfl⟩ | ⟨hx, rfl⟩
  · refine ⟨(n, .cells ((xs ++ [x]).flatMap encF) true) :: h, d, ?_, look_self, fun j h1 h2 => look_miss (by omega), .inl rfl⟩
    rw [wp_append_made (a := ⟨n, h, bs, d⟩) (o := 0) (q := ⟨m, 0, some 0⟩) (was := xs.flatMap encF) (new := encF x) app32 (y := 4) rfl (by omega) (by omega) hw hc rfl]
    rw [List.length_append, List.flatMap_append]
    simp only [List.flatMap_cons, List.flatMap_nil, List.append_nil]
    rfl
  · refine ⟨(n, .cells ((xs ++ [x]).flatMap encF) true) :: kill q h, soilW bs d q, ?_, look_self, ?_, .inr rfl⟩
    · rw [wp_append_grown (a := ⟨n, h, bs, d⟩) (o := 0) (q := ⟨m, 0, some 0⟩) (was := xs.flatMap encF) (new := encF x) app32 (y := 4) rfl (by omega) (by omega) hw hc rfl]
      rw [drop_soil, List.length_append, List.flatMap_append]
      simp only [List.flatMap_cons, List.flatMap_nil, List.append_nil]
      rfl
    · intro j h1 h2
      rw [look_miss (by omega), look_wkill_ne h2]
end Go.Proofs.YtnjhndfomjjkdaaDoorAM
