/- Lists that grow by append. -/
import Derived.Test.YtmdfejlfdgaomaaAM37
namespace Go.Proofs.YtmdfejlfdgaomaaAM
open Go Go.RowKit
set_option linter.unusedVariables false
set_option linter.unusedSimpArgs false

section
variable {α : Type}
/-- A list that a call of one's own has made by append: nil, or a block of its own. -/
def OutG (enc : α → List Value) (y : Nat) (h : List (Nat × Blk)) (n lo : Nat) (v : Value) (xs : List α) : Prop :=
  (v = .slice none 0 0 ∧ xs = []) ∨ ∃ b, v = .slice (some ⟨b, 0, some y⟩) xs.length xs.length ∧ xs ≠ [] ∧ look b h = some (.cells (xs.flatMap enc) true) ∧ lo ≤ b ∧ b < n
theorem flatMap_len {enc : α → List Value} {z : Nat} (he : ∀ x, (enc x).length = z) : ∀ (xs : List α), (xs.flatMap enc).length = xs.length * z
  | [] => by simp
  | x :: xs => by rw [List.flatMap_cons, List.length_append, he, flatMap_len he xs, List.length_cons, Nat.add_mul]; omega
variable {E : Program}
theorem app_one {enc : α → List Value} {t0 t1 : TypeId} {z y : Nat} (hk : appOk E t0 t1 z = true) (hz : z + 1 = y) (he : ∀ x, (enc x).length = z) (ho1 : ∀ x, (enc x).all Value.oneCell' = true)
    {h : List (Nat × Blk)} {n lo bs : Nat} {d : List Nat} {v : Value} {xs : List α} {x : α} {q : Addr} {cq : Nat} (ho : OutG enc y h n lo v xs) (hlo : lo ≤ n)
    (hq : cellsAt (look q.block h) q.off z = some (enc x)) (hl : xs.length + 1 ≤ 1000000) :
    ∃ v' h' d', builtinA E .append #[t0, t1] [v, .slice (some q) 1 cq] ⟨n, h, bs, d⟩ = some (v', ⟨n + 1, h', bs, d'⟩) ∧ OutG enc y h' (n + 1) lo v' (xs ++ [x]) ∧ (∀ j, j < lo → look j h' = look j h) ∧
      (d' = d ∨ ∃ b, lo ≤ b ∧ b < bs ∧ d.contains b = false ∧ d' = b :: d) := by
  rcases ho with ⟨rfl, rfl⟩ | ⟨b, rfl, hne, hb, h1, h2⟩
  · refine ⟨_, _, _, wp_append_nil (new := enc x) hk hz (by omega) (by omega) (by rw [get_mk, Nat.one_mul]; exact hq) (ho1 x), ?_, ?_, .inl rfl⟩
    · refine .inr ⟨n, by simp, by simp, ?_, by omega, by omega⟩
      simp [look]
    · intro j hj
      show look j ((n, _) :: h) = look j h
      exact look_miss (by omega)
  · have hlen := flatMap_len he xs
    have hw : cellsAt (AW.get ⟨n, h, bs, d⟩ b) 0 (xs.length * z) = some (xs.flatMap enc) := by
      rw [get_mk, hb, cellsAt_cells (by omega)]
      rw [List.drop_zero, ← hlen, List.take_length]
    have hap := wp_append_grown (E := E) (a := ⟨n, h, bs, d⟩) (o := 0) (len := xs.length) (cap := xs.length) (n := 1) (cq := cq) (q := q) hk hz (by omega) hl hw (by rw [get_mk, Nat.one_mul]; exact hq) (ho1 x)
    by_cases hbs : b < bs
    · cases hd : d.contains b with
      | true =>
        have hdr : AW.drop ⟨n, h, bs, d⟩ b = ⟨n, kill b h, bs, d⟩ := by
          have hd' : b ∈ d := by simpa using hd
          simp [AW.drop, AW.soil, hbs, hd']
        rw [hdr] at hap
        refine ⟨_, _, _, hap, .inr ⟨n, by simp, by simp, ?_, by omega, by omega⟩, ?_, .inl rfl⟩
        · simp [AW.new, look]
        · intro j hj
          simp only [AW.new]
          rw [look_miss (by omega), look_wkill_ne (by omega)]
      | false =>
        have hdr : AW.drop ⟨n, h, bs, d⟩ b = ⟨n, kill b h, bs, b :: d⟩ := by
          have hd' : ¬ b ∈ d := by simpa using hd
          simp [AW.drop, AW.soil, hbs, hd']
        rw [hdr] at hap
        refine ⟨_, _, _, hap, .inr ⟨n, by simp, by simp, ?_, by omega, by omega⟩, ?_, .inr ⟨b, h1, hbs, hd, rfl⟩⟩
        · simp [AW.new, look]
        · intro j hj
          simp only [AW.new]
          rw [look_miss (by omega), look_wkill_ne (by omega)]
    · rw [drop_own (by omega)] at hap
      refine ⟨_, _, _, hap, .inr ⟨n, by simp, by simp, ?_, by omega, by omega⟩, ?_, .inl rfl⟩
      · simp [AW.new, look]
      · intro j hj
        simp only [AW.new]
        rw [look_miss (by omega), look_wkill_ne (by omega)]
/-- A list that is handed back. -/
def ListR (enc : α → List Value) (y : Nat) (a : AW) (xs : List α) (v : Value) (w : AW) : Prop :=
  (xs = [] ∧ v = .slice none 0 0 ∧ w = a) ∨ (xs ≠ [] ∧ v = .slice (some ⟨a.next, 0, some y⟩) xs.length xs.length ∧ w = ⟨a.next + 1, (a.next, .cells (xs.flatMap enc) true) :: a.heap, a.base, a.dirty⟩)
theorem leave_list {enc : α → List Value} {y : Nat} {h : List (Nat × Blk)} {n lo bs : Nat} {v : Value} {xs : List α} {a : AW} (hf : ∀ x, (enc x).all flat = true) (ho : OutG enc y h n lo v xs) (hlo : a.next ≤ lo) :
    ∃ v' w, leaveA a [v] ⟨n, h, bs, []⟩ = ([v'], w) ∧ ListR enc y a xs v' w := by
  rcases ho with ⟨rfl, rfl⟩ | ⟨b, rfl, hne, hb, h1, h2⟩
  · exact ⟨_, _, leave_flat rfl, .inl ⟨rfl, rfl, rfl⟩⟩
  · have hall : (xs.flatMap enc).all flat = true := by
      rw [List.all_eq_true]
      intro u hu
      obtain ⟨x, _, hx⟩ := List.mem_flatMap.1 hu
      exact List.all_eq_true.1 (hf x) u hx
    exact ⟨_, _, leave_fresh (Nat.le_trans hlo h1) hb hall, .inr ⟨hne, rfl, rfl⟩⟩
theorem leave_list2 {enc : α → List Value} {y : Nat} {h : List (Nat × Blk)} {n lo bs : Nat} {v u : Value} {xs : List α} {a : AW} (hf : ∀ x, (enc x).all flat = true) (hu : flat u = true) (ho : OutG enc y h n lo v xs) (hlo : a.next ≤ lo) :
    ∃ v' w, leaveA a [v, u] ⟨n, h, bs, []⟩ = ([v', u], w) ∧ ListR enc y a xs v' w := by
  rcases ho with ⟨rfl, rfl⟩ | ⟨b, rfl, hne, hb, h1, h2⟩
  · exact ⟨_, _, leave_flat (by simp [hu]; rfl), .inl ⟨rfl, rfl, rfl⟩⟩
  · have hall : (xs.flatMap enc).all flat = true := by
      rw [List.all_eq_true]
      intro u hu
      obtain ⟨x, _, hx⟩ := List.mem_flatMap.1 hu
      exact List.all_eq_true.1 (hf x) u hx
    exact ⟨_, _, leave_fresh2 hu (Nat.le_trans hlo h1) hb hall, .inr ⟨hne, rfl, rfl⟩⟩
/-- A list that is read. -/
def ListV (enc : α → List Value) (h : List (Nat × Blk)) (n : Nat) (v : Value) (xs : List α) : Prop :=
  (v = .slice none 0 0 ∧ xs = []) ∨ ∃ b sp cap rw, v = .slice (some ⟨b, 0, sp⟩) xs.length cap ∧ look b h = some (.cells (xs.flatMap enc) rw) ∧ b < n
theorem ListR.read {enc : α → List Value} {y : Nat} {a w : AW} {xs : List α} {v : Value} (h : ListR enc y a xs v w) : ListV enc w.heap w.next v xs := by
  rcases h with ⟨rfl, rfl, rfl⟩ | ⟨hne, rfl, rfl⟩
  · exact .inl ⟨rfl, rfl⟩
  · exact .inr ⟨_, _, _, _, rfl, look_self, Nat.lt_succ_self _⟩
theorem ListR.frame {enc : α → List Value} {y : Nat} {a w : AW} {xs : List α} {v : Value} (h : ListR enc y a xs v w) : w.base = a.base ∧ w.dirty = a.dirty ∧ a.next ≤ w.next ∧ ∀ j, j < a.next → look j w.heap = look j a.heap := by
  rcases h with ⟨rfl, rfl, rfl⟩ | ⟨hne, rfl, rfl⟩
  · exact ⟨rfl, rfl, Nat.le_refl _, fun j _ => rfl⟩
  · exact ⟨rfl, rfl, Nat.le_succ _, fun j hj => look_miss (by omega)⟩
theorem ListV.len {enc : α → List Value} {h n v} {xs : List α} (hv : ListV enc h n v xs) : ∃ p c, v = .slice p xs.length c := by
  rcases hv with ⟨rfl, rfl⟩ | ⟨b, sp, cap, rw, rfl, _⟩
  · exact ⟨none, 0, rfl⟩
  · exact ⟨_, _, rfl⟩
theorem ListV.keep {enc : α → List Value} {h h' : List (Nat × Blk)} {n n' : Nat} {v : Value} {xs : List α} (hv : ListV enc h n v xs) (hn : n ≤ n') (hf : ∀ j, j < n → look j h' = look j h) : ListV enc h' n' v xs := by
  rcases hv with ⟨rfl, rfl⟩ | ⟨b, sp, cap, rw, rfl, hb, hl⟩
  · exact .inl ⟨rfl, rfl⟩
  · exact .inr ⟨_, _, _, _, rfl, by rw [hf b hl]; exact hb, by omega⟩
end
end Go.Proofs.YtmdfejlfdgaomaaAM
