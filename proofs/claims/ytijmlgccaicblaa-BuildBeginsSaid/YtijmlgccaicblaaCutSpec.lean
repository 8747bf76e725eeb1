/- Parts of sizes: what Cut answers, as a plain function, and its laws. -/
namespace Go.Proofs.Ytijmlgccaicblaa.CutSpec
/-- The ends of the parts of what is left, at place i, the part so far having size s. -/
def go (room : Int) : List Int → Nat → Int → List Int
  | [], i, _ => [(i : Int)]
  | n :: t, i, s => if n > room - s then (i : Int) :: go room t (i + 1) n else go room t (i + 1) (s + n)
def cutS (room : Int) (l : List Int) : List Int := if l = [] then [] else go room l 0 0
def sum : List Int → Int
  | [] => 0
  | n :: t => n + sum t
theorem sum_append (a b : List Int) : sum (a ++ b) = sum a + sum b := by
  induction a with
  | nil => simp [sum]
  | cons x a ih => simp only [List.cons_append, sum, ih]; omega
theorem go_ne (room : Int) : ∀ t i s, go room t i s ≠ []
  | [], i, s => by simp [go]
  | n :: t, i, s => by
    unfold go
    split
    · simp
    · exact go_ne room t _ _
theorem go_length (room : Int) : ∀ t i s, (go room t i s).length ≤ t.length + 1
  | [], i, s => by simp [go]
  | n :: t, i, s => by
    unfold go
    split
    · have := go_length room t (i + 1) n; simp only [List.length_cons]; omega
    · have := go_length room t (i + 1) (s + n); simp only [List.length_cons]; omega
theorem cutS_length (room : Int) (l : List Int) : (cutS room l).length ≤ l.length + 1 := by
  unfold cutS
  split
  · simp
  · exact go_length room l 0 0
theorem go_app (room : Int) (t2 : List Int) : ∀ (t1 : List Int) (i : Nat) (s : Int), ∃ c r, go room t1 i s = c ++ [((i + t1.length : Nat) : Int)] ∧ go room (t1 ++ t2) i s = c ++ r ∧ r ≠ []
  | [], i, s => ⟨[], _, by simp [go], rfl, go_ne room _ _ _⟩
  | n :: t1, i, s => by
    simp only [List.cons_append, go]
    split
    · obtain ⟨c, r, h1, h2, h3⟩ := go_app room t2 t1 (i + 1) n
      refine ⟨(i : Int) :: c, r, ?_, by rw [h2]; rfl, h3⟩
      rw [h1]; simp only [List.cons_append, List.length_cons]; rw [show i + 1 + t1.length = i + (t1.length + 1) by omega]
    · obtain ⟨c, r, h1, h2, h3⟩ := go_app room t2 t1 (i + 1) (s + n)
      refine ⟨c, r, ?_, h2, h3⟩
      rw [h1]; simp only [List.length_cons]; rw [show i + 1 + t1.length = i + (t1.length + 1) by omega]
/-- Nothing is cut where all fits. -/
theorem go_one (room : Int) : ∀ (t : List Int) (i : Nat) (s : Int), (∀ x ∈ t, 0 ≤ x) → s + sum t ≤ room → go room t i s = [((i + t.length : Nat) : Int)]
  | [], i, s, _, _ => by simp [go]
  | n :: t, i, s, h0, hs => by
    have hn := h0 n (by simp)
    have ht : ∀ x ∈ t, 0 ≤ x := fun x hx => h0 x (by simp [hx])
    have hsum : 0 ≤ sum t := by
      clear hs h0
      induction t with
      | nil => simp [sum]
      | cons a t ih =>
        have h1 := ht a (by simp)
        have h2 := ih (fun x hx => ht x (by simp [hx]))
        simp only [sum]; omega
    simp only [sum] at hs
    unfold go
    rw [if_neg (by omega), go_one room t (i + 1) (s + n) ht (by omega)]
    simp only [List.length_cons]; rw [show i + 1 + t.length = i + (t.length + 1) by omega]
theorem cutS_one (room : Int) (l : List Int) (hl : l ≠ []) (h0 : ∀ x ∈ l, 0 ≤ x) (hs : sum l ≤ room) : cutS room l = [(l.length : Int)] := by
  unfold cutS
  rw [if_neg hl, go_one room l 0 0 h0 (by omega)]
  simp
/-- The part of l from a to b. -/
def part (l : List Int) (a b : Nat) : List Int := (l.take b).drop a
/-- E are the ends of the parts of l from place a on. -/
def Ends (room : Int) (l : List Int) : Nat → List Int → Prop
  | a, [] => a = l.length
  | a, e :: E => ∃ b : Nat, e = (b : Int) ∧ a < b ∧ b ≤ l.length ∧ sum (part l a b) ≤ room ∧ (∀ h : b < l.length, room < sum (part l a b) + l[b]) ∧ (b = l.length → E = []) ∧ Ends room l b E
theorem part_snoc (l : List Int) (a b : Nat) (h : b < l.length) (hab : a ≤ b) : sum (part l a (b + 1)) = sum (part l a b) + l[b] := by
  unfold part
  rw [List.take_succ_eq_append_getElem h, List.drop_append_of_le_length (by simp; omega), sum_append]
  simp [sum]
theorem part_self (l : List Int) (a : Nat) : part l a a = [] := by unfold part; simp
theorem go_ends (room : Int) (l : List Int) (hr : ∀ x ∈ l, 0 ≤ x ∧ x ≤ room) : ∀ (d i a : Nat), l.length - i = d → i ≤ l.length → (a < i ∨ (a = i ∧ i < l.length)) → sum (part l a i) ≤ room →
    Ends room l a (go room (l.drop i) i (sum (part l a i))) := by
  intro d
  induction d with
  | zero =>
    intro i a hd hi ha hs
    have hi' : i = l.length := by omega
    subst hi'
    simp only [List.drop_length, go, Ends]
    exact ⟨_, rfl, by omega, by omega, hs, fun h => by omega, fun _ => trivial, rfl⟩
  | succ d ih =>
    intro i a hd hi ha hs
    have hlt : i < l.length := by omega
    rw [List.drop_eq_getElem_cons hlt]
    have hx := hr l[i] (List.getElem_mem hlt)
    have hp := part_snoc l a i hlt (by omega)
    unfold go
    split
    · rename_i hcut
      have hai : a < i := by
        rcases ha with ha | ⟨ha, _⟩
        · exact ha
        · subst ha; rw [part_self] at hcut hs; simp only [sum] at hcut; omega
      have h1 : sum (part l i (i + 1)) = l[i] := by rw [part_snoc l i i hlt (Nat.le_refl _), part_self]; simp [sum]
      have h2 := ih (i + 1) i (by omega) (by omega) (Or.inl (by omega)) (by omega)
      rw [h1] at h2
      exact ⟨i, rfl, hai, hi, hs, fun _ => by omega, fun h => by omega, h2⟩
    · rename_i hcut
      have h2 := ih (i + 1) a (by omega) (by omega) (Or.inl (by omega)) (by omega)
      rw [hp] at h2
      exact h2
theorem cutS_ends (room : Int) (l : List Int) (h0 : 0 ≤ room) (hr : ∀ x ∈ l, 0 ≤ x ∧ x ≤ room) : Ends room l 0 (cutS room l) := by
  unfold cutS
  split
  · rename_i h; subst h; simp [Ends]
  · rename_i h
    have hl : 0 < l.length := List.length_pos_iff.2 h
    have := go_ends room l hr l.length 0 0 (by omega) (by omega) (Or.inr ⟨rfl, hl⟩) (by rw [part_self]; exact h0)
    rw [part_self] at this
    simpa [sum] using this
theorem ends_last (room : Int) (l : List Int) : ∀ (E : List Int) (a : Nat), Ends room l a E → (E ≠ [] → E.getLast? = some (l.length : Int)) ∧ (E = [] → a = l.length)
  | [], a, h => ⟨fun h => absurd rfl h, fun _ => h⟩
  | e :: E, a, h => by
    obtain ⟨b, rfl, _, _, _, _, _, hE⟩ := h
    obtain ⟨h1, h2⟩ := ends_last room l E b hE
    refine ⟨fun _ => ?_, fun h => by cases h⟩
    cases E with
    | nil => simp [h2 rfl]
    | cons x E => rw [List.getLast?_cons_cons]; exact h1 (by simp)
end Go.Proofs.Ytijmlgccaicblaa.CutSpec
