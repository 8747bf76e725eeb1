/- BuildBegins: the parts of the first elements are those of all but for the last one, and each part cut by itself is one part; for sizes from 0 to a room of at most 1,000. -/
import Derived.Test.YtijmlgccaicblaaBB2
import Derived.Test.YtijmlgccaicblaaCutSpec
namespace Go.Proofs.Ytijmlgccaicblaa.Pure
open Go.RowKit Go.Proofs.Ytijmlgccaicblaa.BB Go.Proofs.YtijmlgccaicblaaW.PrintWords Go.Proofs.YtijmlgccaicblaaW.PrintLast
open CutSpec (cutS)

theorem w64 {x : Int} (h0 : -1000000000000000 ≤ x) (h1 : x ≤ 1000000000000000) : wrap64 x = x := by unfold wrap64; omega
theorem rd_get (l : List Int) (i : Nat) (h : i < l.length) : rd l (i : Int) = l[i] := by
  simp [rd, List.getD_eq_getElem?_getD, List.getElem?_eq_getElem h]
theorem cut_run (l : List Int) (room : Int) (hl : l.length ≤ 100000) (hp : 0 < l.length) (h1 : room ≤ 1000000) (hr : ∀ x ∈ l, 0 ≤ x ∧ x ≤ room) :
    ∀ (d k i : Nat) (s : Int) (acc : List Int), l.length - i = d → i ≤ l.length → 0 ≤ s → s ≤ room → acc.length ≤ i → 2 * d < k →
      build_Cut.l0 k l room acc s l (l.length : Int) (i : Int) = some (acc ++ CutSpec.go room (l.drop i) i s) := by
  intro d
  induction d with
  | zero =>
    intro k i s acc hd hi hs0 hs ha hk
    obtain ⟨k, rfl⟩ : ∃ m, k = m + 1 := ⟨k - 1, by omega⟩
    have hi' : i = l.length := by omega
    simp only [build_Cut.l0]
    rw [if_neg (by omega), if_pos (by omega), if_pos (by omega)]
    subst hi'
    simp [CutSpec.go]
  | succ d ih =>
    intro k i s acc hd hi hs0 hs ha hk
    obtain ⟨k, rfl⟩ : ∃ m, k = m + 1 + 1 := ⟨k - 2, by omega⟩
    have hlt : i < l.length := by omega
    have hx := hr l[i] (List.getElem_mem hlt)
    simp only [build_Cut.l0]
    rw [if_pos (by omega), if_pos (by omega), if_pos (by omega), rd_get l i hlt, if_neg (by omega)]
    rw [show decide (l[i] > room) = false from decide_eq_false (by omega)]
    simp only [build_Cut.j1]
    rw [if_neg (by decide), w64 (by omega) (by omega)]
    rw [List.drop_eq_getElem_cons hlt]
    unfold CutSpec.go
    rw [w64 (x := (i : Int) + 1) (by omega) (by omega)]
    split
    · rw [if_pos (by omega), w64 (by omega) (by omega), Int.zero_add]
      have := ih k (i + 1) l[i] (acc ++ [(i : Int)]) (by omega) (by omega) hx.1 hx.2 (by simp; omega) (by omega)
      rw [show ((i + 1 : Nat) : Int) = (i : Int) + 1 from by omega] at this
      rw [this]; simp
    · rw [w64 (by omega) (by omega)]
      have := ih k (i + 1) (s + l[i]) acc (by omega) (by omega) (by omega) (by omega) (by omega) (by omega)
      rw [show ((i + 1 : Nat) : Int) = (i : Int) + 1 from by omega] at this
      exact this
theorem cut_f (l : List Int) (room : Int) (k : Nat) (hl : l.length ≤ 100000) (h0 : 0 ≤ room) (h1 : room ≤ 1000000) (hr : ∀ x ∈ l, 0 ≤ x ∧ x ≤ room) (hk : 2 * l.length < k) :
    build_Cut.f k l room = some (cutS room l) := by
  unfold build_Cut.f cutS
  by_cases hn : l = []
  · subst hn
    obtain ⟨k, rfl⟩ : ∃ m, k = m + 1 := ⟨k - 1, by omega⟩
    simp [build_Cut.l0]
  · have := cut_run l room hl (List.length_pos_iff.2 hn) h1 hr l.length k 0 0 [] (by omega) (by omega) (by omega) h0 (by simp) hk
    rw [if_neg hn]
    simpa using this
theorem same_run (l : List Int) (hl : l.length ≤ 100000) : ∀ (d k i : Nat), l.length - i = d → i ≤ l.length → d < k → careenagekit_Same_int.l0 k l l (i : Int) = some true := by
  intro d
  induction d with
  | zero =>
    intro k i hd hi hk
    obtain ⟨k, rfl⟩ : ∃ m, k = m + 1 := ⟨k - 1, by omega⟩
    simp only [careenagekit_Same_int.l0]
    rw [if_neg (by omega)]
  | succ d ih =>
    intro k i hd hi hk
    obtain ⟨k, rfl⟩ : ∃ m, k = m + 1 := ⟨k - 1, by omega⟩
    simp only [careenagekit_Same_int.l0]
    rw [if_pos (by omega), if_pos (by omega), if_pos (by omega), if_pos trivial, w64 (by omega) (by omega)]
    have := ih k (i + 1) (by omega) (by omega) (by omega)
    rwa [show ((i + 1 : Nat) : Int) = (i : Int) + 1 from by omega] at this
theorem same_f (l : List Int) (k : Nat) (hl : l.length ≤ 100000) (hk : l.length < k) : careenagekit_Same_int.f k l l = some true := by
  unfold careenagekit_Same_int.f
  rw [if_pos rfl]
  exact same_run l hl l.length k 0 (by omega) (by omega) hk
theorem own_f (l : List Int) (hl : l.length ≤ 100000) : careenagekit_Own_int.f l = some l := by
  unfold careenagekit_Own_int.f
  simp only [Option.bind_some, List.nil_append]
  rw [if_pos (by simp; omega)]
theorem pick_f (a m : Int) (h0 : 1 ≤ m) (h1 : m ≤ 1000000) : ∃ r : Nat, careenagekit_Pick.f a m = some (r : Int) ∧ (r : Int) < m := by
  unfold careenagekit_Pick.f
  rw [if_neg (by omega), if_neg (by omega)]
  have hb1 := Int.tmod_lt_of_pos a (show 0 < m by omega)
  have hb2 : -m < Int.tmod a m := by
    have := Int.lt_tmod_of_pos a (show 0 < m by omega)
    omega
  split
  · rw [w64 (by omega) (by omega)]
    exact ⟨(Int.tmod a m + m).toNat, by rw [Int.toNat_of_nonneg (by omega)], by omega⟩
  · exact ⟨(Int.tmod a m).toNat, by rw [Int.toNat_of_nonneg (by omega)], by omega⟩
theorem lives_f (k : Nat) (hk : 20 ≤ k) : careenagelaw13_lives.f k = some true := at_rounds careenagelaw13_lives.mono hk (by decide +kernel)

/-- One part: from the place at_ to b, the sum so far being that of the elements up to n. -/
theorem part_run (l E : List Int) (most : Int) (a b i : Nat) (hl : l.length ≤ 100) (h0 : 0 ≤ most) (h1 : most ≤ 1000) (hr : ∀ x ∈ l, 0 ≤ x ∧ x ≤ most) (hi : i < E.length) (hiE : E.length ≤ 1000) (hb : rd E (i : Int) = (b : Int))
    (hab : a < b) (hbl : b ≤ l.length) (hs : CutSpec.sum (CutSpec.part l a b) ≤ most) (hnext : ∀ h : b < l.length, most < CutSpec.sum (CutSpec.part l a b) + l[b]) (K : Nat) (hK : 300 < K)
    (hR : ∀ k, K ≤ k → careenagelaw13_BuildBegins.l2 k most l E (b : Int) ((i : Int) + 1) = some true) :
    ∀ (d k n : Nat), b - n = d → a ≤ n → n ≤ b → 0 ≤ CutSpec.sum (CutSpec.part l a n) → K + d + 1 ≤ k → careenagelaw13_BuildBegins.l3 k most l E (a : Int) (i : Int) (CutSpec.sum (CutSpec.part l a n)) (n : Int) = some true := by
  have hsub : ∀ n, n ≤ b → CutSpec.sum (CutSpec.part l a n) ≤ 100000 ∧ 0 ≤ CutSpec.sum (CutSpec.part l a n) := by
    intro n hn
    have hlen : (CutSpec.part l a n).length ≤ 100 := by unfold CutSpec.part; simp; omega
    have hin : ∀ x ∈ CutSpec.part l a n, 0 ≤ x ∧ x ≤ 1000 := fun x hx => by
      have := hr x (List.mem_of_mem_take (List.mem_of_mem_drop hx)); omega
    have key : ∀ q : List Int, (∀ x ∈ q, 0 ≤ x ∧ x ≤ 1000) → CutSpec.sum q ≤ 1000 * q.length ∧ 0 ≤ CutSpec.sum q := by
      intro q
      induction q with
      | nil => intro _; simp [CutSpec.sum]
      | cons y q ih =>
        intro hq
        have hy := hq y (by simp)
        have := ih (fun x hx => hq x (by simp [hx]))
        simp only [CutSpec.sum, List.length_cons]; omega
    have := key _ hin
    omega
  have hlb : (CutSpec.part l a b).length = b - a := by unfold CutSpec.part; simp; omega
  have hpin : ∀ x ∈ CutSpec.part l a b, 0 ≤ x ∧ x ≤ most := fun x hx => hr x (List.mem_of_mem_take (List.mem_of_mem_drop hx))
  have hcut : ∀ k, 300 < k → build_Cut.f k (CutSpec.part l a b) most = some [((b - a : Nat) : Int)] := by
    intro k hk
    rw [cut_f _ _ _ (by omega) h0 (by omega) hpin (by omega), CutSpec.cutS_one most _ (fun e => by rw [e] at hlb; simp at hlb; omega) (fun x hx => (hpin x hx).1) hs, hlb]
  have hown := own_f (CutSpec.part l a b) (by omega)
  intro d
  induction d with
  | zero =>
    intro k n hd ha hn hs0 hk
    obtain ⟨k, rfl⟩ : ∃ m, k = m + 1 := ⟨k - 1, by omega⟩
    have hnb : n = b := by omega
    subst hnb
    have hle : ((l.take ((n : Int)).toNat).drop ((a : Int)).toNat) = CutSpec.part l a n := by simp [CutSpec.part]
    simp only [careenagelaw13_BuildBegins.l3]
    rw [if_pos (by omega), if_pos (by omega), hb, if_neg (by omega), if_neg (by omega), hle, hown]
    simp only [Option.bind_some]
    rw [hcut k (by omega)]
    simp only [Option.bind_some]
    rw [w64 (x := (n : Int) - (a : Int)) (by omega) (by omega), show (n : Int) - (a : Int) = ((n - a : Nat) : Int) from by omega, same_f _ _ (by simp) (by simp; omega)]
    simp only [Option.bind_some, if_true]
    rw [w64 (x := (i : Int) + 1) (by omega) (by omega), hR k (by omega)]
    by_cases hlt : n < l.length
    · have h2 := hnext hlt
      have h3 := hr l[n] (List.getElem_mem hlt)
      have h4 := (hsub n (Nat.le_refl _)).1
      rw [if_pos (by omega), if_pos (by omega), rd_get l n hlt, w64 (by omega) (by omega), if_neg (by omega), if_pos (by omega), if_pos (by omega), if_pos (by omega)]
    · rw [if_neg (by omega), if_pos (by omega), if_pos (by omega), if_pos (by omega)]
  | succ d ih =>
    intro k n hd ha hn hs0 hk
    obtain ⟨k, rfl⟩ : ∃ m, k = m + 1 := ⟨k - 1, by omega⟩
    have hlt : n < l.length := by omega
    have h3 := hr l[n] (List.getElem_mem hlt)
    have h4 := (hsub n (by omega)).1
    simp only [careenagelaw13_BuildBegins.l3]
    rw [if_pos (by omega), if_pos (by omega), hb, if_pos (by omega), if_pos (by omega), if_pos (by omega), rd_get l n hlt, w64 (by omega) (by omega), w64 (x := (n : Int) + 1) (by omega) (by omega)]
    have := ih k (n + 1) (by omega) (by omega) (by omega) (hsub (n + 1) (by omega)).2 (by omega)
    rw [CutSpec.part_snoc l a n hlt ha] at this
    rwa [show ((n + 1 : Nat) : Int) = (n : Int) + 1 from by omega] at this
theorem parts_run (l : List Int) (most : Int) (hl : l.length ≤ 100) (h0 : 0 ≤ most) (h1 : most ≤ 1000) (hr : ∀ x ∈ l, 0 ≤ x ∧ x ≤ most) :
    ∀ (E2 E1 : List Int) (a : Nat), (E1 ++ E2).length ≤ 1000 → CutSpec.Ends most l a E2 → ∀ k, 301 + 102 * E2.length ≤ k → careenagelaw13_BuildBegins.l2 k most l (E1 ++ E2) (a : Int) (E1.length : Int) = some true
  | [], E1, a, hE, h, k, hk => by
    obtain ⟨k, rfl⟩ : ∃ m, k = m + 1 := ⟨k - 1, by simp at hk; omega⟩
    simp only [CutSpec.Ends] at h
    simp only [careenagelaw13_BuildBegins.l2, List.append_nil]
    rw [if_neg (by omega)]
    simp [h]
  | e :: E2, E1, a, hE, h, k, hk => by
    simp only [List.length_cons] at hk
    obtain ⟨k, rfl⟩ : ∃ m, k = m + 1 := ⟨k - 1, by omega⟩
    obtain ⟨b, rfl, hab, hbl, hs, hnext, _, hE2⟩ := h
    have hi : E1.length < (E1 ++ (b : Int) :: E2).length := by simp
    have hb : rd (E1 ++ (b : Int) :: E2) (E1.length : Int) = (b : Int) := by rw [rd_get _ _ hi]; simp
    have ih := parts_run l most hl h0 h1 hr E2 (E1 ++ [(b : Int)]) b (by simpa using hE) hE2
    simp only [List.append_assoc, List.singleton_append, List.length_append, List.length_singleton] at ih
    simp only [careenagelaw13_BuildBegins.l2]
    rw [if_pos (by omega), if_pos (by omega), hb, if_neg (by omega), if_neg (by omega)]
    have := part_run l (E1 ++ (b : Int) :: E2) most a b E1.length hl h0 h1 hr hi hE hb hab hbl hs hnext (301 + 102 * E2.length) (by omega) (fun k hk => by
      have := ih k hk
      rwa [show ((E1.length + 1 : Nat) : Int) = (E1.length : Int) + 1 from by omega] at this) (b - a) k a rfl (Nat.le_refl _) (by omega) (by rw [CutSpec.part_self]; simp [CutSpec.sum]) (by omega)
    rw [CutSpec.part_self] at this
    exact this
theorem begins_run (l A B : List Int) (most : Int) (hB : B.length ≤ 1000) (hAB : B.length ≤ A.length) (heq : ∀ (i : Nat), i + 1 < B.length → rd A (i : Int) = rd B (i : Int)) (K : Nat)
    (hR : ∀ k, K ≤ k → careenagelaw13_BuildBegins.l2 k most l A 0 0 = some true) :
    ∀ (d k i : Nat), B.length - i = d → K + d + 1 ≤ k → i ≤ 1000 → careenagelaw13_BuildBegins.l1 k most l A B (i : Int) = some true := by
  intro d
  induction d with
  | zero =>
    intro k i hd hk hi
    obtain ⟨k, rfl⟩ : ∃ m, k = m + 1 := ⟨k - 1, by omega⟩
    simp only [careenagelaw13_BuildBegins.l1]
    rw [w64 (by omega) (by omega), if_neg (by omega), hR k (by omega)]
  | succ d ih =>
    intro k i hd hk hi
    obtain ⟨k, rfl⟩ : ∃ m, k = m + 1 := ⟨k - 1, by omega⟩
    simp only [careenagelaw13_BuildBegins.l1]
    rw [w64 (by omega) (by omega)]
    by_cases hlt : i + 1 < B.length
    · rw [if_pos (by omega), if_pos (by omega), if_pos (by omega), if_pos (by omega), if_pos (heq i hlt)]
      have := ih k (i + 1) (by omega) (by omega) (by omega)
      rwa [show ((i + 1 : Nat) : Int) = (i : Int) + 1 from by omega] at this
    · rw [if_neg (by omega), hR k (by omega)]
theorem list_run (l0 : List Int) (a2 most : Int) (h0 : 1 ≤ most) (h1 : most ≤ 1000) (hl : l0.length ≤ 100) (hu : ∀ x ∈ l0, 0 ≤ x ∧ x ≤ 65535) :
    ∀ (d k i : Nat) (acc : List Int), l0.length - i = d → i ≤ l0.length → acc.length = i → (∀ x ∈ acc, 0 ≤ x ∧ x ≤ most) → 20000 + d ≤ k → careenagelaw13_BuildBegins.l0 k l0 a2 most acc (i : Int) = some true := by
  intro d
  induction d with
  | zero =>
    intro k i acc hd hi ha hr hk
    obtain ⟨k, rfl⟩ : ∃ m, k = m + 1 := ⟨k - 1, by omega⟩
    obtain ⟨r, hpick, hrl⟩ := pick_f a2 ((acc.length : Int) + 1) (by omega) (by omega)
    have htake : ∀ x ∈ acc.take r, 0 ≤ x ∧ x ≤ most := fun x hx => hr x (List.mem_of_mem_take hx)
    have hlt : (acc.take r).length = r := by simp; omega
    have hA := CutSpec.cutS_length most acc
    have hB := CutSpec.cutS_length most (acc.take r)
    have hE := CutSpec.cutS_ends most acc (by omega) hr
    have hlast := CutSpec.ends_last most acc _ _ hE
    -- the parts of the first elements
    have hAB : ∃ c R, cutS most (acc.take r) = c ∧ (c = [] ∨ ∃ c0 x, c = c0 ++ [x] ∧ cutS most acc = c0 ++ R ∧ R ≠ []) := by
      refine ⟨_, (cutS most acc).drop ((cutS most (acc.take r)).length - 1), rfl, ?_⟩
      by_cases he : acc.take r = []
      · left; rw [he]; rfl
      · right
        have hne : acc ≠ [] := fun h => he (by rw [h]; simp)
        obtain ⟨c, R, e1, e2, e3⟩ := CutSpec.go_app most (acc.drop r) (acc.take r) 0 0
        rw [List.take_append_drop] at e2
        refine ⟨c, _, by unfold cutS; rw [if_neg he]; exact e1, ?_, ?_⟩
        · unfold cutS; rw [if_neg he, if_neg hne, e1, e2]; simp
        · unfold cutS; rw [if_neg he, if_neg hne, e1, e2]; simpa using e3
    obtain ⟨c, R, hc, hcR⟩ := hAB
    have hlen : (cutS most (acc.take r)).length ≤ (cutS most acc).length := by
      rw [hc]
      rcases hcR with rfl | ⟨c0, x, rfl, h2, h3⟩
      · simp
      · rw [h2]; simp; exact List.length_pos_iff.2 h3
    have heq : ∀ (i : Nat), i + 1 < (cutS most (acc.take r)).length → rd (cutS most acc) (i : Int) = rd (cutS most (acc.take r)) (i : Int) := by
      intro i hi
      rw [rd_get _ _ (by omega), rd_get _ _ (by omega)]
      rcases hcR with rfl | ⟨c0, x, rfl, h2, h3⟩
      · rw [hc] at hi; simp at hi
      · rw [hc] at hi
        simp at hi
        simp only [hc, h2]
        rw [List.getElem_append_left hi, List.getElem_append_left hi]
    have hR : ∀ k, 20000 - 2000 ≤ k → careenagelaw13_BuildBegins.l2 k most acc (cutS most acc) 0 0 = some true := fun k hk =>
      parts_run acc most (by omega) (by omega) h1 hr (cutS most acc) [] 0 (by simp; omega) hE k (by omega)
    have hj : careenagelaw13_BuildBegins.j1 k most acc (cutS most acc) (cutS most (acc.take r)) (decide (((cutS most (acc.take r)).length : Int) > ((cutS most acc).length : Int))) = some true := by
      obtain ⟨k, rfl⟩ : ∃ m, k = m + 1 := ⟨k - 1, by omega⟩
      rw [show decide (((cutS most (acc.take r)).length : Int) > ((cutS most acc).length : Int)) = false from decide_eq_false (by omega)]
      simp only [careenagelaw13_BuildBegins.j1]
      rw [if_neg (by decide)]
      exact begins_run acc _ _ most (by omega) hlen heq (20000 - 2000) hR _ k 0 rfl (by omega) (by omega)
    simp only [careenagelaw13_BuildBegins.l0]
    rw [if_neg (by omega), w64 (x := (acc.length : Int) + 1) (by omega) (by omega), hpick]
    simp only [Option.bind_some]
    rw [own_f acc (by omega)]
    simp only [Option.bind_some]
    rw [cut_f acc most k (by omega) (by omega) (by omega) hr (by omega)]
    simp only [Option.bind_some]
    rw [if_pos (by omega), if_pos (by omega), Int.toNat_natCast, own_f (acc.take r) (by omega)]
    simp only [Option.bind_some]
    rw [cut_f (acc.take r) most k (by omega) (by omega) (by omega) htake (by omega)]
    simp only [Option.bind_some]
    by_cases hp : (acc.length : Int) > 0
    · have hne : cutS most acc ≠ [] := by
        unfold cutS; rw [if_neg (by intro h; rw [h] at hp; simp at hp)]; exact CutSpec.go_ne _ _ _ _
      have hpos := List.length_pos_iff.2 hne
      have hl := hlast.1 hne
      have hrl : rd (cutS most acc) (((cutS most acc).length : Int) - 1) = (acc.length : Int) := by
        rw [show ((cutS most acc).length : Int) - 1 = (((cutS most acc).length - 1 : Nat) : Int) from by omega, rd_get _ _ (by omega)]
        rw [List.getLast?_eq_getElem?, List.getElem?_eq_getElem (by omega)] at hl
        exact Option.some.inj hl
      rw [if_pos hp, if_neg (by omega), w64 (by omega) (by omega), if_pos (by omega), if_pos (by omega), if_pos hrl, hj]
    · rw [if_neg hp, hj]
  | succ d ih =>
    intro k i acc hd hi ha hr hk
    obtain ⟨k, rfl⟩ : ∃ m, k = m + 1 := ⟨k - 1, by omega⟩
    have hlt : i < l0.length := by omega
    have hx := hu l0[i] (List.getElem_mem hlt)
    have hm1 := Int.tmod_lt_of_pos l0[i] (show 0 < most + 1 by omega)
    have hm0 := Int.tmod_nonneg (most + 1) hx.1
    simp only [careenagelaw13_BuildBegins.l0]
    rw [if_pos (by omega), if_pos (by omega), w64 (x := most + 1) (by omega) (by omega), if_neg (by omega), if_pos (by omega), rd_get l0 i hlt, w64 (x := l0[i]) (by omega) (by omega), w64 (x := (i : Int) + 1) (by omega) (by omega)]
    have := ih k (i + 1) (acc ++ [Int.tmod l0[i] (most + 1)]) (by omega) (by omega) (by simp; omega) (fun x hx' => by
      rcases List.mem_append.1 hx' with h | h
      · exact hr x h
      · have : x = Int.tmod l0[i] (most + 1) := by simpa using h
        omega) (by omega)
    rwa [show ((i + 1 : Nat) : Int) = (i : Int) + 1 from by omega] at this
theorem wf16 {x : Int} (h : (Lit.int .u16 x).wf = true) : 0 ≤ x ∧ x ≤ 65535 := by
  simp [Lit.wf, IntKind.min, IntKind.max, IntKind.signed, IntKind.bits] at h
  omega
theorem BuildBegins : careenagelaw13_BuildBegins.Pure := by
  intro l0 a1 a2 _ _ hu h1 _
  have hb := wf16 h1
  have hm0 := Int.tmod_nonneg 1000 hb.1
  have hm1 := Int.tmod_lt_of_pos a1 (show (0 : Int) < 1000 by omega)
  refine ⟨30000, ?_⟩
  unfold careenagelaw13_BuildBegins.f
  rw [lives_f 30000 (by omega)]
  simp only [Option.bind_some, if_true]
  by_cases hl : (l0.length : Int) > 100
  · rw [if_pos hl]
  · rw [if_neg hl, w64 (x := Int.tmod a1 1000) (by omega) (by omega), w64 (by omega) (by omega)]
    exact list_run l0 a2 _ (by omega) (by omega) (by omega) (fun x hx => wf16 (hu x hx)) l0.length 30000 0 [] (by omega) (by omega) rfl (fun x hx => by simp at hx) (by omega)
end Go.Proofs.Ytijmlgccaicblaa.Pure
