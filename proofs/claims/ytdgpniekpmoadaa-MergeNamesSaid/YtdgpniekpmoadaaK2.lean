/- Chapter 26: what stands for slices.Sorted(maps.Keys(m)), keys being strings. -/
import Derived.Test.YtdgpniekpmoadaaT0
import Derived.Test.YtdgpniekpmoadaaK0
import Derived.Test.YtdgpniekpmoadaaK1
namespace Go.Proofs.YtdgpniekpmoadaaAM
open Go Go.RowKit Go.WideElems
set_option linter.unusedVariables false
set_option linter.unusedSimpArgs false
set_option maxRecDepth 10000
set_option maxHeartbeats 4000000

def insK (x : List UInt8) : List (List UInt8) → List (List UInt8)
  | [] => [x]
  | y :: r => if Op.bytesLess y x = true then y :: insK x r else x :: y :: r
def srtK : List (List UInt8) → List (List UInt8)
  | [] => []
  | x :: r => insK x (srtK r)
def strKeysA : List MapEntry → Option (List (List UInt8))
  | [] => some []
  | e :: r => match e.key, strKeysA r with
    | .string s, some l => some (strOf s :: l)
    | _, _ => none
def svStr (es : Array MapEntry) (clock : Nat) : Option (List Value) := match strKeysA es.toList with
  | some ss => if es.size ≤ 1000000 ∧ (es.toList.all fun e => decide (e.born < clock)) = true ∧ (es.toList.map (·.born)).Nodup ∧ (ss.all fun s => decide (s.length ≤ 140737488355328)) = true ∧ ss.Nodup then some ((srtK ss).map fun s => .string (mkStr s)) else none
  | none => none
theorem keys_same {ρ : Ren} {K : Nat} {l l' : List MapEntry} (h : EsRel ρ K l l') : ∀ {ss}, strKeysA l = some ss → strKeysA l' = some ss ∧ l'.map (·.born) = l.map (·.born) ∧ l'.length = l.length := by
  induction h with
  | nil => intro ss h; exact ⟨h, rfl, rfl⟩
  | cons he hr ih =>
    intro ss h
    cases he with
    | mk n hk hv =>
      unfold strKeysA at h ⊢
      simp only at h ⊢
      split at h
      · rename_i s l0 h2
        obtain ⟨i1, i2, i3⟩ := ih h2
        cases hk
        rw [i1]
        cases h
        exact ⟨rfl, by simp only [List.map_cons, i2], by simp only [List.length_cons, i3]⟩
      · cases h
theorem svStr_same (ρ : Ren) (K : Nat) (es es' : Array MapEntry) (clock : Nat) (vs : List Value) (h : EsRel ρ K es.toList es'.toList) (hs : svStr es clock = some vs) : svStr es' clock = some vs := by
  unfold svStr at hs ⊢
  cases hk : strKeysA es.toList with
  | none => rw [hk] at hs; cases hs
  | some ss =>
    obtain ⟨h1, h2, h3⟩ := keys_same h hk
    rw [hk] at hs
    rw [h1]
    have hsz : es'.size = es.size := h3
    have hal : (es'.toList.all fun e => decide (e.born < clock)) = (es.toList.all fun e => decide (e.born < clock)) := by
      have a1 : ∀ l : List MapEntry, (l.all fun e => decide (e.born < clock)) = (l.map (·.born)).all fun n => decide (n < clock) := fun l => by rw [List.all_map]; rfl
      rw [a1, a1, h2]
    simp only [hsz, hal, h2]
    exact hs
theorem insK_perm (x : List UInt8) : ∀ l, (insK x l).Perm (x :: l)
  | [] => .refl _
  | y :: r => by
    unfold insK
    split
    · exact ((insK_perm x r).cons y).trans (.swap x y r)
    · exact .refl _
theorem srtK_perm : ∀ l, (srtK l).Perm l
  | [] => .refl _
  | x :: r => (insK_perm x (srtK r)).trans ((srtK_perm r).cons x)
theorem insK_srt (x : List UInt8) : ∀ l : List (List UInt8), l.Pairwise (fun a b => a ≤ b) → (insK x l).Pairwise (fun a b => a ≤ b)
  | [], _ => by simp [insK]
  | y :: r, h => by
    unfold insK
    rw [List.pairwise_cons] at h
    split
    · rename_i hlt
      rw [Go.Proofs.bytesLess_eq, decide_eq_true_eq] at hlt
      rw [List.pairwise_cons]
      refine ⟨fun z hz => ?_, insK_srt x r h.2⟩
      rcases List.mem_cons.1 ((insK_perm x r).mem_iff.1 hz) with rfl | hz
      · exact List.le_of_lt hlt
      · exact h.1 z hz
    · rename_i hlt
      rw [Go.Proofs.bytesLess_eq, decide_eq_true_eq] at hlt
      have hxy : x ≤ y := List.not_lt.1 hlt
      rw [List.pairwise_cons, List.pairwise_cons]
      exact ⟨fun z hz => by
        rcases List.mem_cons.1 hz with rfl | hz
        · exact hxy
        · exact List.le_trans hxy (h.1 z hz), h⟩
theorem srtK_srt : ∀ l : List (List UInt8), (srtK l).Pairwise (fun a b => a ≤ b)
  | [] => .nil
  | x :: r => insK_srt x _ (srtK_srt r)
theorem srtK_merge {l l' : List (List UInt8)} (h : l'.Perm l) : l'.mergeSort (fun x y => decide (x ≤ y)) = srtK l := by
  have tr : ∀ a b c : List UInt8, decide (a ≤ b) = true → decide (b ≤ c) = true → decide (a ≤ c) = true := fun a b c h1 h2 => by simp only [decide_eq_true_eq] at *; exact List.le_trans h1 h2
  have to : ∀ a b : List UInt8, (decide (a ≤ b) || decide (b ≤ a)) = true := fun a b => by simp only [Bool.or_eq_true, decide_eq_true_eq]; exact List.le_total a b
  refine List.Perm.eq_of_pairwise (le := fun a b : List UInt8 => a ≤ b) (fun a b _ _ h1 h2 => List.le_antisymm h1 h2) ?_ (srtK_srt l) (((List.mergeSort_perm l' _).trans h).trans (srtK_perm l).symm)
  exact (List.pairwise_mergeSort tr to l').imp fun h => by simpa using h
theorem sorts26 (m : Nat) : AnyZ.SortsIn Try.prog Try.sorted26_ren Fence.wide m :=
  ⟨fun blk off cap ss W hH hblk hsz => callsIn_wide.2 (AnyM.slices_Sort_string Try.sort30 blk off cap ss W hH hblk hsz),
   fun p cap W => callsIn_wide.2 (AnyM.slices_Sort_string_none Try.sort30 p cap W)⟩
/-- An entry, as it reads: what lies under the key doesn't matter. -/
def anyR : Value → Option (DataW Unit × List MemPlace) := fun _ => some (.lit (.bool true), [])
theorem reads_of : ∀ {l : List MapEntry} {ss : List (List UInt8)}, strKeysA l = some ss → (∀ s ∈ ss, s.length ≤ 140737488355328) →
    (∀ x ∈ l, ∃ y, rd Try.prog 9 anyR x = some y) ∧ (l.map (rg Try.prog 9 anyR)).map (fun p => Go.strOf p.1) = ss ∧ l.map (·.key) = ss.map fun s => .string (mkStr s)
  | [], ss, h, _ => by
    cases h
    exact ⟨fun x hx => by (cases hx), rfl, rfl⟩
  | e :: r, ss, h, hb => by
    unfold strKeysA at h
    split at h
    · rename_i s l0 h1 h2
      cases h
      obtain ⟨i1, i2, i3⟩ := reads_of h2 fun x hx => hb x (by simp [hx])
      obtain ⟨key, val, born⟩ := e
      simp only at h1
      subst h1
      have hs : s.size ≤ maxLen := by
        have h0 := hb (strOf s) (by simp)
        have h3 : (strOf s).length = s.size := rfl
        unfold maxLen; omega
      have hk : keyOf Try.prog 9 (.string s) = some (.string (strOf s)) := by
        show mapKey Try.prog 9 (.string s) = _
        unfold mapKey
        rw [und9]
        simp only [hs, if_true]
        rfl
      have hrd : rd Try.prog 9 anyR ⟨.string s, val, born⟩ = some (.string (strOf s), .lit (.bool true)) := rd_mk (yv := (.lit (.bool true), [])) hk rfl
      refine ⟨fun x hx => ?_, ?_, ?_⟩
      · rcases List.mem_cons.1 hx with rfl | hx
        · exact ⟨_, hrd⟩
        · exact i1 x hx
      · simp only [List.map_cons, i2, rg_of hrd]
        rfl
      · simp only [List.map_cons, i3]
        rfl
    · cases h
theorem keys_say : KeysSay Try.prog 26 31 9 svStr := by
  intro w B s b es clock vs hcell hB hmap hsv
  unfold svStr at hsv
  cases hk : strKeysA es.toList with
  | none => rw [hk] at hsv; cases hsv
  | some ss =>
    rw [hk] at hsv
    simp only at hsv
    split at hsv
    · rename_i hc
      obtain ⟨hsz, hbo, hnb, hln, hns⟩ := hc
      cases hsv
      simp only [List.all_eq_true, decide_eq_true_eq] at hbo hln
      obtain ⟨r1, r2, r3⟩ := reads_of hk hln
      have hkn : (es.toList.map (·.key)).Nodup := by
        rw [r3]
        refine List.Pairwise.map _ (fun a b hab h => hab ?_) hns
        injection h with h; injection h with h; injection h
      have hfit : Fit Try.prog 9 anyR es clock := ⟨by unfold maxLen; omega, ⟨hbo, hnb, hkn⟩, r1⟩
      obtain ⟨D, hD⟩ : ∃ D : DataW Unit, D = .map ((es.toList.map (rg Try.prog 9 anyR)).foldr DataW.insert []) := ⟨_, rfl⟩
      have hown : w.ownsMap Try.prog 9 anyR b es.size D := ⟨es, clock, hmap, hfit, Nat.le_refl _, hD⟩
      have hDs : Go.Maps.size D = es.size := by
        rw [hD]
        show ((es.toList.map (rg Try.prog 9 anyR)).foldr DataW.insert []).length = _
        rw [Go.length_sorted]; simp
      have hbl : b < w.heap.size := by
        rcases Nat.lt_or_ge b w.heap.size with h | h
        · exact h
        · rw [Array.getElem?_eq_none h] at hmap; cases hmap
      have hseq : SeqGives Fence.wide 2 Try.prog 31 #[.pointer (some ⟨B, s, none⟩)] encStr (fun ss => ss.Perm (Go.strKeys D)) (Go.Maps.size D) w := fun l J W hW hJ hY h0 =>
        keys_walk 2 (by omega) l B s b es.size D J hY W hJ ((hW.cell (p := ⟨B, s, none⟩) hB).trans hcell) ⟨es, clock, (hW.block b hbl).trans hmap, hfit, Nat.le_refl _, hD⟩ h0
      have cS := AnyZ.sorted_in Try.sorted26 Fence.wide 5 trivial trivial trivial trivial rfl (by omega) (sorts26 _) (Go.Proofs.enters_of Try.func30 (by kernel_rfl) rfl) 31 #[.pointer (some ⟨B, s, none⟩)] trivial (Go.Proofs.enters_of Try.func31 (by kernel_rfl) rfl) _ (Go.Maps.size D) (by rw [hDs]; unfold maxLen; omega) (by rw [hDs]; omega) w hseq
      refine ((callsIn_wide (n := 5)).1 cS).mono ?_
      rintro e w' ⟨v, tt, rfl, hp, hrow, hnil, hbel⟩
      have hperm : tt.Perm ss := by
        refine hp.trans ?_
        rw [hD]
        show (((es.toList.map (rg Try.prog 9 anyR)).foldr DataW.insert []).map fun p => Go.strOf p.1).Perm ss
        rw [← r2]
        exact (Go.WideShapes.sorted_perm _).map _
      have hm := srtK_merge hperm
      have hl : tt.length = (srtK ss).length := by rw [hperm.length_eq, (srtK_perm ss).length_eq]
      refine ⟨v, rfl, ?_, ?_, hbel⟩
      · rw [hm, hl] at hrow
        rw [List.length_map]
        exact hrow
      · rw [hnil]
        constructor
        · intro h
          have : srtK ss = [] := by
            rw [h] at hl
            exact List.eq_nil_of_length_eq_zero hl.symm
          rw [this]; rfl
        · intro h
          have h2 := congrArg List.length h
          simp only [List.length_map, List.length_nil] at h2
          exact List.eq_nil_of_length_eq_zero (by omega)
    · cases hsv
end Go.Proofs.YtdgpniekpmoadaaAM
