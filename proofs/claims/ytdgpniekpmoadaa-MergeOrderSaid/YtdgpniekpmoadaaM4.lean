/- Chapter 26: Merge. -/
import Derived.Test.YtdgpniekpmoadaaM3
namespace Go.Proofs.YtdgpniekpmoadaaAM
open Go Go.RowKit
set_option linter.unusedVariables false
set_option linter.unusedSimpArgs false
set_option maxRecDepth 10000
set_option maxHeartbeats 4000000

def encK (s : List UInt8) : List Value := [.string (mkStr s)]
theorem encK_len (b : List UInt8) : (encK b).length = 1 := rfl
theorem encK_map (l : List (List UInt8)) : l.flatMap encK = l.map fun s => .string (mkStr s) := by
  induction l with
  | nil => rfl
  | cons b l ih => rw [List.flatMap_cons, ih]; rfl
theorem strKeys_of : ∀ (l : List MapEntry) (ks : List (List UInt8)), l.map (·.key) = ks.map ekS → strKeysA l = some ks
  | [], [], _ => rfl
  | [], _ :: _, h => by simp at h
  | _ :: _, [], h => by simp at h
  | e :: l, k :: ks, h => by
    simp only [List.map_cons, List.cons.injEq] at h
    obtain ⟨h1, h2⟩ := h
    have ih := strKeys_of l ks h2
    unfold strKeysA
    rw [ih]
    obtain ⟨ky, vl, bn⟩ := e
    simp only at h1
    subst h1
    rfl
theorem sv_of {es : Array MapEntry} {ck : Nat} {all : List Pr} (hl : all.length ≤ 100000) (hnd : (all.map (·.key)).Nodup) (hkl : ∀ p ∈ all, p.key.length ≤ 140737488355328)
    (he : es.toList.map (fun e => (e.key, e.val)) = (idxM all 0).map (fun p => (ekS p.1, evN p.2))) (hbo : ∀ e ∈ es.toList, e.born < ck) (hbn : (es.toList.map (·.born)).Nodup) : svStr es ck = some ((srtK (all.map (·.key))).map fun s => .string (mkStr s)) := by
  have hk : es.toList.map (·.key) = (all.map (·.key)).map ekS := by
    have h1 := congrArg (List.map (·.1)) he
    rw [List.map_map, List.map_map] at h1
    rw [← idxM_keys all 0, List.map_map]
    exact h1
  have hs := strKeys_of _ _ hk
  have hsz : es.size ≤ 1000000 := by
    have h1 := congrArg List.length hk
    simp only [List.length_map, Array.length_toList] at h1
    omega
  unfold svStr
  rw [hs]
  simp only
  rw [if_pos ⟨hsz, by rw [List.all_eq_true]; exact fun e h => decide_eq_true (hbo e h), hbn, by
    rw [List.all_eq_true]
    intro s hs
    obtain ⟨p, hp, rfl⟩ := List.mem_map.1 hs
    exact decide_eq_true (hkl p hp), hnd⟩]
theorem sorted26 (B r : Nat) (all : List Pr) (hl : all.length ≤ 100000) (hnd : (all.map (·.key)).Nodup) (hkl : ∀ p ∈ all, p.key.length ≤ 140737488355328) (a : AW) (hb : look B a.heap = some (.cells [.map (some r)] true)) (hM : MapIs ekS evN (look r a.heap) (idxM all 0)) (K : Value → AW → Prop)
    (hK : ∀ v' n' h', a.next ≤ n' → n' ≤ a.next + 1 → RV encK 1 h' n' v' (srtK (all.map (·.key))) → (∀ j, j < a.next → look j h' = look j a.heap) → K v' ⟨n', h', a.base, a.dirty⟩) :
    WCall Try.prog GV 26 [.func (.func 31) #[] #[.pointer (some ⟨B, 0, none⟩)]] a K := by
  obtain ⟨es, ck, h1, h2, h3, h4⟩ := hM
  have hsv := sv_of hl hnd hkl h2 h3 h4
  have g1 : a.get B = some (.cells [.map (some r)] true) := hb
  have g2 : a.get r = some (.obj (.map es ck)) := h1
  obtain ⟨ks, hks⟩ : ∃ ks, ks = srtK (all.map (·.key)) := ⟨_, rfl⟩
  rw [← hks] at hsv hK
  cases ks with
  | nil =>
    have hg : given GV 26 #[.func (.func 31) #[] #[.pointer (some ⟨B, 0, none⟩)]] a = some (.slice none 0 0, a) := by
      simp only [given, GV, withKeys, if_true, keysG, g1, g2, List.getElem?_cons_zero, hsv, List.map_nil]
      simp
    rw [call_given (args := [_]) hg]
    exact hK _ a.next a.heap (Nat.le_refl _) (by omega) (.inl ⟨rfl, rfl⟩) fun _ _ => rfl
  | cons k ks =>
    have hfl : (List.map (fun s => Value.string (mkStr s)) (k :: ks)).all flat = true := by
      rw [List.all_eq_true]
      intro v hv
      obtain ⟨s, -, rfl⟩ := List.mem_map.1 hv
      rfl
    have hg : given GV 26 #[.func (.func 31) #[] #[.pointer (some ⟨B, 0, none⟩)]] a = some (growA 1 (ks.length + 1) ((k :: ks).map fun s => .string (mkStr s)) a) := by
      simp only [given, GV, withKeys, if_true, keysG, g1, g2, List.getElem?_cons_zero, hsv, List.map_cons]
      simp only [List.map_cons] at hfl
      simp [hfl]
    rw [call_given (args := [_]) hg]
    refine hK _ (a.next + 1) _ (by omega) (Nat.le_refl _) (.inr ⟨a.next, 0, some 2, (k :: ks).length, true, (k :: ks).map fun s => .string (mkStr s), rfl, look_self, Nat.lt_succ_self _, by simp, ?_, .inr (.inr rfl), Nat.le_refl _⟩) fun j hj => look_miss (by omega)
    rw [encK_map, List.drop_zero, List.take_of_length_le (by simp)]
def orP (o : Or') : Pr := ⟨kbytes o, o.val⟩
/-- All that is kept, in the order in which it came. -/
def keptT (there : List Pr) : List Pr := there.foldl addP []
def keptO (all : List Pr) (l : List Or') : List Pr := l.foldl (fun acc o => addP acc (orP o)) all
def keptA (there : List Pr) (l : List Or') : List Pr := keptO (keptT there) l
def getP (all : List Pr) (k : List UInt8) : Pr := (all.find? fun q => decide (q.key = k)).getD ⟨[], []⟩
/-- What a merge tells. -/
def outM (all : List Pr) : List Pr := (srtK (all.map (·.key))).map (getP all)
theorem addP_len (all : List Pr) (p : Pr) : all.length ≤ (addP all p).length ∧ (addP all p).length ≤ all.length + 1 := by
  unfold addP; split <;> simp
theorem hasK_iff {all : List Pr} {k : List UInt8} : hasK all k = true ↔ k ∈ all.map (·.key) := by
  simp only [hasK, List.any_eq_true, decide_eq_true_eq, List.mem_map]
theorem addP_nodup {all : List Pr} (p : Pr) (h : (all.map (·.key)).Nodup) : ((addP all p).map (·.key)).Nodup := by
  unfold addP
  split
  · exact h
  · rename_i hk
    rw [List.map_append, List.map_cons, List.map_nil, List.nodup_append]
    refine ⟨h, by simp, fun x hx y hy => ?_⟩
    simp only [List.mem_singleton] at hy
    rintro rfl
    exact hk (hasK_iff.2 (hy ▸ hx))
theorem addP_mem {all : List Pr} {p x : Pr} (h : x ∈ addP all p) : x ∈ all ∨ x = p := by
  unfold addP at h
  split at h
  · exact .inl h
  · simpa using h
theorem keptT_succ (there : List Pr) (i : Nat) (h : i < there.length) : keptT (there.take (i + 1)) = addP (keptT (there.take i)) there[i] := by
  unfold keptT
  rw [List.take_add_one, List.getElem?_eq_getElem h, List.foldl_append]; rfl
theorem keptO_succ (all : List Pr) (l : List Or') (i : Nat) (h : i < l.length) : keptO all (l.take (i + 1)) = addP (keptO all (l.take i)) (orP l[i]) := by
  unfold keptO
  rw [List.take_add_one, List.getElem?_eq_getElem h, List.foldl_append]; rfl
theorem kept_inv (Q : List Pr → Prop) {α : Type} (f : α → Pr) (h : ∀ all p, Q all → Q (addP all p)) : ∀ (l : List α) (all : List Pr), Q all → Q (l.foldl (fun acc o => addP acc (f o)) all)
  | [], _, h0 => h0
  | x :: l, all, h0 => kept_inv Q f h l _ (h _ _ h0)
theorem keptT_nodup (there : List Pr) : ((keptT there).map (·.key)).Nodup := kept_inv (fun all => (all.map (·.key)).Nodup) (fun p => p) (fun _ p h => addP_nodup p h) there [] (by simp)
theorem keptO_nodup {all : List Pr} (l : List Or') (h : (all.map (·.key)).Nodup) : ((keptO all l).map (·.key)).Nodup := kept_inv (fun all => (all.map (·.key)).Nodup) orP (fun _ p h => addP_nodup p h) l all h
theorem kept_len {α : Type} (f : α → Pr) : ∀ (l : List α) (all : List Pr), all.length ≤ (l.foldl (fun acc o => addP acc (f o)) all).length ∧ (l.foldl (fun acc o => addP acc (f o)) all).length ≤ all.length + l.length
  | [], _ => by simp
  | x :: l, all => by
    have h1 := addP_len all (f x)
    have h2 := kept_len f l (addP all (f x))
    simp only [List.foldl_cons, List.length_cons]
    omega
theorem keptT_len (there : List Pr) : (keptT there).length ≤ there.length := by have := (kept_len (fun p => p) there []).2; simpa [keptT] using this
theorem keptO_len (all : List Pr) (l : List Or') : all.length ≤ (keptO all l).length ∧ (keptO all l).length ≤ all.length + l.length := kept_len orP l all
theorem kept_mem {α : Type} (f : α → Pr) : ∀ (l : List α) (all : List Pr) (x : Pr), x ∈ l.foldl (fun acc o => addP acc (f o)) all → x ∈ all ∨ ∃ o ∈ l, x = f o
  | [], _, x, h => .inl h
  | y :: l, all, x, h => by
    rcases kept_mem f l _ x h with h | ⟨o, ho, rfl⟩
    · rcases addP_mem h with h | rfl
      · exact .inl h
      · exact .inr ⟨y, by simp, rfl⟩
    · exact .inr ⟨o, by simp [ho], rfl⟩
theorem outM_len (all : List Pr) : (outM all).length = all.length := by unfold outM; rw [List.length_map, (srtK_perm _).length_eq, List.length_map]
theorem soil_L {N : Nat} {L : List Nat} (h : ∀ x ∈ L, N ≤ x) : soilAll [] N L = [] := soil_from h
end Go.Proofs.YtdgpniekpmoadaaAM
