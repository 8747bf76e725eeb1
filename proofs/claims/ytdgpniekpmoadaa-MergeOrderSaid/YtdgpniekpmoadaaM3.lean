/- Chapter 26: what is kept, and one pair more. -/
import Derived.Test.YtdgpniekpmoadaaM2
namespace Go.Proofs.YtdgpniekpmoadaaAM
open Go Go.RowKit
set_option linter.unusedVariables false
set_option linter.unusedSimpArgs false
set_option maxRecDepth 10000
set_option maxHeartbeats 4000000

def hasK (all : List Pr) (k : List UInt8) : Bool := all.any fun q => decide (q.key = k)
/-- One pair more, if its key is new. -/
def addP (all : List Pr) (p : Pr) : List Pr := if hasK all p.key = true then all else all ++ [p]
def idxM : List Pr → Nat → List (List UInt8 × Nat)
  | [], _ => []
  | q :: r, i => (q.key, i + 1) :: idxM r (i + 1)
theorem idxM_len : ∀ (l : List Pr) (i : Nat), (idxM l i).length = l.length
  | [], _ => rfl
  | q :: r, i => by rw [idxM, List.length_cons, List.length_cons, idxM_len r]
theorem idxM_app (p : Pr) : ∀ (l : List Pr) (i : Nat), idxM (l ++ [p]) i = idxM l i ++ [(p.key, i + l.length + 1)]
  | [], i => rfl
  | q :: r, i => by
    rw [List.cons_append, idxM, idxM_app p r (i + 1), idxM, List.cons_append, List.length_cons]
    congr 4
    omega
theorem idxM_none (k : List UInt8) : ∀ (l : List Pr) (i : Nat), hasK l k = false → mget (idxM l i) k = none
  | [], _, _ => rfl
  | q :: r, i, h => by
    simp only [hasK, List.any_cons, Bool.or_eq_false_iff, decide_eq_false_iff_not] at h
    rw [idxM, mget, if_neg fun e => h.1 e.symm]
    exact idxM_none k r (i + 1) h.2
theorem idxM_some (k : List UInt8) : ∀ (l : List Pr) (i : Nat), hasK l k = true → ∃ j, ∃ hj : j < l.length, mget (idxM l i) k = some (i + j + 1) ∧ l[j].key = k ∧ (l.find? fun q => decide (q.key = k)) = some l[j]
  | [], _, h => by simp [hasK] at h
  | q :: r, i, h => by
    by_cases hq : q.key = k
    · refine ⟨0, by simp, ?_, hq, ?_⟩
      · rw [idxM, mget, if_pos hq.symm]
      · simp [hq]
    · have hr : hasK r k = true := by simpa [hasK, hq] using h
      obtain ⟨j, hj, h1, h2, h3⟩ := idxM_some k r (i + 1) hr
      refine ⟨j + 1, by simpa using hj, ?_, by simpa using h2, ?_⟩
      · rw [idxM, mget, if_neg fun e => hq e.symm, h1, show i + 1 + j + 1 = i + (j + 1) + 1 by omega]
      · simp [hq, h3]
theorem idxM_keys : ∀ (l : List Pr) (i : Nat), (idxM l i).map (·.1) = l.map (·.key)
  | [], _ => rfl
  | q :: r, i => by rw [idxM, List.map_cons, List.map_cons, idxM_keys r]
def ekS (s : List UInt8) : Value := .string (mkStr s)
def evN (n : Nat) : Value := .int .i64 (n : Int)
theorem keyS : KeyOk Try.prog 9 ekS := key_str und9
theorem look51 {a : AW} {r : Nat} {all : List Pr} (hM : MapIs ekS evN (look r a.heap) (idxM all 0)) (k : List UInt8) : lookupA Try.prog 51 (.map (some r)) (.string (mkStr k)) false a = some ((mget (idxM all 0) k).elim (.int .i64 0) evN) :=
  (lookup_map und51 keyS z3 hM k false).trans (by rw [if_neg (by simp)])
theorem OwnS.renew {α : Type} {enc : α → List Value} {z : Nat} {h : List (Nat × Blk)} {n q : Nat} {v : Value} {xs : List α} (ho : OwnS enc z h n q v xs) (N : Nat) (hN : n ≤ N) : ∃ q', OwnS enc z h n q' v xs ∧ (q' = q ∧ q < n ∨ q' = N ∧ v = .slice none 0 0 ∧ xs = []) := by
  rcases ho with ⟨e5, e6⟩ | hs5
  · exact ⟨N, .inl ⟨e5, e6⟩, .inr ⟨rfl, e5, e6⟩⟩
  · have : q < n := by obtain ⟨_, _, _, _, _, _, _, _, _, h7, _⟩ := hs5; exact h7
    exact ⟨q, .inr hs5, .inl ⟨rfl, this⟩⟩
/-- The closure that keeps a pair, if its key is new. -/
theorem put25 (p : Pr) (qa qb r q : Nat) (v : Value) (all : List Pr) (hl : all.length ≤ 100000) (a : AW) (hqa : qa < a.next) (hqb : qb < a.next) (hr : r < a.next) (hne : qa ≠ qb ∧ qa ≠ r ∧ qb ≠ r ∧ q ≠ qa ∧ q ≠ qb ∧ q ≠ r)
    (ha : look qa a.heap = some (.cells [.map (some r)] true)) (hM : MapIs ekS evN (look r a.heap) (idxM all 0)) (hb : look qb a.heap = some (.cells [v] true)) (ho : OwnS encPr 2 a.heap a.next q v all) (K : Value → AW → Prop)
    (hold : hasK all p.key = true → K (.bool false) a)
    (hnew : hasK all p.key = false → ∀ v' q' n' h' L, (∀ x ∈ L, x = r ∨ x = qb ∨ x = q) → a.next ≤ n' → look qb h' = some (.cells [v'] true) → MapIs ekS evN (look r h') (idxM (all ++ [p]) 0) → OwnS encPr 2 h' n' q' v' (all ++ [p]) → (q' = q ∨ a.next ≤ q') → (∀ j, j < a.next → j ≠ r → j ≠ qb → j ≠ q → look j h' = look j a.heap) → K (.bool true) ⟨n', h', a.base, soilAll a.dirty a.base L⟩) :
    WCall Try.prog GV 25 [.agg (encPr p).toArray, .pointer (some ⟨qa, 0, none⟩), .pointer (some ⟨qb, 0, none⟩)] a K := by
  obtain ⟨n1, n2, n3, n4, n5, n6⟩ := hne
  rw [call_env Try.func25 rfl Try.ntmps25 rfl rfl (by simp), encPr]
  have hM1 : MapIs ekS evN (look r ((a.next, Blk.cells [.string (mkStr p.key), .string (mkStr p.val)] true) :: a.heap)) (idxM all 0) := by rw [look_miss (by omega)]; exact hM
  have hlk := look51 (a := ⟨a.next + 1, (a.next, Blk.cells [.string (mkStr p.key), .string (mkStr p.val)] true) :: a.heap, a.next, []⟩) hM1 p.key
  cases hk : hasK all p.key with
  | true =>
    obtain ⟨j, hj, h1, h2, h3⟩ := idxM_some p.key all 0 hk
    rw [Nat.zero_add] at h1
    rw [h1] at hlk
    simp only [Option.elim, evN] at hlk
    simp -dsimp (maxSteps := 4000000) (disch := first | omega | assumption | (simp only [FB, Nat.reduceAdd]; done) | (simp only [LB]; omega)) only [EB, ↓reduceIte, WB, Nat.reduceSub, Nat.reduceAdd, Int.reduceEq, Int.reduceNe, Int.reduceLT, Int.reduceLE, Int.reduceAdd, Int.reduceSub, Int.reduceMul, Int.reduceNeg, Int.reduceToNat, Nat.reduceEqDiff, Nat.reduceLT, Nat.reduceLeDiff, Nat.reduceMul, List.replicate, reduceCtorEq, TB, NB, MB, ha, hlk, show qa ≠ a.next by omega, show (0 : Int) < ((j + 1 : Nat) : Int) by omega]
    exact hold hk
  | false =>
    rw [idxM_none _ _ _ hk] at hlk
    simp only [Option.elim] at hlk
    obtain ⟨ps, cs, hv⟩ := ho.len
    obtain ⟨q0, hoq, hq0⟩ := ho.renew (a.next + 5) (by omega)
    have m1 : q0 ≠ qa ∧ q0 ≠ qb ∧ q0 ≠ r ∧ q0 ≠ a.next ∧ q0 ≠ a.next + 1 := by omega
    have ho1 : OwnS encPr 2 ((a.next + 1, Blk.cells [.string (mkStr p.key), .string (mkStr p.val)] true) :: (a.next, Blk.cells [.string (mkStr p.key), .string (mkStr p.val)] true) :: a.heap) (a.next + 2) q0 v all := hoq.keep (by omega) fun hq => by rw [look_miss (by omega), look_miss (by omega)]
    obtain ⟨v3, q3, n4', h3, d3, e3, o3, f1, f2, f3, f4, f5⟩ := append_own (E := Try.prog) (t0 := 33) (t1 := 33) (bs := a.next) (d := []) app33 encPr_len encPr_one ho1 (RV.one (n := a.next + 2) (x := p) encPr_len look_self (by omega)) (by simp only [List.length_cons, List.length_nil]; omega)
    have hd3 : d3 = [] ∨ d3 = [q0] ∧ q0 < a.next := by
      rcases f5 with rfl | rfl
      · exact .inl rfl
      · unfold soilW; split
        · exact .inr ⟨rfl, by assumption⟩
        · exact .inl rfl
    have w1 : soilW a.next d3 qb = qb :: d3 := by
      unfold soilW
      rw [if_pos hqb]
      rcases hd3 with rfl | ⟨rfl, hd4⟩
      · rfl
      · rw [if_neg (by simp; omega)]
    have w2 : soilW a.next (qb :: d3) r = r :: qb :: d3 := by
      unfold soilW
      rw [if_pos hr]
      rcases hd3 with rfl | ⟨rfl, hd4⟩
      · rw [if_neg (by simp; omega)]
      · rw [if_neg (by simp; omega)]
    have b1 : look qb h3 = some (.cells [v] true) := by rw [f4 qb (by omega) (by omega), look_miss (by omega), look_miss (by omega)]; exact hb
    have b2 : look qa h3 = some (.cells [.map (some r)] true) := by rw [f4 qa (by omega) (by omega), look_miss (by omega), look_miss (by omega)]; exact ha
    have b3 : look a.next h3 = some (.cells [.string (mkStr p.key), .string (mkStr p.val)] true) := by rw [f4 a.next (by omega) (by omega), look_miss (by omega), look_self]
    have b4 : MapIs ekS evN (look r h3) (idxM all 0) := by rw [f4 r (by omega) (by omega), look_miss (by omega), look_miss (by omega)]; exact hM
    obtain ⟨p3, c3, hv3⟩ := o3.len
    obtain ⟨mb, hup, hmb⟩ := update_map und51 keyS (a := ⟨n4', putAt qb (Blk.cells [v3] true) h3, a.next, qb :: d3⟩) (r := r) (M := idxM all 0) (by show MapIs ekS evN (look r (putAt qb _ h3)) _; rw [look_wput_ne (by omega)]; exact b4) p.key ((all ++ [p]).length)
    rw [setM_new (idxM_none _ _ _ hk)] at hmb
    have happ : idxM (all ++ [p]) 0 = idxM all 0 ++ [(p.key, (all ++ [p]).length)] := by rw [idxM_app]; simp
    rw [← happ] at hmb
    simp only [ekS, evN] at hup
    subst hv3
    simp -dsimp (maxSteps := 4000000) (disch := first | omega | assumption | (simp only [FB, Nat.reduceAdd]; done) | (simp only [LB]; omega)) only [EB, ↓reduceIte, WB, Nat.reduceSub, Nat.reduceAdd, Int.reduceEq, Int.reduceNe, Int.reduceLT, Int.reduceLE, Int.reduceAdd, Int.reduceSub, Int.reduceMul, Int.reduceNeg, Int.reduceToNat, Nat.reduceEqDiff, Nat.reduceLT, Nat.reduceLeDiff, Nat.reduceMul, List.replicate, reduceCtorEq, TB, NB, MB, ha, hb, hlk, show qa ≠ a.next by omega, show qb ≠ a.next by omega, show qb ≠ a.next + 1 by omega, e3]
    simp -dsimp (maxSteps := 4000000) (disch := first | omega | assumption | (simp only [FB, Nat.reduceAdd]; done) | (simp only [LB]; omega)) only [EB, ↓reduceIte, WB, Nat.reduceSub, Nat.reduceAdd, Int.reduceEq, Int.reduceNe, Int.reduceLT, Int.reduceLE, Int.reduceAdd, Int.reduceSub, Int.reduceMul, Int.reduceNeg, Int.reduceToNat, Nat.reduceEqDiff, Nat.reduceLT, Nat.reduceLeDiff, Nat.reduceMul, List.replicate, reduceCtorEq, TB, NB, MB, b1, b2, b3, write_soil, w1, look_wput_ne (show qa ≠ qb by omega), look_wput_ne (show a.next ≠ qb by omega), look_wput_self, hup, w2]
    simp only [leave_soiled]
    refine hnew hk (.slice p3 (all ++ [p]).length c3) q3 n4' _ (r :: qb :: d3) (fun x hx => ?_) (by omega) ?_ ?_ ?_ (by omega) fun j hj j1 j2 j3 => ?_
    · rcases List.mem_cons.1 hx with rfl | hx
      · exact .inl rfl
      · rcases List.mem_cons.1 hx with rfl | hx
        · exact .inr (.inl rfl)
        · rcases hd3 with rfl | ⟨rfl, hd4⟩
          · cases hx
          · have hxq : x = q0 := by simpa using hx
            omega
    · rw [look_wput_ne (by omega), look_wput_self, b1]; rfl
    · rw [look_wput_self, look_wput_ne (by omega)]
      obtain ⟨es, ck, he, -⟩ := b4
      rw [he]
      exact hmb
    · refine o3.keep (Nat.le_refl _) fun hq => ?_
      rw [look_wput_ne (by omega), look_wput_ne (by omega)]
    · rw [look_wput_ne j1, look_wput_ne j2, f4 j (by omega) (by omega), look_miss (by omega), look_miss (by omega)]
end Go.Proofs.YtdgpniekpmoadaaAM
