/- merge.Key returns six bytes of the page and of the place, and the first 34 bytes of the key. -/
import Derived.Test.YtdgpniekpmoadaaPMergeKeysx0
import Derived.IntWalk
namespace Go.Proofs.Ytdgpniekpmoadaa.A
open Go.RowKit Go.Proofs.YtdgpniekpmoadaaW.PrintWords Go.Proofs.YtdgpniekpmoadaaW.PrintLast Go.Proofs.YtdgpniekpmoadaaW.PrintMore
open Go.Proofs.Ytdgpniekpmoadaa.PMergeKeys
attribute [local go_sem] max2_int min2_int max_two min_two max_three min_three max_four min_four

theorem lit_C (W : World) (k : IntKind) (e : TypeId) (xs : List Int) (hm : xs.length ≤ 9223372036854775807) : (Kd.int k).C (W.alloc (.cells (nums k xs).toArray e)) (some ⟨W.heap.size, 0, none⟩) xs.length xs :=
  (Kd.R_reads' (Kd.R_of_own (enc := Value.int k) (h1 := fun _ => rfl) (ok := fun _ => True) (own_lit W W.heap.size e k xs (Nat.le_refl _) hm) (fun _ _ => trivial))).2.2
def slotOf (sl : Int) : Int := if 65535 < (if sl < 0 then 0 else sl) then 65535 else (if sl < 0 then 0 else sl)
def pageBytes (pg : Int) : List Int := [pg / 16777216, pg / 65536 % 256, pg / 256 % 256, pg % 256]
def head6 (pg sl : Int) : List Int := pageBytes pg ++ [slotOf sl / 256, slotOf sl % 256]

set_option maxHeartbeats 1000000 in
set_option maxRecDepth 100000 in
theorem key_calls (pg sl : Int) (key val : ByteArray) (w : World) (h0 : 0 ≤ pg) (h1 : pg ≤ 4294967295) (hk : key.size ≤ 9223372036854775807) :
    Calls Try.prog 10 #[.agg #[.int .u32 pg, .int .i64 sl, .string key, .string val]] w fun e w' =>
      e = .returned (.string (strOfNums (head6 pg sl) ++ key.extract 0 (min key.size 34))) ∧ Below w.heap.size w w' := by
  have hu24 := Try.underlying24
  go_enter Try.func10, Try.ntmps10
  go_wp2
  go_loopw [3, 4] (fun v i wr => ∃ k : Nat, k ≤ 4 ∧ i = .int .i64 (3 - k) ∧ Kd.R (Kd.int .u8) 5 wr w.heap.size (fun b => b ≠ w.heap.size) v ((pageBytes pg).take k) ∧
      wr.heap[w.heap.size]? = some (.cells #[.int .u32 pg, .int .i64 sl, .string key, .string val] 24 (0, 0)) ∧ Below w.heap.size w wr) (fun _ i _ => (intOf i + 1).toNat)
  case atStart => exact ⟨0, by omega, rfl, Kd.R_nil _ _ _ _ _, blk_new _ _, below_alloc (Below.refl _ _) _⟩
  case round =>
    obtain ⟨k, hk, rfl, HO, BK, HB⟩ := hrel
    have hc0 : wr.cell? ⟨w.heap.size, 0, none⟩ = some (.int .u32 pg) := (blk_cell BK 0).trans rfl
    have hc1 : wr.cell? ⟨w.heap.size, 1, none⟩ = some (.int .i64 sl) := (blk_cell BK 1).trans rfl
    have hc2 : wr.cell? ⟨w.heap.size, 2, none⟩ = some (.string key) := (blk_cell BK 2).trans rfl
    have hsz := Aside0.mk (blk_lt BK)
    have HO' := Aside0.mk HO
    have HB' := Aside0.mk HB
    have BK' := Aside0.mk BK
    clear HO HB BK
    by_cases hlt : k < 4
    · obtain rfl | rfl | rfl | rfl : k = 0 ∨ k = 1 ∨ k = 2 ∨ k = 3 := by omega
      all_goals
        go_wp2_with (at_builtin; refine Kd.R_append (Kd.int .u8) (w0 := w) w.heap.size rfl (.tmp 10) (.tmp 17) 48 5 (.int .u8 0) 1 rfl Try.underlying48 info5 rfl (by decide) (by omega) u3 _ _ [.int .u8 _] (fun b => b ≠ w.heap.size) (fun _ => False) rfl rfl rfl (fun _ h => h.elim) (fun k hk => by have := hsz.out; omega) HO'.out HB'.out HB'.out.size (by simp [pageBytes]) ?_; intro v1 w1 ho hb hg hat)
        go_roundw
        case measure => simp [intOf]
        case rel => 
          have BK2 := blk_grown BK'.out hg (fun he => HO'.out.1 _ he.symm rfl)
          first
          | exact ⟨1, by omega, by go_num, ho, BK2, hb⟩
          | exact ⟨2, by omega, by go_num, ho, BK2, hb⟩
          | exact ⟨3, by omega, by go_num, ho, BK2, hb⟩
          | exact ⟨4, by omega, by go_num, ho, BK2, hb⟩
    · obtain rfl : k = 4 := by omega
      obtain ⟨s1, hs1, hs1a⟩ : ∃ s : Int, (if sl < 0 then 0 else sl) = s ∧ 0 ≤ s := ⟨_, rfl, by split <;> omega⟩
      obtain ⟨s2, hs2, hs2a, hs2b⟩ : ∃ s : Int, (if 65535 < s1 then 65535 else s1) = s ∧ 0 ≤ s ∧ s ≤ 65535 := ⟨_, rfl, by split <;> omega, by split <;> omega⟩
      obtain ⟨n, hn, hnk⟩ : ∃ n : Nat, (if 34 < (key.size : Int) then 34 else (key.size : Int)) = (n : Int) ∧ n ≤ key.size := ⟨min key.size 34, by split <;> omega, by omega⟩
      have hfin : Hid (head6 pg sl = pageBytes pg ++ [s2 / 256, s2 % 256]) := by unfold Hid head6 slotOf; rw [hs1, hs2]
      have hnn : Hid (min key.size 34 = n) := by unfold Hid; split at hn <;> omega
      go_wp2_with (at_builtin; refine Kd.R_append_rows (Kd.int .u8) (w0 := w) w.heap.size rfl (.tmp 23) (.tmp 29) 48 5 (.int .u8 0) 1 rfl Try.underlying48 info5 rfl (by decide) (by omega) u3 _ [s2 / 256, s2 % 256] _ _ _ (fun b => b ≠ w.heap.size) (fun _ => False) rfl rfl (Kd.R_alloc HO'.out _) (lit_C _ .u8 5 [s2 / 256, s2 % 256] (by simp)) (fun _ _ h => h) (fun _ h => h.elim) (fun k hk => by have := hsz.out; simp at hk; omega) (below_alloc HB'.out _) (by have := HB'.out.size; simp; omega) (by simp [pageBytes]) ?_; intro v1 w1 ho hb hg hat)
      have BK2 := blk_grown (blk_alloc BK'.out _) hg (fun he => HO'.out.1 _ he.symm rfl)
      have hc2 : w1.cell? ⟨w.heap.size, 2, none⟩ = some (.string key) := (blk_cell BK2 2).trans rfl
      obtain ⟨A1, c1, rfl⟩ := Kd.R_slice ho
      have hcv : ∀ m, (convert 48 9 (.slice A1 6 c1)).run Try.prog (w1.drewN m) = .ok (.string (strOfNums (pageBytes pg ++ [s2 / 256, s2 % 256]))) (w1.drewN m) := fun m =>
        Kd.C_string Try.underlying48 Try.underlying5 Try.underlying9 (Kd.C_drewN (Kd.R_reads' ho).2.2 m)
      have hl6 : (List.take 4 (pageBytes pg) ++ [s2 / 256, s2 % 256]).length = 6 := rfl
      have hsz6 : (strOfNums (pageBytes pg ++ [s2 / 256, s2 % 256])).size ≤ 6 := by rw [strOfNums_size]; simp [pageBytes]
      have ho' := Aside0.mk ho
      have hb' := Aside0.mk hb
      clear ho hb hat hg BK2 hc0 hc1
      go_quiet (fail)
      go_wp2
      go_ret
      rw [hfin.out, hnn.out]
      exact ⟨rfl, pw_below_drewN hb'.out _⟩
end Go.Proofs.Ytdgpniekpmoadaa.A
