/- merge.Read returns the page, the place and the rest of a key. -/
import Derived.Test.YtdgpniekpmoadaaAKey
namespace Go.Proofs.Ytdgpniekpmoadaa.A
open Go.RowKit Go.Proofs.YtdgpniekpmoadaaW.PrintWords Go.Proofs.YtdgpniekpmoadaaW.PrintLast Go.Proofs.YtdgpniekpmoadaaW.PrintMore
open Go.Proofs.Ytdgpniekpmoadaa.PMergeKeys

def pageTo (s : ByteArray) : Nat → Int
  | 0 => 0
  | k + 1 => pageTo s k * 256 + bt s k
def slotRd (s : ByteArray) : Int := bt s 4 * 256 + bt s 5
theorem pageTo_bd (s : ByteArray) (k : Nat) (hk : k ≤ 3) : 0 ≤ pageTo s k ∧ pageTo s k ≤ 16777215 := by
  have h0 := bt_range s (0:Nat); have h1 := bt_range s (1:Nat); have h2 := bt_range s (2:Nat)
  obtain rfl | rfl | rfl | rfl : k = 0 ∨ k = 1 ∨ k = 2 ∨ k = 3 := by omega
  all_goals simp only [pageTo]; omega

theorem u32_or8 {x y : Int} (hx0 : 0 ≤ x) (hx : x % 256 = 0) (hx1 : x < 4294967296) (h0 : 0 ≤ y) (h1 : y < 256) : bits .or .u32 x y = x + y :=
  bits_join .u32 32 (by decide) (fun n a b => by rw [IntKind.wrap_u32]; omega) 8 x y hx0 hx (by simpa using hx1) h0 (by simpa using h1) (by omega)
theorem i64_or8 {x y : Int} (hx0 : 0 ≤ x) (hx : x % 256 = 0) (hx1 : x < 4294967296) (h0 : 0 ≤ y) (h1 : y < 256) : bits .or .i64 x y = x + y :=
  bits_join .i64 32 (by decide) (fun n a b => by rw [IntKind.wrap_i64]; omega) 8 x y hx0 hx (by simpa using hx1) h0 (by simpa using h1) (by omega)
theorem results_tmp4 {fn : Func} {t u v x : Tmp} (h : fn.results = #[.tmp t, .tmp u, .tmp v, .tmp x]) (tmps : Array Value) (P : Program) (w : World) :
    (results fn tmps).run P w = .ok (.tuple #[tmps.getD t undef, tmps.getD u undef, tmps.getD v undef, tmps.getD x undef]) w := by
  simp [results, h]
theorem tup4 {a b : Int} {c d : Int} {s t : ByteArray} {x y : Int} (h1 : a = b) (h2 : c = d) (h3 : s = t) (h4 : x = y) : Ending.returned (.tuple #[.int .u32 a, .int .i64 c, .string s, .int .i64 x]) = .returned (.tuple #[.int .u32 b, .int .i64 d, .string t, .int .i64 y]) := by rw [h1, h2, h3, h4]

set_option maxHeartbeats 1000000 in
set_option maxRecDepth 100000 in
theorem read_yes (s : ByteArray) (w : World) (h6 : 6 ≤ s.size) (h40 : s.size ≤ 40) :
    Calls Try.prog 11 #[.string s] w fun e w' => e = .returned (.tuple #[.int .u32 (pageTo s 4), .int .i64 (slotRd s), .string (s.extract 6 s.size), .int .i64 0]) ∧ Below w.heap.size w w' := by
  have hlt6 : decide ((s.size : Int) < 6) = false := by simp; omega
  have hlt40 : decide (40 < (s.size : Int)) = false := by simp; omega
  go_enter Try.func11, Try.ntmps11
  go_wp2
  go_loopw [2, 6, 15] (fun p _ i wr => ∃ k : Nat, k ≤ 4 ∧ i = .int .i64 k ∧ p = .int .u32 (pageTo s k) ∧ wr = w) (fun _ _ i _ => (4 - intOf i).toNat)
  case atStart => exact ⟨0, by omega, rfl, rfl, rfl⟩
  case round =>
    obtain ⟨k, hk, rfl, rfl, rfl⟩ := hrel
    by_cases hlt : k < 4
    · have hb := bt_range s k
      have hp := pageTo_bd s k (by omega)
      have hi : k < s.size := by omega
      have hbt := bt_at s (k : Int)
      simp only [Int.toNat_natCast] at hbt
      obtain ⟨P, hP⟩ : ∃ P, pageTo s k = P := ⟨_, rfl⟩
      rw [hP] at hp ⊢
      have HP := Aside0.mk hP
      clear hP
      go_wp2
      go_roundw
      case measure => simp [intOf]; omega
      case rel => exact ⟨k + 1, by omega, by go_num, by rw [u32_or8 (by omega) (by omega) (by omega) hb.1 (by omega), pageTo, HP.out], trivial⟩
    · obtain rfl : k = 4 := by omega
      have hb4 := bt_range s 4
      have hb5 := bt_range s 5
      have i4 : 4 < s.size := by omega
      have i5 : 5 < s.size := by omega
      have hbt4 := bt_at s 4
      have hbt5 := bt_at s 5
      simp only [Int.reduceToNat] at hbt4 hbt5
      have j4 : (4 : Int) < (s.size : Int) := by omega
      have j5 : (5 : Int) < (s.size : Int) := by omega
      have j6 : (6 : Int) ≤ (s.size : Int) := by omega
      go_wp2
      go_quiet (fail)
      go_wp2
      have e2 : bits .or .i64 (bt s 4 * 256) (bt s 5) = slotRd s := by rw [i64_or8 (by omega) (by omega) (by omega) hb5.1 (by omega), slotRd]
      refine bodyPost_ret (results_tmp4 rfl _ _ _) rfl ?_
      exact ⟨tup4 rfl e2 rfl rfl, pw_below_drewN (Below.refl _ _) _⟩
end Go.Proofs.Ytdgpniekpmoadaa.A
