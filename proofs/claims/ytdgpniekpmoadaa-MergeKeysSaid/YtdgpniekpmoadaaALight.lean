/- The example of the chapter holds, and two orphans are light just where their texts are short. -/
import Derived.Test.YtdgpniekpmoadaaARead
namespace Go.Proofs.Ytdgpniekpmoadaa.A
open Go.RowKit Go.Proofs.YtdgpniekpmoadaaW.PrintWords Go.Proofs.YtdgpniekpmoadaaW.PrintLast Go.Proofs.YtdgpniekpmoadaaW.PrintMore
open Go.Proofs.Ytdgpniekpmoadaa.PMergeKeys

theorem live_text : strOfNums (head6 258 3) ++ (⟨#[107]⟩ : ByteArray).extract 0 (min (⟨#[107]⟩ : ByteArray).size 34) = ⟨#[0, 0, 1, 2, 0, 3, 107]⟩ := by decide +kernel

set_option maxHeartbeats 400000 in
theorem lives_calls (w : World) : Calls Try.prog 8 #[] w fun e w' => e = .returned (.bool true) ∧ Below w.heap.size w w' := by
  have hk := key_calls 258 3 ⟨#[107]⟩ ⟨#[]⟩ w (by decide) (by decide) (by decide)
  rw [live_text] at hk
  have hk' := Aside0.mk hk
  clear hk
  go_enter Try.func8, Try.ntmps8
  go_wp2_with (go_at_call 10; refine hk'.out.mono ?_; rintro e w' ⟨rfl, hb⟩)
  go_ret
  exact ⟨rfl, by assumption⟩

def shortO (x : S24) : Bool := decide ((x.f2.size : Int) ≤ 100) && decide ((x.f3.size : Int) ≤ 500)

def lightB (l : List S24) : Bool := decide ((l.length : Int) ≤ 60) && l.all shortO
theorem ret_bool {a b : Bool} (h : a = b) : Ending.returned (.bool a) = .returned (.bool b) := by rw [h]
theorem lightB_long {l : List S24} (h : (60 : Int) < l.length) : false = lightB l := by unfold lightB; rw [show decide ((l.length : Int) ≤ 60) = false from by simp; omega]; rfl
theorem lightB_all {l : List S24} (h : (l.length : Int) ≤ 60) (ha : l.all shortO = true) : true = lightB l := by unfold lightB; rw [ha]; simp; omega
theorem lightB_not {l : List S24} {k : Nat} (hk : k < l.length) (ha : shortO (l.getD k z24) = false) : false = lightB l := by
  unfold lightB
  have : l.all shortO = false := by
    rw [List.all_eq_false]
    refine ⟨l[k], List.getElem_mem _, ?_⟩
    rw [List.getD_eq_getElem?_getD, List.getElem?_eq_getElem hk] at ha
    simpa using ha
  rw [this]; simp
theorem all_snoc {l : List S24} {k : Nat} (hk : k < l.length) (hp : (l.take k).all shortO = true) (ha : shortO (l.getD k z24) = true) : (l.take (k + 1)).all shortO = true := by
  rw [List.take_succ_eq_append_getElem hk, List.all_append, hp]
  rw [List.getD_eq_getElem?_getD, List.getElem?_eq_getElem hk] at ha
  simpa using ha

set_option maxHeartbeats 1000000 in
set_option maxRecDepth 100000 in
theorem lightOrphans_calls (A : Option Addr) (c : Nat) (l : List S24) (w : World) (hr : Kd.C k24 w A l.length l) (hl : l.length ≤ 1000000000) :
    Calls Try.prog 9 #[.slice A l.length c] w fun e w' => e = .returned (.bool (lightB l)) ∧ w = w' := by
  have hr' := Aside0.mk hr
  clear hr
  by_cases h60 : (60 : Int) < (l.length : Int)
  · go_enter Try.func9, Try.ntmps9
    go_wp2
    go_ret
    exact ⟨ret_bool (lightB_long h60), rfl⟩
  · have h60' : (l.length : Int) ≤ 60 := by omega
    clear h60
    go_enter Try.func9, Try.ntmps9
    go_wp2
    go_loop [3] (fun i => ∃ k : Nat, k ≤ l.length ∧ i = .int .i64 k ∧ Aside0 ((l.take k).all shortO = true)) (fun i => (l.length - intOf i).toNat)
    case atStart => exact ⟨0, by omega, rfl, ⟨rfl⟩⟩
    case round =>
      obtain ⟨k, hk, rfl, hall⟩ := hrel
      by_cases hlt : k < l.length
      · obtain ⟨ad, rfl, h0, h1, h2, h3⟩ := at_T24 hr'.out (k : Int) (by omega) (by omega)
        obtain ⟨x, hx⟩ : ∃ x, rd_T24 l (k : Int) = x := ⟨_, rfl⟩
        have hx' : Aside0 (l.getD k z24 = x) := ⟨by rw [← hx]; simp [rd_T24]⟩
        simp only [Int.toNat_natCast, hx] at h2 h3
        clear h0 h1 hx
        by_cases h100 : (100 : Int) < (x.f2.size : Int)
        · go_wp2
          go_ret
          exact ⟨ret_bool (lightB_not hlt (by rw [hx'.out]; simp [shortO]; omega)), rfl⟩
        · by_cases h500 : (500 : Int) < (x.f3.size : Int)
          · go_wp2
            go_ret
            exact ⟨ret_bool (lightB_not hlt (by rw [hx'.out]; simp [shortO]; omega)), rfl⟩
          · go_wp2
            go_round
            case measure => simp [intOf]; omega
            case rel => exact ⟨k + 1, by omega, by go_num, ⟨all_snoc hlt hall.out (by rw [hx'.out]; simp [shortO]; omega)⟩⟩
      · go_wp2
        go_ret
        exact ⟨ret_bool (lightB_all h60' (by have := hall.out; rw [List.take_of_length_le (by omega)] at this; exact this)), rfl⟩
end Go.Proofs.Ytdgpniekpmoadaa.A
