/- MergeKeys answers true for any two orphans. -/
import Derived.Test.YtdgpniekpmoadaaAPure
import Derived.Deep.RegionHeld3
namespace Go.Proofs.Ytdgpniekpmoadaa.A
open Go.RowKit Go.Proofs.YtdgpniekpmoadaaW.PrintWords Go.Proofs.YtdgpniekpmoadaaW.PrintLast Go.Proofs.YtdgpniekpmoadaaW.PrintMore
open Go.Proofs.Ytdgpniekpmoadaa.PMergeKeys
attribute [local go_sem] max2_int min2_int max_two min_two max_three min_three max_four min_four

theorem two_C (W : World) (a b : S24) : Kd.C k24 (W.alloc (.cells #[.int .u32 a.f0, .int .i64 a.f1, .string a.f2, .string a.f3, .int .u32 b.f0, .int .i64 b.f1, .string b.f2, .string b.f3] 24)) (some ⟨W.heap.size, 0, none⟩) 2 [a, b] := by
  obtain ⟨W', hW⟩ : ∃ W', W' = W.alloc (.cells #[.int .u32 a.f0, .int .i64 a.f1, .string a.f2, .string a.f3, .int .u32 b.f0, .int .i64 b.f1, .string b.f2, .string b.f3] 24) := ⟨_, rfl⟩
  have h := OwnRow.lit (R := k24.K W') (e := 24) (size := 4) W W.heap.size (ps := [a, b]) (inner := [.int .u32 a.f0, .int .i64 a.f1, .string a.f2, .string a.f3, .int .u32 b.f0, .int .i64 b.f1, .string b.f2, .string b.f3]) ((((Reps.none (k24.K W') 4).snoc (k24_mk W' a) rfl).snoc (k24_mk W' b) rfl)) (Nat.le_refl _) (by simp)
  rw [← hW]
  obtain ⟨A, c, he, _, hr⟩ := h.reads
  cases he
  rw [← hW] at hr
  exact hr
theorem box_cells {W : World} {g : Nat} {a b : Int} {c d : ByteArray} (h : W.heap[g]? = some (.cells #[.int .u32 a, .int .i64 b, .string c, .string d] 24 (0, 0))) :
    W.cell? ⟨g, 0, none⟩ = some (.int .u32 a) ∧ W.cell? ⟨g, 1, none⟩ = some (.int .i64 b) ∧ W.cell? ⟨g, 2, none⟩ = some (.string c) ∧ W.cell? ⟨g, 3, none⟩ = some (.string d) :=
  ⟨(blk_cell h 0).trans rfl, (blk_cell h 1).trans rfl, (blk_cell h 2).trans rfl, (blk_cell h 3).trans rfl⟩
theorem two_step {w W W' : World} {pg sl pg' sl' : Int} {key val key' val' : ByteArray}
    (h : (W.cell? ⟨w.heap.size, 0, none⟩ = some (.int .u32 pg) ∧ W.cell? ⟨w.heap.size, 1, none⟩ = some (.int .i64 sl) ∧ W.cell? ⟨w.heap.size, 2, none⟩ = some (.string key) ∧ W.cell? ⟨w.heap.size, 3, none⟩ = some (.string val)) ∧ (W.cell? ⟨w.heap.size + 1, 0, none⟩ = some (.int .u32 pg') ∧ W.cell? ⟨w.heap.size + 1, 1, none⟩ = some (.int .i64 sl') ∧ W.cell? ⟨w.heap.size + 1, 2, none⟩ = some (.string key') ∧ W.cell? ⟨w.heap.size + 1, 3, none⟩ = some (.string val')) ∧ Below w.heap.size w W)
    (hb : Below W.heap.size W W') :
    (W'.cell? ⟨w.heap.size, 0, none⟩ = some (.int .u32 pg) ∧ W'.cell? ⟨w.heap.size, 1, none⟩ = some (.int .i64 sl) ∧ W'.cell? ⟨w.heap.size, 2, none⟩ = some (.string key) ∧ W'.cell? ⟨w.heap.size, 3, none⟩ = some (.string val)) ∧ (W'.cell? ⟨w.heap.size + 1, 0, none⟩ = some (.int .u32 pg') ∧ W'.cell? ⟨w.heap.size + 1, 1, none⟩ = some (.int .i64 sl') ∧ W'.cell? ⟨w.heap.size + 1, 2, none⟩ = some (.string key') ∧ W'.cell? ⟨w.heap.size + 1, 3, none⟩ = some (.string val')) ∧ Below w.heap.size w W' := by
  obtain ⟨⟨a0, a1, a2, a3⟩, ⟨b0, b1, b2, b3⟩, hB⟩ := h
  exact ⟨⟨pw_cell_below hb a0, pw_cell_below hb a1, pw_cell_below hb a2, pw_cell_below hb a3⟩, ⟨pw_cell_below hb b0, pw_cell_below hb b1, pw_cell_below hb b2, pw_cell_below hb b3⟩, below_step hB hb⟩
theorem keyT_calls (pg sl : Int) (key val : ByteArray) (w : World) (h0 : 0 ≤ pg) (h1 : pg ≤ 4294967295) (hk : key.size ≤ 9223372036854775807) :
    Calls Try.prog 10 #[.agg #[.int .u32 pg, .int .i64 sl, .string key, .string val]] w fun e w' => e = .returned (.string (keyT pg sl key)) ∧ Below w.heap.size w w' := key_calls pg sl key val w h0 h1 hk
theorem orphan_facts (pg sl : Int) (key val : ByteArray) (h0 : 0 ≤ pg) (h1 : pg ≤ 4294967295) (hk : key.size ≤ 9223372036854775807) : ∃ (s1 S : Int) (n : Nat) (X : ByteArray),
    (if sl < 0 then 0 else sl) = s1 ∧ (if 65535 < s1 then 65535 else s1) = S ∧ (if 34 < (key.size : Int) then 34 else (key.size : Int)) = (n : Int) ∧ n ≤ key.size ∧ 0 ≤ S ∧ S ≤ 65535 ∧ X = keyT pg sl key ∧ S = slotOf sl ∧ X.size ≤ 40 ∧
    (∀ w, Calls Try.prog 10 #[.agg #[.int .u32 pg, .int .i64 sl, .string key, .string val]] w fun e w' => e = .returned (.string X) ∧ Below w.heap.size w w') ∧
    (∀ w, Calls Try.prog 11 #[.string X] w fun e w' => e = .returned (.tuple #[.int .u32 pg, .int .i64 S, .string (key.extract 0 n), .int .i64 0]) ∧ Below w.heap.size w w') := by
  have hs := slotOf_bd sl
  have hz := keyT_size pg sl key
  refine ⟨_, slotOf sl, min key.size 34, keyT pg sl key, rfl, rfl, by split <;> omega, by omega, hs.1, hs.2, rfl, rfl, by omega, fun w => key_calls pg sl key val w h0 h1 hk, fun w => ?_⟩
  have h := read_yes (keyT pg sl key) w (by omega) (by omega)
  rw [key_page pg sl key h0 h1, key_slot, key_rest] at h
  exact h
theorem light_two (a b : S24) : lightB [a, b] = (shortO a && shortO b) := by simp [lightB]

set_option maxHeartbeats 1000000 in
set_option maxRecDepth 100000 in
theorem law_calls (pg sl : Int) (key val : ByteArray) (pg' sl' : Int) (key' val' : ByteArray) (w : World) (h0 : 0 ≤ pg) (h1 : pg ≤ 4294967295) (h0' : 0 ≤ pg') (h1' : pg' ≤ 4294967295)
    (hk : key.size ≤ 9223372036854775807) (hk' : key'.size ≤ 9223372036854775807) :
    Calls Try.prog 3 #[.agg #[.int .u32 pg, .int .i64 sl, .string key, .string val], .agg #[.int .u32 pg', .int .i64 sl', .string key', .string val']] w fun e w' => e = .returned (.bool true) ∧ Below w.heap.size w w' := by
  have hu24 := Try.underlying24
  obtain ⟨L, hL⟩ : ∃ L, lightB [⟨pg, sl, key, val⟩, ⟨pg', sl', key', val'⟩] = L := ⟨_, rfl⟩
  have hL' := Aside0.mk hL
  clear hL
  obtain ⟨s1, S, n, X, hs1, hS, hn, hnk, S0, S1, hX, hSs, hXs, cX, rX⟩ := orphan_facts pg sl key val h0 h1 hk
  obtain ⟨s1', S', n', Y, hs1', hS', hn', hnk', S0', S1', hY, hSs', hYs, cY, rY⟩ := orphan_facts pg' sl' key' val' h0' h1' hk'
  have hless : ¬ (pg = pg' ∧ S = S') → Op.bytesLess X.toList Y.toList = decide (pg * 65536 + S < pg' * 65536 + S') := by
    intro hne
    rw [hX, hY, hSs, hSs']
    rw [hSs, hSs'] at hne
    exact key_less pg sl pg' sl' key key' h0 h1 h0' h1' hne
  have hless' := Aside0.mk hless
  have cX' := Aside0.mk cX
  have cY' := Aside0.mk cY
  have rX' := Aside0.mk rX
  have hX' := Aside0.mk hX
  have hY' := Aside0.mk hY
  clear hX hSs hY hSs' hless cX cY rX rY
  go_enter Try.func3, Try.ntmps3
  go_wp2_with (first | (go_at_call 8; refine (lives_calls _).mono ?_; rintro e w1 ⟨rfl, hb1⟩; have B1 := blk_below (blk_alloc (blk_new w _) _) hb1; have B2 := blk_below (blk_new _ _) hb1; rw [World.size_alloc] at B2; obtain ⟨ca0, ca1, ca2, ca3⟩ := box_cells B1; obtain ⟨cb0, cb1, cb2, cb3⟩ := box_cells B2; have B1' := Aside0.mk B1; have B2' := Aside0.mk B2; have hb1' := Aside0.mk (((Below.refl w.heap.size w).alloc (Nat.le_refl _) _).alloc (by simp) _ |>.trans (hb1.mono (by simp; omega))); clear B1 B2 hb1) | (go_at_call 9; refine (lightOrphans_calls _ _ [⟨pg, sl, key, val⟩, ⟨pg', sl', key', val'⟩] _ (two_C _ _ _) (by simp)).mono ?_; rw [hL'.out]; rintro e w2 ⟨rfl, rfl⟩))
  · go_ret
    exact ⟨rfl, below_alloc hb1'.out _⟩
  · have ca := box_cells (blk_alloc B1'.out (.cells #[.int .u32 pg, .int .i64 sl, .string key, .string val, .int .u32 pg', .int .i64 sl', .string key', .string val'] 24))
    have cb := box_cells (blk_alloc B2'.out (.cells #[.int .u32 pg, .int .i64 sl, .string key, .string val, .int .u32 pg', .int .i64 sl', .string key', .string val'] 24))
    have hbW := below_alloc hb1'.out (.cells #[.int .u32 pg, .int .i64 sl, .string key, .string val, .int .u32 pg', .int .i64 sl', .string key', .string val'] 24)
    clear ca0 ca1 ca2 ca3 cb0 cb1 cb2 cb3 B1' B2' hb1'
    obtain ⟨W5, hW5⟩ : ∃ W5, w1.alloc (.cells #[.int .u32 pg, .int .i64 sl, .string key, .string val, .int .u32 pg', .int .i64 sl', .string key', .string val'] 24) = W5 := ⟨_, rfl⟩
    rw [hW5] at ca cb hbW ⊢
    clear hW5
    go_region_held3 (fun w' => (w'.cell? ⟨w.heap.size, 0, none⟩ = some (.int .u32 pg) ∧ w'.cell? ⟨w.heap.size, 1, none⟩ = some (.int .i64 sl) ∧ w'.cell? ⟨w.heap.size, 2, none⟩ = some (.string key) ∧ w'.cell? ⟨w.heap.size, 3, none⟩ = some (.string val)) ∧ (w'.cell? ⟨w.heap.size + 1, 0, none⟩ = some (.int .u32 pg') ∧ w'.cell? ⟨w.heap.size + 1, 1, none⟩ = some (.int .i64 sl') ∧ w'.cell? ⟨w.heap.size + 1, 2, none⟩ = some (.string key') ∧ w'.cell? ⟨w.heap.size + 1, 3, none⟩ = some (.string val')) ∧ Below w.heap.size w w')
      (first | exact ⟨ca, cb, hbW.drew⟩ | exact two_step (by assumption) (by assumption))
      (first | (go_at_call 10; refine (keyT_calls _ _ _ _ _ (by assumption) (by assumption) (by assumption)).mono ?_; rintro e w' ⟨rfl, hb⟩))
    rw [← hX'.out, ← hY'.out]
    obtain ⟨⟨a0, a1, a2, a3⟩, ⟨b0, b1, b2, b3⟩, hB⟩ := two_step (w := w) (W := w') (pg := pg) (sl := sl) (key := key) (val := val) (pg' := pg') (sl' := sl') (key' := key') (val' := val') (by assumption) (Below.refl _ _)
    have hB' := Aside0.mk hB
    clear hB ca cb hbW hb
    obtain ⟨W6, hW6⟩ : ∃ W6 : World, w' = W6 := ⟨_, rfl⟩
    rw [hW6] at a0 a1 a2 a3 b0 b1 b2 b3 hB' ⊢
    clear hW6
    have hXL : (X.size : Int) ≤ 40 := by omega
    have hnk2 : (n : Int) ≤ (key.size : Int) := by omega
    by_cases hpg : pg = pg'
    · subst hpg
      by_cases hSS : S = S'
      · have hSb : (S == S') = true := beq_iff_eq.2 hSS
        go_wp2_with (first | (go_at_call 11; refine (rX'.out _).mono ?_; rintro e w2 ⟨rfl, hb2⟩; have hb2' := Aside0.mk hb2; have a0' := pw_cell_below hb2 a0; have a1' := pw_cell_below hb2 a1; have a2' := pw_cell_below hb2 a2; have b0' := pw_cell_below hb2 b0; have b1' := pw_cell_below hb2 b1; clear hb2 a0 a1 a2 a3 b0 b1 b2 b3))
        go_quiet (fail)
        go_wp2
        go_ret
        exact ⟨rfl, pw_below_drewN (below_step hB'.out hb2'.out) _⟩
      · have hSb : (S == S') = false := beq_eq_false_iff_ne.2 hSS
        have hl : Op.bytesLess X.toList Y.toList = decide (S < S') := by
          rw [hless'.out (fun h => hSS h.2), decide_eq_decide]; omega
        go_wp2_with (first | (go_at_call 11; refine (rX'.out _).mono ?_; rintro e w2 ⟨rfl, hb2⟩; have hb2' := Aside0.mk hb2; have a0' := pw_cell_below hb2 a0; have a1' := pw_cell_below hb2 a1; have a2' := pw_cell_below hb2 a2; have b0' := pw_cell_below hb2 b0; have b1' := pw_cell_below hb2 b1; clear hb2 a0 a1 a2 a3 b0 b1 b2 b3))
        go_quiet (fail)
        go_wp2
        go_ret
        exact ⟨rfl, pw_below_drewN (below_step hB'.out hb2'.out) _⟩
    · have hpb : (pg != pg') = true := bne_iff_ne.2 hpg
      have hl : Op.bytesLess X.toList Y.toList = decide (pg < pg') := by
        rw [hless'.out (fun h => hpg h.1), decide_eq_decide]; omega
      go_wp2_with (first | (go_at_call 11; refine (rX'.out _).mono ?_; rintro e w2 ⟨rfl, hb2⟩; have hb2' := Aside0.mk hb2; have a0' := pw_cell_below hb2 a0; have a1' := pw_cell_below hb2 a1; have a2' := pw_cell_below hb2 a2; have b0' := pw_cell_below hb2 b0; have b1' := pw_cell_below hb2 b1; clear hb2 a0 a1 a2 a3 b0 b1 b2 b3))
      go_quiet (fail)
      go_wp2
      go_ret
      exact ⟨rfl, pw_below_drewN (below_step hB'.out hb2'.out) _⟩
theorem bd_u32 {n : Int} (h : (Lit.int .u32 n).wf = true) : 0 ≤ n ∧ n ≤ 4294967295 := by
  simp [Lit.wf, IntKind.min, IntKind.max, IntKind.signed, IntKind.bits] at h
  omega
end Go.Proofs.Ytdgpniekpmoadaa.A
