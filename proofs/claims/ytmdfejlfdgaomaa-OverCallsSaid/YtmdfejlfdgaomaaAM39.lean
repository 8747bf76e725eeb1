/- Slices of one part; what was touched. -/
import Derived.Test.YtmdfejlfdgaomaaAM38
namespace Go.Proofs.YtmdfejlfdgaomaaAM
open Go Go.RowKit
set_option linter.unusedVariables false
set_option linter.unusedSimpArgs false

section
variable {E : Program} {a : AW}
theorem buildSl1 {ty : TypeId} {n : Nat} (hk : slOk E ty n = true) (hb : n ≤ 16777216) {v : Value} (hv : v.cells.toList.length = n) : buildSl E ty 1 [(0, v)] a = some (.slice (some ⟨a.next, 0, some 0⟩) 1 1, a.new (.cells v.cells.toList true)) := by
  have := buildSl_seq (a := a) (len := 1) (vs := [v]) hk (by simpa using hv) rfl (by omega) (by omega) rfl
  simpa using this
theorem buildSl2 {ty : TypeId} {n : Nat} (hk : slOk E ty n = true) (hb : n ≤ 8388608) {v u : Value} (hv : v.cells.toList.length = n) (hu : u.cells.toList.length = n) : buildSl E ty 2 [(0, v), (1, u)] a = some (.slice (some ⟨a.next, 0, some 0⟩) 2 2, a.new (.cells (v.cells.toList ++ u.cells.toList) true)) := by
  have := buildSl_seq (a := a) (len := 2) (vs := [v, u]) hk (by simpa using ⟨hv, hu⟩) rfl (by omega) (by omega) rfl
  simpa using this
theorem buildSl0 {ty : TypeId} {e : TypeId × Nat} (hk : elemCells E ty = some e) : buildSl E ty 0 [] a = some (.slice (some ⟨a.next, 0, some 0⟩) 0 0, a.new (.cells [] true)) := by
  unfold buildSl
  rw [hk]
  simp
theorem soil_own {d : List Nat} {bs b : Nat} (h : bs ≤ b) : soilAll d bs [b] = d := by
  have : ¬ b < bs := by omega
  simp [soilAll, this]
end
end Go.Proofs.YtmdfejlfdgaomaaAM
