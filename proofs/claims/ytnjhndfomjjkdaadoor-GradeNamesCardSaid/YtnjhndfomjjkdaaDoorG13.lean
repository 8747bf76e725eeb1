/- Chapter 22: how a list of findings is opened. -/
import Derived.Test.YtnjhndfomjjkdaaDoorG12
namespace Go.Proofs.YtnjhndfomjjkdaaDoorAM
open Go Go.RowKit Go.ChangeShapes Go.WideShapes Go.ChangeAt Go.Joins Go.Deep
set_option linter.unusedVariables false
set_option linter.unusedSimpArgs false
set_option maxRecDepth 10000
set_option maxHeartbeats 4000000

def FindR : Rep0 Find := FlatR encF fun _ => True
theorem find_keeps : KeepsR FindR := flat_keeps
section
variable {H : Type} {enc0 : TypeId × Value → H} {W : World} {held : Bool}
theorem opens_find {u : TypeId} {fs : Array Field} (hu : Tryd.prog.underlying u = some (.int .u32)) (h35 : Tryd.prog.underlying 35 = some (.struct fs)) (h1 : oneCellFields Tryd.prog fs = true) (h2 : Tryd.prog.cellsOf 35 = fs.size) (h3 : fs.toList.map (·.type) = [3, u, u]) : Opens enc0 Tryd.prog W held 35 FindR := by
  refine opens_map (fun x : Int × Int × Int × Unit => ⟨x.1, x.2.1, x.2.2.1⟩) (opens_struct (R := PairR (FlatR (fun x : Int => [.int .i64 x]) fun x => (Lit.int .i64 x).wf = true) (PairR (FlatR (fun x : Int => [.int .u32 x]) fun x => (Lit.int .u32 x).wf = true) (PairR (FlatR (fun x : Int => [.int .u32 x]) fun x => (Lit.int .u32 x).wf = true) UnitR))) h35 h1 h2 ?_) ?_
  · rw [h3]; exact opensL_cons flat_keeps (opens_int und3) (opensL_cons flat_keeps (opens_int hu) (opensL_cons flat_keeps (opens_int hu) opensL_nil))
  · rintro ⟨x1, x2, x3, u⟩ h n ac ⟨l1, r1, rfl, ⟨rfl, g1⟩, l2, r2, rfl, ⟨rfl, g2⟩, l3, r3, rfl, ⟨rfl, g3⟩, rfl⟩
    exact ⟨rfl, trivial⟩
end
theorem law5r (v : Value) (l : List Find) (k p o : Int) (P M : Int) (hll : l.length ≤ 140737488355328) (a : AW) (m : Nat) (ham : m ≤ a.next) (hv : SliceR FindR 3 l a.heap m [v]) :
    WCall Tryd.prog GV 5 [v, .agg #[.int .i64 k, .int .u32 p, .int .u32 o], .int .i64 P, .int .i64 M] a fun r _ => r = .bool true :=
  law5 v l ⟨k, p, o⟩ P M hll a m ham (SliceR.listV hv).1
end Go.Proofs.YtnjhndfomjjkdaaDoorAM
