/- Chapter 13: how lists of forks are opened; BuildParts as its row asks it. -/
import Derived.Test.YtijmlgccaicblaaC7
namespace Go.Proofs.YtijmlgccaicblaaAM
open Go Go.RowKit Go.ChangeShapes Go.WideShapes Go.ChangeAt Go.Joins Go.Deep
set_option linter.unusedVariables false
set_option linter.unusedSimpArgs false
set_option maxRecDepth 10000
set_option maxHeartbeats 4000000

def FkGood (x : Fk) : Prop := x.key.length ≤ 140737488355328 ∧ 0 ≤ x.child ∧ x.child ≤ 4294967295
def FkR : Rep0 Fk := FlatR encF FkGood
theorem fk_keeps : KeepsR FkR := flat_keeps
section
variable {H : Type} {enc0 : TypeId × Value → H} {W : World} {held : Bool}
theorem opens_fk {fs : Array Field} (h36 : Try.prog.underlying 50 = some (.struct fs)) (h1 : oneCellFields Try.prog fs = true) (h2 : Try.prog.cellsOf 50 = fs.size) (h3 : fs.toList.map (·.type) = [9, 40]) : Opens enc0 Try.prog W held 50 FkR := by
  refine opens_map (fun x : ByteArray × Int × Unit => ⟨strOf x.1, x.2.1⟩) (opens_struct (R := PairR (FlatR (fun x : ByteArray => [.string x]) fun x => x.size ≤ 140737488355328) (PairR (FlatR (fun x : Int => [.int .u32 x]) fun x => (Lit.int .u32 x).wf = true) UnitR)) h36 h1 h2 ?_) ?_
  · rw [h3]; exact opensL_cons flat_keeps (opens_strW und9) (opensL_cons flat_keeps (opens_int und40) opensL_nil)
  · rintro ⟨x1, x2, u⟩ h n ac ⟨l1, r1, rfl, ⟨rfl, g1⟩, l2, r2, rfl, ⟨rfl, g2⟩, rfl⟩
    have w2 := bd_u32 g2
    exact ⟨rfl, g1, w2.1, w2.2⟩
end
theorem law5r (room_ size : Int) (vs v vk : Value) (sizes : List Int) (l : List It) (k : List Fk) (hls : sizes.length ≤ 140737488355328) (hll : l.length ≤ 140737488355328) (hlk : k.length ≤ 140737488355328) (hro : -9223372036854775808 ≤ room_ ∧ room_ ≤ 9223372036854775807) (a : AW) (m1 m2 m3 : Nat) (hm1 : m1 ≤ a.next) (hvs : SliceR NR 1 sizes a.heap m1 [vs]) (hm2 : m2 ≤ a.next) (hv : SliceR ItR 5 l a.heap m2 [v]) (hm3 : m3 ≤ a.next) (hvk : SliceR FkR 2 k a.heap m3 [vk]) :
    WCall Try.prog GV 5 [vs, .int .i64 room_, .int .i64 size, v, vk] a fun r _ => r = .bool true := by
  obtain ⟨h1, h2⟩ := SliceR.rv encI_len hv
  obtain ⟨h3, h4⟩ := SliceR.rv encN_len hvs
  obtain ⟨h5, h6⟩ := SliceR.rv encF_len hvk
  exact law5 room_ size vs v vk sizes l k hls hll hlk hro.2 (fun x hx => ⟨(h2 x hx).1, (h2 x hx).2.1⟩) a (h3.keep hm1 fun _ _ => rfl) (h1.keep hm2 fun _ _ => rfl) (h5.keep hm3 fun _ _ => rfl)
end Go.Proofs.YtijmlgccaicblaaAM
