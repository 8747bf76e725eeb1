/- Chapter 13: how lists of items are opened; BuildFull as its row asks it. -/
import Derived.Test.YtijmlgccaicblaaB10
import Derived.ChangeArms
namespace Go.Proofs.YtijmlgccaicblaaAM
open Go Go.RowKit Go.ChangeShapes Go.WideShapes Go.ChangeAt Go.Joins Go.Deep
set_option linter.unusedVariables false
set_option linter.unusedSimpArgs false
set_option maxRecDepth 10000
set_option maxHeartbeats 4000000

def ItGood (x : It) : Prop := x.key.length ≤ 140737488355328 ∧ x.val.length ≤ 140737488355328 ∧ -9223372036854775808 ≤ x.len ∧ x.len ≤ 9223372036854775807 ∧ 0 ≤ x.head ∧ x.head ≤ 4294967295
def ItR : Rep0 It := FlatR encI ItGood
theorem it_keeps : KeepsR ItR := flat_keeps
def NR : Rep0 Int := FlatR encN fun x => -9223372036854775808 ≤ x ∧ x ≤ 9223372036854775807
theorem n_keeps : KeepsR NR := flat_keeps
section
variable {H : Type} {enc0 : TypeId × Value → H} {W : World} {held : Bool}
theorem opens_bool {P : Program} {e : TypeId} (ht : P.underlying e = some .bool) : Opens enc0 P W held e (FlatR (fun x : Bool => [.bool x]) fun _ => True) :=
  opens_flat (fun _ => rfl) fun cs ⟨n, y, h, _⟩ => by obtain ⟨x, hx, _⟩ := DataW.trod_bool ht h; exact ⟨x, hx, trivial⟩
theorem opens_n : Opens enc0 Try.prog W held 3 NR :=
  opens_flat (fun _ => rfl) fun cs ⟨n, y, h, _⟩ => by obtain ⟨x, hx, _, hw⟩ := DataW.trod_int und3 h; exact ⟨x, hx, bd_i64 hw⟩
theorem opens_it {fs : Array Field} (h36 : Try.prog.underlying 42 = some (.struct fs)) (h1 : oneCellFields Try.prog fs = true) (h2 : Try.prog.cellsOf 42 = fs.size) (h3 : fs.toList.map (·.type) = [9, 9, 4, 3, 40]) : Opens enc0 Try.prog W held 42 ItR := by
  refine opens_map (fun x : ByteArray × ByteArray × Bool × Int × Int × Unit => ⟨strOf x.1, strOf x.2.1, x.2.2.1, x.2.2.2.1, x.2.2.2.2.1⟩) (opens_struct (R := PairR (FlatR (fun x : ByteArray => [.string x]) fun x => x.size ≤ 140737488355328) (PairR (FlatR (fun x : ByteArray => [.string x]) fun x => x.size ≤ 140737488355328) (PairR (FlatR (fun x : Bool => [.bool x]) fun _ => True) (PairR (FlatR (fun x : Int => [.int .i64 x]) fun x => (Lit.int .i64 x).wf = true) (PairR (FlatR (fun x : Int => [.int .u32 x]) fun x => (Lit.int .u32 x).wf = true) UnitR))))) h36 h1 h2 ?_) ?_
  · rw [h3]; exact opensL_cons flat_keeps (opens_strW und9) (opensL_cons flat_keeps (opens_strW und9) (opensL_cons flat_keeps (opens_bool und4) (opensL_cons flat_keeps (opens_int und3) (opensL_cons flat_keeps (opens_int und40) opensL_nil))))
  · rintro ⟨x1, x2, x3, x4, x5, u⟩ h n ac ⟨l1, r1, rfl, ⟨rfl, g1⟩, l2, r2, rfl, ⟨rfl, g2⟩, l3, r3, rfl, ⟨rfl, g3⟩, l4, r4, rfl, ⟨rfl, g4⟩, l5, r5, rfl, ⟨rfl, g5⟩, rfl⟩
    have w4 := bd_i64 g4
    have w5 := bd_u32 g5
    exact ⟨rfl, g1, g2, w4.1, w4.2, w5.1, w5.2⟩
end
theorem law4r (size : Int) (v vc : Value) (l : List It) (cu : List Int) (hll : l.length ≤ 140737488355328) (hlc : cu.length ≤ 140737488355328) (a : AW) (m : Nat) (hm : m ≤ a.next) (hv : SliceR ItR 5 l a.heap m [v]) (m2 : Nat) (hm2 : m2 ≤ a.next) (hvc : SliceR NR 1 cu a.heap m2 [vc]) :
    WCall Try.prog GV 4 [.int .i64 size, v, vc] a fun r _ => r = .bool true := by
  obtain ⟨h1, h2⟩ := SliceR.rv encI_len hv
  obtain ⟨h3, h4⟩ := SliceR.rv encN_len hvc
  exact law4 size v vc l cu hll hlc (fun x hx => ⟨(h2 x hx).1, (h2 x hx).2.1⟩) (fun c hc => h4 c hc) a a.next (Nat.le_refl _) (h1.keep hm fun _ _ => rfl) (h3.keep hm2 fun _ _ => rfl)
end Go.Proofs.YtijmlgccaicblaaAM
