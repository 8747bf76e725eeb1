/- Chapter 6: how a list of buckets is opened; CatalogBack as its row asks it. -/
import Derived.Test.YtpcaoohacgkeiaaP9
namespace Go.Proofs.YtpcaoohacgkeiaaAM
open Go Go.RowKit Go.ChangeShapes Go.WideShapes Go.ChangeAt Go.Joins Go.Deep
set_option linter.unusedVariables false
set_option linter.unusedSimpArgs false
set_option maxRecDepth 10000
set_option maxHeartbeats 4000000

def BktGood (b : Bkt) : Prop := b.name.length ≤ 140737488355328 ∧ 0 ≤ b.root ∧ b.root ≤ 4294967295 ∧ -9223372036854775808 ≤ b.keys ∧ b.keys ≤ 9223372036854775807
def BktR : Rep0 Bkt := FlatR encB BktGood
theorem bkt_keeps : KeepsR BktR := flat_keeps
section
variable {H : Type} {enc0 : TypeId × Value → H} {W : World} {held : Bool}
theorem opens_bkt {fs : Array Field} (h36 : Try.prog.underlying 36 = some (.struct fs)) (h1 : oneCellFields Try.prog fs = true) (h2 : Try.prog.cellsOf 36 = fs.size) (h3 : fs.toList.map (·.type) = [9, 22, 3]) : Opens enc0 Try.prog W held 36 BktR := by
  refine opens_map (fun x : ByteArray × Int × Int × Unit => ⟨strOf x.1, x.2.1, x.2.2.1⟩) (opens_struct (R := PairR (FlatR (fun x : ByteArray => [.string x]) fun x => x.size ≤ 140737488355328) (PairR (FlatR (fun x : Int => [.int .u32 x]) fun x => (Lit.int .u32 x).wf = true) (PairR (FlatR (fun x : Int => [.int .i64 x]) fun x => (Lit.int .i64 x).wf = true) UnitR))) h36 h1 h2 ?_) ?_
  · rw [h3]; exact opensL_cons flat_keeps (opens_strW und9) (opensL_cons flat_keeps (opens_int und22) (opensL_cons flat_keeps (opens_int und3) opensL_nil))
  · rintro ⟨x1, x2, x3, u⟩ h n ac ⟨l1, r1, rfl, ⟨rfl, g1⟩, l2, r2, rfl, ⟨rfl, g2⟩, l3, r3, rfl, ⟨rfl, g3⟩, rfl⟩
    have w2 := bd_u32 g2
    have w3 := bd_i64 g3
    exact ⟨rfl, g1, w2.1, w2.2, w3.1, w3.2⟩
end
theorem law3r (size n tx : Int) (v : Value) (l : List Bkt) (k c p q t : Int) (s : ByteArray) (hll : l.length ≤ 140737488355328) (hs : -9223372036854775808 ≤ size ∧ size ≤ 9223372036854775807) (hc : -9223372036854775808 ≤ c ∧ c ≤ 9223372036854775807) (a : AW) (m : Nat) (hm : m ≤ a.next) (hv : SliceR BktR 3 l a.heap m [v]) :
    WCall Try.prog GV 3 [.int .i64 size, .int .u32 n, .int .u64 tx, v, .agg #[.int .i64 k, .int .i64 c, .int .u32 p, .int .u32 q, .int .u64 t, .string (mkStr (strOf s))]] a fun r _ => r = .bool true := by
  obtain ⟨h1, h2⟩ := SliceR.rv encB_len hv
  exact law3 size n tx v l ⟨k, c, p, q, t, strOf s⟩ hll (fun b hb => (h2 b hb).1) hs hc.1 hc.2 a m hm h1
end Go.Proofs.YtpcaoohacgkeiaaAM
