/- Chapter 26: how lists of pairs and of orphans are opened; MergeCalls as its row asks it. -/
import Derived.Test.YtdgpniekpmoadaaM9
import Derived.ChangeArms
namespace Go.Proofs.YtdgpniekpmoadaaAM
open Go Go.RowKit Go.ChangeShapes Go.WideShapes Go.ChangeAt Go.Joins Go.Deep
set_option linter.unusedVariables false
set_option linter.unusedSimpArgs false
set_option maxRecDepth 10000
set_option maxHeartbeats 4000000

def PrGood (x : Pr) : Prop := x.key.length ≤ 140737488355328 ∧ x.val.length ≤ 140737488355328
def PrR : Rep0 Pr := FlatR encPr PrGood
theorem pr_keeps : KeepsR PrR := flat_keeps
def OrGood (x : Or') : Prop := (0 ≤ x.page ∧ x.page ≤ 4294967295) ∧ (-9223372036854775808 ≤ x.slot ∧ x.slot ≤ 9223372036854775807) ∧ x.key.length ≤ 140737488355328 ∧ x.val.length ≤ 140737488355328
def OrR : Rep0 Or' := FlatR encO OrGood
theorem or_keeps : KeepsR OrR := flat_keeps
section
variable {H : Type} {enc0 : TypeId × Value → H} {W : World} {held : Bool}
theorem opens_pr {fs : Array Field} (h36 : Try.prog.underlying 39 = some (.struct fs)) (h1 : oneCellFields Try.prog fs = true) (h2 : Try.prog.cellsOf 39 = fs.size) (h3 : fs.toList.map (·.type) = [9, 9]) : Opens enc0 Try.prog W held 39 PrR := by
  refine opens_map (fun x : ByteArray × ByteArray × Unit => ⟨strOf x.1, strOf x.2.1⟩) (opens_struct (R := PairR (FlatR (fun x : ByteArray => [.string x]) fun x => x.size ≤ 140737488355328) (PairR (FlatR (fun x : ByteArray => [.string x]) fun x => x.size ≤ 140737488355328) UnitR)) h36 h1 h2 ?_) ?_
  · rw [h3]; exact opensL_cons flat_keeps (opens_strW und9) (opensL_cons flat_keeps (opens_strW und9) opensL_nil)
  · rintro ⟨x1, x2, u⟩ h n ac ⟨l1, r1, rfl, ⟨rfl, g1⟩, l2, r2, rfl, ⟨rfl, g2⟩, rfl⟩
    exact ⟨rfl, g1, g2⟩
theorem opens_or {fs : Array Field} (h36 : Try.prog.underlying 24 = some (.struct fs)) (h1 : oneCellFields Try.prog fs = true) (h2 : Try.prog.cellsOf 24 = fs.size) (h3 : fs.toList.map (·.type) = [22, 3, 9, 9]) : Opens enc0 Try.prog W held 24 OrR := by
  refine opens_map (fun x : Int × Int × ByteArray × ByteArray × Unit => ⟨x.1, x.2.1, strOf x.2.2.1, strOf x.2.2.2.1⟩) (opens_struct (R := PairR (FlatR (fun x : Int => [.int .u32 x]) fun x => (Lit.int .u32 x).wf = true) (PairR (FlatR (fun x : Int => [.int .i64 x]) fun x => (Lit.int .i64 x).wf = true) (PairR (FlatR (fun x : ByteArray => [.string x]) fun x => x.size ≤ 140737488355328) (PairR (FlatR (fun x : ByteArray => [.string x]) fun x => x.size ≤ 140737488355328) UnitR)))) h36 h1 h2 ?_) ?_
  · rw [h3]; exact opensL_cons flat_keeps (opens_int und22) (opensL_cons flat_keeps (opens_int und3) (opensL_cons flat_keeps (opens_strW und9) (opensL_cons flat_keeps (opens_strW und9) opensL_nil)))
  · rintro ⟨x1, x2, x3, x4, u⟩ h n ac ⟨l1, r1, rfl, ⟨rfl, g1⟩, l2, r2, rfl, ⟨rfl, g2⟩, l3, r3, rfl, ⟨rfl, g3⟩, l4, r4, rfl, ⟨rfl, g4⟩, rfl⟩
    exact ⟨rfl, bd_u32 g1, bd_i64 g2, g3, g4⟩
end
theorem law7r (v u : Value) (ps : List Pr) (l : List Or') (s : List UInt8) (hps : ps.length ≤ 140737488355328) (hl : l.length ≤ 140737488355328) (a : AW) (m1 m2 : Nat) (hm1 : m1 ≤ a.next) (hv : SliceR PrR 2 ps a.heap m1 [v]) (hm2 : m2 ≤ a.next) (hu : SliceR OrR 4 l a.heap m2 [u]) :
    WCall Try.prog GV 7 [v, u, .string (mkStr s)] a fun r _ => r = .bool true := by
  obtain ⟨h1, h2⟩ := SliceR.rv encPr_len hv
  obtain ⟨h3, h4⟩ := SliceR.rv encO_len hu
  rw [calls7 v u ps l s hps hl (fun x hx => h2 x hx) (fun o ho => (h4 o ho).1) a a.next (Nat.le_refl _) (h1.keep hm1 fun _ _ => rfl) (h3.keep hm2 fun _ _ => rfl)]
end Go.Proofs.YtdgpniekpmoadaaAM
