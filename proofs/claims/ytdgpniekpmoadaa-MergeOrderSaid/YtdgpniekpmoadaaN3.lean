/- Chapter 26: MergeTwice as its row asks it. -/
import Derived.Test.YtdgpniekpmoadaaN2
namespace Go.Proofs.YtdgpniekpmoadaaAM
open Go Go.RowKit
set_option linter.unusedVariables false
set_option linter.unusedSimpArgs false
theorem law5r (v u : Value) (ps : List Pr) (l : List Or') (hps : ps.length ≤ 140737488355328) (hl : l.length ≤ 140737488355328) (a : AW) (m1 m2 : Nat) (hm1 : m1 ≤ a.next) (hv : SliceR PrR 2 ps a.heap m1 [v]) (hm2 : m2 ≤ a.next) (hu : SliceR OrR 4 l a.heap m2 [u]) :
    WCall Try.prog GV 5 [v, u] a fun r _ => r = .bool true := by
  obtain ⟨h1, h2⟩ := SliceR.rv encPr_len hv
  obtain ⟨h3, h4⟩ := SliceR.rv encO_len hu
  rw [twice5 v u ps l hps hl (fun x hx => h2 x hx) (fun o ho => (h4 o ho).1) a a.next (Nat.le_refl _) (h1.keep hm1 fun _ _ => rfl) (h3.keep hm2 fun _ _ => rfl)]
end Go.Proofs.YtdgpniekpmoadaaAM
