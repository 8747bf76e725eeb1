/-
  No cell of these rows narrows 'for every input' (looked for: loops, veiled, ifaces, maps, wideKeys, modest, calm, conditions, laid).
  DERIVED. THE GIVEN ROWS OF THIS SEAT. 6 by the template 'for every input the law returns true; each argument reads behind the call as it read before'; 0 by the template 'total and deterministic' (their statements: YtgdmgolmeeigdaaTotals.lean).
  GIVEN WITH THE SEED: the statements are not yours to turn. If you find one false, say at which input.
  Laid BY PROGRAM, IN A SANDBOX (cutbox-rows.mjs): the forced cells as the released guide's own fill.sh prints them over the translation d96a73bed0b3e683… (all of the seat's roots in one cut). By AI agents, Wed Nov 11 2026. No macro, syntax, notation, axiom, sorry.
-/
import Derived.Test.YtgdmgolmeeigdaaChecked
import GoSem.Claim
import GoSem.ClaimJoined
import GoSem.ClaimMapViews
import Derived.JoinedTies
import Derived.KernelRfl
namespace Go.Proofs.Ytgdmgolmeeigdaa
/- THE CELL 'sum', in the pinned program and in every row, IS THE sha256 OF THE DUMP (.gsa) THAT YtgdmgolmeeigdaaProg.lean LOADS. Nothing in Lean hashes anything: it is a label: what it is worth is what the hold of that sum in a sandbox is worth. -/
noncomputable def Try.pinned : Pinned := { name := "ytgdmgolmeeigdaa", sum := "d96a73bed0b3e68363c71d7242ba16d80e44301d8a0a44584c15319bcfa86435", checked := Try.checked }
namespace Rows
def none {H : Type} : Left H := { results := [], args := [] }

/-- 'careenagelaw03.DeviceWhole': WHATEVER THE INPUT: true; the input reads as it did. -/
def deviceWholeSpec : ChangeSpec := { name := "deviceWhole", fn := fun _ => fun
  | [d1, d2, d3] => { results := [.lit (.bool true)], args := [d1, d2, d3] }
  | _ => none }
def deviceWholeRow : OpenClaim := { program := "ytgdmgolmeeigdaa", sum := "d96a73bed0b3e68363c71d7242ba16d80e44301d8a0a44584c15319bcfa86435", func := "careenage/careenagelaw03.DeviceWhole", spec := "deviceWhole", unfollowed := true, recurses := true, apart := false }
def DeviceWholeSaid : Prop := deviceWholeRow.holds Try.pinned (OpenSpec.ofChange deviceWholeSpec)

/-- ITS FALSE NEIGHBOUR: 'it returns false'. Refute it at one input. -/
def deviceWholeWrong : ChangeSpec := { name := "deviceWhole", fn := fun _ => fun
  | [d1, d2, d3] => { results := [.lit (.bool false)], args := [d1, d2, d3] }
  | _ => none }
def DeviceWholeWrongFalsely : Prop := deviceWholeRow.holds Try.pinned (OpenSpec.ofChange deviceWholeWrong)

/-- 'careenagelaw03.DeviceGrows': WHATEVER THE INPUT: true; the input reads as it did. -/
def deviceGrowsSpec : ChangeSpec := { name := "deviceGrows", fn := fun _ => fun
  | [d1, d2, d3, d4] => { results := [.lit (.bool true)], args := [d1, d2, d3, d4] }
  | _ => none }
def deviceGrowsRow : OpenClaim := { program := "ytgdmgolmeeigdaa", sum := "d96a73bed0b3e68363c71d7242ba16d80e44301d8a0a44584c15319bcfa86435", func := "careenage/careenagelaw03.DeviceGrows", spec := "deviceGrows", unfollowed := true, recurses := true, apart := false }
def DeviceGrowsSaid : Prop := deviceGrowsRow.holds Try.pinned (OpenSpec.ofChange deviceGrowsSpec)

/-- ITS FALSE NEIGHBOUR: 'it returns false'. Refute it at one input. -/
def deviceGrowsWrong : ChangeSpec := { name := "deviceGrows", fn := fun _ => fun
  | [d1, d2, d3, d4] => { results := [.lit (.bool false)], args := [d1, d2, d3, d4] }
  | _ => none }
def DeviceGrowsWrongFalsely : Prop := deviceGrowsRow.holds Try.pinned (OpenSpec.ofChange deviceGrowsWrong)

/-- 'careenagelaw03.DeviceFuses': WHATEVER THE INPUT: true; the input reads as it did. -/
def deviceFusesSpec : ChangeSpec := { name := "deviceFuses", fn := fun _ => fun
  | [d1, d2] => { results := [.lit (.bool true)], args := [d1, d2] }
  | _ => none }
def deviceFusesRow : OpenClaim := { program := "ytgdmgolmeeigdaa", sum := "d96a73bed0b3e68363c71d7242ba16d80e44301d8a0a44584c15319bcfa86435", func := "careenage/careenagelaw03.DeviceFuses", spec := "deviceFuses", unfollowed := true, recurses := true, apart := false }
def DeviceFusesSaid : Prop := deviceFusesRow.holds Try.pinned (OpenSpec.ofChange deviceFusesSpec)

/-- ITS FALSE NEIGHBOUR: 'it returns false'. Refute it at one input. -/
def deviceFusesWrong : ChangeSpec := { name := "deviceFuses", fn := fun _ => fun
  | [d1, d2] => { results := [.lit (.bool false)], args := [d1, d2] }
  | _ => none }
def DeviceFusesWrongFalsely : Prop := deviceFusesRow.holds Try.pinned (OpenSpec.ofChange deviceFusesWrong)

/-- 'careenagelaw03.DeviceCrash': WHATEVER THE INPUT: true; the input reads as it did. -/
def deviceCrashSpec : ChangeSpec := { name := "deviceCrash", fn := fun _ => fun
  | [d1, d2, d3] => { results := [.lit (.bool true)], args := [d1, d2, d3] }
  | _ => none }
def deviceCrashRow : OpenClaim := { program := "ytgdmgolmeeigdaa", sum := "d96a73bed0b3e68363c71d7242ba16d80e44301d8a0a44584c15319bcfa86435", func := "careenage/careenagelaw03.DeviceCrash", spec := "deviceCrash", unfollowed := true, recurses := true, apart := false }
def DeviceCrashSaid : Prop := deviceCrashRow.holds Try.pinned (OpenSpec.ofChange deviceCrashSpec)

/-- ITS FALSE NEIGHBOUR: 'it returns false'. Refute it at one input. -/
def deviceCrashWrong : ChangeSpec := { name := "deviceCrash", fn := fun _ => fun
  | [d1, d2, d3] => { results := [.lit (.bool false)], args := [d1, d2, d3] }
  | _ => none }
def DeviceCrashWrongFalsely : Prop := deviceCrashRow.holds Try.pinned (OpenSpec.ofChange deviceCrashWrong)

/-- 'careenagelaw03.DeviceScript': WHATEVER THE INPUT: true; the input reads as it did. -/
def deviceScriptSpec : ChangeSpec := { name := "deviceScript", fn := fun _ => fun
  | [d1, d2, d3, d4] => { results := [.lit (.bool true)], args := [d1, d2, d3, d4] }
  | _ => none }
def deviceScriptRow : OpenClaim := { program := "ytgdmgolmeeigdaa", sum := "d96a73bed0b3e68363c71d7242ba16d80e44301d8a0a44584c15319bcfa86435", func := "careenage/careenagelaw03.DeviceScript", spec := "deviceScript", unfollowed := true, recurses := true, apart := false }
def DeviceScriptSaid : Prop := deviceScriptRow.holds Try.pinned (OpenSpec.ofChange deviceScriptSpec)

/-- ITS FALSE NEIGHBOUR: 'it returns false'. Refute it at one input. -/
def deviceScriptWrong : ChangeSpec := { name := "deviceScript", fn := fun _ => fun
  | [d1, d2, d3, d4] => { results := [.lit (.bool false)], args := [d1, d2, d3, d4] }
  | _ => none }
def DeviceScriptWrongFalsely : Prop := deviceScriptRow.holds Try.pinned (OpenSpec.ofChange deviceScriptWrong)

/-- 'careenagelaw03.DeviceNames': WHATEVER THE INPUT: true; the input reads as it did. -/
def deviceNamesSpec : ChangeSpec := { name := "deviceNames", fn := fun _ => fun
  | [] => { results := [.lit (.bool true)], args := [] }
  | _ => none }
def deviceNamesRow : OpenClaim := { program := "ytgdmgolmeeigdaa", sum := "d96a73bed0b3e68363c71d7242ba16d80e44301d8a0a44584c15319bcfa86435", func := "careenage/careenagelaw03.DeviceNames", spec := "deviceNames", unfollowed := true, recurses := true, apart := false }
def DeviceNamesSaid : Prop := deviceNamesRow.holds Try.pinned (OpenSpec.ofChange deviceNamesSpec)

/-- ITS FALSE NEIGHBOUR: 'it returns false'. Refute it at one input. -/
def deviceNamesWrong : ChangeSpec := { name := "deviceNames", fn := fun _ => fun
  | [] => { results := [.lit (.bool false)], args := [] }
  | _ => none }
def DeviceNamesWrongFalsely : Prop := deviceNamesRow.holds Try.pinned (OpenSpec.ofChange deviceNamesWrong)

/- THE SECOND FORM. 'bulk': how many values and letters a reading holds, each counted each time it is reached (what is shared counts as often as it is met; a slice's spare places count too). A statement '..UptoSaid' is the law's where the arguments, and the package variables that the reading takes, are together of bulk at most 1048576: NARROWER than '..Said'. Prove '..Said' where nothing that the law and all that it calls make is longer than what came in: it says more and counts as full. Else prove '..UptoSaid'. A law counts once. -/
mutual
def uptoBulk {H : Type} : DataW H → Nat
  | .lit (.string bytes) => bytes.length + 1
  | .lit _ => 1
  | .nil => 1
  | .ptr d => uptoBulk d + 1
  | .slice elems spare => uptoBulkAll elems + uptoBulkAll spare + 1
  | .agg parts => uptoBulkAll parts + 1
  | .iface _ d => uptoBulk d + 1
  | .map entries => uptoBulkEntries entries + 1
  | .held _ => 1
def uptoBulkAll {H : Type} : List (DataW H) → Nat
  | [] => 0
  | d :: r => uptoBulk d + uptoBulkAll r
def uptoBulkEntries {H : Type} : List (Lit × DataW H) → Nat
  | [] => 0
  | x :: r => uptoBulkEntry x + uptoBulkEntries r
def uptoBulkEntry {H : Type} : Lit × DataW H → Nat
  | (.string bytes, d) => bytes.length + uptoBulk d + 1
  | (_, d) => uptoBulk d + 1
 end
def uptoSmall : (H : Type) → List (DataW H) → Bool := fun _ ds => decide (uptoBulkAll ds ≤ 1048576)
def OpenSpec.upto (s : _root_.Go.ChangeSpec) : _root_.Go.OpenSpec := { _root_.Go.OpenSpec.ofChange s with cond := some uptoSmall }

/-- 'careenagelaw03.DeviceWhole', WHERE WHAT IT READS IS OF BULK AT MOST 1048576: true; the input reads as it did. -/
def deviceWholeUptoRow : OpenClaim := { program := "ytgdmgolmeeigdaa", sum := "d96a73bed0b3e68363c71d7242ba16d80e44301d8a0a44584c15319bcfa86435", func := "careenage/careenagelaw03.DeviceWhole", spec := "deviceWhole", unfollowed := true, recurses := true, apart := false, narrowed := true }
def DeviceWholeUptoSaid : Prop := deviceWholeUptoRow.holds Try.pinned (OpenSpec.upto deviceWholeSpec)

/-- 'careenagelaw03.DeviceGrows', WHERE WHAT IT READS IS OF BULK AT MOST 1048576: true; the input reads as it did. -/
def deviceGrowsUptoRow : OpenClaim := { program := "ytgdmgolmeeigdaa", sum := "d96a73bed0b3e68363c71d7242ba16d80e44301d8a0a44584c15319bcfa86435", func := "careenage/careenagelaw03.DeviceGrows", spec := "deviceGrows", unfollowed := true, recurses := true, apart := false, narrowed := true }
def DeviceGrowsUptoSaid : Prop := deviceGrowsUptoRow.holds Try.pinned (OpenSpec.upto deviceGrowsSpec)

/-- 'careenagelaw03.DeviceFuses', WHERE WHAT IT READS IS OF BULK AT MOST 1048576: true; the input reads as it did. -/
def deviceFusesUptoRow : OpenClaim := { program := "ytgdmgolmeeigdaa", sum := "d96a73bed0b3e68363c71d7242ba16d80e44301d8a0a44584c15319bcfa86435", func := "careenage/careenagelaw03.DeviceFuses", spec := "deviceFuses", unfollowed := true, recurses := true, apart := false, narrowed := true }
def DeviceFusesUptoSaid : Prop := deviceFusesUptoRow.holds Try.pinned (OpenSpec.upto deviceFusesSpec)

/-- 'careenagelaw03.DeviceCrash', WHERE WHAT IT READS IS OF BULK AT MOST 1048576: true; the input reads as it did. -/
def deviceCrashUptoRow : OpenClaim := { program := "ytgdmgolmeeigdaa", sum := "d96a73bed0b3e68363c71d7242ba16d80e44301d8a0a44584c15319bcfa86435", func := "careenage/careenagelaw03.DeviceCrash", spec := "deviceCrash", unfollowed := true, recurses := true, apart := false, narrowed := true }
def DeviceCrashUptoSaid : Prop := deviceCrashUptoRow.holds Try.pinned (OpenSpec.upto deviceCrashSpec)

/-- 'careenagelaw03.DeviceScript', WHERE WHAT IT READS IS OF BULK AT MOST 1048576: true; the input reads as it did. -/
def deviceScriptUptoRow : OpenClaim := { program := "ytgdmgolmeeigdaa", sum := "d96a73bed0b3e68363c71d7242ba16d80e44301d8a0a44584c15319bcfa86435", func := "careenage/careenagelaw03.DeviceScript", spec := "deviceScript", unfollowed := true, recurses := true, apart := false, narrowed := true }
def DeviceScriptUptoSaid : Prop := deviceScriptUptoRow.holds Try.pinned (OpenSpec.upto deviceScriptSpec)

/-- 'careenagelaw03.DeviceNames', WHERE WHAT IT READS IS OF BULK AT MOST 1048576: true; the input reads as it did. -/
def deviceNamesUptoRow : OpenClaim := { program := "ytgdmgolmeeigdaa", sum := "d96a73bed0b3e68363c71d7242ba16d80e44301d8a0a44584c15319bcfa86435", func := "careenage/careenagelaw03.DeviceNames", spec := "deviceNames", unfollowed := true, recurses := true, apart := false, narrowed := true }
def DeviceNamesUptoSaid : Prop := deviceNamesUptoRow.holds Try.pinned (OpenSpec.upto deviceNamesSpec)

end Rows
end Go.Proofs.Ytgdmgolmeeigdaa
