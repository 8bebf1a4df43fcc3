/-
  NARROWER THAN 'FOR EVERY INPUT', by the rows' own cells (each row's printed sentence says how): LockMay: laid · LockFree: laid · LockAlone: laid · LockRuns: laid · TaskAdds: laid.
  DERIVED. THE GIVEN ROWS OF THIS SEAT. 5 by the template 'for every input the law returns true; each argument reads behind the call as it read before'; 0 by the template 'total and deterministic' (their statements: YtnnadhfpkplncaaDoorTotals.lean).
  GIVEN WITH THE SEED: the statements are not yours to turn. If you find one false, say at which input.
  Laid BY PROGRAM, IN A SANDBOX (cutbox-rows.mjs): the forced cells as the released guide's own fill.sh prints them over the translation 66b44b3de59a74ef… (all of the seat's roots in one cut). By AI agents, Wed Nov 11 2026. No macro, syntax, notation, axiom, sorry.
-/
import Derived.Test.YtnnadhfpkplncaaDoorChecked
import GoSem.Claim
import GoSem.ClaimJoined
import GoSem.ClaimMapViews
import Derived.JoinedTies
import Derived.KernelRfl
namespace Go.Proofs.YtnnadhfpkplncaaDoor
/- THE CELL 'sum', in the pinned program and in every row, IS THE sha256 OF THE DUMP (.gsa) THAT YtnnadhfpkplncaaDoorProg.lean LOADS. Nothing in Lean hashes anything: it is a label: what it is worth is what the hold of that sum in a sandbox is worth. -/
noncomputable def Tryd.pinned : Pinned := { name := "ytnnadhfpkplncaadoor", sum := "66b44b3de59a74ef9b3588a55fee455694eede8d0c393a925b746a58c3e6b9bb", checked := Tryd.checked }
namespace Rows
def none {H : Type} : Left H := { results := [], args := [] }

/- WHAT THE LISTED PACKAGE-LEVEL VARIABLES READ AS WHEN THE CALL BEGINS. Each datum BY PROGRAM (the guide's laid-datum.mjs) off the statement by which the dump's own 'gosem.cut.vars' lays the variable. In a bare row this is a premise. The card (YtnnadhfpkplncaaDoorCards.lean) ties it to the program's text. -/
def laid_errors_errorType {H : Type} : DataW H := .iface "internal/reflectlite.rtype" (.agg [.ptr (.lit (.string [101, 114, 114, 111, 114]))])

/-- 'drydocklaw22.LockMay': WHATEVER THE INPUT: true; the input reads as it did. -/
def lockMaySpec : ChangeSpec := { name := "lockMay", fn := fun _ => fun
  | [d1, d2, d3] => { results := [.lit (.bool true)], args := [d1, d2, d3] }
  | _ => none }
def lockMayRow : OpenClaim := { program := "ytnnadhfpkplncaadoor", sum := "66b44b3de59a74ef9b3588a55fee455694eede8d0c393a925b746a58c3e6b9bb", func := "drydock/drydocklaw22.LockMay", spec := "lockMay", inPlace := ["internal/reflectlite.ValueOf", "(internal/reflectlite.Value).Type", "(internal/reflectlite.Value).IsNil", "internal/reflectlite.TypeOf", "(internal/reflectlite.Value).Elem", "(internal/reflectlite.Value).Set"], unfollowed := true, recurses := true, named := ["errors.errorType"], apart := false, laid := [("errors.errorType", laid_errors_errorType)] }
def LockMaySaid : Prop := lockMayRow.holds Tryd.pinned (OpenSpec.ofChange lockMaySpec)

/-- ITS FALSE NEIGHBOUR: 'it returns false'. Refute it at one input. -/
def lockMayWrong : ChangeSpec := { name := "lockMay", fn := fun _ => fun
  | [d1, d2, d3] => { results := [.lit (.bool false)], args := [d1, d2, d3] }
  | _ => none }
def LockMayWrongFalsely : Prop := lockMayRow.holds Tryd.pinned (OpenSpec.ofChange lockMayWrong)

/-- 'drydocklaw22.LockFree': WHATEVER THE INPUT: true; the input reads as it did. -/
def lockFreeSpec : ChangeSpec := { name := "lockFree", fn := fun _ => fun
  | [d1, d2] => { results := [.lit (.bool true)], args := [d1, d2] }
  | _ => none }
def lockFreeRow : OpenClaim := { program := "ytnnadhfpkplncaadoor", sum := "66b44b3de59a74ef9b3588a55fee455694eede8d0c393a925b746a58c3e6b9bb", func := "drydock/drydocklaw22.LockFree", spec := "lockFree", inPlace := ["internal/reflectlite.ValueOf", "(internal/reflectlite.Value).Type", "(internal/reflectlite.Value).IsNil", "internal/reflectlite.TypeOf", "(internal/reflectlite.Value).Elem", "(internal/reflectlite.Value).Set"], unfollowed := true, recurses := true, named := ["errors.errorType"], apart := false, laid := [("errors.errorType", laid_errors_errorType)] }
def LockFreeSaid : Prop := lockFreeRow.holds Tryd.pinned (OpenSpec.ofChange lockFreeSpec)

/-- ITS FALSE NEIGHBOUR: 'it returns false'. Refute it at one input. -/
def lockFreeWrong : ChangeSpec := { name := "lockFree", fn := fun _ => fun
  | [d1, d2] => { results := [.lit (.bool false)], args := [d1, d2] }
  | _ => none }
def LockFreeWrongFalsely : Prop := lockFreeRow.holds Tryd.pinned (OpenSpec.ofChange lockFreeWrong)

/-- 'drydocklaw22.LockAlone': WHATEVER THE INPUT: true; the input reads as it did. -/
def lockAloneSpec : ChangeSpec := { name := "lockAlone", fn := fun _ => fun
  | [d] => { results := [.lit (.bool true)], args := [d] }
  | _ => none }
def lockAloneRow : OpenClaim := { program := "ytnnadhfpkplncaadoor", sum := "66b44b3de59a74ef9b3588a55fee455694eede8d0c393a925b746a58c3e6b9bb", func := "drydock/drydocklaw22.LockAlone", spec := "lockAlone", inPlace := ["internal/reflectlite.ValueOf", "(internal/reflectlite.Value).Type", "(internal/reflectlite.Value).IsNil", "internal/reflectlite.TypeOf", "(internal/reflectlite.Value).Elem", "(internal/reflectlite.Value).Set"], unfollowed := true, recurses := true, named := ["errors.errorType"], apart := false, laid := [("errors.errorType", laid_errors_errorType)] }
def LockAloneSaid : Prop := lockAloneRow.holds Tryd.pinned (OpenSpec.ofChange lockAloneSpec)

/-- ITS FALSE NEIGHBOUR: 'it returns false'. Refute it at one input. -/
def lockAloneWrong : ChangeSpec := { name := "lockAlone", fn := fun _ => fun
  | [d] => { results := [.lit (.bool false)], args := [d] }
  | _ => none }
def LockAloneWrongFalsely : Prop := lockAloneRow.holds Tryd.pinned (OpenSpec.ofChange lockAloneWrong)

/-- 'drydocklaw22.LockRuns': WHATEVER THE INPUT: true; the input reads as it did. -/
def lockRunsSpec : ChangeSpec := { name := "lockRuns", fn := fun _ => fun
  | [d] => { results := [.lit (.bool true)], args := [d] }
  | _ => none }
def lockRunsRow : OpenClaim := { program := "ytnnadhfpkplncaadoor", sum := "66b44b3de59a74ef9b3588a55fee455694eede8d0c393a925b746a58c3e6b9bb", func := "drydock/drydocklaw22.LockRuns", spec := "lockRuns", inPlace := ["internal/reflectlite.ValueOf", "(internal/reflectlite.Value).Type", "(internal/reflectlite.Value).IsNil", "internal/reflectlite.TypeOf", "(internal/reflectlite.Value).Elem", "(internal/reflectlite.Value).Set"], unfollowed := true, recurses := true, named := ["errors.errorType"], apart := false, laid := [("errors.errorType", laid_errors_errorType)] }
def LockRunsSaid : Prop := lockRunsRow.holds Tryd.pinned (OpenSpec.ofChange lockRunsSpec)

/-- ITS FALSE NEIGHBOUR: 'it returns false'. Refute it at one input. -/
def lockRunsWrong : ChangeSpec := { name := "lockRuns", fn := fun _ => fun
  | [d] => { results := [.lit (.bool false)], args := [d] }
  | _ => none }
def LockRunsWrongFalsely : Prop := lockRunsRow.holds Tryd.pinned (OpenSpec.ofChange lockRunsWrong)

/-- 'drydocklaw23.TaskAdds': WHATEVER THE INPUT: true; the input reads as it did. -/
def taskAddsSpec : ChangeSpec := { name := "taskAdds", fn := fun _ => fun
  | [d1, d2] => { results := [.lit (.bool true)], args := [d1, d2] }
  | _ => none }
def taskAddsRow : OpenClaim := { program := "ytnnadhfpkplncaadoor", sum := "66b44b3de59a74ef9b3588a55fee455694eede8d0c393a925b746a58c3e6b9bb", func := "drydock/drydocklaw23.TaskAdds", spec := "taskAdds", inPlace := ["internal/reflectlite.ValueOf", "(internal/reflectlite.Value).Type", "(internal/reflectlite.Value).IsNil", "internal/reflectlite.TypeOf", "(internal/reflectlite.Value).Elem", "(internal/reflectlite.Value).Set", "sync/atomic.AddInt64"], unfollowed := true, recurses := true, named := ["errors.errorType"], apart := false, laid := [("errors.errorType", laid_errors_errorType)] }
def TaskAddsSaid : Prop := taskAddsRow.holds Tryd.pinned (OpenSpec.ofChange taskAddsSpec)

/-- ITS FALSE NEIGHBOUR: 'it returns false'. Refute it at one input. -/
def taskAddsWrong : ChangeSpec := { name := "taskAdds", fn := fun _ => fun
  | [d1, d2] => { results := [.lit (.bool false)], args := [d1, d2] }
  | _ => none }
def TaskAddsWrongFalsely : Prop := taskAddsRow.holds Tryd.pinned (OpenSpec.ofChange taskAddsWrong)

/- THE SECOND FORM. 'bulk': how many values and letters a reading holds, each counted each time it is reached (what is shared counts as often as it is met; a slice's spare places count too). A statement '..UptoSaid' is the law's where the arguments, and the package variables that the reading takes, are together of bulk at most 1048576: NARROWER than '..Said'. Prove '..Said' where nothing that the law and all that it calls make is longer than what came in: it says more and counts as full. Else prove '..UptoSaid'. A law counts once. -/
mutual
def uptoBulk {H : Type} : DataW H → Nat
  | .lit (.string bytes) => bytes.length + 1
  | .lit _ => 1
  | .nil => 1
  | .ptr d => uptoBulk d + 1
  | .slice elems spare => uptoBulkAll elems + uptoBulkAll spare + 1
  | .agg parts => uptoBulkAll parts + 1
  | .iface _ d => uptoBulk d + 1
  | .map entries => uptoBulkEntries entries + 1
  | .held _ => 1
def uptoBulkAll {H : Type} : List (DataW H) → Nat
  | [] => 0
  | d :: r => uptoBulk d + uptoBulkAll r
def uptoBulkEntries {H : Type} : List (Lit × DataW H) → Nat
  | [] => 0
  | x :: r => uptoBulkEntry x + uptoBulkEntries r
def uptoBulkEntry {H : Type} : Lit × DataW H → Nat
  | (.string bytes, d) => bytes.length + uptoBulk d + 1
  | (_, d) => uptoBulk d + 1
 end
def uptoSmall : (H : Type) → List (DataW H) → Bool := fun _ ds => decide (uptoBulkAll ds ≤ 1048576)
def OpenSpec.upto (s : _root_.Go.ChangeSpec) : _root_.Go.OpenSpec := { _root_.Go.OpenSpec.ofChange s with cond := some uptoSmall }

/-- 'drydocklaw22.LockMay', WHERE WHAT IT READS IS OF BULK AT MOST 1048576: true; the input reads as it did. -/
def lockMayUptoRow : OpenClaim := { program := "ytnnadhfpkplncaadoor", sum := "66b44b3de59a74ef9b3588a55fee455694eede8d0c393a925b746a58c3e6b9bb", func := "drydock/drydocklaw22.LockMay", spec := "lockMay", inPlace := ["internal/reflectlite.ValueOf", "(internal/reflectlite.Value).Type", "(internal/reflectlite.Value).IsNil", "internal/reflectlite.TypeOf", "(internal/reflectlite.Value).Elem", "(internal/reflectlite.Value).Set"], unfollowed := true, recurses := true, named := ["errors.errorType"], apart := false, laid := [("errors.errorType", laid_errors_errorType)], narrowed := true }
def LockMayUptoSaid : Prop := lockMayUptoRow.holds Tryd.pinned (OpenSpec.upto lockMaySpec)

/-- 'drydocklaw22.LockFree', WHERE WHAT IT READS IS OF BULK AT MOST 1048576: true; the input reads as it did. -/
def lockFreeUptoRow : OpenClaim := { program := "ytnnadhfpkplncaadoor", sum := "66b44b3de59a74ef9b3588a55fee455694eede8d0c393a925b746a58c3e6b9bb", func := "drydock/drydocklaw22.LockFree", spec := "lockFree", inPlace := ["internal/reflectlite.ValueOf", "(internal/reflectlite.Value).Type", "(internal/reflectlite.Value).IsNil", "internal/reflectlite.TypeOf", "(internal/reflectlite.Value).Elem", "(internal/reflectlite.Value).Set"], unfollowed := true, recurses := true, named := ["errors.errorType"], apart := false, laid := [("errors.errorType", laid_errors_errorType)], narrowed := true }
def LockFreeUptoSaid : Prop := lockFreeUptoRow.holds Tryd.pinned (OpenSpec.upto lockFreeSpec)

/-- 'drydocklaw22.LockAlone', WHERE WHAT IT READS IS OF BULK AT MOST 1048576: true; the input reads as it did. -/
def lockAloneUptoRow : OpenClaim := { program := "ytnnadhfpkplncaadoor", sum := "66b44b3de59a74ef9b3588a55fee455694eede8d0c393a925b746a58c3e6b9bb", func := "drydock/drydocklaw22.LockAlone", spec := "lockAlone", inPlace := ["internal/reflectlite.ValueOf", "(internal/reflectlite.Value).Type", "(internal/reflectlite.Value).IsNil", "internal/reflectlite.TypeOf", "(internal/reflectlite.Value).Elem", "(internal/reflectlite.Value).Set"], unfollowed := true, recurses := true, named := ["errors.errorType"], apart := false, laid := [("errors.errorType", laid_errors_errorType)], narrowed := true }
def LockAloneUptoSaid : Prop := lockAloneUptoRow.holds Tryd.pinned (OpenSpec.upto lockAloneSpec)

/-- 'drydocklaw22.LockRuns', WHERE WHAT IT READS IS OF BULK AT MOST 1048576: true; the input reads as it did. -/
def lockRunsUptoRow : OpenClaim := { program := "ytnnadhfpkplncaadoor", sum := "66b44b3de59a74ef9b3588a55fee455694eede8d0c393a925b746a58c3e6b9bb", func := "drydock/drydocklaw22.LockRuns", spec := "lockRuns", inPlace := ["internal/reflectlite.ValueOf", "(internal/reflectlite.Value).Type", "(internal/reflectlite.Value).IsNil", "internal/reflectlite.TypeOf", "(internal/reflectlite.Value).Elem", "(internal/reflectlite.Value).Set"], unfollowed := true, recurses := true, named := ["errors.errorType"], apart := false, laid := [("errors.errorType", laid_errors_errorType)], narrowed := true }
def LockRunsUptoSaid : Prop := lockRunsUptoRow.holds Tryd.pinned (OpenSpec.upto lockRunsSpec)

/-- 'drydocklaw23.TaskAdds', WHERE WHAT IT READS IS OF BULK AT MOST 1048576: true; the input reads as it did. -/
def taskAddsUptoRow : OpenClaim := { program := "ytnnadhfpkplncaadoor", sum := "66b44b3de59a74ef9b3588a55fee455694eede8d0c393a925b746a58c3e6b9bb", func := "drydock/drydocklaw23.TaskAdds", spec := "taskAdds", inPlace := ["internal/reflectlite.ValueOf", "(internal/reflectlite.Value).Type", "(internal/reflectlite.Value).IsNil", "internal/reflectlite.TypeOf", "(internal/reflectlite.Value).Elem", "(internal/reflectlite.Value).Set", "sync/atomic.AddInt64"], unfollowed := true, recurses := true, named := ["errors.errorType"], apart := false, laid := [("errors.errorType", laid_errors_errorType)], narrowed := true }
def TaskAddsUptoSaid : Prop := taskAddsUptoRow.holds Tryd.pinned (OpenSpec.upto taskAddsSpec)

end Rows
end Go.Proofs.YtnnadhfpkplncaaDoor
