/-
  No cell of these rows narrows 'for every input' (looked for: loops, veiled, ifaces, maps, wideKeys, modest, calm, conditions, laid).
  DERIVED. THE GIVEN ROWS OF THIS SEAT. 7 by the template 'for every input the law returns true; each argument reads behind the call as it read before'; 0 by the template 'total and deterministic' (their statements: YtnnadhfpkplncaaTotals.lean).
  GIVEN WITH THE SEED: the statements are not yours to turn. If you find one false, say at which input.
  Laid BY PROGRAM, IN A SANDBOX (cutbox-rows.mjs): the forced cells as the released guide's own fill.sh prints them over the translation fd1f00b5cc897f0a… (all of the seat's roots in one cut). By AI agents, Wed Nov 11 2026. No macro, syntax, notation, axiom, sorry.
-/
import Derived.Test.YtnnadhfpkplncaaChecked
import GoSem.Claim
import GoSem.ClaimJoined
import GoSem.ClaimMapViews
import Derived.JoinedTies
import Derived.KernelRfl
namespace Go.Proofs.Ytnnadhfpkplncaa
/- THE CELL 'sum', in the pinned program and in every row, IS THE sha256 OF THE DUMP (.gsa) THAT YtnnadhfpkplncaaProg.lean LOADS. Nothing in Lean hashes anything: it is a label: what it is worth is what the hold of that sum in a sandbox is worth. -/
noncomputable def Try.pinned : Pinned := { name := "ytnnadhfpkplncaa", sum := "fd1f00b5cc897f0a2d7cac69246c0df809a131b969ed29e6f146d2a88be42ca0", checked := Try.checked }
namespace Rows
def none {H : Type} : Left H := { results := [], args := [] }

/-- 'drydocklaw19.RadixStays': WHATEVER THE INPUT: true; the input reads as it did. -/
def radixStaysSpec : ChangeSpec := { name := "radixStays", fn := fun _ => fun
  | [d] => { results := [.lit (.bool true)], args := [d] }
  | _ => none }
def radixStaysRow : OpenClaim := { program := "ytnnadhfpkplncaa", sum := "fd1f00b5cc897f0a2d7cac69246c0df809a131b969ed29e6f146d2a88be42ca0", func := "drydock/drydocklaw19.RadixStays", spec := "radixStays", unfollowed := true, recurses := true, apart := false }
def RadixStaysSaid : Prop := radixStaysRow.holds Try.pinned (OpenSpec.ofChange radixStaysSpec)

/-- ITS FALSE NEIGHBOUR: 'it returns false'. Refute it at one input. -/
def radixStaysWrong : ChangeSpec := { name := "radixStays", fn := fun _ => fun
  | [d] => { results := [.lit (.bool false)], args := [d] }
  | _ => none }
def RadixStaysWrongFalsely : Prop := radixStaysRow.holds Try.pinned (OpenSpec.ofChange radixStaysWrong)

/-- 'drydocklaw19.RadixSets': WHATEVER THE INPUT: true; the input reads as it did. -/
def radixSetsSpec : ChangeSpec := { name := "radixSets", fn := fun _ => fun
  | [d1, d2, d3] => { results := [.lit (.bool true)], args := [d1, d2, d3] }
  | _ => none }
def radixSetsRow : OpenClaim := { program := "ytnnadhfpkplncaa", sum := "fd1f00b5cc897f0a2d7cac69246c0df809a131b969ed29e6f146d2a88be42ca0", func := "drydock/drydocklaw19.RadixSets", spec := "radixSets", unfollowed := true, recurses := true, apart := false }
def RadixSetsSaid : Prop := radixSetsRow.holds Try.pinned (OpenSpec.ofChange radixSetsSpec)

/-- ITS FALSE NEIGHBOUR: 'it returns false'. Refute it at one input. -/
def radixSetsWrong : ChangeSpec := { name := "radixSets", fn := fun _ => fun
  | [d1, d2, d3] => { results := [.lit (.bool false)], args := [d1, d2, d3] }
  | _ => none }
def RadixSetsWrongFalsely : Prop := radixSetsRow.holds Try.pinned (OpenSpec.ofChange radixSetsWrong)

/-- 'drydocklaw19.RadixDiffs': WHATEVER THE INPUT: true; the input reads as it did. -/
def radixDiffsSpec : ChangeSpec := { name := "radixDiffs", fn := fun _ => fun
  | [d1, d2] => { results := [.lit (.bool true)], args := [d1, d2] }
  | _ => none }
def radixDiffsRow : OpenClaim := { program := "ytnnadhfpkplncaa", sum := "fd1f00b5cc897f0a2d7cac69246c0df809a131b969ed29e6f146d2a88be42ca0", func := "drydock/drydocklaw19.RadixDiffs", spec := "radixDiffs", unfollowed := true, recurses := true, apart := false }
def RadixDiffsSaid : Prop := radixDiffsRow.holds Try.pinned (OpenSpec.ofChange radixDiffsSpec)

/-- ITS FALSE NEIGHBOUR: 'it returns false'. Refute it at one input. -/
def radixDiffsWrong : ChangeSpec := { name := "radixDiffs", fn := fun _ => fun
  | [d1, d2] => { results := [.lit (.bool false)], args := [d1, d2] }
  | _ => none }
def RadixDiffsWrongFalsely : Prop := radixDiffsRow.holds Try.pinned (OpenSpec.ofChange radixDiffsWrong)

/-- 'drydocklaw19.RadixBack': WHATEVER THE INPUT: true; the input reads as it did. -/
def radixBackSpec : ChangeSpec := { name := "radixBack", fn := fun _ => fun
  | [d1, d2, d3] => { results := [.lit (.bool true)], args := [d1, d2, d3] }
  | _ => none }
def radixBackRow : OpenClaim := { program := "ytnnadhfpkplncaa", sum := "fd1f00b5cc897f0a2d7cac69246c0df809a131b969ed29e6f146d2a88be42ca0", func := "drydock/drydocklaw19.RadixBack", spec := "radixBack", unfollowed := true, recurses := true, apart := false }
def RadixBackSaid : Prop := radixBackRow.holds Try.pinned (OpenSpec.ofChange radixBackSpec)

/-- ITS FALSE NEIGHBOUR: 'it returns false'. Refute it at one input. -/
def radixBackWrong : ChangeSpec := { name := "radixBack", fn := fun _ => fun
  | [d1, d2, d3] => { results := [.lit (.bool false)], args := [d1, d2, d3] }
  | _ => none }
def RadixBackWrongFalsely : Prop := radixBackRow.holds Try.pinned (OpenSpec.ofChange radixBackWrong)

/-- 'drydocklaw19.RadixRuns': WHATEVER THE INPUT: true; the input reads as it did. -/
def radixRunsSpec : ChangeSpec := { name := "radixRuns", fn := fun _ => fun
  | [d1, d2] => { results := [.lit (.bool true)], args := [d1, d2] }
  | _ => none }
def radixRunsRow : OpenClaim := { program := "ytnnadhfpkplncaa", sum := "fd1f00b5cc897f0a2d7cac69246c0df809a131b969ed29e6f146d2a88be42ca0", func := "drydock/drydocklaw19.RadixRuns", spec := "radixRuns", unfollowed := true, recurses := true, apart := false }
def RadixRunsSaid : Prop := radixRunsRow.holds Try.pinned (OpenSpec.ofChange radixRunsSpec)

/-- ITS FALSE NEIGHBOUR: 'it returns false'. Refute it at one input. -/
def radixRunsWrong : ChangeSpec := { name := "radixRuns", fn := fun _ => fun
  | [d1, d2] => { results := [.lit (.bool false)], args := [d1, d2] }
  | _ => none }
def RadixRunsWrongFalsely : Prop := radixRunsRow.holds Try.pinned (OpenSpec.ofChange radixRunsWrong)

/-- 'drydocklaw20.VolumeCounts': WHATEVER THE INPUT: true; the input reads as it did. -/
def volumeCountsSpec : ChangeSpec := { name := "volumeCounts", fn := fun _ => fun
  | [d] => { results := [.lit (.bool true)], args := [d] }
  | _ => none }
def volumeCountsRow : OpenClaim := { program := "ytnnadhfpkplncaa", sum := "fd1f00b5cc897f0a2d7cac69246c0df809a131b969ed29e6f146d2a88be42ca0", func := "drydock/drydocklaw20.VolumeCounts", spec := "volumeCounts", inPlace := ["internal/bytealg.abigen_runtime_cmpstring", "slices.overlaps[drydock/volume.volume]"], unfollowed := true, recurses := true, apart := false }
def VolumeCountsSaid : Prop := volumeCountsRow.holds Try.pinned (OpenSpec.ofChange volumeCountsSpec)

/-- ITS FALSE NEIGHBOUR: 'it returns false'. Refute it at one input. -/
def volumeCountsWrong : ChangeSpec := { name := "volumeCounts", fn := fun _ => fun
  | [d] => { results := [.lit (.bool false)], args := [d] }
  | _ => none }
def VolumeCountsWrongFalsely : Prop := volumeCountsRow.holds Try.pinned (OpenSpec.ofChange volumeCountsWrong)

/-- 'drydocklaw20.VolumeAlone': WHATEVER THE INPUT: true; the input reads as it did. -/
def volumeAloneSpec : ChangeSpec := { name := "volumeAlone", fn := fun _ => fun
  | [d] => { results := [.lit (.bool true)], args := [d] }
  | _ => none }
def volumeAloneRow : OpenClaim := { program := "ytnnadhfpkplncaa", sum := "fd1f00b5cc897f0a2d7cac69246c0df809a131b969ed29e6f146d2a88be42ca0", func := "drydock/drydocklaw20.VolumeAlone", spec := "volumeAlone", inPlace := ["internal/bytealg.abigen_runtime_cmpstring", "slices.overlaps[drydock/volume.volume]"], unfollowed := true, recurses := true, apart := false }
def VolumeAloneSaid : Prop := volumeAloneRow.holds Try.pinned (OpenSpec.ofChange volumeAloneSpec)

/-- ITS FALSE NEIGHBOUR: 'it returns false'. Refute it at one input. -/
def volumeAloneWrong : ChangeSpec := { name := "volumeAlone", fn := fun _ => fun
  | [d] => { results := [.lit (.bool false)], args := [d] }
  | _ => none }
def VolumeAloneWrongFalsely : Prop := volumeAloneRow.holds Try.pinned (OpenSpec.ofChange volumeAloneWrong)

/- THE SECOND FORM. 'bulk': how many values and letters a reading holds, each counted each time it is reached (what is shared counts as often as it is met; a slice's spare places count too). A statement '..UptoSaid' is the law's where the arguments, and the package variables that the reading takes, are together of bulk at most 1048576: NARROWER than '..Said'. Prove '..Said' where nothing that the law and all that it calls make is longer than what came in: it says more and counts as full. Else prove '..UptoSaid'. A law counts once. -/
mutual
def uptoBulk {H : Type} : DataW H → Nat
  | .lit (.string bytes) => bytes.length + 1
  | .lit _ => 1
  | .nil => 1
  | .ptr d => uptoBulk d + 1
  | .slice elems spare => uptoBulkAll elems + uptoBulkAll spare + 1
  | .agg parts => uptoBulkAll parts + 1
  | .iface _ d => uptoBulk d + 1
  | .map entries => uptoBulkEntries entries + 1
  | .held _ => 1
def uptoBulkAll {H : Type} : List (DataW H) → Nat
  | [] => 0
  | d :: r => uptoBulk d + uptoBulkAll r
def uptoBulkEntries {H : Type} : List (Lit × DataW H) → Nat
  | [] => 0
  | x :: r => uptoBulkEntry x + uptoBulkEntries r
def uptoBulkEntry {H : Type} : Lit × DataW H → Nat
  | (.string bytes, d) => bytes.length + uptoBulk d + 1
  | (_, d) => uptoBulk d + 1
 end
def uptoSmall : (H : Type) → List (DataW H) → Bool := fun _ ds => decide (uptoBulkAll ds ≤ 1048576)
def OpenSpec.upto (s : _root_.Go.ChangeSpec) : _root_.Go.OpenSpec := { _root_.Go.OpenSpec.ofChange s with cond := some uptoSmall }

/-- 'drydocklaw19.RadixStays', WHERE WHAT IT READS IS OF BULK AT MOST 1048576: true; the input reads as it did. -/
def radixStaysUptoRow : OpenClaim := { program := "ytnnadhfpkplncaa", sum := "fd1f00b5cc897f0a2d7cac69246c0df809a131b969ed29e6f146d2a88be42ca0", func := "drydock/drydocklaw19.RadixStays", spec := "radixStays", unfollowed := true, recurses := true, apart := false, narrowed := true }
def RadixStaysUptoSaid : Prop := radixStaysUptoRow.holds Try.pinned (OpenSpec.upto radixStaysSpec)

/-- 'drydocklaw19.RadixSets', WHERE WHAT IT READS IS OF BULK AT MOST 1048576: true; the input reads as it did. -/
def radixSetsUptoRow : OpenClaim := { program := "ytnnadhfpkplncaa", sum := "fd1f00b5cc897f0a2d7cac69246c0df809a131b969ed29e6f146d2a88be42ca0", func := "drydock/drydocklaw19.RadixSets", spec := "radixSets", unfollowed := true, recurses := true, apart := false, narrowed := true }
def RadixSetsUptoSaid : Prop := radixSetsUptoRow.holds Try.pinned (OpenSpec.upto radixSetsSpec)

/-- 'drydocklaw19.RadixDiffs', WHERE WHAT IT READS IS OF BULK AT MOST 1048576: true; the input reads as it did. -/
def radixDiffsUptoRow : OpenClaim := { program := "ytnnadhfpkplncaa", sum := "fd1f00b5cc897f0a2d7cac69246c0df809a131b969ed29e6f146d2a88be42ca0", func := "drydock/drydocklaw19.RadixDiffs", spec := "radixDiffs", unfollowed := true, recurses := true, apart := false, narrowed := true }
def RadixDiffsUptoSaid : Prop := radixDiffsUptoRow.holds Try.pinned (OpenSpec.upto radixDiffsSpec)

/-- 'drydocklaw19.RadixBack', WHERE WHAT IT READS IS OF BULK AT MOST 1048576: true; the input reads as it did. -/
def radixBackUptoRow : OpenClaim := { program := "ytnnadhfpkplncaa", sum := "fd1f00b5cc897f0a2d7cac69246c0df809a131b969ed29e6f146d2a88be42ca0", func := "drydock/drydocklaw19.RadixBack", spec := "radixBack", unfollowed := true, recurses := true, apart := false, narrowed := true }
def RadixBackUptoSaid : Prop := radixBackUptoRow.holds Try.pinned (OpenSpec.upto radixBackSpec)

/-- 'drydocklaw19.RadixRuns', WHERE WHAT IT READS IS OF BULK AT MOST 1048576: true; the input reads as it did. -/
def radixRunsUptoRow : OpenClaim := { program := "ytnnadhfpkplncaa", sum := "fd1f00b5cc897f0a2d7cac69246c0df809a131b969ed29e6f146d2a88be42ca0", func := "drydock/drydocklaw19.RadixRuns", spec := "radixRuns", unfollowed := true, recurses := true, apart := false, narrowed := true }
def RadixRunsUptoSaid : Prop := radixRunsUptoRow.holds Try.pinned (OpenSpec.upto radixRunsSpec)

/-- 'drydocklaw20.VolumeCounts', WHERE WHAT IT READS IS OF BULK AT MOST 1048576: true; the input reads as it did. -/
def volumeCountsUptoRow : OpenClaim := { program := "ytnnadhfpkplncaa", sum := "fd1f00b5cc897f0a2d7cac69246c0df809a131b969ed29e6f146d2a88be42ca0", func := "drydock/drydocklaw20.VolumeCounts", spec := "volumeCounts", inPlace := ["internal/bytealg.abigen_runtime_cmpstring", "slices.overlaps[drydock/volume.volume]"], unfollowed := true, recurses := true, apart := false, narrowed := true }
def VolumeCountsUptoSaid : Prop := volumeCountsUptoRow.holds Try.pinned (OpenSpec.upto volumeCountsSpec)

/-- 'drydocklaw20.VolumeAlone', WHERE WHAT IT READS IS OF BULK AT MOST 1048576: true; the input reads as it did. -/
def volumeAloneUptoRow : OpenClaim := { program := "ytnnadhfpkplncaa", sum := "fd1f00b5cc897f0a2d7cac69246c0df809a131b969ed29e6f146d2a88be42ca0", func := "drydock/drydocklaw20.VolumeAlone", spec := "volumeAlone", inPlace := ["internal/bytealg.abigen_runtime_cmpstring", "slices.overlaps[drydock/volume.volume]"], unfollowed := true, recurses := true, apart := false, narrowed := true }
def VolumeAloneUptoSaid : Prop := volumeAloneUptoRow.holds Try.pinned (OpenSpec.upto volumeAloneSpec)

end Rows
end Go.Proofs.Ytnnadhfpkplncaa
