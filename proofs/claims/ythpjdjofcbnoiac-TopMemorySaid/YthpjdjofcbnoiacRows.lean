/-
  No cell of these rows narrows 'for every input' (looked for: loops, veiled, ifaces, maps, wideKeys, modest, calm, conditions, laid).
  DERIVED. THE GIVEN ROWS OF THIS SEAT. 7 by the template 'for every input the law returns true; each argument reads behind the call as it read before'; 0 by the template 'total and deterministic' (their statements: YthpjdjofcbnoiacTotals.lean).
  GIVEN WITH THE SEED: the statements are not yours to turn. If you find one false, say at which input.
  Laid BY PROGRAM, IN A SANDBOX (cutbox-rows.mjs): the forced cells as the released guide's own fill.sh prints them over the translation 841d31c9a381d434… (all of the seat's roots in one cut). By AI agents, Wed Nov 11 2026. No macro, syntax, notation, axiom, sorry.
-/
import Derived.Test.YthpjdjofcbnoiacChecked
import GoSem.Claim
import GoSem.ClaimJoined
import GoSem.ClaimMapViews
import Derived.JoinedTies
import Derived.KernelRfl
namespace Go.Proofs.Ythpjdjofcbnoiac
/- THE CELL 'sum', in the pinned program and in every row, IS THE sha256 OF THE DUMP (.gsa) THAT YthpjdjofcbnoiacProg.lean LOADS. Nothing in Lean hashes anything: it is a label: what it is worth is what the hold of that sum in a sandbox is worth. -/
noncomputable def Try.pinned : Pinned := { name := "ythpjdjofcbnoiac", sum := "841d31c9a381d4345d320b1d54b6467c6ffd4dbe081c1f30c576fafc8fe75c7d", checked := Try.checked }
namespace Rows
def none {H : Type} : Left H := { results := [], args := [] }

/-- 'yokefellowtop.TopBound': WHATEVER THE INPUT: true; the input reads as it did. -/
def topBoundSpec : ChangeSpec := { name := "topBound", fn := fun _ => fun
  | [d1, d2] => { results := [.lit (.bool true)], args := [d1, d2] }
  | _ => none }
def topBoundRow : OpenClaim := { program := "ythpjdjofcbnoiac", sum := "841d31c9a381d4345d320b1d54b6467c6ffd4dbe081c1f30c576fafc8fe75c7d", func := "yokefellow/yokefellowtop.TopBound", spec := "topBound", unfollowed := true, recurses := true, apart := false }
def TopBoundSaid : Prop := topBoundRow.holds Try.pinned (OpenSpec.ofChange topBoundSpec)

/-- ITS FALSE NEIGHBOUR: 'it returns false'. Refute it at one input. -/
def topBoundWrong : ChangeSpec := { name := "topBound", fn := fun _ => fun
  | [d1, d2] => { results := [.lit (.bool false)], args := [d1, d2] }
  | _ => none }
def TopBoundWrongFalsely : Prop := topBoundRow.holds Try.pinned (OpenSpec.ofChange topBoundWrong)

/-- 'yokefellowtop.TopWorks': WHATEVER THE INPUT: true; the input reads as it did. -/
def topWorksSpec : ChangeSpec := { name := "topWorks", fn := fun _ => fun
  | [d1, d2, d3] => { results := [.lit (.bool true)], args := [d1, d2, d3] }
  | _ => none }
def topWorksRow : OpenClaim := { program := "ythpjdjofcbnoiac", sum := "841d31c9a381d4345d320b1d54b6467c6ffd4dbe081c1f30c576fafc8fe75c7d", func := "yokefellow/yokefellowtop.TopWorks", spec := "topWorks", unfollowed := true, recurses := true, apart := false }
def TopWorksSaid : Prop := topWorksRow.holds Try.pinned (OpenSpec.ofChange topWorksSpec)

/-- ITS FALSE NEIGHBOUR: 'it returns false'. Refute it at one input. -/
def topWorksWrong : ChangeSpec := { name := "topWorks", fn := fun _ => fun
  | [d1, d2, d3] => { results := [.lit (.bool false)], args := [d1, d2, d3] }
  | _ => none }
def TopWorksWrongFalsely : Prop := topWorksRow.holds Try.pinned (OpenSpec.ofChange topWorksWrong)

/-- 'yokefellowtop.TopAgain': WHATEVER THE INPUT: true; the input reads as it did. -/
def topAgainSpec : ChangeSpec := { name := "topAgain", fn := fun _ => fun
  | [d1, d2, d3] => { results := [.lit (.bool true)], args := [d1, d2, d3] }
  | _ => none }
def topAgainRow : OpenClaim := { program := "ythpjdjofcbnoiac", sum := "841d31c9a381d4345d320b1d54b6467c6ffd4dbe081c1f30c576fafc8fe75c7d", func := "yokefellow/yokefellowtop.TopAgain", spec := "topAgain", unfollowed := true, recurses := true, apart := false }
def TopAgainSaid : Prop := topAgainRow.holds Try.pinned (OpenSpec.ofChange topAgainSpec)

/-- ITS FALSE NEIGHBOUR: 'it returns false'. Refute it at one input. -/
def topAgainWrong : ChangeSpec := { name := "topAgain", fn := fun _ => fun
  | [d1, d2, d3] => { results := [.lit (.bool false)], args := [d1, d2, d3] }
  | _ => none }
def TopAgainWrongFalsely : Prop := topAgainRow.holds Try.pinned (OpenSpec.ofChange topAgainWrong)

/-- 'yokefellowtop.TopRefused': WHATEVER THE INPUT: true; the input reads as it did. -/
def topRefusedSpec : ChangeSpec := { name := "topRefused", fn := fun _ => fun
  | [d1, d2, d3] => { results := [.lit (.bool true)], args := [d1, d2, d3] }
  | _ => none }
def topRefusedRow : OpenClaim := { program := "ythpjdjofcbnoiac", sum := "841d31c9a381d4345d320b1d54b6467c6ffd4dbe081c1f30c576fafc8fe75c7d", func := "yokefellow/yokefellowtop.TopRefused", spec := "topRefused", unfollowed := true, recurses := true, apart := false }
def TopRefusedSaid : Prop := topRefusedRow.holds Try.pinned (OpenSpec.ofChange topRefusedSpec)

/-- ITS FALSE NEIGHBOUR: 'it returns false'. Refute it at one input. -/
def topRefusedWrong : ChangeSpec := { name := "topRefused", fn := fun _ => fun
  | [d1, d2, d3] => { results := [.lit (.bool false)], args := [d1, d2, d3] }
  | _ => none }
def TopRefusedWrongFalsely : Prop := topRefusedRow.holds Try.pinned (OpenSpec.ofChange topRefusedWrong)

/-- 'yokefellowtop.TopMemory': WHATEVER THE INPUT: true; the input reads as it did. -/
def topMemorySpec : ChangeSpec := { name := "topMemory", fn := fun _ => fun
  | [d1, d2] => { results := [.lit (.bool true)], args := [d1, d2] }
  | _ => none }
def topMemoryRow : OpenClaim := { program := "ythpjdjofcbnoiac", sum := "841d31c9a381d4345d320b1d54b6467c6ffd4dbe081c1f30c576fafc8fe75c7d", func := "yokefellow/yokefellowtop.TopMemory", spec := "topMemory", unfollowed := true, recurses := true, apart := false }
def TopMemorySaid : Prop := topMemoryRow.holds Try.pinned (OpenSpec.ofChange topMemorySpec)

/-- ITS FALSE NEIGHBOUR: 'it returns false'. Refute it at one input. -/
def topMemoryWrong : ChangeSpec := { name := "topMemory", fn := fun _ => fun
  | [d1, d2] => { results := [.lit (.bool false)], args := [d1, d2] }
  | _ => none }
def TopMemoryWrongFalsely : Prop := topMemoryRow.holds Try.pinned (OpenSpec.ofChange topMemoryWrong)

/-- 'yokefellowtop.TopEnds': WHATEVER THE INPUT: true; the input reads as it did. -/
def topEndsSpec : ChangeSpec := { name := "topEnds", fn := fun _ => fun
  | [d1, d2, d3] => { results := [.lit (.bool true)], args := [d1, d2, d3] }
  | _ => none }
def topEndsRow : OpenClaim := { program := "ythpjdjofcbnoiac", sum := "841d31c9a381d4345d320b1d54b6467c6ffd4dbe081c1f30c576fafc8fe75c7d", func := "yokefellow/yokefellowtop.TopEnds", spec := "topEnds", unfollowed := true, recurses := true, apart := false }
def TopEndsSaid : Prop := topEndsRow.holds Try.pinned (OpenSpec.ofChange topEndsSpec)

/-- ITS FALSE NEIGHBOUR: 'it returns false'. Refute it at one input. -/
def topEndsWrong : ChangeSpec := { name := "topEnds", fn := fun _ => fun
  | [d1, d2, d3] => { results := [.lit (.bool false)], args := [d1, d2, d3] }
  | _ => none }
def TopEndsWrongFalsely : Prop := topEndsRow.holds Try.pinned (OpenSpec.ofChange topEndsWrong)

/-- 'yokefellowtop.TopRuns': WHATEVER THE INPUT: true; the input reads as it did. -/
def topRunsSpec : ChangeSpec := { name := "topRuns", fn := fun _ => fun
  | [d1, d2, d3] => { results := [.lit (.bool true)], args := [d1, d2, d3] }
  | _ => none }
def topRunsRow : OpenClaim := { program := "ythpjdjofcbnoiac", sum := "841d31c9a381d4345d320b1d54b6467c6ffd4dbe081c1f30c576fafc8fe75c7d", func := "yokefellow/yokefellowtop.TopRuns", spec := "topRuns", unfollowed := true, recurses := true, apart := false }
def TopRunsSaid : Prop := topRunsRow.holds Try.pinned (OpenSpec.ofChange topRunsSpec)

/-- ITS FALSE NEIGHBOUR: 'it returns false'. Refute it at one input. -/
def topRunsWrong : ChangeSpec := { name := "topRuns", fn := fun _ => fun
  | [d1, d2, d3] => { results := [.lit (.bool false)], args := [d1, d2, d3] }
  | _ => none }
def TopRunsWrongFalsely : Prop := topRunsRow.holds Try.pinned (OpenSpec.ofChange topRunsWrong)

/- THE SECOND FORM. 'bulk': how many values and letters a reading holds, each counted each time it is reached (what is shared counts as often as it is met; a slice's spare places count too). A statement '..UptoSaid' is the law's where the arguments, and the package variables that the reading takes, are together of bulk at most 1048576: NARROWER than '..Said'. Prove '..Said' where nothing that the law and all that it calls make is longer than what came in: it says more and counts as full. Else prove '..UptoSaid'. A law counts once. -/
mutual
def uptoBulk {H : Type} : DataW H → Nat
  | .lit (.string bytes) => bytes.length + 1
  | .lit _ => 1
  | .nil => 1
  | .ptr d => uptoBulk d + 1
  | .slice elems spare => uptoBulkAll elems + uptoBulkAll spare + 1
  | .agg parts => uptoBulkAll parts + 1
  | .iface _ d => uptoBulk d + 1
  | .map entries => uptoBulkEntries entries + 1
  | .held _ => 1
def uptoBulkAll {H : Type} : List (DataW H) → Nat
  | [] => 0
  | d :: r => uptoBulk d + uptoBulkAll r
def uptoBulkEntries {H : Type} : List (Lit × DataW H) → Nat
  | [] => 0
  | x :: r => uptoBulkEntry x + uptoBulkEntries r
def uptoBulkEntry {H : Type} : Lit × DataW H → Nat
  | (.string bytes, d) => bytes.length + uptoBulk d + 1
  | (_, d) => uptoBulk d + 1
 end
def uptoSmall : (H : Type) → List (DataW H) → Bool := fun _ ds => decide (uptoBulkAll ds ≤ 1048576)
def OpenSpec.upto (s : _root_.Go.ChangeSpec) : _root_.Go.OpenSpec := { _root_.Go.OpenSpec.ofChange s with cond := some uptoSmall }

/-- 'yokefellowtop.TopBound', WHERE WHAT IT READS IS OF BULK AT MOST 1048576: true; the input reads as it did. -/
def topBoundUptoRow : OpenClaim := { program := "ythpjdjofcbnoiac", sum := "841d31c9a381d4345d320b1d54b6467c6ffd4dbe081c1f30c576fafc8fe75c7d", func := "yokefellow/yokefellowtop.TopBound", spec := "topBound", unfollowed := true, recurses := true, apart := false, narrowed := true }
def TopBoundUptoSaid : Prop := topBoundUptoRow.holds Try.pinned (OpenSpec.upto topBoundSpec)

/-- 'yokefellowtop.TopWorks', WHERE WHAT IT READS IS OF BULK AT MOST 1048576: true; the input reads as it did. -/
def topWorksUptoRow : OpenClaim := { program := "ythpjdjofcbnoiac", sum := "841d31c9a381d4345d320b1d54b6467c6ffd4dbe081c1f30c576fafc8fe75c7d", func := "yokefellow/yokefellowtop.TopWorks", spec := "topWorks", unfollowed := true, recurses := true, apart := false, narrowed := true }
def TopWorksUptoSaid : Prop := topWorksUptoRow.holds Try.pinned (OpenSpec.upto topWorksSpec)

/-- 'yokefellowtop.TopAgain', WHERE WHAT IT READS IS OF BULK AT MOST 1048576: true; the input reads as it did. -/
def topAgainUptoRow : OpenClaim := { program := "ythpjdjofcbnoiac", sum := "841d31c9a381d4345d320b1d54b6467c6ffd4dbe081c1f30c576fafc8fe75c7d", func := "yokefellow/yokefellowtop.TopAgain", spec := "topAgain", unfollowed := true, recurses := true, apart := false, narrowed := true }
def TopAgainUptoSaid : Prop := topAgainUptoRow.holds Try.pinned (OpenSpec.upto topAgainSpec)

/-- 'yokefellowtop.TopRefused', WHERE WHAT IT READS IS OF BULK AT MOST 1048576: true; the input reads as it did. -/
def topRefusedUptoRow : OpenClaim := { program := "ythpjdjofcbnoiac", sum := "841d31c9a381d4345d320b1d54b6467c6ffd4dbe081c1f30c576fafc8fe75c7d", func := "yokefellow/yokefellowtop.TopRefused", spec := "topRefused", unfollowed := true, recurses := true, apart := false, narrowed := true }
def TopRefusedUptoSaid : Prop := topRefusedUptoRow.holds Try.pinned (OpenSpec.upto topRefusedSpec)

/-- 'yokefellowtop.TopMemory', WHERE WHAT IT READS IS OF BULK AT MOST 1048576: true; the input reads as it did. -/
def topMemoryUptoRow : OpenClaim := { program := "ythpjdjofcbnoiac", sum := "841d31c9a381d4345d320b1d54b6467c6ffd4dbe081c1f30c576fafc8fe75c7d", func := "yokefellow/yokefellowtop.TopMemory", spec := "topMemory", unfollowed := true, recurses := true, apart := false, narrowed := true }
def TopMemoryUptoSaid : Prop := topMemoryUptoRow.holds Try.pinned (OpenSpec.upto topMemorySpec)

/-- 'yokefellowtop.TopEnds', WHERE WHAT IT READS IS OF BULK AT MOST 1048576: true; the input reads as it did. -/
def topEndsUptoRow : OpenClaim := { program := "ythpjdjofcbnoiac", sum := "841d31c9a381d4345d320b1d54b6467c6ffd4dbe081c1f30c576fafc8fe75c7d", func := "yokefellow/yokefellowtop.TopEnds", spec := "topEnds", unfollowed := true, recurses := true, apart := false, narrowed := true }
def TopEndsUptoSaid : Prop := topEndsUptoRow.holds Try.pinned (OpenSpec.upto topEndsSpec)

/-- 'yokefellowtop.TopRuns', WHERE WHAT IT READS IS OF BULK AT MOST 1048576: true; the input reads as it did. -/
def topRunsUptoRow : OpenClaim := { program := "ythpjdjofcbnoiac", sum := "841d31c9a381d4345d320b1d54b6467c6ffd4dbe081c1f30c576fafc8fe75c7d", func := "yokefellow/yokefellowtop.TopRuns", spec := "topRuns", unfollowed := true, recurses := true, apart := false, narrowed := true }
def TopRunsUptoSaid : Prop := topRunsUptoRow.holds Try.pinned (OpenSpec.upto topRunsSpec)

end Rows
end Go.Proofs.Ythpjdjofcbnoiac
