/-
  No cell of these rows narrows 'for every input' (looked for: loops, veiled, ifaces, maps, wideKeys, modest, calm, conditions, laid).
  DERIVED. THE GIVEN ROWS OF THIS SEAT. 12 by the template 'for every input the law returns true; each argument reads behind the call as it read before'; 0 by the template 'total and deterministic' (their statements: YthpjdjofcbnoiabTotals.lean).
  GIVEN WITH THE SEED: the statements are not yours to turn. If you find one false, say at which input.
  Laid BY PROGRAM, IN A SANDBOX (cutbox-rows.mjs): the forced cells as the released guide's own fill.sh prints them over the translation f269738a4f5fadda… (all of the seat's roots in one cut). By AI agents, Wed Nov 11 2026. No macro, syntax, notation, axiom, sorry.
-/
import Derived.Test.YthpjdjofcbnoiabChecked
import GoSem.Claim
import GoSem.ClaimJoined
import GoSem.ClaimMapViews
import Derived.JoinedTies
import Derived.KernelRfl
namespace Go.Proofs.Ythpjdjofcbnoiab
/- THE CELL 'sum', in the pinned program and in every row, IS THE sha256 OF THE DUMP (.gsa) THAT YthpjdjofcbnoiabProg.lean LOADS. Nothing in Lean hashes anything: it is a label: what it is worth is what the hold of that sum in a sandbox is worth. -/
noncomputable def Try.pinned : Pinned := { name := "ythpjdjofcbnoiab", sum := "f269738a4f5faddaa73ed31fcdbba3e1b2af008ae07f18e84f2c40af9e5acda4", checked := Try.checked }
namespace Rows
def none {H : Type} : Left H := { results := [], args := [] }

/-- 'yokefellowkeep.NodeSettles': WHATEVER THE INPUT: true; the input reads as it did. -/
def nodeSettlesSpec : ChangeSpec := { name := "nodeSettles", fn := fun _ => fun
  | [d1, d2, d3] => { results := [.lit (.bool true)], args := [d1, d2, d3] }
  | _ => none }
def nodeSettlesRow : OpenClaim := { program := "ythpjdjofcbnoiab", sum := "f269738a4f5faddaa73ed31fcdbba3e1b2af008ae07f18e84f2c40af9e5acda4", func := "yokefellow/yokefellowkeep.NodeSettles", spec := "nodeSettles", unfollowed := true, recurses := true, plainKeys := false, apart := false }
def NodeSettlesSaid : Prop := nodeSettlesRow.holds Try.pinned (OpenSpec.ofChange nodeSettlesSpec)

/-- ITS FALSE NEIGHBOUR: 'it returns false'. Refute it at one input. -/
def nodeSettlesWrong : ChangeSpec := { name := "nodeSettles", fn := fun _ => fun
  | [d1, d2, d3] => { results := [.lit (.bool false)], args := [d1, d2, d3] }
  | _ => none }
def NodeSettlesWrongFalsely : Prop := nodeSettlesRow.holds Try.pinned (OpenSpec.ofChange nodeSettlesWrong)

/-- 'yokefellowlaw.NodeTurns': WHATEVER THE INPUT: true; the input reads as it did. -/
def nodeTurnsSpec : ChangeSpec := { name := "nodeTurns", fn := fun _ => fun
  | [d1, d2, d3] => { results := [.lit (.bool true)], args := [d1, d2, d3] }
  | _ => none }
def nodeTurnsRow : OpenClaim := { program := "ythpjdjofcbnoiab", sum := "f269738a4f5faddaa73ed31fcdbba3e1b2af008ae07f18e84f2c40af9e5acda4", func := "yokefellow/yokefellowlaw.NodeTurns", spec := "nodeTurns", unfollowed := true, recurses := true, plainKeys := false, apart := false }
def NodeTurnsSaid : Prop := nodeTurnsRow.holds Try.pinned (OpenSpec.ofChange nodeTurnsSpec)

/-- ITS FALSE NEIGHBOUR: 'it returns false'. Refute it at one input. -/
def nodeTurnsWrong : ChangeSpec := { name := "nodeTurns", fn := fun _ => fun
  | [d1, d2, d3] => { results := [.lit (.bool false)], args := [d1, d2, d3] }
  | _ => none }
def NodeTurnsWrongFalsely : Prop := nodeTurnsRow.holds Try.pinned (OpenSpec.ofChange nodeTurnsWrong)

/-- 'yokefellowtop.TopClients': WHATEVER THE INPUT: true; the input reads as it did. -/
def topClientsSpec : ChangeSpec := { name := "topClients", fn := fun _ => fun
  | [d1, d2, d3] => { results := [.lit (.bool true)], args := [d1, d2, d3] }
  | _ => none }
def topClientsRow : OpenClaim := { program := "ythpjdjofcbnoiab", sum := "f269738a4f5faddaa73ed31fcdbba3e1b2af008ae07f18e84f2c40af9e5acda4", func := "yokefellow/yokefellowtop.TopClients", spec := "topClients", unfollowed := true, recurses := true, plainKeys := false, apart := false }
def TopClientsSaid : Prop := topClientsRow.holds Try.pinned (OpenSpec.ofChange topClientsSpec)

/-- ITS FALSE NEIGHBOUR: 'it returns false'. Refute it at one input. -/
def topClientsWrong : ChangeSpec := { name := "topClients", fn := fun _ => fun
  | [d1, d2, d3] => { results := [.lit (.bool false)], args := [d1, d2, d3] }
  | _ => none }
def TopClientsWrongFalsely : Prop := topClientsRow.holds Try.pinned (OpenSpec.ofChange topClientsWrong)

/-- 'yokefellowkeep.NodeGood': WHATEVER THE INPUT: true; the input reads as it did. -/
def nodeGoodSpec : ChangeSpec := { name := "nodeGood", fn := fun _ => fun
  | [d1, d2, d3, d4, d5] => { results := [.lit (.bool true)], args := [d1, d2, d3, d4, d5] }
  | _ => none }
def nodeGoodRow : OpenClaim := { program := "ythpjdjofcbnoiab", sum := "f269738a4f5faddaa73ed31fcdbba3e1b2af008ae07f18e84f2c40af9e5acda4", func := "yokefellow/yokefellowkeep.NodeGood", spec := "nodeGood", unfollowed := true, recurses := true, plainKeys := false, apart := false }
def NodeGoodSaid : Prop := nodeGoodRow.holds Try.pinned (OpenSpec.ofChange nodeGoodSpec)

/-- ITS FALSE NEIGHBOUR: 'it returns false'. Refute it at one input. -/
def nodeGoodWrong : ChangeSpec := { name := "nodeGood", fn := fun _ => fun
  | [d1, d2, d3, d4, d5] => { results := [.lit (.bool false)], args := [d1, d2, d3, d4, d5] }
  | _ => none }
def NodeGoodWrongFalsely : Prop := nodeGoodRow.holds Try.pinned (OpenSpec.ofChange nodeGoodWrong)

/-- 'yokefellowkeep.NodeQuiet': WHATEVER THE INPUT: true; the input reads as it did. -/
def nodeQuietSpec : ChangeSpec := { name := "nodeQuiet", fn := fun _ => fun
  | [d1, d2, d3, d4, d5] => { results := [.lit (.bool true)], args := [d1, d2, d3, d4, d5] }
  | _ => none }
def nodeQuietRow : OpenClaim := { program := "ythpjdjofcbnoiab", sum := "f269738a4f5faddaa73ed31fcdbba3e1b2af008ae07f18e84f2c40af9e5acda4", func := "yokefellow/yokefellowkeep.NodeQuiet", spec := "nodeQuiet", unfollowed := true, recurses := true, plainKeys := false, apart := false }
def NodeQuietSaid : Prop := nodeQuietRow.holds Try.pinned (OpenSpec.ofChange nodeQuietSpec)

/-- ITS FALSE NEIGHBOUR: 'it returns false'. Refute it at one input. -/
def nodeQuietWrong : ChangeSpec := { name := "nodeQuiet", fn := fun _ => fun
  | [d1, d2, d3, d4, d5] => { results := [.lit (.bool false)], args := [d1, d2, d3, d4, d5] }
  | _ => none }
def NodeQuietWrongFalsely : Prop := nodeQuietRow.holds Try.pinned (OpenSpec.ofChange nodeQuietWrong)

/-- 'yokefellowlaw.CrowdNil': WHATEVER THE INPUT: true; the input reads as it did. -/
def crowdNilSpec : ChangeSpec := { name := "crowdNil", fn := fun _ => fun
  | [d1, d2] => { results := [.lit (.bool true)], args := [d1, d2] }
  | _ => none }
def crowdNilRow : OpenClaim := { program := "ythpjdjofcbnoiab", sum := "f269738a4f5faddaa73ed31fcdbba3e1b2af008ae07f18e84f2c40af9e5acda4", func := "yokefellow/yokefellowlaw.CrowdNil", spec := "crowdNil", unfollowed := true, recurses := true, plainKeys := false, apart := false }
def CrowdNilSaid : Prop := crowdNilRow.holds Try.pinned (OpenSpec.ofChange crowdNilSpec)

/-- ITS FALSE NEIGHBOUR: 'it returns false'. Refute it at one input. -/
def crowdNilWrong : ChangeSpec := { name := "crowdNil", fn := fun _ => fun
  | [d1, d2] => { results := [.lit (.bool false)], args := [d1, d2] }
  | _ => none }
def CrowdNilWrongFalsely : Prop := crowdNilRow.holds Try.pinned (OpenSpec.ofChange crowdNilWrong)

/-- 'yokefellowlaw.CrowdTakes': WHATEVER THE INPUT: true; the input reads as it did. -/
def crowdTakesSpec : ChangeSpec := { name := "crowdTakes", fn := fun _ => fun
  | [d] => { results := [.lit (.bool true)], args := [d] }
  | _ => none }
def crowdTakesRow : OpenClaim := { program := "ythpjdjofcbnoiab", sum := "f269738a4f5faddaa73ed31fcdbba3e1b2af008ae07f18e84f2c40af9e5acda4", func := "yokefellow/yokefellowlaw.CrowdTakes", spec := "crowdTakes", unfollowed := true, recurses := true, plainKeys := false, apart := false }
def CrowdTakesSaid : Prop := crowdTakesRow.holds Try.pinned (OpenSpec.ofChange crowdTakesSpec)

/-- ITS FALSE NEIGHBOUR: 'it returns false'. Refute it at one input. -/
def crowdTakesWrong : ChangeSpec := { name := "crowdTakes", fn := fun _ => fun
  | [d] => { results := [.lit (.bool false)], args := [d] }
  | _ => none }
def CrowdTakesWrongFalsely : Prop := crowdTakesRow.holds Try.pinned (OpenSpec.ofChange crowdTakesWrong)

/-- 'yokefellowlaw.CrowdPlays': WHATEVER THE INPUT: true; the input reads as it did. -/
def crowdPlaysSpec : ChangeSpec := { name := "crowdPlays", fn := fun _ => fun
  | [d1, d2] => { results := [.lit (.bool true)], args := [d1, d2] }
  | _ => none }
def crowdPlaysRow : OpenClaim := { program := "ythpjdjofcbnoiab", sum := "f269738a4f5faddaa73ed31fcdbba3e1b2af008ae07f18e84f2c40af9e5acda4", func := "yokefellow/yokefellowlaw.CrowdPlays", spec := "crowdPlays", unfollowed := true, recurses := true, plainKeys := false, apart := false }
def CrowdPlaysSaid : Prop := crowdPlaysRow.holds Try.pinned (OpenSpec.ofChange crowdPlaysSpec)

/-- ITS FALSE NEIGHBOUR: 'it returns false'. Refute it at one input. -/
def crowdPlaysWrong : ChangeSpec := { name := "crowdPlays", fn := fun _ => fun
  | [d1, d2] => { results := [.lit (.bool false)], args := [d1, d2] }
  | _ => none }
def CrowdPlaysWrongFalsely : Prop := crowdPlaysRow.holds Try.pinned (OpenSpec.ofChange crowdPlaysWrong)

/-- 'yokefellowkeep.CrowdTrue': WHATEVER THE INPUT: true; the input reads as it did. -/
def crowdTrueSpec : ChangeSpec := { name := "crowdTrue", fn := fun _ => fun
  | [d1, d2, d3, d4] => { results := [.lit (.bool true)], args := [d1, d2, d3, d4] }
  | _ => none }
def crowdTrueRow : OpenClaim := { program := "ythpjdjofcbnoiab", sum := "f269738a4f5faddaa73ed31fcdbba3e1b2af008ae07f18e84f2c40af9e5acda4", func := "yokefellow/yokefellowkeep.CrowdTrue", spec := "crowdTrue", unfollowed := true, recurses := true, plainKeys := false, apart := false }
def CrowdTrueSaid : Prop := crowdTrueRow.holds Try.pinned (OpenSpec.ofChange crowdTrueSpec)

/-- ITS FALSE NEIGHBOUR: 'it returns false'. Refute it at one input. -/
def crowdTrueWrong : ChangeSpec := { name := "crowdTrue", fn := fun _ => fun
  | [d1, d2, d3, d4] => { results := [.lit (.bool false)], args := [d1, d2, d3, d4] }
  | _ => none }
def CrowdTrueWrongFalsely : Prop := crowdTrueRow.holds Try.pinned (OpenSpec.ofChange crowdTrueWrong)

/-- 'yokefellowlaw.CrowdRuns': WHATEVER THE INPUT: true; the input reads as it did. -/
def crowdRunsSpec : ChangeSpec := { name := "crowdRuns", fn := fun _ => fun
  | [d1, d2] => { results := [.lit (.bool true)], args := [d1, d2] }
  | _ => none }
def crowdRunsRow : OpenClaim := { program := "ythpjdjofcbnoiab", sum := "f269738a4f5faddaa73ed31fcdbba3e1b2af008ae07f18e84f2c40af9e5acda4", func := "yokefellow/yokefellowlaw.CrowdRuns", spec := "crowdRuns", unfollowed := true, recurses := true, plainKeys := false, apart := false }
def CrowdRunsSaid : Prop := crowdRunsRow.holds Try.pinned (OpenSpec.ofChange crowdRunsSpec)

/-- ITS FALSE NEIGHBOUR: 'it returns false'. Refute it at one input. -/
def crowdRunsWrong : ChangeSpec := { name := "crowdRuns", fn := fun _ => fun
  | [d1, d2] => { results := [.lit (.bool false)], args := [d1, d2] }
  | _ => none }
def CrowdRunsWrongFalsely : Prop := crowdRunsRow.holds Try.pinned (OpenSpec.ofChange crowdRunsWrong)

/-- 'yokefellowtop.TopOrigin': WHATEVER THE INPUT: true; the input reads as it did. -/
def topOriginSpec : ChangeSpec := { name := "topOrigin", fn := fun _ => fun
  | [d1, d2] => { results := [.lit (.bool true)], args := [d1, d2] }
  | _ => none }
def topOriginRow : OpenClaim := { program := "ythpjdjofcbnoiab", sum := "f269738a4f5faddaa73ed31fcdbba3e1b2af008ae07f18e84f2c40af9e5acda4", func := "yokefellow/yokefellowtop.TopOrigin", spec := "topOrigin", unfollowed := true, recurses := true, plainKeys := false, apart := false }
def TopOriginSaid : Prop := topOriginRow.holds Try.pinned (OpenSpec.ofChange topOriginSpec)

/-- ITS FALSE NEIGHBOUR: 'it returns false'. Refute it at one input. -/
def topOriginWrong : ChangeSpec := { name := "topOrigin", fn := fun _ => fun
  | [d1, d2] => { results := [.lit (.bool false)], args := [d1, d2] }
  | _ => none }
def TopOriginWrongFalsely : Prop := topOriginRow.holds Try.pinned (OpenSpec.ofChange topOriginWrong)

/-- 'yokefellowtop.TopTrue': WHATEVER THE INPUT: true; the input reads as it did. -/
def topTrueSpec : ChangeSpec := { name := "topTrue", fn := fun _ => fun
  | [d1, d2] => { results := [.lit (.bool true)], args := [d1, d2] }
  | _ => none }
def topTrueRow : OpenClaim := { program := "ythpjdjofcbnoiab", sum := "f269738a4f5faddaa73ed31fcdbba3e1b2af008ae07f18e84f2c40af9e5acda4", func := "yokefellow/yokefellowtop.TopTrue", spec := "topTrue", unfollowed := true, recurses := true, plainKeys := false, apart := false }
def TopTrueSaid : Prop := topTrueRow.holds Try.pinned (OpenSpec.ofChange topTrueSpec)

/-- ITS FALSE NEIGHBOUR: 'it returns false'. Refute it at one input. -/
def topTrueWrong : ChangeSpec := { name := "topTrue", fn := fun _ => fun
  | [d1, d2] => { results := [.lit (.bool false)], args := [d1, d2] }
  | _ => none }
def TopTrueWrongFalsely : Prop := topTrueRow.holds Try.pinned (OpenSpec.ofChange topTrueWrong)

/- THE SECOND FORM. 'bulk': how many values and letters a reading holds, each counted each time it is reached (what is shared counts as often as it is met; a slice's spare places count too). A statement '..UptoSaid' is the law's where the arguments, and the package variables that the reading takes, are together of bulk at most 1048576: NARROWER than '..Said'. Prove '..Said' where nothing that the law and all that it calls make is longer than what came in: it says more and counts as full. Else prove '..UptoSaid'. A law counts once. -/
mutual
def uptoBulk {H : Type} : DataW H → Nat
  | .lit (.string bytes) => bytes.length + 1
  | .lit _ => 1
  | .nil => 1
  | .ptr d => uptoBulk d + 1
  | .slice elems spare => uptoBulkAll elems + uptoBulkAll spare + 1
  | .agg parts => uptoBulkAll parts + 1
  | .iface _ d => uptoBulk d + 1
  | .map entries => uptoBulkEntries entries + 1
  | .held _ => 1
def uptoBulkAll {H : Type} : List (DataW H) → Nat
  | [] => 0
  | d :: r => uptoBulk d + uptoBulkAll r
def uptoBulkEntries {H : Type} : List (Lit × DataW H) → Nat
  | [] => 0
  | x :: r => uptoBulkEntry x + uptoBulkEntries r
def uptoBulkEntry {H : Type} : Lit × DataW H → Nat
  | (.string bytes, d) => bytes.length + uptoBulk d + 1
  | (_, d) => uptoBulk d + 1
 end
def uptoSmall : (H : Type) → List (DataW H) → Bool := fun _ ds => decide (uptoBulkAll ds ≤ 1048576)
def OpenSpec.upto (s : _root_.Go.ChangeSpec) : _root_.Go.OpenSpec := { _root_.Go.OpenSpec.ofChange s with cond := some uptoSmall }

/-- 'yokefellowkeep.NodeSettles', WHERE WHAT IT READS IS OF BULK AT MOST 1048576: true; the input reads as it did. -/
def nodeSettlesUptoRow : OpenClaim := { program := "ythpjdjofcbnoiab", sum := "f269738a4f5faddaa73ed31fcdbba3e1b2af008ae07f18e84f2c40af9e5acda4", func := "yokefellow/yokefellowkeep.NodeSettles", spec := "nodeSettles", unfollowed := true, recurses := true, plainKeys := false, apart := false, narrowed := true }
def NodeSettlesUptoSaid : Prop := nodeSettlesUptoRow.holds Try.pinned (OpenSpec.upto nodeSettlesSpec)

/-- 'yokefellowlaw.NodeTurns', WHERE WHAT IT READS IS OF BULK AT MOST 1048576: true; the input reads as it did. -/
def nodeTurnsUptoRow : OpenClaim := { program := "ythpjdjofcbnoiab", sum := "f269738a4f5faddaa73ed31fcdbba3e1b2af008ae07f18e84f2c40af9e5acda4", func := "yokefellow/yokefellowlaw.NodeTurns", spec := "nodeTurns", unfollowed := true, recurses := true, plainKeys := false, apart := false, narrowed := true }
def NodeTurnsUptoSaid : Prop := nodeTurnsUptoRow.holds Try.pinned (OpenSpec.upto nodeTurnsSpec)

/-- 'yokefellowtop.TopClients', WHERE WHAT IT READS IS OF BULK AT MOST 1048576: true; the input reads as it did. -/
def topClientsUptoRow : OpenClaim := { program := "ythpjdjofcbnoiab", sum := "f269738a4f5faddaa73ed31fcdbba3e1b2af008ae07f18e84f2c40af9e5acda4", func := "yokefellow/yokefellowtop.TopClients", spec := "topClients", unfollowed := true, recurses := true, plainKeys := false, apart := false, narrowed := true }
def TopClientsUptoSaid : Prop := topClientsUptoRow.holds Try.pinned (OpenSpec.upto topClientsSpec)

/-- 'yokefellowkeep.NodeGood', WHERE WHAT IT READS IS OF BULK AT MOST 1048576: true; the input reads as it did. -/
def nodeGoodUptoRow : OpenClaim := { program := "ythpjdjofcbnoiab", sum := "f269738a4f5faddaa73ed31fcdbba3e1b2af008ae07f18e84f2c40af9e5acda4", func := "yokefellow/yokefellowkeep.NodeGood", spec := "nodeGood", unfollowed := true, recurses := true, plainKeys := false, apart := false, narrowed := true }
def NodeGoodUptoSaid : Prop := nodeGoodUptoRow.holds Try.pinned (OpenSpec.upto nodeGoodSpec)

/-- 'yokefellowkeep.NodeQuiet', WHERE WHAT IT READS IS OF BULK AT MOST 1048576: true; the input reads as it did. -/
def nodeQuietUptoRow : OpenClaim := { program := "ythpjdjofcbnoiab", sum := "f269738a4f5faddaa73ed31fcdbba3e1b2af008ae07f18e84f2c40af9e5acda4", func := "yokefellow/yokefellowkeep.NodeQuiet", spec := "nodeQuiet", unfollowed := true, recurses := true, plainKeys := false, apart := false, narrowed := true }
def NodeQuietUptoSaid : Prop := nodeQuietUptoRow.holds Try.pinned (OpenSpec.upto nodeQuietSpec)

/-- 'yokefellowlaw.CrowdNil', WHERE WHAT IT READS IS OF BULK AT MOST 1048576: true; the input reads as it did. -/
def crowdNilUptoRow : OpenClaim := { program := "ythpjdjofcbnoiab", sum := "f269738a4f5faddaa73ed31fcdbba3e1b2af008ae07f18e84f2c40af9e5acda4", func := "yokefellow/yokefellowlaw.CrowdNil", spec := "crowdNil", unfollowed := true, recurses := true, plainKeys := false, apart := false, narrowed := true }
def CrowdNilUptoSaid : Prop := crowdNilUptoRow.holds Try.pinned (OpenSpec.upto crowdNilSpec)

/-- 'yokefellowlaw.CrowdTakes', WHERE WHAT IT READS IS OF BULK AT MOST 1048576: true; the input reads as it did. -/
def crowdTakesUptoRow : OpenClaim := { program := "ythpjdjofcbnoiab", sum := "f269738a4f5faddaa73ed31fcdbba3e1b2af008ae07f18e84f2c40af9e5acda4", func := "yokefellow/yokefellowlaw.CrowdTakes", spec := "crowdTakes", unfollowed := true, recurses := true, plainKeys := false, apart := false, narrowed := true }
def CrowdTakesUptoSaid : Prop := crowdTakesUptoRow.holds Try.pinned (OpenSpec.upto crowdTakesSpec)

/-- 'yokefellowlaw.CrowdPlays', WHERE WHAT IT READS IS OF BULK AT MOST 1048576: true; the input reads as it did. -/
def crowdPlaysUptoRow : OpenClaim := { program := "ythpjdjofcbnoiab", sum := "f269738a4f5faddaa73ed31fcdbba3e1b2af008ae07f18e84f2c40af9e5acda4", func := "yokefellow/yokefellowlaw.CrowdPlays", spec := "crowdPlays", unfollowed := true, recurses := true, plainKeys := false, apart := false, narrowed := true }
def CrowdPlaysUptoSaid : Prop := crowdPlaysUptoRow.holds Try.pinned (OpenSpec.upto crowdPlaysSpec)

/-- 'yokefellowkeep.CrowdTrue', WHERE WHAT IT READS IS OF BULK AT MOST 1048576: true; the input reads as it did. -/
def crowdTrueUptoRow : OpenClaim := { program := "ythpjdjofcbnoiab", sum := "f269738a4f5faddaa73ed31fcdbba3e1b2af008ae07f18e84f2c40af9e5acda4", func := "yokefellow/yokefellowkeep.CrowdTrue", spec := "crowdTrue", unfollowed := true, recurses := true, plainKeys := false, apart := false, narrowed := true }
def CrowdTrueUptoSaid : Prop := crowdTrueUptoRow.holds Try.pinned (OpenSpec.upto crowdTrueSpec)

/-- 'yokefellowlaw.CrowdRuns', WHERE WHAT IT READS IS OF BULK AT MOST 1048576: true; the input reads as it did. -/
def crowdRunsUptoRow : OpenClaim := { program := "ythpjdjofcbnoiab", sum := "f269738a4f5faddaa73ed31fcdbba3e1b2af008ae07f18e84f2c40af9e5acda4", func := "yokefellow/yokefellowlaw.CrowdRuns", spec := "crowdRuns", unfollowed := true, recurses := true, plainKeys := false, apart := false, narrowed := true }
def CrowdRunsUptoSaid : Prop := crowdRunsUptoRow.holds Try.pinned (OpenSpec.upto crowdRunsSpec)

/-- 'yokefellowtop.TopOrigin', WHERE WHAT IT READS IS OF BULK AT MOST 1048576: true; the input reads as it did. -/
def topOriginUptoRow : OpenClaim := { program := "ythpjdjofcbnoiab", sum := "f269738a4f5faddaa73ed31fcdbba3e1b2af008ae07f18e84f2c40af9e5acda4", func := "yokefellow/yokefellowtop.TopOrigin", spec := "topOrigin", unfollowed := true, recurses := true, plainKeys := false, apart := false, narrowed := true }
def TopOriginUptoSaid : Prop := topOriginUptoRow.holds Try.pinned (OpenSpec.upto topOriginSpec)

/-- 'yokefellowtop.TopTrue', WHERE WHAT IT READS IS OF BULK AT MOST 1048576: true; the input reads as it did. -/
def topTrueUptoRow : OpenClaim := { program := "ythpjdjofcbnoiab", sum := "f269738a4f5faddaa73ed31fcdbba3e1b2af008ae07f18e84f2c40af9e5acda4", func := "yokefellow/yokefellowtop.TopTrue", spec := "topTrue", unfollowed := true, recurses := true, plainKeys := false, apart := false, narrowed := true }
def TopTrueUptoSaid : Prop := topTrueUptoRow.holds Try.pinned (OpenSpec.upto topTrueSpec)

end Rows
end Go.Proofs.Ythpjdjofcbnoiab
