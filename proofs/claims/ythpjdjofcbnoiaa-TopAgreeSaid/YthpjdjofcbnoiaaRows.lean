/-
  No cell of these rows narrows 'for every input' (looked for: loops, veiled, ifaces, maps, wideKeys, modest, calm, conditions, laid).
  DERIVED. THE GIVEN ROWS OF THIS SEAT. 12 by the template 'for every input the law returns true; each argument reads behind the call as it read before'; 0 by the template 'total and deterministic' (their statements: YthpjdjofcbnoiaaTotals.lean).
  GIVEN WITH THE SEED: the statements are not yours to turn. If you find one false, say at which input.
  Laid BY PROGRAM, IN A SANDBOX (cutbox-rows.mjs): the forced cells as the released guide's own fill.sh prints them over the translation f11aa755c5c7415e… (all of the seat's roots in one cut). By AI agents, Wed Nov 11 2026. No macro, syntax, notation, axiom, sorry.
-/
import Derived.Test.YthpjdjofcbnoiaaChecked
import GoSem.Claim
import GoSem.ClaimJoined
import GoSem.ClaimMapViews
import Derived.JoinedTies
import Derived.KernelRfl
namespace Go.Proofs.Ythpjdjofcbnoiaa
/- THE CELL 'sum', in the pinned program and in every row, IS THE sha256 OF THE DUMP (.gsa) THAT YthpjdjofcbnoiaaProg.lean LOADS. Nothing in Lean hashes anything: it is a label: what it is worth is what the hold of that sum in a sandbox is worth. -/
noncomputable def Try.pinned : Pinned := { name := "ythpjdjofcbnoiaa", sum := "f11aa755c5c7415ebdb3524939f78cbc8bab051a664d8f6a135ffdd0fa43584d", checked := Try.checked }
namespace Rows
def none {H : Type} : Left H := { results := [], args := [] }

/-- 'yokefellowlaw.Names': WHATEVER THE INPUT: true; the input reads as it did. -/
def namesSpec : ChangeSpec := { name := "names", fn := fun _ => fun
  | [] => { results := [.lit (.bool true)], args := [] }
  | _ => none }
def namesRow : OpenClaim := { program := "ythpjdjofcbnoiaa", sum := "f11aa755c5c7415ebdb3524939f78cbc8bab051a664d8f6a135ffdd0fa43584d", func := "yokefellow/yokefellowlaw.Names", spec := "names", apart := false }
def NamesSaid : Prop := namesRow.holds Try.pinned (OpenSpec.ofChange namesSpec)

/-- ITS FALSE NEIGHBOUR: 'it returns false'. Refute it at one input. -/
def namesWrong : ChangeSpec := { name := "names", fn := fun _ => fun
  | [] => { results := [.lit (.bool false)], args := [] }
  | _ => none }
def NamesWrongFalsely : Prop := namesRow.holds Try.pinned (OpenSpec.ofChange namesWrong)

/-- 'yokefellowlaw.VotesCount': WHATEVER THE INPUT: true; the input reads as it did. -/
def votesCountSpec : ChangeSpec := { name := "votesCount", fn := fun _ => fun
  | [d1, d2] => { results := [.lit (.bool true)], args := [d1, d2] }
  | _ => none }
def votesCountRow : OpenClaim := { program := "ythpjdjofcbnoiaa", sum := "f11aa755c5c7415ebdb3524939f78cbc8bab051a664d8f6a135ffdd0fa43584d", func := "yokefellow/yokefellowlaw.VotesCount", spec := "votesCount", unfollowed := true, recurses := true, apart := false }
def VotesCountSaid : Prop := votesCountRow.holds Try.pinned (OpenSpec.ofChange votesCountSpec)

/-- ITS FALSE NEIGHBOUR: 'it returns false'. Refute it at one input. -/
def votesCountWrong : ChangeSpec := { name := "votesCount", fn := fun _ => fun
  | [d1, d2] => { results := [.lit (.bool false)], args := [d1, d2] }
  | _ => none }
def VotesCountWrongFalsely : Prop := votesCountRow.holds Try.pinned (OpenSpec.ofChange votesCountWrong)

/-- 'yokefellowkeep.VotesMeet': WHATEVER THE INPUT: true; the input reads as it did. -/
def votesMeetSpec : ChangeSpec := { name := "votesMeet", fn := fun _ => fun
  | [d1, d2, d3] => { results := [.lit (.bool true)], args := [d1, d2, d3] }
  | _ => none }
def votesMeetRow : OpenClaim := { program := "ythpjdjofcbnoiaa", sum := "f11aa755c5c7415ebdb3524939f78cbc8bab051a664d8f6a135ffdd0fa43584d", func := "yokefellow/yokefellowkeep.VotesMeet", spec := "votesMeet", apart := false }
def VotesMeetSaid : Prop := votesMeetRow.holds Try.pinned (OpenSpec.ofChange votesMeetSpec)

/-- ITS FALSE NEIGHBOUR: 'it returns false'. Refute it at one input. -/
def votesMeetWrong : ChangeSpec := { name := "votesMeet", fn := fun _ => fun
  | [d1, d2, d3] => { results := [.lit (.bool false)], args := [d1, d2, d3] }
  | _ => none }
def VotesMeetWrongFalsely : Prop := votesMeetRow.holds Try.pinned (OpenSpec.ofChange votesMeetWrong)

/-- 'yokefellowkeep.WireLeads': WHATEVER THE INPUT: true; the input reads as it did. -/
def wireLeadsSpec : ChangeSpec := { name := "wireLeads", fn := fun _ => fun
  | [d1, d2] => { results := [.lit (.bool true)], args := [d1, d2] }
  | _ => none }
def wireLeadsRow : OpenClaim := { program := "ythpjdjofcbnoiaa", sum := "f11aa755c5c7415ebdb3524939f78cbc8bab051a664d8f6a135ffdd0fa43584d", func := "yokefellow/yokefellowkeep.WireLeads", spec := "wireLeads", apart := false }
def WireLeadsSaid : Prop := wireLeadsRow.holds Try.pinned (OpenSpec.ofChange wireLeadsSpec)

/-- ITS FALSE NEIGHBOUR: 'it returns false'. Refute it at one input. -/
def wireLeadsWrong : ChangeSpec := { name := "wireLeads", fn := fun _ => fun
  | [d1, d2] => { results := [.lit (.bool false)], args := [d1, d2] }
  | _ => none }
def WireLeadsWrongFalsely : Prop := wireLeadsRow.holds Try.pinned (OpenSpec.ofChange wireLeadsWrong)

/-- 'yokefellowlaw.WireTells': WHATEVER THE INPUT: true; the input reads as it did. -/
def wireTellsSpec : ChangeSpec := { name := "wireTells", fn := fun _ => fun
  | [d1, d2, d3, d4] => { results := [.lit (.bool true)], args := [d1, d2, d3, d4] }
  | _ => none }
def wireTellsRow : OpenClaim := { program := "ythpjdjofcbnoiaa", sum := "f11aa755c5c7415ebdb3524939f78cbc8bab051a664d8f6a135ffdd0fa43584d", func := "yokefellow/yokefellowlaw.WireTells", spec := "wireTells", unfollowed := true, recurses := true, apart := false }
def WireTellsSaid : Prop := wireTellsRow.holds Try.pinned (OpenSpec.ofChange wireTellsSpec)

/-- ITS FALSE NEIGHBOUR: 'it returns false'. Refute it at one input. -/
def wireTellsWrong : ChangeSpec := { name := "wireTells", fn := fun _ => fun
  | [d1, d2, d3, d4] => { results := [.lit (.bool false)], args := [d1, d2, d3, d4] }
  | _ => none }
def WireTellsWrongFalsely : Prop := wireTellsRow.holds Try.pinned (OpenSpec.ofChange wireTellsWrong)

/-- 'yokefellowkeep.WireBack': WHATEVER THE INPUT: true; the input reads as it did. -/
def wireBackSpec : ChangeSpec := { name := "wireBack", fn := fun _ => fun
  | [d1, d2] => { results := [.lit (.bool true)], args := [d1, d2] }
  | _ => none }
def wireBackRow : OpenClaim := { program := "ythpjdjofcbnoiaa", sum := "f11aa755c5c7415ebdb3524939f78cbc8bab051a664d8f6a135ffdd0fa43584d", func := "yokefellow/yokefellowkeep.WireBack", spec := "wireBack", apart := false }
def WireBackSaid : Prop := wireBackRow.holds Try.pinned (OpenSpec.ofChange wireBackSpec)

/-- ITS FALSE NEIGHBOUR: 'it returns false'. Refute it at one input. -/
def wireBackWrong : ChangeSpec := { name := "wireBack", fn := fun _ => fun
  | [d1, d2] => { results := [.lit (.bool false)], args := [d1, d2] }
  | _ => none }
def WireBackWrongFalsely : Prop := wireBackRow.holds Try.pinned (OpenSpec.ofChange wireBackWrong)

/-- 'yokefellowkeep.VotesOnce': WHATEVER THE INPUT: true; the input reads as it did. -/
def votesOnceSpec : ChangeSpec := { name := "votesOnce", fn := fun _ => fun
  | [d1, d2, d3] => { results := [.lit (.bool true)], args := [d1, d2, d3] }
  | _ => none }
def votesOnceRow : OpenClaim := { program := "ythpjdjofcbnoiaa", sum := "f11aa755c5c7415ebdb3524939f78cbc8bab051a664d8f6a135ffdd0fa43584d", func := "yokefellow/yokefellowkeep.VotesOnce", spec := "votesOnce", apart := false }
def VotesOnceSaid : Prop := votesOnceRow.holds Try.pinned (OpenSpec.ofChange votesOnceSpec)

/-- ITS FALSE NEIGHBOUR: 'it returns false'. Refute it at one input. -/
def votesOnceWrong : ChangeSpec := { name := "votesOnce", fn := fun _ => fun
  | [d1, d2, d3] => { results := [.lit (.bool false)], args := [d1, d2, d3] }
  | _ => none }
def VotesOnceWrongFalsely : Prop := votesOnceRow.holds Try.pinned (OpenSpec.ofChange votesOnceWrong)

/-- 'yokefellowtop.TopAgree': WHATEVER THE INPUT: true; the input reads as it did. -/
def topAgreeSpec : ChangeSpec := { name := "topAgree", fn := fun _ => fun
  | [d1, d2] => { results := [.lit (.bool true)], args := [d1, d2] }
  | _ => none }
def topAgreeRow : OpenClaim := { program := "ythpjdjofcbnoiaa", sum := "f11aa755c5c7415ebdb3524939f78cbc8bab051a664d8f6a135ffdd0fa43584d", func := "yokefellow/yokefellowtop.TopAgree", spec := "topAgree", unfollowed := true, recurses := true, apart := false }
def TopAgreeSaid : Prop := topAgreeRow.holds Try.pinned (OpenSpec.ofChange topAgreeSpec)

/-- ITS FALSE NEIGHBOUR: 'it returns false'. Refute it at one input. -/
def topAgreeWrong : ChangeSpec := { name := "topAgree", fn := fun _ => fun
  | [d1, d2] => { results := [.lit (.bool false)], args := [d1, d2] }
  | _ => none }
def TopAgreeWrongFalsely : Prop := topAgreeRow.holds Try.pinned (OpenSpec.ofChange topAgreeWrong)

/-- 'yokefellowlaw.VotesHear': WHATEVER THE INPUT: true; the input reads as it did. -/
def votesHearSpec : ChangeSpec := { name := "votesHear", fn := fun _ => fun
  | [d1, d2, d3] => { results := [.lit (.bool true)], args := [d1, d2, d3] }
  | _ => none }
def votesHearRow : OpenClaim := { program := "ythpjdjofcbnoiaa", sum := "f11aa755c5c7415ebdb3524939f78cbc8bab051a664d8f6a135ffdd0fa43584d", func := "yokefellow/yokefellowlaw.VotesHear", spec := "votesHear", unfollowed := true, recurses := true, apart := false }
def VotesHearSaid : Prop := votesHearRow.holds Try.pinned (OpenSpec.ofChange votesHearSpec)

/-- ITS FALSE NEIGHBOUR: 'it returns false'. Refute it at one input. -/
def votesHearWrong : ChangeSpec := { name := "votesHear", fn := fun _ => fun
  | [d1, d2, d3] => { results := [.lit (.bool false)], args := [d1, d2, d3] }
  | _ => none }
def VotesHearWrongFalsely : Prop := votesHearRow.holds Try.pinned (OpenSpec.ofChange votesHearWrong)

/-- 'yokefellowkeep.VotesGood': WHATEVER THE INPUT: true; the input reads as it did. -/
def votesGoodSpec : ChangeSpec := { name := "votesGood", fn := fun _ => fun
  | [d1, d2] => { results := [.lit (.bool true)], args := [d1, d2] }
  | _ => none }
def votesGoodRow : OpenClaim := { program := "ythpjdjofcbnoiaa", sum := "f11aa755c5c7415ebdb3524939f78cbc8bab051a664d8f6a135ffdd0fa43584d", func := "yokefellow/yokefellowkeep.VotesGood", spec := "votesGood", apart := false }
def VotesGoodSaid : Prop := votesGoodRow.holds Try.pinned (OpenSpec.ofChange votesGoodSpec)

/-- ITS FALSE NEIGHBOUR: 'it returns false'. Refute it at one input. -/
def votesGoodWrong : ChangeSpec := { name := "votesGood", fn := fun _ => fun
  | [d1, d2] => { results := [.lit (.bool false)], args := [d1, d2] }
  | _ => none }
def VotesGoodWrongFalsely : Prop := votesGoodRow.holds Try.pinned (OpenSpec.ofChange votesGoodWrong)

/-- 'yokefellowtop.TopStays': WHATEVER THE INPUT: true; the input reads as it did. -/
def topStaysSpec : ChangeSpec := { name := "topStays", fn := fun _ => fun
  | [d1, d2] => { results := [.lit (.bool true)], args := [d1, d2] }
  | _ => none }
def topStaysRow : OpenClaim := { program := "ythpjdjofcbnoiaa", sum := "f11aa755c5c7415ebdb3524939f78cbc8bab051a664d8f6a135ffdd0fa43584d", func := "yokefellow/yokefellowtop.TopStays", spec := "topStays", unfollowed := true, recurses := true, apart := false }
def TopStaysSaid : Prop := topStaysRow.holds Try.pinned (OpenSpec.ofChange topStaysSpec)

/-- ITS FALSE NEIGHBOUR: 'it returns false'. Refute it at one input. -/
def topStaysWrong : ChangeSpec := { name := "topStays", fn := fun _ => fun
  | [d1, d2] => { results := [.lit (.bool false)], args := [d1, d2] }
  | _ => none }
def TopStaysWrongFalsely : Prop := topStaysRow.holds Try.pinned (OpenSpec.ofChange topStaysWrong)

/-- 'yokefellowlaw.NodeHears': WHATEVER THE INPUT: true; the input reads as it did. -/
def nodeHearsSpec : ChangeSpec := { name := "nodeHears", fn := fun _ => fun
  | [d1, d2, d3] => { results := [.lit (.bool true)], args := [d1, d2, d3] }
  | _ => none }
def nodeHearsRow : OpenClaim := { program := "ythpjdjofcbnoiaa", sum := "f11aa755c5c7415ebdb3524939f78cbc8bab051a664d8f6a135ffdd0fa43584d", func := "yokefellow/yokefellowlaw.NodeHears", spec := "nodeHears", unfollowed := true, recurses := true, apart := false }
def NodeHearsSaid : Prop := nodeHearsRow.holds Try.pinned (OpenSpec.ofChange nodeHearsSpec)

/-- ITS FALSE NEIGHBOUR: 'it returns false'. Refute it at one input. -/
def nodeHearsWrong : ChangeSpec := { name := "nodeHears", fn := fun _ => fun
  | [d1, d2, d3] => { results := [.lit (.bool false)], args := [d1, d2, d3] }
  | _ => none }
def NodeHearsWrongFalsely : Prop := nodeHearsRow.holds Try.pinned (OpenSpec.ofChange nodeHearsWrong)

/- THE SECOND FORM. 'bulk': how many values and letters a reading holds, each counted each time it is reached (what is shared counts as often as it is met; a slice's spare places count too). A statement '..UptoSaid' is the law's where the arguments, and the package variables that the reading takes, are together of bulk at most 1048576: NARROWER than '..Said'. Prove '..Said' where nothing that the law and all that it calls make is longer than what came in: it says more and counts as full. Else prove '..UptoSaid'. A law counts once. -/
mutual
def uptoBulk {H : Type} : DataW H → Nat
  | .lit (.string bytes) => bytes.length + 1
  | .lit _ => 1
  | .nil => 1
  | .ptr d => uptoBulk d + 1
  | .slice elems spare => uptoBulkAll elems + uptoBulkAll spare + 1
  | .agg parts => uptoBulkAll parts + 1
  | .iface _ d => uptoBulk d + 1
  | .map entries => uptoBulkEntries entries + 1
  | .held _ => 1
def uptoBulkAll {H : Type} : List (DataW H) → Nat
  | [] => 0
  | d :: r => uptoBulk d + uptoBulkAll r
def uptoBulkEntries {H : Type} : List (Lit × DataW H) → Nat
  | [] => 0
  | x :: r => uptoBulkEntry x + uptoBulkEntries r
def uptoBulkEntry {H : Type} : Lit × DataW H → Nat
  | (.string bytes, d) => bytes.length + uptoBulk d + 1
  | (_, d) => uptoBulk d + 1
 end
def uptoSmall : (H : Type) → List (DataW H) → Bool := fun _ ds => decide (uptoBulkAll ds ≤ 1048576)
def OpenSpec.upto (s : _root_.Go.ChangeSpec) : _root_.Go.OpenSpec := { _root_.Go.OpenSpec.ofChange s with cond := some uptoSmall }

/-- 'yokefellowlaw.Names', WHERE WHAT IT READS IS OF BULK AT MOST 1048576: true; the input reads as it did. -/
def namesUptoRow : OpenClaim := { program := "ythpjdjofcbnoiaa", sum := "f11aa755c5c7415ebdb3524939f78cbc8bab051a664d8f6a135ffdd0fa43584d", func := "yokefellow/yokefellowlaw.Names", spec := "names", apart := false, narrowed := true }
def NamesUptoSaid : Prop := namesUptoRow.holds Try.pinned (OpenSpec.upto namesSpec)

/-- 'yokefellowlaw.VotesCount', WHERE WHAT IT READS IS OF BULK AT MOST 1048576: true; the input reads as it did. -/
def votesCountUptoRow : OpenClaim := { program := "ythpjdjofcbnoiaa", sum := "f11aa755c5c7415ebdb3524939f78cbc8bab051a664d8f6a135ffdd0fa43584d", func := "yokefellow/yokefellowlaw.VotesCount", spec := "votesCount", unfollowed := true, recurses := true, apart := false, narrowed := true }
def VotesCountUptoSaid : Prop := votesCountUptoRow.holds Try.pinned (OpenSpec.upto votesCountSpec)

/-- 'yokefellowkeep.VotesMeet', WHERE WHAT IT READS IS OF BULK AT MOST 1048576: true; the input reads as it did. -/
def votesMeetUptoRow : OpenClaim := { program := "ythpjdjofcbnoiaa", sum := "f11aa755c5c7415ebdb3524939f78cbc8bab051a664d8f6a135ffdd0fa43584d", func := "yokefellow/yokefellowkeep.VotesMeet", spec := "votesMeet", apart := false, narrowed := true }
def VotesMeetUptoSaid : Prop := votesMeetUptoRow.holds Try.pinned (OpenSpec.upto votesMeetSpec)

/-- 'yokefellowkeep.WireLeads', WHERE WHAT IT READS IS OF BULK AT MOST 1048576: true; the input reads as it did. -/
def wireLeadsUptoRow : OpenClaim := { program := "ythpjdjofcbnoiaa", sum := "f11aa755c5c7415ebdb3524939f78cbc8bab051a664d8f6a135ffdd0fa43584d", func := "yokefellow/yokefellowkeep.WireLeads", spec := "wireLeads", apart := false, narrowed := true }
def WireLeadsUptoSaid : Prop := wireLeadsUptoRow.holds Try.pinned (OpenSpec.upto wireLeadsSpec)

/-- 'yokefellowlaw.WireTells', WHERE WHAT IT READS IS OF BULK AT MOST 1048576: true; the input reads as it did. -/
def wireTellsUptoRow : OpenClaim := { program := "ythpjdjofcbnoiaa", sum := "f11aa755c5c7415ebdb3524939f78cbc8bab051a664d8f6a135ffdd0fa43584d", func := "yokefellow/yokefellowlaw.WireTells", spec := "wireTells", unfollowed := true, recurses := true, apart := false, narrowed := true }
def WireTellsUptoSaid : Prop := wireTellsUptoRow.holds Try.pinned (OpenSpec.upto wireTellsSpec)

/-- 'yokefellowkeep.WireBack', WHERE WHAT IT READS IS OF BULK AT MOST 1048576: true; the input reads as it did. -/
def wireBackUptoRow : OpenClaim := { program := "ythpjdjofcbnoiaa", sum := "f11aa755c5c7415ebdb3524939f78cbc8bab051a664d8f6a135ffdd0fa43584d", func := "yokefellow/yokefellowkeep.WireBack", spec := "wireBack", apart := false, narrowed := true }
def WireBackUptoSaid : Prop := wireBackUptoRow.holds Try.pinned (OpenSpec.upto wireBackSpec)

/-- 'yokefellowkeep.VotesOnce', WHERE WHAT IT READS IS OF BULK AT MOST 1048576: true; the input reads as it did. -/
def votesOnceUptoRow : OpenClaim := { program := "ythpjdjofcbnoiaa", sum := "f11aa755c5c7415ebdb3524939f78cbc8bab051a664d8f6a135ffdd0fa43584d", func := "yokefellow/yokefellowkeep.VotesOnce", spec := "votesOnce", apart := false, narrowed := true }
def VotesOnceUptoSaid : Prop := votesOnceUptoRow.holds Try.pinned (OpenSpec.upto votesOnceSpec)

/-- 'yokefellowtop.TopAgree', WHERE WHAT IT READS IS OF BULK AT MOST 1048576: true; the input reads as it did. -/
def topAgreeUptoRow : OpenClaim := { program := "ythpjdjofcbnoiaa", sum := "f11aa755c5c7415ebdb3524939f78cbc8bab051a664d8f6a135ffdd0fa43584d", func := "yokefellow/yokefellowtop.TopAgree", spec := "topAgree", unfollowed := true, recurses := true, apart := false, narrowed := true }
def TopAgreeUptoSaid : Prop := topAgreeUptoRow.holds Try.pinned (OpenSpec.upto topAgreeSpec)

/-- 'yokefellowlaw.VotesHear', WHERE WHAT IT READS IS OF BULK AT MOST 1048576: true; the input reads as it did. -/
def votesHearUptoRow : OpenClaim := { program := "ythpjdjofcbnoiaa", sum := "f11aa755c5c7415ebdb3524939f78cbc8bab051a664d8f6a135ffdd0fa43584d", func := "yokefellow/yokefellowlaw.VotesHear", spec := "votesHear", unfollowed := true, recurses := true, apart := false, narrowed := true }
def VotesHearUptoSaid : Prop := votesHearUptoRow.holds Try.pinned (OpenSpec.upto votesHearSpec)

/-- 'yokefellowkeep.VotesGood', WHERE WHAT IT READS IS OF BULK AT MOST 1048576: true; the input reads as it did. -/
def votesGoodUptoRow : OpenClaim := { program := "ythpjdjofcbnoiaa", sum := "f11aa755c5c7415ebdb3524939f78cbc8bab051a664d8f6a135ffdd0fa43584d", func := "yokefellow/yokefellowkeep.VotesGood", spec := "votesGood", apart := false, narrowed := true }
def VotesGoodUptoSaid : Prop := votesGoodUptoRow.holds Try.pinned (OpenSpec.upto votesGoodSpec)

/-- 'yokefellowtop.TopStays', WHERE WHAT IT READS IS OF BULK AT MOST 1048576: true; the input reads as it did. -/
def topStaysUptoRow : OpenClaim := { program := "ythpjdjofcbnoiaa", sum := "f11aa755c5c7415ebdb3524939f78cbc8bab051a664d8f6a135ffdd0fa43584d", func := "yokefellow/yokefellowtop.TopStays", spec := "topStays", unfollowed := true, recurses := true, apart := false, narrowed := true }
def TopStaysUptoSaid : Prop := topStaysUptoRow.holds Try.pinned (OpenSpec.upto topStaysSpec)

/-- 'yokefellowlaw.NodeHears', WHERE WHAT IT READS IS OF BULK AT MOST 1048576: true; the input reads as it did. -/
def nodeHearsUptoRow : OpenClaim := { program := "ythpjdjofcbnoiaa", sum := "f11aa755c5c7415ebdb3524939f78cbc8bab051a664d8f6a135ffdd0fa43584d", func := "yokefellow/yokefellowlaw.NodeHears", spec := "nodeHears", unfollowed := true, recurses := true, apart := false, narrowed := true }
def NodeHearsUptoSaid : Prop := nodeHearsUptoRow.holds Try.pinned (OpenSpec.upto nodeHearsSpec)

end Rows
end Go.Proofs.Ythpjdjofcbnoiaa
