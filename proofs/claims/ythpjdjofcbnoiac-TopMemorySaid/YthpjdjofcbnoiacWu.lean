/-
  The seat's types, as the machine sees them (printed by a program of ours off the translation).
-/
import Derived.Test.YthpjdjofcbnoiacWn
import Derived.Test.YthpjdjofcbnoiacWt
import Derived.Test.YthpjdjofcbnoiacProg
import Derived.KernelRfl
namespace Go.W
open Go.Proofs

def tyTab : List (Nat × TI) := [
  (2, ⟨false, 1, .int .i64, false⟩),
  (3, ⟨false, 1, .int .i64, false⟩),
  (4, ⟨false, 1, .bool, false⟩),
  (5, ⟨false, 1, .int .u8, false⟩),
  (9, ⟨false, 1, .str, false⟩),
  (21, ⟨false, 1, .int .i32, false⟩),
  (22, ⟨false, 1, .slice 53 14 112, false⟩),
  (24, ⟨false, 1, .ptr, false⟩),
  (28, ⟨true, 6, .array 6 1 4, true⟩),
  (29, ⟨true, 3, .struct [(0, 1, 4), (1, 1, 3), (2, 1, 3)], true⟩),
  (30, ⟨true, 3, .struct [(0, 1, 4), (1, 1, 3), (2, 1, 3)], true⟩),
  (31, ⟨true, 18, .array 6 3 30, true⟩),
  (32, ⟨true, 4, .array 4 1 3, true⟩),
  (33, ⟨true, 4, .array 4 1 3, true⟩),
  (34, ⟨true, 24, .array 6 4 33, true⟩),
  (35, ⟨true, 66, .struct [(0, 18, 31), (18, 24, 34), (42, 24, 34)], true⟩),
  (36, ⟨true, 66, .struct [(0, 18, 31), (18, 24, 34), (42, 24, 34)], true⟩),
  (37, ⟨true, 264, .array 4 66 36, true⟩),
  (38, ⟨false, 1, .slice 3 1 8, false⟩),
  (39, ⟨true, 282, .struct [(0, 1, 3), (1, 1, 3), (2, 1, 3), (3, 1, 3), (4, 1, 3), (5, 1, 3), (6, 1, 3), (7, 6, 28), (13, 264, 37), (277, 4, 32), (281, 1, 38)], false⟩),
  (40, ⟨true, 282, .struct [(0, 1, 3), (1, 1, 3), (2, 1, 3), (3, 1, 3), (4, 1, 3), (5, 1, 3), (6, 1, 3), (7, 6, 28), (13, 264, 37), (277, 4, 32), (281, 1, 38)], false⟩),
  (44, ⟨false, 1, .int .i64, false⟩),
  (47, ⟨true, 6, .struct [(0, 1, 44), (1, 1, 3), (2, 4, 32)], true⟩),
  (48, ⟨true, 6, .struct [(0, 1, 44), (1, 1, 3), (2, 4, 32)], true⟩),
  (50, ⟨true, 6, .struct [(0, 1, 3), (1, 1, 3), (2, 1, 3), (3, 1, 3), (4, 1, 3), (5, 1, 3)], true⟩),
  (51, ⟨true, 6, .struct [(0, 1, 3), (1, 1, 3), (2, 1, 3), (3, 1, 3), (4, 1, 3), (5, 1, 3)], true⟩),
  (52, ⟨true, 14, .struct [(0, 1, 3), (1, 1, 3), (2, 1, 3), (3, 1, 3), (4, 6, 51), (10, 4, 32)], true⟩),
  (53, ⟨true, 14, .struct [(0, 1, 3), (1, 1, 3), (2, 1, 3), (3, 1, 3), (4, 6, 51), (10, 4, 32)], true⟩),
  (54, ⟨false, 1, .slice 61 7 56, false⟩),
  (60, ⟨true, 7, .struct [(0, 1, 3), (1, 6, 51)], true⟩),
  (61, ⟨true, 7, .struct [(0, 1, 3), (1, 6, 51)], true⟩),
  (62, ⟨false, 1, .slice 48 6 48, false⟩),
  (65, ⟨true, 1128, .array 4 282 40, false⟩),
  (66, ⟨true, 1131, .struct [(0, 1128, 65), (1128, 1, 54), (1129, 1, 3), (1130, 1, 3)], false⟩),
  (67, ⟨true, 1131, .struct [(0, 1128, 65), (1128, 1, 54), (1129, 1, 3), (1130, 1, 3)], false⟩),
  (72, ⟨false, 1, .slice 51 6 48, false⟩),
  (81, ⟨true, 16, .array 4 4 32, true⟩),
  (84, ⟨false, 1, .ptr, false⟩),
  (87, ⟨true, 284, .struct [(0, 282, 40), (282, 1, 3), (283, 1, 72)], false⟩),
  (88, ⟨true, 284, .struct [(0, 282, 40), (282, 1, 3), (283, 1, 72)], false⟩),
  (95, ⟨false, 1, .ptr, false⟩),
  (96, ⟨false, 1, .ptr, false⟩),
  (118, ⟨false, 1, .ptr, false⟩)]

def zeroTab : List (Nat × D) := [
  (3, I 0),
  (4, .bool false),
  (5, .int .u8 0),
  (44, I 0),
  (32, eVotes fun _ => 0),
  (33, eVotes fun _ => 0),
  (51, eWord Word.zero),
  (30, eCall Call.zero),
  (31, eCalls fun _ => Call.zero),
  (34, eVotes6 fun _ _ => 0),
  (36, eSheet Sheet.zero),
  (28, eBools6 fun _ => false),
  (37, eSheets fun _ => Sheet.zero),
  (40, eNodeN Node.zero),
  (81, eInts44 fun _ _ => 0),
  (53, eAct Act.zero),
  (48, eReply Reply.zero),
  (61, eLetter Letter.zero),
  (65, eNodesN fun _ => Node.zero),
  (67, eCrowdN fun _ => Node.zero),
  (88, eRunnerN Node.zero),
  (38, .nil),
  (72, .nil),
  (54, .nil),
  (22, .nil),
  (62, .nil)]

def tt : TT := ⟨look1 tyTab, look1 zeroTab⟩

theorem tyTab_ok : tabB Try.prog tyTab = true := by kernel_rfl

theorem zeroTab_ok : ZTab Try.prog tt zeroTab := by
  refine ⟨by kernel_rfl, by kernel_rfl, ⟨_, rfl, by kernel_rfl⟩, ?_⟩
  refine ⟨by kernel_rfl, by kernel_rfl, ⟨_, rfl, by kernel_rfl⟩, ?_⟩
  refine ⟨by kernel_rfl, by kernel_rfl, ⟨_, rfl, by kernel_rfl⟩, ?_⟩
  refine ⟨by kernel_rfl, by kernel_rfl, ⟨_, rfl, by kernel_rfl⟩, ?_⟩
  refine ⟨by kernel_rfl, by kernel_rfl, ⟨_, rfl, by kernel_rfl⟩, ?_⟩
  refine ⟨by kernel_rfl, by kernel_rfl, ⟨_, rfl, by kernel_rfl⟩, ?_⟩
  refine ⟨by kernel_rfl, by kernel_rfl, ⟨_, rfl, by kernel_rfl⟩, ?_⟩
  refine ⟨by kernel_rfl, by kernel_rfl, ⟨_, rfl, by kernel_rfl⟩, ?_⟩
  refine ⟨by kernel_rfl, by kernel_rfl, ⟨_, rfl, by kernel_rfl⟩, ?_⟩
  refine ⟨by kernel_rfl, by kernel_rfl, ⟨_, rfl, by kernel_rfl⟩, ?_⟩
  refine ⟨by kernel_rfl, by kernel_rfl, ⟨_, rfl, by kernel_rfl⟩, ?_⟩
  refine ⟨by kernel_rfl, by kernel_rfl, ⟨_, rfl, by kernel_rfl⟩, ?_⟩
  refine ⟨by kernel_rfl, by kernel_rfl, ⟨_, rfl, by kernel_rfl⟩, ?_⟩
  refine ⟨by kernel_rfl, by kernel_rfl, ⟨_, rfl, by kernel_rfl⟩, ?_⟩
  refine ⟨by kernel_rfl, by kernel_rfl, ⟨_, rfl, by kernel_rfl⟩, ?_⟩
  refine ⟨by kernel_rfl, by kernel_rfl, ⟨_, rfl, by kernel_rfl⟩, ?_⟩
  refine ⟨by kernel_rfl, by kernel_rfl, ⟨_, rfl, by kernel_rfl⟩, ?_⟩
  refine ⟨by kernel_rfl, by kernel_rfl, ⟨_, rfl, by kernel_rfl⟩, ?_⟩
  refine ⟨by kernel_rfl, by kernel_rfl, ⟨_, rfl, by kernel_rfl⟩, ?_⟩
  refine ⟨by kernel_rfl, by kernel_rfl, ⟨_, rfl, by kernel_rfl⟩, ?_⟩
  refine ⟨by kernel_rfl, by kernel_rfl, ⟨_, rfl, by kernel_rfl⟩, ?_⟩
  refine ⟨by kernel_rfl, by kernel_rfl, ⟨_, rfl, by kernel_rfl⟩, ?_⟩
  refine ⟨by kernel_rfl, by kernel_rfl, ⟨_, rfl, by kernel_rfl⟩, ?_⟩
  refine ⟨by kernel_rfl, by kernel_rfl, ⟨_, rfl, by kernel_rfl⟩, ?_⟩
  refine ⟨by kernel_rfl, by kernel_rfl, ⟨_, rfl, by kernel_rfl⟩, ?_⟩
  refine ⟨by kernel_rfl, by kernel_rfl, ⟨_, rfl, by kernel_rfl⟩, ?_⟩
  trivial

theorem mixed : Try.prog.follows .mixedOrders = true := by kernel_rfl

theorem ttok : TTok Try.prog tt := ttok_of tyTab_ok zeroTab_ok

end Go.W
