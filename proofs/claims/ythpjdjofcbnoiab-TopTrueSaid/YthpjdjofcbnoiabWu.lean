/-
  The seat's types, as the machine sees them (printed by a program of ours off the translation).
-/
import Derived.Test.YthpjdjofcbnoiabWn
import Derived.Test.YthpjdjofcbnoiabWt
import Derived.Test.YthpjdjofcbnoiabProg
import Derived.KernelRfl
namespace Go.W
open Go.Proofs

def tyTab : List (Nat × TI) := [
  (2, ⟨false, 1, .int .i64, false⟩),
  (3, ⟨false, 1, .int .i64, false⟩),
  (4, ⟨false, 1, .bool, false⟩),
  (5, ⟨false, 1, .int .u8, false⟩),
  (9, ⟨false, 1, .str, false⟩),
  (21, ⟨false, 1, .int .i32, false⟩),
  (22, ⟨true, 6, .array 6 1 4, true⟩),
  (23, ⟨true, 3, .struct [(0, 1, 4), (1, 1, 3), (2, 1, 3)], true⟩),
  (24, ⟨true, 3, .struct [(0, 1, 4), (1, 1, 3), (2, 1, 3)], true⟩),
  (25, ⟨true, 18, .array 6 3 24, true⟩),
  (26, ⟨true, 4, .array 4 1 3, true⟩),
  (27, ⟨true, 4, .array 4 1 3, true⟩),
  (28, ⟨true, 24, .array 6 4 27, true⟩),
  (29, ⟨true, 66, .struct [(0, 18, 25), (18, 24, 28), (42, 24, 28)], true⟩),
  (30, ⟨true, 66, .struct [(0, 18, 25), (18, 24, 28), (42, 24, 28)], true⟩),
  (31, ⟨true, 264, .array 4 66 30, true⟩),
  (32, ⟨false, 1, .slice 3 1 8, false⟩),
  (33, ⟨true, 282, .struct [(0, 1, 3), (1, 1, 3), (2, 1, 3), (3, 1, 3), (4, 1, 3), (5, 1, 3), (6, 1, 3), (7, 6, 22), (13, 264, 31), (277, 4, 26), (281, 1, 32)], false⟩),
  (34, ⟨true, 282, .struct [(0, 1, 3), (1, 1, 3), (2, 1, 3), (3, 1, 3), (4, 1, 3), (5, 1, 3), (6, 1, 3), (7, 6, 22), (13, 264, 31), (277, 4, 26), (281, 1, 32)], false⟩),
  (35, ⟨true, 6, .struct [(0, 1, 3), (1, 1, 3), (2, 1, 3), (3, 1, 3), (4, 1, 3), (5, 1, 3)], true⟩),
  (36, ⟨true, 6, .struct [(0, 1, 3), (1, 1, 3), (2, 1, 3), (3, 1, 3), (4, 1, 3), (5, 1, 3)], true⟩),
  (37, ⟨false, 1, .slice 36 6 48, false⟩),
  (38, ⟨false, 1, .int .i64, false⟩),
  (51, ⟨false, 1, .slice 61 14 112, false⟩),
  (53, ⟨false, 1, .ptr, false⟩),
  (57, ⟨true, 6, .struct [(0, 1, 38), (1, 1, 3), (2, 4, 26)], true⟩),
  (58, ⟨true, 6, .struct [(0, 1, 38), (1, 1, 3), (2, 4, 26)], true⟩),
  (60, ⟨true, 14, .struct [(0, 1, 3), (1, 1, 3), (2, 1, 3), (3, 1, 3), (4, 6, 36), (10, 4, 26)], true⟩),
  (61, ⟨true, 14, .struct [(0, 1, 3), (1, 1, 3), (2, 1, 3), (3, 1, 3), (4, 6, 36), (10, 4, 26)], true⟩),
  (68, ⟨false, 1, .slice 91 7 56, false⟩),
  (71, ⟨true, 16, .array 4 4 26, true⟩),
  (76, ⟨false, 1, .ptr, false⟩),
  (79, ⟨true, 1128, .array 4 282 34, false⟩),
  (80, ⟨true, 1131, .struct [(0, 1128, 79), (1128, 1, 68), (1129, 1, 3), (1130, 1, 3)], false⟩),
  (81, ⟨true, 1131, .struct [(0, 1128, 79), (1128, 1, 68), (1129, 1, 3), (1130, 1, 3)], false⟩),
  (85, ⟨false, 1, .slice 58 6 48, false⟩),
  (88, ⟨true, 10, .array 10 1 4, true⟩),
  (89, ⟨false, 1, .map 36 3, false⟩),
  (90, ⟨true, 7, .struct [(0, 1, 3), (1, 6, 36)], true⟩),
  (91, ⟨true, 7, .struct [(0, 1, 3), (1, 6, 36)], true⟩),
  (92, ⟨false, 1, .ptr, false⟩),
  (96, ⟨true, 284, .struct [(0, 282, 34), (282, 1, 3), (283, 1, 37)], false⟩),
  (97, ⟨true, 284, .struct [(0, 282, 34), (282, 1, 3), (283, 1, 37)], false⟩),
  (101, ⟨false, 1, .ptr, false⟩),
  (105, ⟨true, 284, .struct [(0, 282, 34), (282, 1, 3), (283, 1, 37)], false⟩),
  (106, ⟨true, 284, .struct [(0, 282, 34), (282, 1, 3), (283, 1, 37)], false⟩),
  (111, ⟨true, 1131, .struct [(0, 1128, 79), (1128, 1, 68), (1129, 1, 3), (1130, 1, 3)], false⟩),
  (112, ⟨true, 1131, .struct [(0, 1128, 79), (1128, 1, 68), (1129, 1, 3), (1130, 1, 3)], false⟩),
  (121, ⟨false, 1, .ptr, false⟩),
  (123, ⟨false, 1, .ptr, false⟩),
  (129, ⟨true, 2, .array 2 1 3, true⟩),
  (130, ⟨true, 4, .array 2 2 129, true⟩),
  (142, ⟨false, 1, .ptr, false⟩)]

def zeroTab : List (Nat × D) := [
  (3, I 0),
  (4, .bool false),
  (5, .int .u8 0),
  (38, I 0),
  (26, eVotes fun _ => 0),
  (27, eVotes fun _ => 0),
  (36, eWord Word.zero),
  (24, eCall Call.zero),
  (25, eCalls fun _ => Call.zero),
  (28, eVotes6 fun _ _ => 0),
  (30, eSheet Sheet.zero),
  (22, eBools6 fun _ => false),
  (31, eSheets fun _ => Sheet.zero),
  (34, eNodeN Node.zero),
  (71, eInts44 fun _ _ => 0),
  (61, eAct Act.zero),
  (58, eReply Reply.zero),
  (91, eLetter Letter.zero),
  (79, eNodesN fun _ => Node.zero),
  (112, eCrowdN fun _ => Node.zero),
  (81, eRCrowdN fun _ => Node.zero),
  (97, eRunnerN Node.zero),
  (106, eRunnerN Node.zero),
  (129, eInts2 fun _ => 0),
  (130, eInts22 fun _ _ => 0),
  (88, eBools10 fun _ => false),
  (32, .nil),
  (37, .nil),
  (68, .nil),
  (51, .nil),
  (85, .nil)]

def tt : TT := ⟨look1 tyTab, look1 zeroTab⟩

theorem tyTab_ok : tabB Try.prog tyTab = true := by kernel_rfl

theorem zeroTab_ok : ZTab Try.prog tt zeroTab := by
  refine ⟨by kernel_rfl, by kernel_rfl, ⟨_, rfl, by kernel_rfl⟩, ?_⟩
  refine ⟨by kernel_rfl, by kernel_rfl, ⟨_, rfl, by kernel_rfl⟩, ?_⟩
  refine ⟨by kernel_rfl, by kernel_rfl, ⟨_, rfl, by kernel_rfl⟩, ?_⟩
  refine ⟨by kernel_rfl, by kernel_rfl, ⟨_, rfl, by kernel_rfl⟩, ?_⟩
  refine ⟨by kernel_rfl, by kernel_rfl, ⟨_, rfl, by kernel_rfl⟩, ?_⟩
  refine ⟨by kernel_rfl, by kernel_rfl, ⟨_, rfl, by kernel_rfl⟩, ?_⟩
  refine ⟨by kernel_rfl, by kernel_rfl, ⟨_, rfl, by kernel_rfl⟩, ?_⟩
  refine ⟨by kernel_rfl, by kernel_rfl, ⟨_, rfl, by kernel_rfl⟩, ?_⟩
  refine ⟨by kernel_rfl, by kernel_rfl, ⟨_, rfl, by kernel_rfl⟩, ?_⟩
  refine ⟨by kernel_rfl, by kernel_rfl, ⟨_, rfl, by kernel_rfl⟩, ?_⟩
  refine ⟨by kernel_rfl, by kernel_rfl, ⟨_, rfl, by kernel_rfl⟩, ?_⟩
  refine ⟨by kernel_rfl, by kernel_rfl, ⟨_, rfl, by kernel_rfl⟩, ?_⟩
  refine ⟨by kernel_rfl, by kernel_rfl, ⟨_, rfl, by kernel_rfl⟩, ?_⟩
  refine ⟨by kernel_rfl, by kernel_rfl, ⟨_, rfl, by kernel_rfl⟩, ?_⟩
  refine ⟨by kernel_rfl, by kernel_rfl, ⟨_, rfl, by kernel_rfl⟩, ?_⟩
  refine ⟨by kernel_rfl, by kernel_rfl, ⟨_, rfl, by kernel_rfl⟩, ?_⟩
  refine ⟨by kernel_rfl, by kernel_rfl, ⟨_, rfl, by kernel_rfl⟩, ?_⟩
  refine ⟨by kernel_rfl, by kernel_rfl, ⟨_, rfl, by kernel_rfl⟩, ?_⟩
  refine ⟨by kernel_rfl, by kernel_rfl, ⟨_, rfl, by kernel_rfl⟩, ?_⟩
  refine ⟨by kernel_rfl, by kernel_rfl, ⟨_, rfl, by kernel_rfl⟩, ?_⟩
  refine ⟨by kernel_rfl, by kernel_rfl, ⟨_, rfl, by kernel_rfl⟩, ?_⟩
  refine ⟨by kernel_rfl, by kernel_rfl, ⟨_, rfl, by kernel_rfl⟩, ?_⟩
  refine ⟨by kernel_rfl, by kernel_rfl, ⟨_, rfl, by kernel_rfl⟩, ?_⟩
  refine ⟨by kernel_rfl, by kernel_rfl, ⟨_, rfl, by kernel_rfl⟩, ?_⟩
  refine ⟨by kernel_rfl, by kernel_rfl, ⟨_, rfl, by kernel_rfl⟩, ?_⟩
  refine ⟨by kernel_rfl, by kernel_rfl, ⟨_, rfl, by kernel_rfl⟩, ?_⟩
  refine ⟨by kernel_rfl, by kernel_rfl, ⟨_, rfl, by kernel_rfl⟩, ?_⟩
  refine ⟨by kernel_rfl, by kernel_rfl, ⟨_, rfl, by kernel_rfl⟩, ?_⟩
  refine ⟨by kernel_rfl, by kernel_rfl, ⟨_, rfl, by kernel_rfl⟩, ?_⟩
  refine ⟨by kernel_rfl, by kernel_rfl, ⟨_, rfl, by kernel_rfl⟩, ?_⟩
  refine ⟨by kernel_rfl, by kernel_rfl, ⟨_, rfl, by kernel_rfl⟩, ?_⟩
  trivial

theorem mixed : Try.prog.follows .mixedOrders = true := by kernel_rfl

theorem ttok : TTok Try.prog tt := ttok_of tyTab_ok zeroTab_ok

end Go.W
