/-
  The seat's types, as the machine sees them (printed by a program of ours off the translation).
-/
import Derived.Test.YthpjdjofcbnoiaaWn
import Derived.Test.YthpjdjofcbnoiaaWt
import Derived.Test.YthpjdjofcbnoiaaProg
import Derived.KernelRfl
namespace Go.W
open Go.Proofs

def tyTab : List (Nat × TI) := [
  (2, ⟨false, 1, .int .i64, false⟩),
  (3, ⟨false, 1, .int .i64, false⟩),
  (4, ⟨false, 1, .bool, false⟩),
  (5, ⟨false, 1, .int .u8, false⟩),
  (9, ⟨false, 1, .str, false⟩),
  (21, ⟨false, 1, .int .i32, false⟩),
  (23, ⟨true, 4, .array 4 1 3, true⟩),
  (24, ⟨true, 4, .array 4 1 3, true⟩),
  (35, ⟨true, 6, .struct [(0, 1, 3), (1, 1, 3), (2, 1, 3), (3, 1, 3), (4, 1, 3), (5, 1, 3)], true⟩),
  (36, ⟨true, 6, .struct [(0, 1, 3), (1, 1, 3), (2, 1, 3), (3, 1, 3), (4, 1, 3), (5, 1, 3)], true⟩),
  (37, ⟨false, 1, .int .i64, false⟩),
  (45, ⟨true, 3, .struct [(0, 1, 4), (1, 1, 3), (2, 1, 3)], true⟩),
  (46, ⟨true, 3, .struct [(0, 1, 4), (1, 1, 3), (2, 1, 3)], true⟩),
  (47, ⟨true, 18, .array 6 3 46, true⟩),
  (48, ⟨true, 24, .array 6 4 24, true⟩),
  (49, ⟨true, 66, .struct [(0, 18, 47), (18, 24, 48), (42, 24, 48)], true⟩),
  (50, ⟨true, 66, .struct [(0, 18, 47), (18, 24, 48), (42, 24, 48)], true⟩),
  (53, ⟨false, 1, .slice 72 14 112, false⟩),
  (55, ⟨false, 1, .ptr, false⟩),
  (59, ⟨true, 6, .array 6 1 4, true⟩),
  (60, ⟨true, 264, .array 4 66 50, true⟩),
  (61, ⟨false, 1, .slice 3 1 8, false⟩),
  (62, ⟨true, 282, .struct [(0, 1, 3), (1, 1, 3), (2, 1, 3), (3, 1, 3), (4, 1, 3), (5, 1, 3), (6, 1, 3), (7, 6, 59), (13, 264, 60), (277, 4, 23), (281, 1, 61)], false⟩),
  (63, ⟨true, 282, .struct [(0, 1, 3), (1, 1, 3), (2, 1, 3), (3, 1, 3), (4, 1, 3), (5, 1, 3), (6, 1, 3), (7, 6, 59), (13, 264, 60), (277, 4, 23), (281, 1, 61)], false⟩),
  (70, ⟨true, 16, .array 4 4 23, true⟩),
  (71, ⟨true, 14, .struct [(0, 1, 3), (1, 1, 3), (2, 1, 3), (3, 1, 3), (4, 6, 36), (10, 4, 23)], true⟩),
  (72, ⟨true, 14, .struct [(0, 1, 3), (1, 1, 3), (2, 1, 3), (3, 1, 3), (4, 6, 36), (10, 4, 23)], true⟩),
  (73, ⟨true, 6, .struct [(0, 1, 37), (1, 1, 3), (2, 4, 23)], true⟩),
  (74, ⟨true, 6, .struct [(0, 1, 37), (1, 1, 3), (2, 4, 23)], true⟩),
  (77, ⟨false, 1, .slice 36 6 48, false⟩),
  (84, ⟨false, 1, .slice 5 1 1, false⟩),
  (85, ⟨true, 6, .array 6 1 3, true⟩),
  (88, ⟨false, 1, .ptr, false⟩),
  (92, ⟨true, 1128, .array 4 282 63, false⟩),
  (93, ⟨false, 1, .slice 118 7 56, false⟩),
  (94, ⟨true, 1131, .struct [(0, 1128, 92), (1128, 1, 93), (1129, 1, 3), (1130, 1, 3)], false⟩),
  (95, ⟨true, 1131, .struct [(0, 1128, 92), (1128, 1, 93), (1129, 1, 3), (1130, 1, 3)], false⟩),
  (98, ⟨false, 1, .ptr, false⟩),
  (101, ⟨true, 284, .struct [(0, 282, 63), (282, 1, 3), (283, 1, 77)], false⟩),
  (102, ⟨true, 284, .struct [(0, 282, 63), (282, 1, 3), (283, 1, 77)], false⟩),
  (103, ⟨false, 1, .ptr, false⟩),
  (106, ⟨true, 284, .struct [(0, 282, 63), (282, 1, 3), (283, 1, 77)], false⟩),
  (107, ⟨true, 284, .struct [(0, 282, 63), (282, 1, 3), (283, 1, 77)], false⟩),
  (108, ⟨true, 2, .array 2 1 3, true⟩),
  (109, ⟨true, 4, .array 2 2 108, true⟩),
  (117, ⟨true, 7, .struct [(0, 1, 3), (1, 6, 36)], true⟩),
  (118, ⟨true, 7, .struct [(0, 1, 3), (1, 6, 36)], true⟩),
  (128, ⟨false, 1, .ptr, false⟩),
  (140, ⟨false, 1, .ptr, false⟩)]

def zeroTab : List (Nat × D) := [
  (3, I 0),
  (4, .bool false),
  (5, .int .u8 0),
  (37, I 0),
  (23, eVotes fun _ => 0),
  (24, eVotes fun _ => 0),
  (36, eWord Word.zero),
  (46, eCall Call.zero),
  (47, eCalls fun _ => Call.zero),
  (48, eVotes6 fun _ _ => 0),
  (50, eSheet Sheet.zero),
  (59, eBools6 fun _ => false),
  (60, eSheets fun _ => Sheet.zero),
  (63, eNodeN Node.zero),
  (70, eInts44 fun _ _ => 0),
  (72, eAct Act.zero),
  (74, eReply Reply.zero),
  (118, eLetter Letter.zero),
  (85, eInts6 fun _ => 0),
  (92, eNodesN fun _ => Node.zero),
  (95, eCrowdN fun _ => Node.zero),
  (102, eRunnerN Node.zero),
  (107, eRunnerN Node.zero),
  (108, eInts2 fun _ => 0),
  (109, eInts22 fun _ _ => 0),
  (61, .nil),
  (77, .nil),
  (93, .nil),
  (53, .nil),
  (84, .nil)]

def tt : TT := ⟨look1 tyTab, look1 zeroTab⟩

theorem tyTab_ok : tabB Try.prog tyTab = true := by kernel_rfl

theorem zeroTab_ok : ZTab Try.prog tt zeroTab := by
  refine ⟨by kernel_rfl, by kernel_rfl, ⟨_, rfl, by kernel_rfl⟩, ?_⟩
  refine ⟨by kernel_rfl, by kernel_rfl, ⟨_, rfl, by kernel_rfl⟩, ?_⟩
  refine ⟨by kernel_rfl, by kernel_rfl, ⟨_, rfl, by kernel_rfl⟩, ?_⟩
  refine ⟨by kernel_rfl, by kernel_rfl, ⟨_, rfl, by kernel_rfl⟩, ?_⟩
  refine ⟨by kernel_rfl, by kernel_rfl, ⟨_, rfl, by kernel_rfl⟩, ?_⟩
  refine ⟨by kernel_rfl, by kernel_rfl, ⟨_, rfl, by kernel_rfl⟩, ?_⟩
  refine ⟨by kernel_rfl, by kernel_rfl, ⟨_, rfl, by kernel_rfl⟩, ?_⟩
  refine ⟨by kernel_rfl, by kernel_rfl, ⟨_, rfl, by kernel_rfl⟩, ?_⟩
  refine ⟨by kernel_rfl, by kernel_rfl, ⟨_, rfl, by kernel_rfl⟩, ?_⟩
  refine ⟨by kernel_rfl, by kernel_rfl, ⟨_, rfl, by kernel_rfl⟩, ?_⟩
  refine ⟨by kernel_rfl, by kernel_rfl, ⟨_, rfl, by kernel_rfl⟩, ?_⟩
  refine ⟨by kernel_rfl, by kernel_rfl, ⟨_, rfl, by kernel_rfl⟩, ?_⟩
  refine ⟨by kernel_rfl, by kernel_rfl, ⟨_, rfl, by kernel_rfl⟩, ?_⟩
  refine ⟨by kernel_rfl, by kernel_rfl, ⟨_, rfl, by kernel_rfl⟩, ?_⟩
  refine ⟨by kernel_rfl, by kernel_rfl, ⟨_, rfl, by kernel_rfl⟩, ?_⟩
  refine ⟨by kernel_rfl, by kernel_rfl, ⟨_, rfl, by kernel_rfl⟩, ?_⟩
  refine ⟨by kernel_rfl, by kernel_rfl, ⟨_, rfl, by kernel_rfl⟩, ?_⟩
  refine ⟨by kernel_rfl, by kernel_rfl, ⟨_, rfl, by kernel_rfl⟩, ?_⟩
  refine ⟨by kernel_rfl, by kernel_rfl, ⟨_, rfl, by kernel_rfl⟩, ?_⟩
  refine ⟨by kernel_rfl, by kernel_rfl, ⟨_, rfl, by kernel_rfl⟩, ?_⟩
  refine ⟨by kernel_rfl, by kernel_rfl, ⟨_, rfl, by kernel_rfl⟩, ?_⟩
  refine ⟨by kernel_rfl, by kernel_rfl, ⟨_, rfl, by kernel_rfl⟩, ?_⟩
  refine ⟨by kernel_rfl, by kernel_rfl, ⟨_, rfl, by kernel_rfl⟩, ?_⟩
  refine ⟨by kernel_rfl, by kernel_rfl, ⟨_, rfl, by kernel_rfl⟩, ?_⟩
  refine ⟨by kernel_rfl, by kernel_rfl, ⟨_, rfl, by kernel_rfl⟩, ?_⟩
  refine ⟨by kernel_rfl, by kernel_rfl, ⟨_, rfl, by kernel_rfl⟩, ?_⟩
  refine ⟨by kernel_rfl, by kernel_rfl, ⟨_, rfl, by kernel_rfl⟩, ?_⟩
  refine ⟨by kernel_rfl, by kernel_rfl, ⟨_, rfl, by kernel_rfl⟩, ?_⟩
  refine ⟨by kernel_rfl, by kernel_rfl, ⟨_, rfl, by kernel_rfl⟩, ?_⟩
  refine ⟨by kernel_rfl, by kernel_rfl, ⟨_, rfl, by kernel_rfl⟩, ?_⟩
  trivial

theorem mixed : Try.prog.follows .mixedOrders = true := by kernel_rfl

theorem ttok : TTok Try.prog tt := ttok_of tyTab_ok zeroTab_ok

end Go.W
