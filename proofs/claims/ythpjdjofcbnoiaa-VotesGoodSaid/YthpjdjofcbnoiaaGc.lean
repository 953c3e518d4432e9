/-
  Counting: the law's contract.
-/
import Derived.Test.YthpjdjofcbnoiaaGa
import Derived.Test.YthpjdjofcbnoiaaFm
namespace Go.W
open Go.Proofs

set_option maxRecDepth 100000 in
theorem votesCount1_spec (x y : Int) : Pure Try.prog 19 [.data (I x), .cptr (I y)] (.data (.bool (x == y))) := by
  refine spec_of ttok Try.func19 rfl (by kernel_rfl) (by exact Nat.le_of_ble_eq_true rfl) fun hin hie c0 hc0 he => ?_
  have hn0 : c0.es.length ≤ 0 := Nat.le_of_eq (by rw [he]; rfl)
  refine R [] ?_
  refine R [] ?_
  exact W.ret (End 0 hn0 ⟨rfl, rfl⟩)

set_option maxRecDepth 100000 in
theorem votesCount_spec (v : Nat → Int) (x : Int) : Pure Try.prog 4 [.data (eVotes v), .data (I x)] (.data (.bool true)) := by
  refine spec_of ttok Try.func4 rfl (by kernel_rfl) (by exact Nat.le_of_ble_eq_true rfl) fun hin hie c0 hc0 he => ?_
  have hn0 : c0.es.length ≤ 0 := Nat.le_of_eq (by rw [he]; rfl)
  refine R [] ?_
  refine R [.tuple [.data (I (mostV v)), .data (.bool (mostOk v))]] (ho := by exact ⟨most_spec _, trivial⟩) ?_
  refine R [.tuple [.data (I (mostV v)), .data (.bool (mostOk v))]] (ho := by exact ⟨mostOf_spec _, trivial⟩) ?_
  refine RD [.data (I (count v x)), .data (I (count v x)), .data (I (all4 v)), .data (I (all4 v)), .data (.bool true)] (ho := ?ob) ?_
  case ob => exact ⟨count_spec _ _, by rw [← cntQ_eq]; exact countOf_spec1 v fun y => votesCount1_spec y x, fun _ => all_spec _, fun _ => allOf_spec _, fun _ => counts_law, trivial⟩
  refine W.ret (EndB 0 hn0 ?_)
  simp

end Go.W
