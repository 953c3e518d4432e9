/-
  The law NodeHears.
-/
import Derived.Test.YthpjdjofcbnoiaaGk
import Derived.Test.YthpjdjofcbnoiaaGm
namespace Go.W
open Go.Proofs

set_option maxHeartbeats 8000000 in
set_option maxRecDepth 100000 in
theorem nodeHears_spec (s : Node) (who : Int) (w : Word) (hq : s.queue.length ≤ 17592186044416) : Pure Try.prog 14 [.data (eNode s), .data (I who), .data (eWord w)] (.data (.bool true)) := by
  refine spec_of ttok Try.func14 rfl (by kernel_rfl) (by exact Nat.le_of_ble_eq_true rfl) fun hin hie c0 hc0 he => ?_
  have hn0 : c0.es.length ≤ 0 := Nat.le_of_eq (by rw [he]; rfl)
  have h1 := hearT_spec s who w
  have h2 := hearWord_spec s who w
  generalize hearT s who w = t at h1 h2
  obtain ⟨x, l, e⟩ := t
  refine R [] ?_
  refine R [Hint.on [] [.row 1 (s.queue.map I)] (.rich (eNode s) [([10], 0)])] (ho := by exact ⟨copyNode_spec s hq, sameNz _ _, trivial⟩) ?_
  refine W.le hc0 (Le.cut [(1, .data (I who)), (3, .ptr 0 []), (5, .ptr 1 []), (7, .ptr 3 [])] 4 (by omega) (es' := [.var (eNode s) [], .var (eWord w) [], .row 1 (s.queue.map I), .var (eNode s) [([10], 2)]]) ⟨⟨by with_unfolding_all rfl, rfl⟩, ⟨by with_unfolding_all rfl, rfl⟩, ⟨by with_unfolding_all rfl, rfl⟩, ⟨by with_unfolding_all rfl, rfl⟩, trivial⟩ (by with_unfolding_all rfl)) ?_
  refine R [.tuple [.data (eNode x), .data (eWords l), .data (I e)]] (ho := by exact ⟨h1, sameNz _ _, trivial⟩) ?_
  refine R [.tuple [.data (eNode x), .data (eWords l), .data (I e)]] (ho := by exact ⟨h2, sameNz _ _, trivial⟩) ?_
  refine RD [.data (.bool true), .data (.bool true), .data (.bool (goodN s)), .data (.bool (goodN s)), .data (.bool true), .data (.bool true)]
    (ho := by exact ⟨sameNode_spec _, fun _ => sameWords_spec _, fun _ => goodN_spec _, fun _ => isNode_spec _, fun _ => sameNode_spec _, fun _ => nodes_law, trivial⟩) ?_
  refine W.ret (EndB 0 hn0 ?_)
  exact bifr2 (bifr2 (bifr2 (bifr2 rfl (beqr _)) (by cases goodN s <;> rfl)) rfl) rfl

end Go.W
