/-
  The numbers of package api: the law's contract.
-/
import Derived.Test.YthpjdjofcbnoiaaFa
namespace Go.W
open Go.Proofs

set_option maxRecDepth 100000 in
theorem names_spec : Pure Try.prog 3 [] (.data (.bool true)) := by
  refine spec_of ttok Try.func3 rfl (by kernel_rfl) (by exact Nat.le_of_ble_eq_true rfl) fun hin hie c0 hc0 he => ?_
  have hn0 : c0.es.length ≤ 0 := Nat.le_of_eq (by rw [he]; rfl)
  refine R [] ?_
  refine R [] ?_
  refine R [] ?_
  refine R [] ?_
  refine R [] ?_
  exact W.ret (End 0 hn0 ⟨rfl, rfl⟩)

end Go.W
