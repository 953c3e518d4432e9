/-
  Quorums: the check that votes answers, and two quorums meet.
-/
import Derived.Test.YthpjdjofcbnoiaaFc
namespace Go.W
open Go.Proofs

def lit4 (a b c d : Int) : Nat → Int
  | 0 => a
  | 1 => b
  | 2 => c
  | 3 => d
  | _ => 0



theorem mostN_lit : mostN (lit4 3 0 3 3) 10 = some 2 := by decide
theorem all4_lit : all4 (lit4 3 0 3 3) = 3 := by decide

set_option maxRecDepth 100000 in
theorem counts_keep : Pure Try.prog 23 [] (.data (.bool true)) := by
  refine spec_of ttok Try.func23 rfl (by kernel_rfl) (by exact Nat.le_of_ble_eq_true rfl) fun hin hie c0 hc0 he => ?_
  have hn0 : c0.es.length ≤ 0 := Nat.le_of_eq (by rw [he]; rfl)
  refine R [] ?_
  refine R [.tuple [.data (I 2), .data (.bool true)]] (ho := ?ob) ?_
  case ob =>
    refine ⟨pure1 (most_spec (lit4 3 0 3 3)) ?_ (most_some mostN_lit).symm, trivial⟩
    with_unfolding_all refine data_arr fun i => ?_
    match i with
    | 0 => rfl
    | 1 => rfl
    | 2 => rfl
    | 3 => rfl
    | _ + 4 => rfl
  refine R [.data (I 3)] (ho := ?ob) ?_
  case ob =>
    refine ⟨fun _ => pure1 (all_spec (lit4 3 0 3 3)) ?_ (by rw [all4_lit]), trivial⟩
    with_unfolding_all refine data_arr fun i => ?_
    match i with
    | 0 => rfl
    | 1 => rfl
    | 2 => rfl
    | 3 => rfl
    | _ + 4 => rfl
  exact W.ret (End 0 hn0 ⟨rfl, rfl⟩)

set_option maxRecDepth 100000 in
theorem counts_law : Pure Try.prog 22 [] (.data (.bool true)) := by
  refine spec_of ttok Try.func22 rfl (by kernel_rfl) (by exact Nat.le_of_ble_eq_true rfl) fun hin hie c0 hc0 he => ?_
  have hn0 : c0.es.length ≤ 0 := Nat.le_of_eq (by rw [he]; rfl)
  refine R [] ?_
  refine R [.tuple [.data (I 2), .data (.bool true)]] (ho := ?ob) ?_
  case ob =>
    refine ⟨pure1 (most_spec (lit4 3 0 3 3)) ?_ (most_some mostN_lit).symm, trivial⟩
    with_unfolding_all refine data_arr fun i => ?_
    match i with
    | 0 => rfl
    | 1 => rfl
    | 2 => rfl
    | 3 => rfl
    | _ + 4 => rfl
  refine R [.data (I 3)] (ho := ?ob) ?_
  case ob =>
    refine ⟨fun _ => pure1 (all_spec (lit4 3 0 3 3)) ?_ (by rw [all4_lit]), trivial⟩
    with_unfolding_all refine data_arr fun i => ?_
    match i with
    | 0 => rfl
    | 1 => rfl
    | 2 => rfl
    | 3 => rfl
    | _ + 4 => rfl
  exact W.ret (End 0 hn0 ⟨rfl, rfl⟩)

end Go.W
