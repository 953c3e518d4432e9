/-
  Two quorums meet: the law's contract.
-/
import Derived.Test.YthpjdjofcbnoiaaGa
namespace Go.W
open Go.Proofs

set_option maxRecDepth 100000 in
theorem votesMeet_spec (a b : Nat → Int) (l : Int) : Pure Try.prog 5 [.data (eVotes a), .data (eVotes b), .data (I l)] (.data (.bool true)) := by
  refine spec_of ttok Try.func5 rfl (by kernel_rfl) (by exact Nat.le_of_ble_eq_true rfl) fun hin hie c0 hc0 he => ?_
  have ha := (show InR (eVotes a) from hin (.data (eVotes a)) (by simp)).votes
  have hb := (show InR (eVotes b) from hin (.data (eVotes b)) (by simp)).votes
  have hn0 : c0.es.length ≤ 0 := Nat.le_of_eq (by rw [he]; rfl)
  refine R [] ?_
  refine W.seq (R [] ?_)
  refine W.block (W.loop hc0 (ι := Nat) (fun k => ⟨65, frOf [(2, .data (I l)), (3, .ptr 0 []), (4, .ptr 1 []), (12, .data (I k))], [.var (eVotes a) [], .var (eVotes b) []]⟩)
    (fun k => k ≤ 4 ∧ ∀ i : Nat, i < k → (i : Int) = l ∨ a i ≤ 0 ∨ b i ≤ 0 ∨ a i = b i) (fun k => 4 - k) 0 ⟨by omega, fun i hi => by omega⟩ ?_ ?_)
  · exact Le.cut _ 2 (by omega) ⟨⟨by with_unfolding_all rfl, rfl⟩, ⟨by with_unfolding_all rfl, rfl⟩, ⟨by with_unfolding_all rfl, rfl⟩, ⟨by with_unfolding_all rfl, rfl⟩, trivial⟩ rfl
  · intro k ⟨hk, hm⟩
    refine R [] ?_
    refine W.seq (C (fun h => ?_) (fun h => ?_))
    · have hk : k < 4 := by have := of_decide_eq_true h; omega
      refine W.skip (W.seq (W.block ?_))
      refine R [] ?_
      refine RD [] (ho := ?ob) ?_
      case ob => exact ⟨fun _ => ⟨by omega, by omega⟩, fun _ => ⟨by omega, by omega⟩, fun _ => ⟨by omega, by omega⟩, fun _ => ⟨by omega, by omega⟩, trivial⟩
      refine C (fun h => ?_) (fun h => ?_)
      · refine R [.data (.bool true)] (ho := by exact ⟨counts_keep, trivial⟩) ?_
        exact W.ret (End 0 hn0 ⟨rfl, rfl⟩)
      · refine W.skip ?_
        refine R1 [] ?_
        refine ⟨k + 1, ⟨by omega, fun i hi => ?_⟩, by omega, Le.cut _ 2 (by omega) ⟨⟨by with_unfolding_all rfl, rfl⟩, ⟨by with_unfolding_all rfl, rfl⟩, ⟨by with_unfolding_all rfl, rfl⟩, ⟨sl_int (wrap_cast hk (by omega)), rfl⟩, trivial⟩ rfl⟩
        rcases Nat.lt_or_ge i k with h2 | h2
        · exact hm i h2
        · have : i = k := by omega
          subst this
          simp only [Int.toNat_natCast] at h
          simp only [Bool.cond_false_right, Bool.and_eq_false_iff, Bool.not_eq_false', beq_iff_eq, decide_eq_false_iff_not] at h
          omega
    · have hk : k = 4 := by have := of_decide_eq_false h; omega
      subst hk
      refine W.exit ?_
      refine R [.tuple [.data (I (mostV a)), .data (.bool (mostOk a))]] (ho := by exact ⟨most_spec _, trivial⟩) ?_
      refine R [.tuple [.data (I (mostV b)), .data (.bool (mostOk b))]] (ho := by exact ⟨most_spec _, trivial⟩) ?_
      refine R [.data (.bool true)] (ho := by exact ⟨fun _ => counts_keep, trivial⟩) ?_
      refine W.ret (EndB 0 hn0 ?_)
      simp only [Bool.cond_false_right, Bool.cond_true_left, Bool.and_true, Bool.or_eq_true, Bool.not_eq_true', beq_iff_eq]
      cases h1 : mostN a 10 with
      | none => exact .inl (.inl (by simp only [mostOk, h1, Option.isSome]))
      | some x =>
        cases h2 : mostN b 10 with
        | none => exact .inl (.inr (by simp only [mostOk, h2, Option.isSome]))
        | some y =>
          refine .inr ?_
          simp only [mostV, h1, h2, optV]
          exact meet hm (mostN_count h1) (mostN_count h2)

end Go.W
