/-
  The reference's most, walked.
-/
import Derived.Test.YthpjdjofcbnoiaaFd
import Derived.Test.YthpjdjofcbnoiaaPb
namespace Go.W
open Go.Proofs

set_option maxRecDepth 100000 in
theorem mostOf_spec (v : Nat → Int) : Pure Try.prog 16 [.data (eVotes v)] (.tuple [.data (I (mostV v)), .data (.bool (mostOk v))]) := by
  refine spec_of ttok Try.func16 rfl (by kernel_rfl) (by exact Nat.le_of_ble_eq_true rfl) fun hin hie c0 hc0 he => ?_
  have hv := (show InR (eVotes v) from hin (.data (eVotes v)) (by simp)).votes
  have hn0 : c0.es.length ≤ 0 := Nat.le_of_eq (by rw [he]; rfl)
  refine R [] ?_
  refine W.seq (R [] ?_)
  refine W.block (W.loop hc0 (ι := Nat) (fun k => ⟨23, frOf [(1, .ptr 0 []), (6, .data (I k))], [.var (eVotes v) []]⟩) (fun k => k ≤ 2 ∧ ∀ i, i < k → asks v i = false) (fun k => 2 - k) 0 ⟨by omega, fun i hi => by omega⟩ ?_ ?_)
  · exact Le.cut _ 1 (by omega) ⟨⟨by with_unfolding_all rfl, rfl⟩, ⟨by with_unfolding_all rfl, rfl⟩, trivial⟩ rfl
  · intro k ⟨hk, hm⟩
    refine R [] ?_
    refine W.seq (C (fun h => ?_) (fun h => ?_))
    · have hk : k < 2 := by have := of_decide_eq_true h; omega
      refine W.skip (W.seq (W.block ?_))
      refine R [] ?_
      refine R [] (ho := by exact ⟨⟨by omega, by omega⟩, trivial⟩) ?_
      refine R [.data (.bool (within (IntKind.i64.wrap (v k - 1)) 0 9)), .data (I (count v (IntKind.i64.wrap (v k - 1))))] (ho := by exact ⟨within_spec _ _ _, fun _ => said_spec _ _, trivial⟩) ?_
      refine C (fun h => ?_) (fun h => ?_)
      · have hd : asks v k = true := by
          simpa only [asks, Int.toNat_natCast, Bool.cond_false_right, ge_iff_le] using h
        obtain ⟨n, hn, hN⟩ := asks_yes hd
        refine R [] ?_
        refine W.ret (End 0 hn0 ⟨?_, rfl⟩)
        refine Eq.trans ?_ (most_some hN)
        rw [hn]; rfl
      · have hd : asks v k = false := by
          simpa only [asks, Int.toNat_natCast, Bool.cond_false_right, ge_iff_le] using h
        refine W.skip ?_
        refine R1 [] ?_
        refine ⟨k + 1, ⟨by omega, fun i hi => ?_⟩, by omega, Le.cut _ 1 (by omega) ⟨⟨by with_unfolding_all rfl, rfl⟩, ⟨sl_int (wrap_cast hk (by omega)), rfl⟩, trivial⟩ rfl⟩
        rcases Nat.lt_or_ge i k with h2 | h2
        · exact hm i h2
        · have : i = k := by omega
          subst this; exact hd
    · have hk : k = 2 := by have := of_decide_eq_false h; omega
      subst hk
      refine W.exit ?_
      refine R [] ?_
      refine W.ret (End 0 hn0 ⟨?_, rfl⟩)
      exact most_none (asks_no hv (hm 0 (by omega)) (hm 1 (by omega)))

end Go.W
