/-
  Package votes, walked: counting.
-/
import Derived.Test.YthpjdjofcbnoiacFa
namespace Go.W
open Go.Proofs

theorem i64_range {n : Int} (h : IntKind.i64.wrap n = n) : -9223372036854775808 ≤ n ∧ n < 9223372036854775808 := by
  simp [IntKind.wrap, IntKind.bits, IntKind.signed] at h
  split at h <;> omega
theorem i64_wrap {n : Int} (h1 : -9223372036854775808 ≤ n) (h2 : n < 9223372036854775808) : IntKind.i64.wrap n = n := by
  simp [IntKind.wrap, IntKind.bits, IntKind.signed]
  split <;> omega

theorem InR.i64 {n : Int} (h : InR (I n)) : -9223372036854775808 ≤ n ∧ n < 9223372036854775808 := by
  cases h with
  | int h => exact i64_range h

theorem InR.votes {v : Nat → Int} (h : InR (eVotes v)) : ∀ k, k < 4 → -9223372036854775808 ≤ v k ∧ v k < 9223372036854775808 := by
  cases h with
  | arr h => exact fun k hk => (h k hk).i64

/-- Of the first k, how many have said x. -/
def cnt (v : Nat → Int) (x : Int) : Nat → Int
  | 0 => 0
  | k + 1 => cnt v x k + if 0 < v k ∧ v k - 1 = x then 1 else 0
def count (v : Nat → Int) (x : Int) : Int := cnt v x 4

theorem cnt_bd (v : Nat → Int) (x : Int) : ∀ k, 0 ≤ cnt v x k ∧ cnt v x k ≤ k
  | 0 => by simp [cnt]
  | k + 1 => by
    have := cnt_bd v x k
    simp only [cnt]
    split <;> omega

theorem wrap_cast {k n : Nat} (h : k < n) (hn : n ≤ 1000000) : IntKind.i64.wrap ((k : Int) + 1) = ((k + 1 : Nat) : Int) := by rw [i64_wrap (by omega) (by omega)]; omega

set_option maxRecDepth 100000 in
theorem count_spec (v : Nat → Int) (x : Int) : Pure Try.prog 57 [.data (eVotes v), .data (I x)] (.data (I (count v x))) := by
  refine spec_of ttok Try.func57 rfl (by kernel_rfl) (by exact Nat.le_of_ble_eq_true rfl) fun hin hie c0 hc0 he => ?_
  have hv := (show InR (eVotes v) from hin (.data (eVotes v)) (by simp)).votes
  have hn0 : c0.es.length ≤ 0 := Nat.le_of_eq (by rw [he]; rfl)
  refine R [] ?_
  refine R [] ?_
  refine W.seq (R [] ?_)
  refine W.block (W.loop hc0 (ι := Nat) (fun k => ⟨24, frOf [(1, .data (I x)), (5, .data (I (cnt v x k))), (8, .data (eVotes v)), (9, .data (I k))], []⟩) (fun k => k ≤ 4) (fun k => 4 - k) 0 (by omega) ?_ ?_)
  · exact Le.cut _ 0 hn0 ⟨⟨by with_unfolding_all rfl, rfl⟩, ⟨by with_unfolding_all rfl, rfl⟩, ⟨by with_unfolding_all rfl, rfl⟩, ⟨by with_unfolding_all rfl, rfl⟩, trivial⟩ rfl
  · intro k hk
    have hb := cnt_bd v x k
    refine R [] ?_
    refine W.seq (C (fun h => ?_) (fun h => ?_))
    · have hk : k < 4 := by have := of_decide_eq_true h; omega
      have hvk := hv k hk
      refine W.skip (W.seq (W.block ?_))
      refine R [] (ho := by exact ⟨⟨by omega, by omega⟩, trivial⟩) ?_
      refine R [] ?_
      refine C (fun h => ?_) (fun h => ?_)
      · have hd : 0 < v k ∧ v k - 1 = x := by
          simp only [Int.toNat_natCast] at h
          by_cases h0 : 0 < v k
          · rw [decide_eq_true h0, cond_true, i64_wrap (by omega) (by omega)] at h; exact ⟨h0, by simpa using h⟩
          · rw [decide_eq_false h0] at h; cases h
        refine R1 [] ?_
        refine R1 [] ?_
        refine ⟨k + 1, by omega, by omega, Le.cut _ 0 hn0 ⟨⟨by with_unfolding_all rfl, rfl⟩, ⟨sl_int ?_, rfl⟩, ⟨by with_unfolding_all rfl, rfl⟩, ⟨sl_int (wrap_cast hk (by omega)), rfl⟩, trivial⟩ rfl⟩
        rw [i64_wrap (by omega) (by omega), cnt, if_pos hd]
      · have hd : ¬ (0 < v k ∧ v k - 1 = x) := by
          simp only [Int.toNat_natCast] at h
          rintro ⟨h0, h1⟩
          rw [decide_eq_true h0, cond_true, i64_wrap (by omega) (by omega)] at h
          simp [h1] at h
        refine W.skip ?_
        refine R1 [] ?_
        refine ⟨k + 1, by omega, by omega, Le.cut _ 0 hn0 ⟨⟨by with_unfolding_all rfl, rfl⟩, ⟨sl_int ?_, rfl⟩, ⟨by with_unfolding_all rfl, rfl⟩, ⟨sl_int (wrap_cast hk (by omega)), rfl⟩, trivial⟩ rfl⟩
        rw [cnt, if_neg hd]; omega
    · have hk : k = 4 := by have := of_decide_eq_false h; omega
      subst hk
      refine W.exit ?_
      refine R [] ?_
      exact W.ret (End 0 hn0 ⟨rfl, rfl⟩)

end Go.W
