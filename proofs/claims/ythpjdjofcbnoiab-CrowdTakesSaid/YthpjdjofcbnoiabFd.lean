/-
  The reference's counting, walked.
-/
import Derived.Test.YthpjdjofcbnoiabFl
namespace Go.W
open Go.Proofs


set_option maxRecDepth 100000 in
theorem within_spec (n lo hi : Int) : Pure Try.prog 54 [.data (I n), .data (I lo), .data (I hi)] (.data (.bool (within n lo hi))) := by
  refine spec_of ttok Try.func54 rfl (by kernel_rfl) (by exact Nat.le_of_ble_eq_true rfl) fun hin hie c0 hc0 he => ?_
  have hn0 : c0.es.length ≤ 0 := Nat.le_of_eq (by rw [he]; rfl)
  refine R [] ?_
  refine R [] ?_
  refine W.ret (EndB 0 hn0 ?_)
  simp only [within, Bool.cond_false_right, ge_iff_le]

/-- Of the first k, how many say what is wanted. -/
def cntQ (v : Nat → Int) (q : Int → Bool) : Nat → Int
  | 0 => 0
  | k + 1 => cntQ v q k + if 1 ≤ v k ∧ q (v k - 1) = true then 1 else 0

theorem cntQ_bd (v : Nat → Int) (q : Int → Bool) : ∀ k, 0 ≤ cntQ v q k ∧ cntQ v q k ≤ k
  | 0 => by simp [cntQ]
  | k + 1 => by
    have := cntQ_bd v q k
    simp only [cntQ]
    split <;> omega

set_option maxRecDepth 100000 in
theorem countOf_spec1 (v : Nat → Int) {h : FuncId} {d : D} {q : Int → Bool} (hq : ∀ x, Pure Try.prog h [.data (I x), .cptr d] (.data (.bool (q x)))) :
    Pure Try.prog 88 [.data (eVotes v), .func h [.cptr d]] (.data (I (cntQ v q 4))) := by
  refine spec_of ttok Try.func88 rfl (by kernel_rfl) (by exact Nat.le_of_ble_eq_true rfl) fun hin hie c0 hc0 he => ?_
  have hv := (show InR (eVotes v) from hin (.data (eVotes v)) (by simp)).votes
  have hn0 : c0.es.length ≤ 0 := Nat.le_of_eq (by rw [he]; rfl)
  refine R [] ?_
  refine R [] ?_
  refine W.seq (R [] ?_)
  refine W.block (W.loop hc0 (ι := Nat) (fun k => ⟨26, frOf [(1, .func h [.cptr d]), (2, .ptr 0 []), (5, .data (I (cntQ v q k))), (7, .data (I k))], [.var (eVotes v) []]⟩) (fun k => k ≤ 4) (fun k => 4 - k) 0 (by omega) ?_ ?_)
  · exact Le.cut _ 1 (by omega) ⟨⟨by with_unfolding_all rfl, rfl⟩, ⟨by with_unfolding_all rfl, rfl⟩, ⟨by with_unfolding_all rfl, rfl⟩, ⟨by with_unfolding_all rfl, rfl⟩, trivial⟩ rfl
  · intro k hk
    have hb := cntQ_bd v q k
    refine R [] ?_
    refine W.seq (C (fun h => ?_) (fun h => ?_))
    · have hk : k < 4 := by have := of_decide_eq_true h; omega
      have hvk := hv k hk
      refine W.skip (W.seq (W.block ?_))
      refine R [] ?_
      refine R [.data (.bool (q (IntKind.i64.wrap (v k - 1))))] (ho := by exact ⟨⟨by omega, by omega⟩, fun _ => ⟨by omega, by omega⟩, fun _ => hq _, trivial⟩) ?_
      refine C (fun h => ?_) (fun h => ?_)
      · have hd : 1 ≤ v k ∧ q (v k - 1) = true := by
          simp only [Int.toNat_natCast, Bool.cond_false_right, Bool.and_eq_true, decide_eq_true_eq] at h
          rw [i64_wrap (by omega) (by omega)] at h
          exact h
        refine R1 [] ?_
        refine R1 [] ?_
        refine ⟨k + 1, by omega, by omega, Le.cut _ 1 (by omega) ⟨⟨by with_unfolding_all rfl, rfl⟩, ⟨by with_unfolding_all rfl, rfl⟩, ⟨sl_int ?_, rfl⟩, ⟨sl_int (wrap_cast hk (by omega)), rfl⟩, trivial⟩ rfl⟩
        rw [i64_wrap (by omega) (by omega), cntQ, if_pos hd]
      · have hd : ¬ (1 ≤ v k ∧ q (v k - 1) = true) := by
          simp only [Int.toNat_natCast, Bool.cond_false_right, Bool.and_eq_false_iff, decide_eq_false_iff_not] at h
          rintro ⟨h1, h2⟩
          rw [i64_wrap (by omega) (by omega), h2] at h
          rcases h with h | h
          · omega
          · cases h
        refine W.skip ?_
        refine R1 [] ?_
        refine ⟨k + 1, by omega, by omega, Le.cut _ 1 (by omega) ⟨⟨by with_unfolding_all rfl, rfl⟩, ⟨by with_unfolding_all rfl, rfl⟩, ⟨sl_int ?_, rfl⟩, ⟨sl_int (wrap_cast hk (by omega)), rfl⟩, trivial⟩ rfl⟩
        rw [cntQ, if_neg hd]; omega
    · have hk : k = 4 := by have := of_decide_eq_false h; omega
      subst hk
      refine W.exit ?_
      refine R [] ?_
      exact W.ret (End 0 hn0 ⟨rfl, rfl⟩)

set_option maxRecDepth 100000 in
theorem countOf_spec0 (v : Nat → Int) {h : FuncId} {q : Int → Bool} (hq : ∀ x, Pure Try.prog h [.data (I x)] (.data (.bool (q x)))) :
    Pure Try.prog 88 [.data (eVotes v), .func h []] (.data (I (cntQ v q 4))) := by
  refine spec_of ttok Try.func88 rfl (by kernel_rfl) (by exact Nat.le_of_ble_eq_true rfl) fun hin hie c0 hc0 he => ?_
  have hv := (show InR (eVotes v) from hin (.data (eVotes v)) (by simp)).votes
  have hn0 : c0.es.length ≤ 0 := Nat.le_of_eq (by rw [he]; rfl)
  refine R [] ?_
  refine R [] ?_
  refine W.seq (R [] ?_)
  refine W.block (W.loop hc0 (ι := Nat) (fun k => ⟨26, frOf [(1, .func h []), (2, .ptr 0 []), (5, .data (I (cntQ v q k))), (7, .data (I k))], [.var (eVotes v) []]⟩) (fun k => k ≤ 4) (fun k => 4 - k) 0 (by omega) ?_ ?_)
  · exact Le.cut _ 1 (by omega) ⟨⟨by with_unfolding_all rfl, rfl⟩, ⟨by with_unfolding_all rfl, rfl⟩, ⟨by with_unfolding_all rfl, rfl⟩, ⟨by with_unfolding_all rfl, rfl⟩, trivial⟩ rfl
  · intro k hk
    have hb := cntQ_bd v q k
    refine R [] ?_
    refine W.seq (C (fun h => ?_) (fun h => ?_))
    · have hk : k < 4 := by have := of_decide_eq_true h; omega
      have hvk := hv k hk
      refine W.skip (W.seq (W.block ?_))
      refine R [] ?_
      refine R [.data (.bool (q (IntKind.i64.wrap (v k - 1))))] (ho := by exact ⟨⟨by omega, by omega⟩, fun _ => ⟨by omega, by omega⟩, fun _ => hq _, trivial⟩) ?_
      refine C (fun h => ?_) (fun h => ?_)
      · have hd : 1 ≤ v k ∧ q (v k - 1) = true := by
          simp only [Int.toNat_natCast, Bool.cond_false_right, Bool.and_eq_true, decide_eq_true_eq] at h
          rw [i64_wrap (by omega) (by omega)] at h
          exact h
        refine R1 [] ?_
        refine R1 [] ?_
        refine ⟨k + 1, by omega, by omega, Le.cut _ 1 (by omega) ⟨⟨by with_unfolding_all rfl, rfl⟩, ⟨by with_unfolding_all rfl, rfl⟩, ⟨sl_int ?_, rfl⟩, ⟨sl_int (wrap_cast hk (by omega)), rfl⟩, trivial⟩ rfl⟩
        rw [i64_wrap (by omega) (by omega), cntQ, if_pos hd]
      · have hd : ¬ (1 ≤ v k ∧ q (v k - 1) = true) := by
          simp only [Int.toNat_natCast, Bool.cond_false_right, Bool.and_eq_false_iff, decide_eq_false_iff_not] at h
          rintro ⟨h1, h2⟩
          rw [i64_wrap (by omega) (by omega), h2] at h
          rcases h with h | h
          · omega
          · cases h
        refine W.skip ?_
        refine R1 [] ?_
        refine ⟨k + 1, by omega, by omega, Le.cut _ 1 (by omega) ⟨⟨by with_unfolding_all rfl, rfl⟩, ⟨by with_unfolding_all rfl, rfl⟩, ⟨sl_int ?_, rfl⟩, ⟨sl_int (wrap_cast hk (by omega)), rfl⟩, trivial⟩ rfl⟩
        rw [cntQ, if_neg hd]; omega
    · have hk : k = 4 := by have := of_decide_eq_false h; omega
      subst hk
      refine W.exit ?_
      refine R [] ?_
      exact W.ret (End 0 hn0 ⟨rfl, rfl⟩)


set_option maxRecDepth 100000 in
theorem said1_spec (x y : Int) : Pure Try.prog 99 [.data (I x), .cptr (I y)] (.data (.bool (x == y))) := by
  refine spec_of ttok Try.func99 rfl (by kernel_rfl) (by exact Nat.le_of_ble_eq_true rfl) fun hin hie c0 hc0 he => ?_
  have hn0 : c0.es.length ≤ 0 := Nat.le_of_eq (by rw [he]; rfl)
  refine R [] ?_
  refine R [] ?_
  exact W.ret (End 0 hn0 ⟨rfl, rfl⟩)

set_option maxRecDepth 100000 in
theorem allOf1_spec (x : Int) : Pure Try.prog 89 [.data (I x)] (.data (.bool true)) := by
  refine spec_of ttok Try.func89 rfl (by kernel_rfl) (by exact Nat.le_of_ble_eq_true rfl) fun hin hie c0 hc0 he => ?_
  have hn0 : c0.es.length ≤ 0 := Nat.le_of_eq (by rw [he]; rfl)
  refine R [] ?_
  refine R [] ?_
  exact W.ret (End 0 hn0 ⟨rfl, rfl⟩)

theorem cntQ_eq (v : Nat → Int) (y : Int) : cntQ v (fun x => x == y) 4 = count v y := by
  have : ∀ k, cntQ v (fun x => x == y) k = cnt v y k := by
    intro k
    induction k with
    | zero => rfl
    | succ k ih =>
      simp only [cntQ, cnt, ih, beq_iff_eq]
      congr 1
  exact this 4

theorem cntQ_all (v : Nat → Int) : cntQ v (fun _ => true) 4 = all4 v := by
  have : ∀ k, cntQ v (fun _ => true) k = allK v k := by
    intro k
    induction k with
    | zero => rfl
    | succ k ih =>
      simp only [cntQ, allK, ih, and_true]
      congr 1
  exact this 4

set_option maxRecDepth 100000 in
theorem said_spec (v : Nat → Int) (y : Int) : Pure Try.prog 97 [.data (eVotes v), .data (I y)] (.data (I (count v y))) := by
  refine spec_of ttok Try.func97 rfl (by kernel_rfl) (by exact Nat.le_of_ble_eq_true rfl) fun hin hie c0 hc0 he => ?_
  have hn0 : c0.es.length ≤ 0 := Nat.le_of_eq (by rw [he]; rfl)
  refine R [] ?_
  refine R [.data (I (cntQ v (fun x => x == y) 4))] (ho := by exact ⟨countOf_spec1 v fun x => said1_spec x y, trivial⟩) ?_
  refine W.ret (EndI 0 hn0 ?_)
  exact cntQ_eq v y

set_option maxRecDepth 100000 in
theorem allOf_spec (v : Nat → Int) : Pure Try.prog 61 [.data (eVotes v)] (.data (I (all4 v))) := by
  refine spec_of ttok Try.func61 rfl (by kernel_rfl) (by exact Nat.le_of_ble_eq_true rfl) fun hin hie c0 hc0 he => ?_
  have hn0 : c0.es.length ≤ 0 := Nat.le_of_eq (by rw [he]; rfl)
  refine R [] ?_
  refine R [.data (I (cntQ v (fun _ => true) 4))] (ho := by exact ⟨countOf_spec0 v fun x => allOf1_spec x, trivial⟩) ?_
  refine W.ret (EndI 0 hn0 ?_)
  exact cntQ_all v

end Go.W
