/-
  The reference's wire, walked: leaders, what is wrong with a word.
-/
import Derived.Test.YthpjdjofcbnoiabFl
import Derived.Test.YthpjdjofcbnoiabFd
namespace Go.W
open Go.Proofs

theorem tmod4 (n : Int) : (n % 4 = Int.tmod n 4 ∧ 0 ≤ n) ∨ (Int.tmod n 4 = - ((-n) % 4) ∧ n < 0) := by
  rcases Int.lt_or_le n 0 with h | h
  · right
    refine ⟨?_, h⟩
    have : Int.tmod n 4 = - Int.tmod (-n) 4 := by rw [Int.neg_tmod]; omega
    rw [this, Int.tmod_eq_emod_of_nonneg (by omega)]
  · exact .inl ⟨(Int.tmod_eq_emod_of_nonneg h).symm, h⟩

set_option maxRecDepth 100000 in
theorem low_spec (n : Int) : Pure Try.prog 96 [.data (I n)] (.data (I (n % 4))) := by
  refine spec_of ttok Try.func96 rfl (by kernel_rfl) (by exact Nat.le_of_ble_eq_true rfl) fun hin hie c0 hc0 he => ?_
  have hn0 : c0.es.length ≤ 0 := Nat.le_of_eq (by rw [he]; rfl)
  have h1 := tmod4 n
  have h2 : IntKind.i64.wrap (Int.tmod n 4) = Int.tmod n 4 := by
    refine i64_wrap ?_ ?_ <;> omega
  have h3 : IntKind.i64.wrap (Int.tmod n 4 + 4) = Int.tmod n 4 + 4 := by
    refine i64_wrap ?_ ?_ <;> omega
  have h4 : Int.tmod (Int.tmod n 4 + 4) 4 = n % 4 := by
    rw [Int.tmod_eq_emod_of_nonneg (by omega)]; omega
  refine R [] ?_
  refine R [] (ho := by rw [h3, h4]; exact ⟨by omega, h2, by omega, i64_wrap (by omega) (by omega), trivial⟩) ?_
  refine W.ret (EndI 0 hn0 ?_)
  rw [h3, h4]

set_option maxRecDepth 100000 in
theorem leaderOf_spec (h r : Int) : Pure Try.prog 85 [.data (I h), .data (I r)] (.data (I (leader h r))) := by
  refine spec_of ttok Try.func85 rfl (by kernel_rfl) (by exact Nat.le_of_ble_eq_true rfl) fun hin hie c0 hc0 he => ?_
  have hn0 : c0.es.length ≤ 0 := Nat.le_of_eq (by rw [he]; rfl)
  refine R [] ?_
  refine R [] ?_
  refine R [.data (I (h % 4)), .data (I (r % 4)), .data (I (IntKind.i64.wrap (h % 4 + r % 4) % 4))] (ho := by exact ⟨low_spec h, low_spec r, low_spec _, trivial⟩) ?_
  refine W.ret (EndI 0 hn0 ?_)
  rw [i64_wrap (by omega) (by omega)]; rfl

def least (w : Word) : Int := if w.kind == 1 then 1 else 0
def refErr (w : Word) : Int :=
  if !within w.kind 1 3 then 3
  else if !within w.frm 0 3 || !within w.height 0 3 || !within w.round 0 5 || !within w.value (least w) 9 then 2
  else if w.kind == 1 && !within w.valid (-1) (w.round - 1) then 2
  else if decide (1 < w.kind) && !(w.valid == 0) then 1 else 0

theorem refErr_eq (w : Word) : refErr w = goodW w := by
  have b1 : (!within w.kind 1 3) = badKind w := by
    rw [Bool.eq_iff_iff]
    simp only [within, badKind, Bool.not_eq_true', Bool.and_eq_false_iff, Bool.or_eq_true, decide_eq_true_eq, decide_eq_false_iff_not]
    omega
  unfold refErr goodW
  rw [b1]
  cases hk : badKind w with
  | true => rfl
  | false =>
    have b2 : (!within w.frm 0 3 || !within w.height 0 3 || !within w.round 0 5 || !within w.value (least w) 9) = (badPlace w || badValue w) := by
      rw [Bool.eq_iff_iff]
      unfold least
      simp only [badKind, Bool.or_eq_false_iff, decide_eq_false_iff_not] at hk
      simp only [within, badPlace, badValue, Bool.not_eq_true', Bool.and_eq_false_iff, Bool.or_eq_true, Bool.and_eq_true, decide_eq_true_eq, decide_eq_false_iff_not, beq_iff_eq]
      split <;> omega
    rw [b2]
    simp only [Bool.false_eq_true, if_false]
    cases hp : badPlace w with
    | true => rfl
    | false =>
      cases hv : badValue w with
      | true => rfl
      | false =>
        simp only [Bool.or_false, Bool.false_eq_true, if_false]
        have b3 : (w.kind == 1 && !within w.valid (-1) (w.round - 1)) = badValid w := by
          rw [Bool.eq_iff_iff]
          simp only [within, badValid, Bool.not_eq_true', Bool.and_eq_false_iff, Bool.or_eq_true, Bool.and_eq_true, decide_eq_true_eq, decide_eq_false_iff_not, beq_iff_eq]
          omega
        rw [b3]
        cases badValid w with
        | true => rfl
        | false =>
          have b4 : (decide (1 < w.kind) && !(w.valid == 0)) = badForm w := by
            rw [Bool.eq_iff_iff]
            simp only [badKind, Bool.or_eq_false_iff, decide_eq_false_iff_not] at hk
            simp only [badForm, Bool.not_eq_true', Bool.and_eq_true, decide_eq_true_eq, beq_eq_false_iff_ne]
            omega
          rw [b4]

set_option maxRecDepth 100000 in
theorem wordError_spec (w : Word) : Pure Try.prog 77 [.data (eWord w)] (.data (I (goodW w))) := by
  refine spec_of ttok Try.func77 rfl (by kernel_rfl) (by exact Nat.le_of_ble_eq_true rfl) fun hin hie c0 hc0 he => ?_
  have hn0 : c0.es.length ≤ 0 := Nat.le_of_eq (by rw [he]; rfl)
  rw [← refErr_eq]
  refine R [] ?_
  refine W.seq (R [.data (.bool (within w.kind 1 3))] (ho := by exact ⟨within_spec _ _ _, trivial⟩) ?_)
  refine C (fun h => ?_) (fun h => ?_)
  · refine R [] ?_
    refine W.ret (EndI 0 hn0 ?_)
    have h : (!within w.kind 1 3) = true := h
    simp only [refErr, h, if_true]
  have h1 : (!within w.kind 1 3) = false := h
  clear h
  refine W.skip ?_
  refine R [] ?_
  refine W.seq (R [] ?_)
  refine C (fun h => ?_) (fun h => ?_)
  rotate_left
  refine W.skip (W.le hc0 (Le.cut [(1, .ptr 0 []), (3, .data (I (least w)))] 1 (by omega) ⟨⟨by with_unfolding_all rfl, rfl⟩, ⟨sl_int ?ea, rfl⟩, trivial⟩ (by with_unfolding_all rfl)) ?_)
  case ea => simp only [least, show (w.kind == 1) = false from h, Bool.false_eq_true, if_false]
  rotate_left
  refine R1 [] ?_
  refine (W.le hc0 (Le.cut [(1, .ptr 0 []), (3, .data (I (least w)))] 1 (by omega) ⟨⟨by with_unfolding_all rfl, rfl⟩, ⟨sl_int ?eb, rfl⟩, trivial⟩ (by with_unfolding_all rfl)) ?_)
  case eb => simp only [least, show (w.kind == 1) = true from h, if_true]
  all_goals
    refine W.seq (R [.data (.bool (within w.frm 0 3)), .data (.bool (within w.height 0 3)), .data (.bool (within w.round 0 5)), .data (.bool (within w.value (least w) 9))] (ho := by exact ⟨within_spec _ _ _, fun _ => within_spec _ _ _, fun _ => within_spec _ _ _, fun _ => within_spec _ _ _, trivial⟩) ?_)
    refine C (fun h => ?_) (fun h => ?_)
    · have h2 : (!within w.frm 0 3 || !within w.height 0 3 || !within w.round 0 5 || !within w.value (least w) 9) = true := by simpa only [bif_or] using h
      refine R [] ?_
      refine W.ret (EndI 0 hn0 ?_)
      simp only [refErr, h1, h2, if_true, Bool.false_eq_true, if_false]
    have h2 : (!within w.frm 0 3 || !within w.height 0 3 || !within w.round 0 5 || !within w.value (least w) 9) = false := by simpa only [bif_or] using h
    clear h
    have hr : IntKind.i64.wrap (w.round - 1) = w.round - 1 := by
      simp only [within, Bool.or_eq_false_iff, Bool.not_eq_false', Bool.and_eq_true, decide_eq_true_eq] at h2
      exact i64_wrap (by omega) (by omega)
    refine W.skip ?_
    refine W.seq (R [.data (.bool (within w.valid (-1) (IntKind.i64.wrap (w.round - 1))))] (ho := by exact ⟨fun _ => within_spec _ _ _, trivial⟩) ?_)
    refine C (fun h => ?_) (fun h => ?_)
    · have h3 : (w.kind == 1 && !within w.valid (-1) (w.round - 1)) = true := by rw [hr] at h; simpa only [bif_and] using h
      refine R [] ?_
      refine W.ret (EndI 0 hn0 ?_)
      simp only [refErr, h1, h2, h3, if_true, Bool.false_eq_true, if_false]
    have h3 : (w.kind == 1 && !within w.valid (-1) (w.round - 1)) = false := by rw [hr] at h; simpa only [bif_and] using h
    clear h
    refine W.skip ?_
    refine W.seq (R [] ?_)
    refine C (fun h => ?_) (fun h => ?_)
    · have h4 : (decide (1 < w.kind) && !(w.valid == 0)) = true := by simpa only [bif_and, gt_iff_lt] using h
      refine R [] ?_
      refine W.ret (EndI 0 hn0 ?_)
      simp only [refErr, h1, h2, h3, h4, if_true, Bool.false_eq_true, if_false]
    have h4 : (decide (1 < w.kind) && !(w.valid == 0)) = false := by simpa only [bif_and, gt_iff_lt] using h
    refine W.skip ?_
    refine R [] ?_
    refine W.ret (EndI 0 hn0 ?_)
    simp only [refErr, h1, h2, h3, h4, Bool.false_eq_true, if_false]

end Go.W
