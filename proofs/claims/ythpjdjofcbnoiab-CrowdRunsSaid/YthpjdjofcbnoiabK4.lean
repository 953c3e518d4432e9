/-
  Texts for the law CrowdRuns: Fd Fn.
-/
import Derived.Test.YthpjdjofcbnoiabQFl

/-
  The reference's counting, walked.
-/
namespace Go.W
open Go.Proofs


set_option maxRecDepth 100000 in
theorem within_spec (n lo hi : Int) : Pure Try.prog 54 [.data (I n), .data (I lo), .data (I hi)] (.data (.bool (within n lo hi))) := by
  refine spec_of ttok Try.func54 rfl (by kernel_rfl) (by exact Nat.le_of_ble_eq_true rfl) fun hin hie c0 hc0 he => ?_
  have hn0 : c0.es.length ≤ 0 := Nat.le_of_eq (by rw [he]; rfl)
  refine R [] ?_
  refine R [] ?_
  refine W.ret (EndB 0 hn0 ?_)
  simp only [within, Bool.cond_false_right, ge_iff_le]

/-- Of the first k, how many say what is wanted. -/
def cntQ (v : Nat → Int) (q : Int → Bool) : Nat → Int
  | 0 => 0
  | k + 1 => cntQ v q k + if 1 ≤ v k ∧ q (v k - 1) = true then 1 else 0

theorem cntQ_bd (v : Nat → Int) (q : Int → Bool) : ∀ k, 0 ≤ cntQ v q k ∧ cntQ v q k ≤ k
  | 0 => by simp [cntQ]
  | k + 1 => by
    have := cntQ_bd v q k
    simp only [cntQ]
    split <;> omega

set_option maxRecDepth 100000 in
theorem countOf_spec1 (v : Nat → Int) {h : FuncId} {d : D} {q : Int → Bool} (hq : ∀ x, Pure Try.prog h [.data (I x), .cptr d] (.data (.bool (q x)))) :
    Pure Try.prog 88 [.data (eVotes v), .func h [.cptr d]] (.data (I (cntQ v q 4))) := by
  refine spec_of ttok Try.func88 rfl (by kernel_rfl) (by exact Nat.le_of_ble_eq_true rfl) fun hin hie c0 hc0 he => ?_
  have hv := (show InR (eVotes v) from hin (.data (eVotes v)) (by simp)).votes
  have hn0 : c0.es.length ≤ 0 := Nat.le_of_eq (by rw [he]; rfl)
  refine R [] ?_
  refine R [] ?_
  refine W.seq (R [] ?_)
  refine W.block (W.loop hc0 (ι := Nat) (fun k => ⟨26, frOf [(1, .func h [.cptr d]), (2, .ptr 0 []), (5, .data (I (cntQ v q k))), (7, .data (I k))], [.var (eVotes v) []]⟩) (fun k => k ≤ 4) (fun k => 4 - k) 0 (by omega) ?_ ?_)
  · exact Le.cut _ 1 (by omega) ⟨⟨by with_unfolding_all rfl, rfl⟩, ⟨by with_unfolding_all rfl, rfl⟩, ⟨by with_unfolding_all rfl, rfl⟩, ⟨by with_unfolding_all rfl, rfl⟩, trivial⟩ rfl
  · intro k hk
    have hb := cntQ_bd v q k
    refine R [] ?_
    refine W.seq (C (fun h => ?_) (fun h => ?_))
    · have hk : k < 4 := by have := of_decide_eq_true h; omega
      have hvk := hv k hk
      refine W.skip (W.seq (W.block ?_))
      refine R [] ?_
      refine R [.data (.bool (q (IntKind.i64.wrap (v k - 1))))] (ho := by exact ⟨⟨by omega, by omega⟩, fun _ => ⟨by omega, by omega⟩, fun _ => hq _, trivial⟩) ?_
      refine C (fun h => ?_) (fun h => ?_)
      · have hd : 1 ≤ v k ∧ q (v k - 1) = true := by
          simp only [Int.toNat_natCast, Bool.cond_false_right, Bool.and_eq_true, decide_eq_true_eq] at h
          rw [i64_wrap (by omega) (by omega)] at h
          exact h
        refine R1 [] ?_
        refine R1 [] ?_
        refine ⟨k + 1, by omega, by omega, Le.cut _ 1 (by omega) ⟨⟨by with_unfolding_all rfl, rfl⟩, ⟨by with_unfolding_all rfl, rfl⟩, ⟨sl_int ?_, rfl⟩, ⟨sl_int (wrap_cast hk (by omega)), rfl⟩, trivial⟩ rfl⟩
        rw [i64_wrap (by omega) (by omega), cntQ, if_pos hd]
      · have hd : ¬ (1 ≤ v k ∧ q (v k - 1) = true) := by
          simp only [Int.toNat_natCast, Bool.cond_false_right, Bool.and_eq_false_iff, decide_eq_false_iff_not] at h
          rintro ⟨h1, h2⟩
          rw [i64_wrap (by omega) (by omega), h2] at h
          rcases h with h | h
          · omega
          · cases h
        refine W.skip ?_
        refine R1 [] ?_
        refine ⟨k + 1, by omega, by omega, Le.cut _ 1 (by omega) ⟨⟨by with_unfolding_all rfl, rfl⟩, ⟨by with_unfolding_all rfl, rfl⟩, ⟨sl_int ?_, rfl⟩, ⟨sl_int (wrap_cast hk (by omega)), rfl⟩, trivial⟩ rfl⟩
        rw [cntQ, if_neg hd]; omega
    · have hk : k = 4 := by have := of_decide_eq_false h; omega
      subst hk
      refine W.exit ?_
      refine R [] ?_
      exact W.ret (End 0 hn0 ⟨rfl, rfl⟩)

set_option maxRecDepth 100000 in
theorem countOf_spec0 (v : Nat → Int) {h : FuncId} {q : Int → Bool} (hq : ∀ x, Pure Try.prog h [.data (I x)] (.data (.bool (q x)))) :
    Pure Try.prog 88 [.data (eVotes v), .func h []] (.data (I (cntQ v q 4))) := by
  refine spec_of ttok Try.func88 rfl (by kernel_rfl) (by exact Nat.le_of_ble_eq_true rfl) fun hin hie c0 hc0 he => ?_
  have hv := (show InR (eVotes v) from hin (.data (eVotes v)) (by simp)).votes
  have hn0 : c0.es.length ≤ 0 := Nat.le_of_eq (by rw [he]; rfl)
  refine R [] ?_
  refine R [] ?_
  refine W.seq (R [] ?_)
  refine W.block (W.loop hc0 (ι := Nat) (fun k => ⟨26, frOf [(1, .func h []), (2, .ptr 0 []), (5, .data (I (cntQ v q k))), (7, .data (I k))], [.var (eVotes v) []]⟩) (fun k => k ≤ 4) (fun k => 4 - k) 0 (by omega) ?_ ?_)
  · exact Le.cut _ 1 (by omega) ⟨⟨by with_unfolding_all rfl, rfl⟩, ⟨by with_unfolding_all rfl, rfl⟩, ⟨by with_unfolding_all rfl, rfl⟩, ⟨by with_unfolding_all rfl, rfl⟩, trivial⟩ rfl
  · intro k hk
    have hb := cntQ_bd v q k
    refine R [] ?_
    refine W.seq (C (fun h => ?_) (fun h => ?_))
    · have hk : k < 4 := by have := of_decide_eq_true h; omega
      have hvk := hv k hk
      refine W.skip (W.seq (W.block ?_))
      refine R [] ?_
      refine R [.data (.bool (q (IntKind.i64.wrap (v k - 1))))] (ho := by exact ⟨⟨by omega, by omega⟩, fun _ => ⟨by omega, by omega⟩, fun _ => hq _, trivial⟩) ?_
      refine C (fun h => ?_) (fun h => ?_)
      · have hd : 1 ≤ v k ∧ q (v k - 1) = true := by
          simp only [Int.toNat_natCast, Bool.cond_false_right, Bool.and_eq_true, decide_eq_true_eq] at h
          rw [i64_wrap (by omega) (by omega)] at h
          exact h
        refine R1 [] ?_
        refine R1 [] ?_
        refine ⟨k + 1, by omega, by omega, Le.cut _ 1 (by omega) ⟨⟨by with_unfolding_all rfl, rfl⟩, ⟨by with_unfolding_all rfl, rfl⟩, ⟨sl_int ?_, rfl⟩, ⟨sl_int (wrap_cast hk (by omega)), rfl⟩, trivial⟩ rfl⟩
        rw [i64_wrap (by omega) (by omega), cntQ, if_pos hd]
      · have hd : ¬ (1 ≤ v k ∧ q (v k - 1) = true) := by
          simp only [Int.toNat_natCast, Bool.cond_false_right, Bool.and_eq_false_iff, decide_eq_false_iff_not] at h
          rintro ⟨h1, h2⟩
          rw [i64_wrap (by omega) (by omega), h2] at h
          rcases h with h | h
          · omega
          · cases h
        refine W.skip ?_
        refine R1 [] ?_
        refine ⟨k + 1, by omega, by omega, Le.cut _ 1 (by omega) ⟨⟨by with_unfolding_all rfl, rfl⟩, ⟨by with_unfolding_all rfl, rfl⟩, ⟨sl_int ?_, rfl⟩, ⟨sl_int (wrap_cast hk (by omega)), rfl⟩, trivial⟩ rfl⟩
        rw [cntQ, if_neg hd]; omega
    · have hk : k = 4 := by have := of_decide_eq_false h; omega
      subst hk
      refine W.exit ?_
      refine R [] ?_
      exact W.ret (End 0 hn0 ⟨rfl, rfl⟩)


set_option maxRecDepth 100000 in
theorem said1_spec (x y : Int) : Pure Try.prog 99 [.data (I x), .cptr (I y)] (.data (.bool (x == y))) := by
  refine spec_of ttok Try.func99 rfl (by kernel_rfl) (by exact Nat.le_of_ble_eq_true rfl) fun hin hie c0 hc0 he => ?_
  have hn0 : c0.es.length ≤ 0 := Nat.le_of_eq (by rw [he]; rfl)
  refine R [] ?_
  refine R [] ?_
  exact W.ret (End 0 hn0 ⟨rfl, rfl⟩)

set_option maxRecDepth 100000 in
theorem allOf1_spec (x : Int) : Pure Try.prog 89 [.data (I x)] (.data (.bool true)) := by
  refine spec_of ttok Try.func89 rfl (by kernel_rfl) (by exact Nat.le_of_ble_eq_true rfl) fun hin hie c0 hc0 he => ?_
  have hn0 : c0.es.length ≤ 0 := Nat.le_of_eq (by rw [he]; rfl)
  refine R [] ?_
  refine R [] ?_
  exact W.ret (End 0 hn0 ⟨rfl, rfl⟩)

theorem cntQ_eq (v : Nat → Int) (y : Int) : cntQ v (fun x => x == y) 4 = count v y := by
  have : ∀ k, cntQ v (fun x => x == y) k = cnt v y k := by
    intro k
    induction k with
    | zero => rfl
    | succ k ih =>
      simp only [cntQ, cnt, ih, beq_iff_eq]
      congr 1
  exact this 4

theorem cntQ_all (v : Nat → Int) : cntQ v (fun _ => true) 4 = all4 v := by
  have : ∀ k, cntQ v (fun _ => true) k = allK v k := by
    intro k
    induction k with
    | zero => rfl
    | succ k ih =>
      simp only [cntQ, allK, ih, and_true]
      congr 1
  exact this 4

set_option maxRecDepth 100000 in
theorem said_spec (v : Nat → Int) (y : Int) : Pure Try.prog 97 [.data (eVotes v), .data (I y)] (.data (I (count v y))) := by
  refine spec_of ttok Try.func97 rfl (by kernel_rfl) (by exact Nat.le_of_ble_eq_true rfl) fun hin hie c0 hc0 he => ?_
  have hn0 : c0.es.length ≤ 0 := Nat.le_of_eq (by rw [he]; rfl)
  refine R [] ?_
  refine R [.data (I (cntQ v (fun x => x == y) 4))] (ho := by exact ⟨countOf_spec1 v fun x => said1_spec x y, trivial⟩) ?_
  refine W.ret (EndI 0 hn0 ?_)
  exact cntQ_eq v y

set_option maxRecDepth 100000 in
theorem allOf_spec (v : Nat → Int) : Pure Try.prog 61 [.data (eVotes v)] (.data (I (all4 v))) := by
  refine spec_of ttok Try.func61 rfl (by kernel_rfl) (by exact Nat.le_of_ble_eq_true rfl) fun hin hie c0 hc0 he => ?_
  have hn0 : c0.es.length ≤ 0 := Nat.le_of_eq (by rw [he]; rfl)
  refine R [] ?_
  refine R [.data (I (cntQ v (fun _ => true) 4))] (ho := by exact ⟨countOf_spec0 v fun x => allOf1_spec x, trivial⟩) ?_
  refine W.ret (EndI 0 hn0 ?_)
  exact cntQ_all v

end Go.W

/-
  The reference's wire, walked: leaders, what is wrong with a word.
-/
namespace Go.W
open Go.Proofs

theorem tmod4 (n : Int) : (n % 4 = Int.tmod n 4 ∧ 0 ≤ n) ∨ (Int.tmod n 4 = - ((-n) % 4) ∧ n < 0) := by
  rcases Int.lt_or_le n 0 with h | h
  · right
    refine ⟨?_, h⟩
    have : Int.tmod n 4 = - Int.tmod (-n) 4 := by rw [Int.neg_tmod]; omega
    rw [this, Int.tmod_eq_emod_of_nonneg (by omega)]
  · exact .inl ⟨(Int.tmod_eq_emod_of_nonneg h).symm, h⟩

set_option maxRecDepth 100000 in
theorem low_spec (n : Int) : Pure Try.prog 96 [.data (I n)] (.data (I (n % 4))) := by
  refine spec_of ttok Try.func96 rfl (by kernel_rfl) (by exact Nat.le_of_ble_eq_true rfl) fun hin hie c0 hc0 he => ?_
  have hn0 : c0.es.length ≤ 0 := Nat.le_of_eq (by rw [he]; rfl)
  have h1 := tmod4 n
  have h2 : IntKind.i64.wrap (Int.tmod n 4) = Int.tmod n 4 := by
    refine i64_wrap ?_ ?_ <;> omega
  have h3 : IntKind.i64.wrap (Int.tmod n 4 + 4) = Int.tmod n 4 + 4 := by
    refine i64_wrap ?_ ?_ <;> omega
  have h4 : Int.tmod (Int.tmod n 4 + 4) 4 = n % 4 := by
    rw [Int.tmod_eq_emod_of_nonneg (by omega)]; omega
  refine R [] ?_
  refine R [] (ho := by rw [h3, h4]; exact ⟨by omega, h2, by omega, i64_wrap (by omega) (by omega), trivial⟩) ?_
  refine W.ret (EndI 0 hn0 ?_)
  rw [h3, h4]

set_option maxRecDepth 100000 in
theorem leaderOf_spec (h r : Int) : Pure Try.prog 85 [.data (I h), .data (I r)] (.data (I (leader h r))) := by
  refine spec_of ttok Try.func85 rfl (by kernel_rfl) (by exact Nat.le_of_ble_eq_true rfl) fun hin hie c0 hc0 he => ?_
  have hn0 : c0.es.length ≤ 0 := Nat.le_of_eq (by rw [he]; rfl)
  refine R [] ?_
  refine R [] ?_
  refine R [.data (I (h % 4)), .data (I (r % 4)), .data (I (IntKind.i64.wrap (h % 4 + r % 4) % 4))] (ho := by exact ⟨low_spec h, low_spec r, low_spec _, trivial⟩) ?_
  refine W.ret (EndI 0 hn0 ?_)
  rw [i64_wrap (by omega) (by omega)]; rfl

def least (w : Word) : Int := if w.kind == 1 then 1 else 0
def refErr (w : Word) : Int :=
  if !within w.kind 1 3 then 3
  else if !within w.frm 0 3 || !within w.height 0 3 || !within w.round 0 5 || !within w.value (least w) 9 then 2
  else if w.kind == 1 && !within w.valid (-1) (w.round - 1) then 2
  else if decide (1 < w.kind) && !(w.valid == 0) then 1 else 0

theorem refErr_eq (w : Word) : refErr w = goodW w := by
  have b1 : (!within w.kind 1 3) = badKind w := by
    rw [Bool.eq_iff_iff]
    simp only [within, badKind, Bool.not_eq_true', Bool.and_eq_false_iff, Bool.or_eq_true, decide_eq_true_eq, decide_eq_false_iff_not]
    omega
  unfold refErr goodW
  rw [b1]
  cases hk : badKind w with
  | true => rfl
  | false =>
    have b2 : (!within w.frm 0 3 || !within w.height 0 3 || !within w.round 0 5 || !within w.value (least w) 9) = (badPlace w || badValue w) := by
      rw [Bool.eq_iff_iff]
      unfold least
      simp only [badKind, Bool.or_eq_false_iff, decide_eq_false_iff_not] at hk
      simp only [within, badPlace, badValue, Bool.not_eq_true', Bool.and_eq_false_iff, Bool.or_eq_true, Bool.and_eq_true, decide_eq_true_eq, decide_eq_false_iff_not, beq_iff_eq]
      split <;> omega
    rw [b2]
    simp only [Bool.false_eq_true, if_false]
    cases hp : badPlace w with
    | true => rfl
    | false =>
      cases hv : badValue w with
      | true => rfl
      | false =>
        simp only [Bool.or_false, Bool.false_eq_true, if_false]
        have b3 : (w.kind == 1 && !within w.valid (-1) (w.round - 1)) = badValid w := by
          rw [Bool.eq_iff_iff]
          simp only [within, badValid, Bool.not_eq_true', Bool.and_eq_false_iff, Bool.or_eq_true, Bool.and_eq_true, decide_eq_true_eq, decide_eq_false_iff_not, beq_iff_eq]
          omega
        rw [b3]
        cases badValid w with
        | true => rfl
        | false =>
          have b4 : (decide (1 < w.kind) && !(w.valid == 0)) = badForm w := by
            rw [Bool.eq_iff_iff]
            simp only [badKind, Bool.or_eq_false_iff, decide_eq_false_iff_not] at hk
            simp only [badForm, Bool.not_eq_true', Bool.and_eq_true, decide_eq_true_eq, beq_eq_false_iff_ne]
            omega
          rw [b4]

set_option maxRecDepth 100000 in
theorem wordError_spec (w : Word) : Pure Try.prog 77 [.data (eWord w)] (.data (I (goodW w))) := by
  refine spec_of ttok Try.func77 rfl (by kernel_rfl) (by exact Nat.le_of_ble_eq_true rfl) fun hin hie c0 hc0 he => ?_
  have hn0 : c0.es.length ≤ 0 := Nat.le_of_eq (by rw [he]; rfl)
  rw [← refErr_eq]
  refine R [] ?_
  refine W.seq (R [.data (.bool (within w.kind 1 3))] (ho := by exact ⟨within_spec _ _ _, trivial⟩) ?_)
  refine C (fun h => ?_) (fun h => ?_)
  · refine R [] ?_
    refine W.ret (EndI 0 hn0 ?_)
    have h : (!within w.kind 1 3) = true := h
    simp only [refErr, h, if_true]
  have h1 : (!within w.kind 1 3) = false := h
  clear h
  refine W.skip ?_
  refine R [] ?_
  refine W.seq (R [] ?_)
  refine C (fun h => ?_) (fun h => ?_)
  rotate_left
  refine W.skip (W.le hc0 (Le.cut [(1, .ptr 0 []), (3, .data (I (least w)))] 1 (by omega) ⟨⟨by with_unfolding_all rfl, rfl⟩, ⟨sl_int ?ea, rfl⟩, trivial⟩ (by with_unfolding_all rfl)) ?_)
  case ea => simp only [least, show (w.kind == 1) = false from h, Bool.false_eq_true, if_false]
  rotate_left
  refine R1 [] ?_
  refine (W.le hc0 (Le.cut [(1, .ptr 0 []), (3, .data (I (least w)))] 1 (by omega) ⟨⟨by with_unfolding_all rfl, rfl⟩, ⟨sl_int ?eb, rfl⟩, trivial⟩ (by with_unfolding_all rfl)) ?_)
  case eb => simp only [least, show (w.kind == 1) = true from h, if_true]
  all_goals
    refine W.seq (R [.data (.bool (within w.frm 0 3)), .data (.bool (within w.height 0 3)), .data (.bool (within w.round 0 5)), .data (.bool (within w.value (least w) 9))] (ho := by exact ⟨within_spec _ _ _, fun _ => within_spec _ _ _, fun _ => within_spec _ _ _, fun _ => within_spec _ _ _, trivial⟩) ?_)
    refine C (fun h => ?_) (fun h => ?_)
    · have h2 : (!within w.frm 0 3 || !within w.height 0 3 || !within w.round 0 5 || !within w.value (least w) 9) = true := by simpa only [bif_or] using h
      refine R [] ?_
      refine W.ret (EndI 0 hn0 ?_)
      simp only [refErr, h1, h2, if_true, Bool.false_eq_true, if_false]
    have h2 : (!within w.frm 0 3 || !within w.height 0 3 || !within w.round 0 5 || !within w.value (least w) 9) = false := by simpa only [bif_or] using h
    clear h
    have hr : IntKind.i64.wrap (w.round - 1) = w.round - 1 := by
      simp only [within, Bool.or_eq_false_iff, Bool.not_eq_false', Bool.and_eq_true, decide_eq_true_eq] at h2
      exact i64_wrap (by omega) (by omega)
    refine W.skip ?_
    refine W.seq (R [.data (.bool (within w.valid (-1) (IntKind.i64.wrap (w.round - 1))))] (ho := by exact ⟨fun _ => within_spec _ _ _, trivial⟩) ?_)
    refine C (fun h => ?_) (fun h => ?_)
    · have h3 : (w.kind == 1 && !within w.valid (-1) (w.round - 1)) = true := by rw [hr] at h; simpa only [bif_and] using h
      refine R [] ?_
      refine W.ret (EndI 0 hn0 ?_)
      simp only [refErr, h1, h2, h3, if_true, Bool.false_eq_true, if_false]
    have h3 : (w.kind == 1 && !within w.valid (-1) (w.round - 1)) = false := by rw [hr] at h; simpa only [bif_and] using h
    clear h
    refine W.skip ?_
    refine W.seq (R [] ?_)
    refine C (fun h => ?_) (fun h => ?_)
    · have h4 : (decide (1 < w.kind) && !(w.valid == 0)) = true := by simpa only [bif_and, gt_iff_lt] using h
      refine R [] ?_
      refine W.ret (EndI 0 hn0 ?_)
      simp only [refErr, h1, h2, h3, h4, if_true, Bool.false_eq_true, if_false]
    have h4 : (decide (1 < w.kind) && !(w.valid == 0)) = false := by simpa only [bif_and, gt_iff_lt] using h
    refine W.skip ?_
    refine R [] ?_
    refine W.ret (EndI 0 hn0 ?_)
    simp only [refErr, h1, h2, h3, h4, Bool.false_eq_true, if_false]

end Go.W
