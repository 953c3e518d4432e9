/-
  The reference's counting, walked.
-/
import Derived.Test.YthpjdjofcbnoiaaFc
namespace Go.W
open Go.Proofs

def within (n lo hi : Int) : Bool := decide (lo ≤ n) && decide (n ≤ hi)

set_option maxRecDepth 100000 in
theorem within_spec (n lo hi : Int) : Pure Try.prog 53 [.data (I n), .data (I lo), .data (I hi)] (.data (.bool (within n lo hi))) := by
  refine spec_of ttok Try.func53 rfl (by kernel_rfl) (by exact Nat.le_of_ble_eq_true rfl) fun hin hie c0 hc0 he => ?_
  have hn0 : c0.es.length ≤ 0 := Nat.le_of_eq (by rw [he]; rfl)
  refine R [] ?_
  refine R [] ?_
  refine W.ret (EndB 0 hn0 ?_)
  simp only [within, Bool.cond_false_right, ge_iff_le]

/-- Of the first k, how many say what is wanted. -/
def cntQ (v : Nat → Int) (q : Int → Bool) : Nat → Int
  | 0 => 0
  | k + 1 => cntQ v q k + if 1 ≤ v k ∧ q (v k - 1) = true then 1 else 0

theorem cntQ_bd (v : Nat → Int) (q : Int → Bool) : ∀ k, 0 ≤ cntQ v q k ∧ cntQ v q k ≤ k
  | 0 => by simp [cntQ]
  | k + 1 => by
    have := cntQ_bd v q k
    simp only [cntQ]
    split <;> omega

set_option maxRecDepth 100000 in
theorem countOf_spec1 (v : Nat → Int) {h : FuncId} {d : D} {q : Int → Bool} (hq : ∀ x, Pure Try.prog h [.data (I x), .cptr d] (.data (.bool (q x)))) :
    Pure Try.prog 18 [.data (eVotes v), .func h [.cptr d]] (.data (I (cntQ v q 4))) := by
  refine spec_of ttok Try.func18 rfl (by kernel_rfl) (by exact Nat.le_of_ble_eq_true rfl) fun hin hie c0 hc0 he => ?_
  have hv := (show InR (eVotes v) from hin (.data (eVotes v)) (by simp)).votes
  have hn0 : c0.es.length ≤ 0 := Nat.le_of_eq (by rw [he]; rfl)
  refine R [] ?_
  refine R [] ?_
  refine W.seq (R [] ?_)
  refine W.block (W.loop hc0 (ι := Nat) (fun k => ⟨26, frOf [(1, .func h [.cptr d]), (2, .ptr 0 []), (5, .data (I (cntQ v q k))), (7, .data (I k))], [.var (eVotes v) []]⟩) (fun k => k ≤ 4) (fun k => 4 - k) 0 (by omega) ?_ ?_)
  · exact Le.cut _ 1 (by omega) ⟨⟨by with_unfolding_all rfl, rfl⟩, ⟨by with_unfolding_all rfl, rfl⟩, ⟨by with_unfolding_all rfl, rfl⟩, ⟨by with_unfolding_all rfl, rfl⟩, trivial⟩ rfl
  · intro k hk
    have hb := cntQ_bd v q k
    refine R [] ?_
    refine W.seq (C (fun h => ?_) (fun h => ?_))
    · have hk : k < 4 := by have := of_decide_eq_true h; omega
      have hvk := hv k hk
      refine W.skip (W.seq (W.block ?_))
      refine R [] ?_
      refine R [.data (.bool (q (IntKind.i64.wrap (v k - 1))))] (ho := by exact ⟨⟨by omega, by omega⟩, fun _ => ⟨by omega, by omega⟩, fun _ => hq _, trivial⟩) ?_
      refine C (fun h => ?_) (fun h => ?_)
      · have hd : 1 ≤ v k ∧ q (v k - 1) = true := by
          simp only [Int.toNat_natCast, Bool.cond_false_right, Bool.and_eq_true, decide_eq_true_eq] at h
          rw [i64_wrap (by omega) (by omega)] at h
          exact h
        refine R1 [] ?_
        refine R1 [] ?_
        refine ⟨k + 1, by omega, by omega, Le.cut _ 1 (by omega) ⟨⟨by with_unfolding_all rfl, rfl⟩, ⟨by with_unfolding_all rfl, rfl⟩, ⟨sl_int ?_, rfl⟩, ⟨sl_int (wrap_cast hk (by omega)), rfl⟩, trivial⟩ rfl⟩
        rw [i64_wrap (by omega) (by omega), cntQ, if_pos hd]
      · have hd : ¬ (1 ≤ v k ∧ q (v k - 1) = true) := by
          simp only [Int.toNat_natCast, Bool.cond_false_right, Bool.and_eq_false_iff, decide_eq_false_iff_not] at h
          rintro ⟨h1, h2⟩
          rw [i64_wrap (by omega) (by omega), h2] at h
          rcases h with h | h
          · omega
          · cases h
        refine W.skip ?_
        refine R1 [] ?_
        refine ⟨k + 1, by omega, by omega, Le.cut _ 1 (by omega) ⟨⟨by with_unfolding_all rfl, rfl⟩, ⟨by with_unfolding_all rfl, rfl⟩, ⟨sl_int ?_, rfl⟩, ⟨sl_int (wrap_cast hk (by omega)), rfl⟩, trivial⟩ rfl⟩
        rw [cntQ, if_neg hd]; omega
    · have hk : k = 4 := by have := of_decide_eq_false h; omega
      subst hk
      refine W.exit ?_
      refine R [] ?_
      exact W.ret (End 0 hn0 ⟨rfl, rfl⟩)

set_option maxRecDepth 100000 in
theorem countOf_spec0 (v : Nat → Int) {h : FuncId} {q : Int → Bool} (hq : ∀ x, Pure Try.prog h [.data (I x)] (.data (.bool (q x)))) :
    Pure Try.prog 18 [.data (eVotes v), .func h []] (.data (I (cntQ v q 4))) := by
  refine spec_of ttok Try.func18 rfl (by kernel_rfl) (by exact Nat.le_of_ble_eq_true rfl) fun hin hie c0 hc0 he => ?_
  have hv := (show InR (eVotes v) from hin (.data (eVotes v)) (by simp)).votes
  have hn0 : c0.es.length ≤ 0 := Nat.le_of_eq (by rw [he]; rfl)
  refine R [] ?_
  refine R [] ?_
  refine W.seq (R [] ?_)
  refine W.block (W.loop hc0 (ι := Nat) (fun k => ⟨26, frOf [(1, .func h []), (2, .ptr 0 []), (5, .data (I (cntQ v q k))), (7, .data (I k))], [.var (eVotes v) []]⟩) (fun k => k ≤ 4) (fun k => 4 - k) 0 (by omega) ?_ ?_)
  · exact Le.cut _ 1 (by omega) ⟨⟨by with_unfolding_all rfl, rfl⟩, ⟨by with_unfolding_all rfl, rfl⟩, ⟨by with_unfolding_all rfl, rfl⟩, ⟨by with_unfolding_all rfl, rfl⟩, trivial⟩ rfl
  · intro k hk
    have hb := cntQ_bd v q k
    refine R [] ?_
    refine W.seq (C (fun h => ?_) (fun h => ?_))
    · have hk : k < 4 := by have := of_decide_eq_true h; omega
      have hvk := hv k hk
      refine W.skip (W.seq (W.block ?_))
      refine R [] ?_
      refine R [.data (.bool (q (IntKind.i64.wrap (v k - 1))))] (ho := by exact ⟨⟨by omega, by omega⟩, fun _ => ⟨by omega, by omega⟩, fun _ => hq _, trivial⟩) ?_
      refine C (fun h => ?_) (fun h => ?_)
      · have hd : 1 ≤ v k ∧ q (v k - 1) = true := by
          simp only [Int.toNat_natCast, Bool.cond_false_right, Bool.and_eq_true, decide_eq_true_eq] at h
          rw [i64_wrap (by omega) (by omega)] at h
          exact h
        refine R1 [] ?_
        refine R1 [] ?_
        refine ⟨k + 1, by omega, by omega, Le.cut _ 1 (by omega) ⟨⟨by with_unfolding_all rfl, rfl⟩, ⟨by with_unfolding_all rfl, rfl⟩, ⟨sl_int ?_, rfl⟩, ⟨sl_int (wrap_cast hk (by omega)), rfl⟩, trivial⟩ rfl⟩
        rw [i64_wrap (by omega) (by omega), cntQ, if_pos hd]
      · have hd : ¬ (1 ≤ v k ∧ q (v k - 1) = true) := by
          simp only [Int.toNat_natCast, Bool.cond_false_right, Bool.and_eq_false_iff, decide_eq_false_iff_not] at h
          rintro ⟨h1, h2⟩
          rw [i64_wrap (by omega) (by omega), h2] at h
          rcases h with h | h
          · omega
          · cases h
        refine W.skip ?_
        refine R1 [] ?_
        refine ⟨k + 1, by omega, by omega, Le.cut _ 1 (by omega) ⟨⟨by with_unfolding_all rfl, rfl⟩, ⟨by with_unfolding_all rfl, rfl⟩, ⟨sl_int ?_, rfl⟩, ⟨sl_int (wrap_cast hk (by omega)), rfl⟩, trivial⟩ rfl⟩
        rw [cntQ, if_neg hd]; omega
    · have hk : k = 4 := by have := of_decide_eq_false h; omega
      subst hk
      refine W.exit ?_
      refine R [] ?_
      exact W.ret (End 0 hn0 ⟨rfl, rfl⟩)


set_option maxRecDepth 100000 in
theorem said1_spec (x y : Int) : Pure Try.prog 72 [.data (I x), .cptr (I y)] (.data (.bool (x == y))) := by
  refine spec_of ttok Try.func72 rfl (by kernel_rfl) (by exact Nat.le_of_ble_eq_true rfl) fun hin hie c0 hc0 he => ?_
  have hn0 : c0.es.length ≤ 0 := Nat.le_of_eq (by rw [he]; rfl)
  refine R [] ?_
  refine R [] ?_
  exact W.ret (End 0 hn0 ⟨rfl, rfl⟩)

set_option maxRecDepth 100000 in
theorem allOf1_spec (x : Int) : Pure Try.prog 55 [.data (I x)] (.data (.bool true)) := by
  refine spec_of ttok Try.func55 rfl (by kernel_rfl) (by exact Nat.le_of_ble_eq_true rfl) fun hin hie c0 hc0 he => ?_
  have hn0 : c0.es.length ≤ 0 := Nat.le_of_eq (by rw [he]; rfl)
  refine R [] ?_
  refine R [] ?_
  exact W.ret (End 0 hn0 ⟨rfl, rfl⟩)

theorem cntQ_eq (v : Nat → Int) (y : Int) : cntQ v (fun x => x == y) 4 = count v y := by
  have : ∀ k, cntQ v (fun x => x == y) k = cnt v y k := by
    intro k
    induction k with
    | zero => rfl
    | succ k ih =>
      simp only [cntQ, cnt, ih, beq_iff_eq]
      congr 1
  exact this 4

theorem cntQ_all (v : Nat → Int) : cntQ v (fun _ => true) 4 = all4 v := by
  have : ∀ k, cntQ v (fun _ => true) k = allK v k := by
    intro k
    induction k with
    | zero => rfl
    | succ k ih =>
      simp only [cntQ, allK, ih, and_true]
      congr 1
  exact this 4

set_option maxRecDepth 100000 in
theorem said_spec (v : Nat → Int) (y : Int) : Pure Try.prog 54 [.data (eVotes v), .data (I y)] (.data (I (count v y))) := by
  refine spec_of ttok Try.func54 rfl (by kernel_rfl) (by exact Nat.le_of_ble_eq_true rfl) fun hin hie c0 hc0 he => ?_
  have hn0 : c0.es.length ≤ 0 := Nat.le_of_eq (by rw [he]; rfl)
  refine R [] ?_
  refine R [.data (I (cntQ v (fun x => x == y) 4))] (ho := by exact ⟨countOf_spec1 v fun x => said1_spec x y, trivial⟩) ?_
  refine W.ret (EndI 0 hn0 ?_)
  exact cntQ_eq v y

set_option maxRecDepth 100000 in
theorem allOf_spec (v : Nat → Int) : Pure Try.prog 21 [.data (eVotes v)] (.data (I (all4 v))) := by
  refine spec_of ttok Try.func21 rfl (by kernel_rfl) (by exact Nat.le_of_ble_eq_true rfl) fun hin hie c0 hc0 he => ?_
  have hn0 : c0.es.length ≤ 0 := Nat.le_of_eq (by rw [he]; rfl)
  refine R [] ?_
  refine R [.data (I (cntQ v (fun _ => true) 4))] (ho := by exact ⟨countOf_spec0 v fun x => allOf1_spec x, trivial⟩) ?_
  refine W.ret (EndI 0 hn0 ?_)
  exact cntQ_all v

theorem tick_one {v : Nat → Int} {x : Int} {i : Nat} (h : 0 < tick v x i) : 0 < v i ∧ v i - 1 = x := by
  unfold tick at h
  split at h
  · assumption
  · omega

theorem count_uniq {v : Nat → Int} {x y : Int} (hx : 3 ≤ count v x) (hy : 3 ≤ count v y) : x = y :=
  meet (l := -1) (fun i _ => .inr (.inr (.inr rfl))) hx hy

theorem mostN_of {v : Nat → Int} {k : Nat} (h : 3 ≤ count v k) : ∀ n, k < n → mostN v n = some k
  | n + 1, hn => by
    simp only [mostN]
    rcases Nat.lt_or_ge k n with h1 | h1
    · simp [mostN_of h n h1]
    · have : k = n := by omega
      subst this
      cases hm : mostN v k with
      | none => simp [h]
      | some j =>
        have h2 := mostN_count hm
        have := count_uniq h2 h
        simp only [Option.some.injEq]
        omega

theorem mostN_none {v : Nat → Int} : ∀ n, (∀ k : Nat, k < n → ¬ 3 ≤ count v k) → mostN v n = none
  | 0, _ => rfl
  | n + 1, h => by
    simp only [mostN, mostN_none n fun k hk => h k (by omega)]
    rw [if_neg (h n (by omega))]

/-- A quorum has the first or the second. -/
theorem quorum_two {v : Nat → Int} {x : Int} (h : 3 ≤ count v x) : (0 < v 0 ∧ v 0 - 1 = x) ∨ (0 < v 1 ∧ v 1 - 1 = x) := by
  rw [count_tick] at h
  have b0 := tick_bd v x 0; have b1 := tick_bd v x 1; have b2 := tick_bd v x 2; have b3 := tick_bd v x 3
  rcases Int.lt_or_le 0 (tick v x 0) with h0 | h0
  · exact .inl (tick_one h0)
  · exact .inr (tick_one (by omega))

/-- What the reference asks of the first and the second. -/
def asks (v : Nat → Int) (k : Nat) : Bool := within (IntKind.i64.wrap (v k - 1)) 0 9 && decide (3 ≤ count v (IntKind.i64.wrap (v k - 1)))

theorem asks_yes {v : Nat → Int} {k : Nat} (h : asks v k = true) : ∃ n : Nat, (n : Int) = IntKind.i64.wrap (v k - 1) ∧ mostN v 10 = some n := by
  simp only [asks, within, Bool.and_eq_true, decide_eq_true_eq] at h
  refine ⟨(IntKind.i64.wrap (v k - 1)).toNat, by omega, ?_⟩
  refine mostN_of ?_ 10 (by omega)
  rw [Int.toNat_of_nonneg h.1.1]
  exact h.2

theorem asks_no {v : Nat → Int} (hv : ∀ k, k < 4 → -9223372036854775808 ≤ v k ∧ v k < 9223372036854775808) (h0 : asks v 0 = false) (h1 : asks v 1 = false) : mostN v 10 = none := by
  refine mostN_none 10 fun k hk hc => ?_
  rcases quorum_two hc with h | h
  · have := hv 0 (by omega)
    have e : IntKind.i64.wrap (v 0 - 1) = k := by rw [i64_wrap (by omega) (by omega)]; exact h.2
    simp only [asks, e, within] at h0
    simp at h0
    omega
  · have := hv 1 (by omega)
    have e : IntKind.i64.wrap (v 1 - 1) = k := by rw [i64_wrap (by omega) (by omega)]; exact h.2
    simp only [asks, e, within] at h1
    simp at h1
    omega

set_option maxRecDepth 100000 in
theorem mostOf_spec (v : Nat → Int) : Pure Try.prog 16 [.data (eVotes v)] (.tuple [.data (I (mostV v)), .data (.bool (mostOk v))]) := by
  refine spec_of ttok Try.func16 rfl (by kernel_rfl) (by exact Nat.le_of_ble_eq_true rfl) fun hin hie c0 hc0 he => ?_
  have hv := (show InR (eVotes v) from hin (.data (eVotes v)) (by simp)).votes
  have hn0 : c0.es.length ≤ 0 := Nat.le_of_eq (by rw [he]; rfl)
  refine R [] ?_
  refine W.seq (R [] ?_)
  refine W.block (W.loop hc0 (ι := Nat) (fun k => ⟨23, frOf [(1, .ptr 0 []), (6, .data (I k))], [.var (eVotes v) []]⟩) (fun k => k ≤ 2 ∧ ∀ i, i < k → asks v i = false) (fun k => 2 - k) 0 ⟨by omega, fun i hi => by omega⟩ ?_ ?_)
  · exact Le.cut _ 1 (by omega) ⟨⟨by with_unfolding_all rfl, rfl⟩, ⟨by with_unfolding_all rfl, rfl⟩, trivial⟩ rfl
  · intro k ⟨hk, hm⟩
    refine R [] ?_
    refine W.seq (C (fun h => ?_) (fun h => ?_))
    · have hk : k < 2 := by have := of_decide_eq_true h; omega
      refine W.skip (W.seq (W.block ?_))
      refine R [] ?_
      refine R [] (ho := by exact ⟨⟨by omega, by omega⟩, trivial⟩) ?_
      refine R [.data (.bool (within (IntKind.i64.wrap (v k - 1)) 0 9)), .data (I (count v (IntKind.i64.wrap (v k - 1))))] (ho := by exact ⟨within_spec _ _ _, fun _ => said_spec _ _, trivial⟩) ?_
      refine C (fun h => ?_) (fun h => ?_)
      · have hd : asks v k = true := by
          simpa only [asks, Int.toNat_natCast, Bool.cond_false_right, ge_iff_le] using h
        obtain ⟨n, hn, hN⟩ := asks_yes hd
        refine R [] ?_
        refine W.ret (End 0 hn0 ⟨?_, rfl⟩)
        refine Eq.trans ?_ (most_some hN)
        rw [hn]; rfl
      · have hd : asks v k = false := by
          simpa only [asks, Int.toNat_natCast, Bool.cond_false_right, ge_iff_le] using h
        refine W.skip ?_
        refine R1 [] ?_
        refine ⟨k + 1, ⟨by omega, fun i hi => ?_⟩, by omega, Le.cut _ 1 (by omega) ⟨⟨by with_unfolding_all rfl, rfl⟩, ⟨sl_int (wrap_cast hk (by omega)), rfl⟩, trivial⟩ rfl⟩
        rcases Nat.lt_or_ge i k with h2 | h2
        · exact hm i h2
        · have : i = k := by omega
          subst this; exact hd
    · have hk : k = 2 := by have := of_decide_eq_false h; omega
      subst hk
      refine W.exit ?_
      refine R [] ?_
      refine W.ret (End 0 hn0 ⟨?_, rfl⟩)
      exact most_none (asks_no hv (hm 0 (by omega)) (hm 1 (by omega)))

end Go.W
