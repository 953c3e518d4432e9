/-
  Package votes, walked: how many were heard; good sheets.
-/
import Derived.Test.YthpjdjofcbnoiacFi
namespace Go.W
open Go.Proofs

def spoke (s : Sheet) (r i : Nat) : Bool := decide (0 < s.wishes r i) || decide (0 < s.promises r i)
def hN (s : Sheet) (r : Nat) : Nat → Int
  | 0 => 0
  | k + 1 => hN s r k + if spoke s r k then 1 else 0
def heard (s : Sheet) (r : Int) : Int := if r < 0 ∨ 6 ≤ r then 0 else hN s r.toNat 4

theorem hN_bd (s : Sheet) (r : Nat) : ∀ k, 0 ≤ hN s r k ∧ hN s r k ≤ k
  | 0 => by simp [hN]
  | k + 1 => by
    have := hN_bd s r k
    simp only [hN]
    split <;> omega

set_option maxRecDepth 100000 in
theorem heard_spec (s : Sheet) (r : Int) : Pure Try.prog 56 [.data (eSheet s), .data (I r)] (.data (I (heard s r))) := by
  refine spec_of ttok Try.func56 rfl (by kernel_rfl) (by exact Nat.le_of_ble_eq_true rfl) fun hin hie c0 hc0 he => ?_
  have hn0 : c0.es.length ≤ 0 := Nat.le_of_eq (by rw [he]; rfl)
  refine R [] ?_
  refine W.seq (R [] ?_)
  refine C (fun h => ?_) (fun h => ?_)
  · have h : r < 0 ∨ 6 ≤ r := by simpa only [bif_or, Bool.or_eq_true, decide_eq_true_eq] using h
    refine R [] ?_
    refine W.ret (EndI 0 hn0 ?_)
    simp only [heard, if_pos h]
  have hr : ¬ (r < 0 ∨ 6 ≤ r) := by
    intro hh
    rw [bif_or] at h
    simp only [Bool.or_eq_false_iff, decide_eq_false_iff_not] at h
    omega
  clear h
  refine W.skip ?_
  refine R [] ?_
  refine W.seq (R [] ?_)
  refine W.block (W.loop hc0 (ι := Nat) (fun k => ⟨36, frOf [(1, .data (I r)), (2, .ptr 0 []), (5, .data (I (hN s r.toNat k))), (13, .data (I k))], [.var (eSheet s) []]⟩) (fun k => k ≤ 4) (fun k => 4 - k) 0 (by omega) ?_ ?_)
  · exact Le.cut _ 1 (by omega) ⟨⟨by with_unfolding_all rfl, rfl⟩, ⟨by with_unfolding_all rfl, rfl⟩, ⟨by with_unfolding_all rfl, rfl⟩, ⟨by with_unfolding_all rfl, rfl⟩, trivial⟩ (by with_unfolding_all rfl)
  · intro k hk
    have hb := hN_bd s r.toNat k
    refine R [] ?_
    refine W.seq (C (fun h => ?_) (fun h => ?_))
    · have hk : k < 4 := by have := of_decide_eq_true h; omega
      refine W.skip (W.seq (W.block ?_))
      refine R [] ?_
      refine R [] (ho := by exact ⟨⟨by omega, by omega⟩, ⟨by omega, by omega⟩, fun _ => ⟨by omega, by omega⟩, fun _ => ⟨by omega, by omega⟩, trivial⟩) ?_
      refine C (fun h => ?_) (fun h => ?_)
      · have hd : spoke s r.toNat k = true := by rw [bif_or] at h; exact h
        refine R1 [] ?_
        refine R1 [] ?_
        refine ⟨k + 1, by omega, by omega, Le.cut _ 1 (by omega) ⟨⟨by with_unfolding_all rfl, rfl⟩, ⟨by with_unfolding_all rfl, rfl⟩, ⟨sl_int ?_, rfl⟩, ⟨sl_int (wrap_cast hk (by omega)), rfl⟩, trivial⟩ (by with_unfolding_all rfl)⟩
        rw [i64_wrap (by omega) (by omega), hN, if_pos hd]
      · have hd : spoke s r.toNat k = false := by rw [bif_or] at h; exact h
        refine W.skip ?_
        refine R1 [] ?_
        refine ⟨k + 1, by omega, by omega, Le.cut _ 1 (by omega) ⟨⟨by with_unfolding_all rfl, rfl⟩, ⟨by with_unfolding_all rfl, rfl⟩, ⟨sl_int ?_, rfl⟩, ⟨sl_int (wrap_cast hk (by omega)), rfl⟩, trivial⟩ (by with_unfolding_all rfl)⟩
        rw [hN, hd]; simp
    · have hk : k = 4 := by have := of_decide_eq_false h; omega
      subst hk
      refine W.exit ?_
      refine R [] ?_
      refine W.ret (EndI 0 hn0 ?_)
      simp only [heard, if_neg hr]

/-! ### Good sheets -/

def goodC (c : Call) (r : Int) : Bool := if c.is then within c.value 1 9 && within c.valid (-1) (r - 1) else c.value == 0 && c.valid == 0
def goodP (a b : Int) : Bool := within a 0 10 && within b 0 10
def goodV (s : Sheet) (r : Nat) : Nat → Bool
  | 0 => true
  | k + 1 => goodV s r k && goodP (s.wishes r k) (s.promises r k)
def goodK (s : Sheet) : Nat → Bool
  | 0 => true
  | k + 1 => goodK s k && (goodC (s.calls k) k && goodV s k 4)
def goodS (s : Sheet) : Bool := goodK s 6

theorem goodV_of {s : Sheet} {r : Nat} : ∀ {n k : Nat}, goodP (s.wishes r k) (s.promises r k) = false → k < n → goodV s r n = false
  | 0, k, _, h => by omega
  | n + 1, k, h, hk => by
    simp only [goodV, Bool.and_eq_false_iff]
    rcases Nat.lt_or_ge k n with h1 | h1
    · exact .inl (goodV_of h h1)
    · have : k = n := by omega
      subst this; exact .inr h
theorem goodK_of {s : Sheet} : ∀ {n k : Nat}, (goodC (s.calls k) k && goodV s k 4) = false → k < n → goodK s n = false
  | 0, k, _, h => by omega
  | n + 1, k, h, hk => by
    simp only [goodK]
    rcases Nat.lt_or_ge k n with h1 | h1
    · rw [goodK_of h h1, Bool.false_and]
    · have : k = n := by omega
      subst this; rw [h, Bool.and_false]

theorem eqD_call0 (c : Call) : eqD (eCall c) (eCall .zero) = (!c.is && (c.value == 0 && c.valid == 0)) := by
  show ((((true && (c.is == false)) && (c.value == 0)) && (c.valid == 0)) = _)
  cases c.is <;> simp

theorem callBad_eq (c : Call) (r : Int) : ((!c.is && !eqD (eCall c) (eCall .zero)) || (c.is && (((decide (c.value < 1) || decide (9 < c.value)) || decide (c.valid < -1)) || decide (r ≤ c.valid)))) = !goodC c r := by
  rw [eqD_call0]
  unfold goodC within
  cases c.is with
  | true =>
    simp only [Bool.not_true, Bool.false_and, Bool.false_or, Bool.true_and, if_true]
    rw [Bool.eq_iff_iff]
    simp only [Bool.or_eq_true, Bool.not_eq_true', Bool.and_eq_false_iff, decide_eq_true_eq, decide_eq_false_iff_not]
    omega
  | false => simp

set_option maxRecDepth 100000 in
theorem goodS_spec (s : Sheet) : Pure Try.prog 50 [.data (eSheet s)] (.data (.bool (goodS s))) := by
  refine spec_of ttok Try.func50 rfl (by kernel_rfl) (by exact Nat.le_of_ble_eq_true rfl) fun hin hie c0 hc0 he => ?_
  have hn0 : c0.es.length ≤ 0 := Nat.le_of_eq (by rw [he]; rfl)
  refine R [] ?_
  refine W.seq (R [] ?_)
  refine W.block (W.loop hc0 (ι := Nat) (fun k => ⟨79, frOf [(1, .ptr 0 []), (8, .data (I k))], [.var (eSheet s) []]⟩) (fun k => k ≤ 6 ∧ goodK s k = true) (fun k => 6 - k) 0 ⟨by omega, rfl⟩ ?_ ?_)
  · exact Le.cut _ 1 (by omega) ⟨⟨by with_unfolding_all rfl, rfl⟩, ⟨by with_unfolding_all rfl, rfl⟩, trivial⟩ (by with_unfolding_all rfl)
  · intro k ⟨hk, hgk⟩
    refine R [] ?_
    refine W.seq (C (fun h => ?_) (fun h => ?_))
    · have hk : k < 6 := by have := of_decide_eq_true h; omega
      refine W.skip (W.seq (W.block ?_))
      refine R [] ?_
      refine R [] (ho := by exact ⟨⟨by omega, by omega⟩, sameCC _ _, trivial⟩) ?_
      refine W.seq (R [] ?_)
      have key : ∀ b, b = (!goodC (s.calls k) k) → b = true → goodS s = false := fun b hb ht => by
        rw [ht] at hb
        have : goodC (s.calls k) k = false := by simpa using hb.symm
        exact goodK_of (by rw [this, Bool.false_and]) hk
      refine C (fun h => ?_) (fun h => ?_)
      · have hb : goodC (s.calls k) k = false := by
          have := callBad_eq (s.calls k) k
          rw [← Bool.not_eq_true', ← this]
          simp only [bif_or, bif_and, gt_iff_lt, ge_iff_le] at h
          exact h
        refine R [] ?_
        refine W.ret (EndB 0 hn0 ?_)
        exact (goodK_of (by rw [hb, Bool.false_and]) hk).symm
      have hb : goodC (s.calls k) k = true := by
        have := callBad_eq (s.calls k) k
        rw [← Bool.not_eq_false', ← this]
        simp only [bif_or, bif_and, gt_iff_lt, ge_iff_le] at h
        exact h
      clear h
      refine W.skip ?_
      refine R [] ?_
      refine W.block (W.loop hc0 (ι := Nat) (fun i => ⟨79, frOf [(1, .ptr 0 []), (3, .data (I k)), (8, .data (I k)), (48, .data (I i))], [.var (eSheet s) []]⟩) (fun i => i ≤ 4 ∧ goodV s k i = true) (fun i => 4 - i) 0 ⟨by omega, rfl⟩ ?_ ?_)
      · exact Le.cut _ 1 (by omega) ⟨⟨by with_unfolding_all rfl, rfl⟩, ⟨by with_unfolding_all rfl, rfl⟩, ⟨by with_unfolding_all rfl, rfl⟩, ⟨by with_unfolding_all rfl, rfl⟩, trivial⟩ (by with_unfolding_all rfl)
      · intro i ⟨hi, hgi⟩
        refine R [] ?_
        refine W.seq (C (fun h => ?_) (fun h => ?_))
        · have hi : i < 4 := by have := of_decide_eq_true h; omega
          refine W.skip (W.seq (W.block ?_))
          refine R [] ?_
          refine RD [] (ho := by exact ⟨⟨by omega, by omega⟩, ⟨by omega, by omega⟩, ⟨by omega, by omega⟩, ⟨by omega, by omega⟩, trivial⟩) ?_
          refine R [] ?_
          have hp : (((decide (s.wishes k i < 0) || decide (10 < s.wishes k i)) || decide (s.promises k i < 0)) || decide (10 < s.promises k i)) = !goodP (s.wishes k i) (s.promises k i) := by
            rw [Bool.eq_iff_iff]
            simp only [goodP, within, Bool.or_eq_true, Bool.not_eq_true', Bool.and_eq_false_iff, decide_eq_true_eq, decide_eq_false_iff_not]
            omega
          refine C (fun h => ?_) (fun h => ?_)
          · have hb : goodP (s.wishes k i) (s.promises k i) = false := by
              rw [← Bool.not_eq_true', ← hp]
              simp only [bif_or, gt_iff_lt] at h
              exact h
            refine R [] ?_
            refine W.ret (EndB 0 hn0 ?_)
            exact (goodK_of (by rw [goodV_of hb hi, Bool.and_false]) hk).symm
          have hb : goodP (s.wishes k i) (s.promises k i) = true := by
            rw [← Bool.not_eq_false', ← hp]
            simp only [bif_or, gt_iff_lt] at h
            exact h
          refine W.skip ?_
          refine R1 [] ?_
          refine ⟨i + 1, ⟨by omega, by simp [goodV, hgi, hb]⟩, by omega, Le.cut _ 1 (by omega) ⟨⟨by with_unfolding_all rfl, rfl⟩, ⟨by with_unfolding_all rfl, rfl⟩, ⟨by with_unfolding_all rfl, rfl⟩, ⟨sl_int (wrap_cast hi (by omega)), rfl⟩, trivial⟩ (by with_unfolding_all rfl)⟩
        · have hi : i = 4 := by have := of_decide_eq_false h; omega
          subst hi
          refine W.exit ?_
          refine R1 [] ?_
          refine ⟨k + 1, ⟨by omega, by simp [goodK, hgk, hb, hgi]⟩, by omega, Le.cut _ 1 (by omega) ⟨⟨by with_unfolding_all rfl, rfl⟩, ⟨sl_int (wrap_cast hk (by omega)), rfl⟩, trivial⟩ (by with_unfolding_all rfl)⟩
    · have hk : k = 6 := by have := of_decide_eq_false h; omega
      subst hk
      refine W.exit ?_
      refine R [] ?_
      refine W.ret (EndB 0 hn0 ?_)
      exact hgk.symm

end Go.W
