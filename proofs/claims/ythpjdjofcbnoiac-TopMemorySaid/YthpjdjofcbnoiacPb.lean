/-
  Votes, in plain Lean.
-/
import Derived.Test.YthpjdjofcbnoiacFl
namespace Go.W

theorem tick_one {v : Nat → Int} {x : Int} {i : Nat} (h : 0 < tick v x i) : 0 < v i ∧ v i - 1 = x := by
  unfold tick at h
  split at h
  · assumption
  · omega

theorem count_uniq {v : Nat → Int} {x y : Int} (hx : 3 ≤ count v x) (hy : 3 ≤ count v y) : x = y :=
  meet (l := -1) (fun i _ => .inr (.inr (.inr rfl))) hx hy

theorem mostN_of {v : Nat → Int} {k : Nat} (h : 3 ≤ count v k) : ∀ n, k < n → mostN v n = some k
  | n + 1, hn => by
    simp only [mostN]
    rcases Nat.lt_or_ge k n with h1 | h1
    · simp [mostN_of h n h1]
    · have : k = n := by omega
      subst this
      cases hm : mostN v k with
      | none => simp [h]
      | some j =>
        have h2 := mostN_count hm
        have := count_uniq h2 h
        simp only [Option.some.injEq]
        omega

theorem mostN_none {v : Nat → Int} : ∀ n, (∀ k : Nat, k < n → ¬ 3 ≤ count v k) → mostN v n = none
  | 0, _ => rfl
  | n + 1, h => by
    simp only [mostN, mostN_none n fun k hk => h k (by omega)]
    rw [if_neg (h n (by omega))]

/-- A quorum has the first or the second. -/
theorem quorum_two {v : Nat → Int} {x : Int} (h : 3 ≤ count v x) : (0 < v 0 ∧ v 0 - 1 = x) ∨ (0 < v 1 ∧ v 1 - 1 = x) := by
  rw [count_tick] at h
  have b0 := tick_bd v x 0; have b1 := tick_bd v x 1; have b2 := tick_bd v x 2; have b3 := tick_bd v x 3
  rcases Int.lt_or_le 0 (tick v x 0) with h0 | h0
  · exact .inl (tick_one h0)
  · exact .inr (tick_one (by omega))

/-- What the reference asks of the first and the second. -/
def asks (v : Nat → Int) (k : Nat) : Bool := within (IntKind.i64.wrap (v k - 1)) 0 9 && decide (3 ≤ count v (IntKind.i64.wrap (v k - 1)))

theorem asks_yes {v : Nat → Int} {k : Nat} (h : asks v k = true) : ∃ n : Nat, (n : Int) = IntKind.i64.wrap (v k - 1) ∧ mostN v 10 = some n := by
  simp only [asks, within, Bool.and_eq_true, decide_eq_true_eq] at h
  refine ⟨(IntKind.i64.wrap (v k - 1)).toNat, by omega, ?_⟩
  refine mostN_of ?_ 10 (by omega)
  rw [Int.toNat_of_nonneg h.1.1]
  exact h.2

theorem asks_no {v : Nat → Int} (hv : ∀ k, k < 4 → -9223372036854775808 ≤ v k ∧ v k < 9223372036854775808) (h0 : asks v 0 = false) (h1 : asks v 1 = false) : mostN v 10 = none := by
  refine mostN_none 10 fun k hk hc => ?_
  rcases quorum_two hc with h | h
  · have := hv 0 (by omega)
    have e : IntKind.i64.wrap (v 0 - 1) = k := by rw [i64_wrap (by omega) (by omega)]; exact h.2
    simp only [asks, e, within] at h0
    simp at h0
    omega
  · have := hv 1 (by omega)
    have e : IntKind.i64.wrap (v 1 - 1) = k := by rw [i64_wrap (by omega) (by omega)]; exact h.2
    simp only [asks, e, within] at h1
    simp at h1
    omega

end Go.W
