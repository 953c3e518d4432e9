/-
  What a client takes, in plain Lean.
-/
import Derived.Test.YthpjdjofcbnoiabQPj
namespace Go.W

theorem leastH_two (l : Nat → Nat → Int) (h : Nat) : ∀ k, leastH l h k ≠ 0 → 2 ≤ cntH l h (leastH l h k) 4 ∧ 1 ≤ leastH l h k ∧ leastH l h k ≤ k
  | 0, hn => absurd rfl hn
  | k + 1, hn => by
    have ih := leastH_two l h k
    simp only [leastH] at hn ⊢
    split at hn
    · rename_i h0
      rw [if_pos h0]
      split at hn
      · rename_i h2; rw [if_pos h2]; omega
      · exact absurd rfl hn
    · rename_i h0
      rw [if_neg h0]
      have := ih h0
      omega
theorem takeV_two {l : Nat → Nat → Int} {h : Nat} (hn : takeV l h ≠ 0) : 2 ≤ cntH l h (takeV l h) 4 ∧ 1 ≤ takeV l h ∧ takeV l h ≤ 9 ∧ h < 4 := by
  unfold takeV at hn ⊢
  split at hn
  · rename_i hc
    rw [if_pos hc]
    simp only [Bool.and_eq_true, decide_eq_true_eq] at hc
    have := leastH_two l h 9 hn
    exact ⟨this.1, this.2.1, this.2.2, hc.1⟩
  · exact absurd rfl hn
/-- Two tell it: one of them is not that one. -/
theorem cntH_other {l : Nat → Nat → Int} {h : Nat} {v : Int} (x : Int) (hc : 2 ≤ cntH l h v 4) : ∃ j : Nat, j < 4 ∧ (j : Int) ≠ x ∧ l j h = v := by
  apply Classical.byContradiction
  intro hne
  have key : ∀ j : Nat, j < 4 → (j : Int) ≠ x → (if l j h = v then (1 : Int) else 0) = 0 := fun j hj hx => by
    rw [if_neg fun e => hne ⟨j, hj, hx, e⟩]
  have bd : ∀ j : Nat, (if l j h = v then (1 : Int) else 0) ≤ 1 := fun j => by split <;> omega
  simp only [cntH] at hc
  have b0 := bd 0; have b1 := bd 1; have b2 := bd 2; have b3 := bd 3
  have k0 := key 0 (by omega); have k1 := key 1 (by omega); have k2 := key 2 (by omega); have k3 := key 3 (by omega)
  by_cases e0 : ((0 : Nat) : Int) = x
  · have := k1 (by omega); have := k2 (by omega); have := k3 (by omega); omega
  · by_cases e1 : ((1 : Nat) : Int) = x
    · have := k0 (by omega); have := k2 (by omega); have := k3 (by omega); omega
    · by_cases e2 : ((2 : Nat) : Int) = x
      · have := k0 (by omega); have := k1 (by omega); have := k3 (by omega); omega
      · have := k0 (by omega); have := k1 (by omega); have := k2 (by omega); omega

/-- One of the first j that is true has settled it. -/
def foundC (c : CrowdS) (x : Int) (h : Nat) (v : Int) : Nat → Bool
  | 0 => v == 0
  | j + 1 => foundC c x h v j || (!((j : Int) == x) && ((c.nodes j).settled h == v))
theorem foundC_of {c : CrowdS} {x : Int} {h : Nat} {v : Int} {j : Nat} (hx : (j : Int) ≠ x) (hv : (c.nodes j).settled h = v) : ∀ {m : Nat}, j < m → foundC c x h v m = true := by
  intro m hm
  induction m with
  | zero => omega
  | succ m ih =>
    simp only [foundC, Bool.or_eq_true, Bool.and_eq_true, Bool.not_eq_true', beq_eq_false_iff_ne, beq_iff_eq]
    rcases Nat.lt_or_ge j m with h1 | h1
    · exact .inl (ih h1)
    · have : j = m := by omega
      subst this; exact .inr ⟨hx, hv⟩
theorem foundC_zero {c : CrowdS} {x : Int} {h : Nat} : ∀ m, foundC c x h 0 m = true
  | 0 => rfl
  | m + 1 => by simp only [foundC]; rw [foundC_zero m]; rfl
theorem found_read {c : CrowdS} {a : Act} {x : Int} (hx : c.liar = x) (h : Nat) : foundC c x h (takeV (toldC c a) h) 4 = true := by
  by_cases h0 : takeV (toldC c a) h = 0
  · rw [h0]; exact foundC_zero 4
  · obtain ⟨h2, _, _, hh⟩ := takeV_two h0
    obtain ⟨j, hj, hjx, e⟩ := cntH_other x h2
    refine foundC_of hjx ?_ hj
    rw [← e]
    unfold toldC
    rw [if_neg]
    rw [hx]
    simp [hjx]

end Go.W
