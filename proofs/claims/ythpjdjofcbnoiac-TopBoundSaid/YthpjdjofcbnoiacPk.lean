/-
  How many have promised what is settled, in plain Lean.
-/
import Derived.Test.YthpjdjofcbnoiacPj
namespace Go.W

def hitB (c : CrowdS) (l : Int) (i h r k : Nat) : Bool := !((k : Int) == l) && ((((c.nodes i).heard h).promises r k == (c.nodes i).settled h + 1) && (((c.nodes k).heard h).promises r k == ((c.nodes i).heard h).promises r k))
def cntB (c : CrowdS) (l : Int) (i h r : Nat) : Nat → Int
  | 0 => 0
  | k + 1 => cntB c l i h r k + if hitB c l i h r k then 1 else 0
def findB (c : CrowdS) (l : Int) (i h : Nat) : Nat → Bool
  | 0 => false
  | r + 1 => findB c l i h r || decide (2 ≤ cntB c l i h r 4)

theorem cntB_bd (c : CrowdS) (l : Int) (i h r : Nat) : ∀ k, 0 ≤ cntB c l i h r k ∧ cntB c l i h r k ≤ k
  | 0 => by simp [cntB]
  | k + 1 => by
    have := cntB_bd c l i h r k
    simp only [cntB]
    split <;> omega
theorem cntB_mono (c : CrowdS) (l : Int) (i h r : Nat) : ∀ {k m : Nat}, k ≤ m → cntB c l i h r k ≤ cntB c l i h r m := by
  intro k m hm
  induction m with
  | zero => have : k = 0 := by omega
            subst this; exact Int.le_refl _
  | succ m ih =>
    rcases Nat.lt_or_ge k (m + 1) with h1 | h1
    · have := ih (by omega)
      simp only [cntB]
      split <;> omega
    · have : k = m + 1 := by omega
      subst this; exact Int.le_refl _
theorem findB_of {c : CrowdS} {l : Int} {i h r : Nat} (hr : 2 ≤ cntB c l i h r 4) : ∀ {m : Nat}, r < m → findB c l i h m = true := by
  intro m hm
  induction m with
  | zero => omega
  | succ m ih =>
    simp only [findB, Bool.or_eq_true, decide_eq_true_eq]
    rcases Nat.lt_or_ge r m with h1 | h1
    · exact .inl (ih h1)
    · have : r = m := by omega
      subst this; exact .inr hr
theorem Inv.find {l : Int} {c : CrowdS} (hI : Inv l c) {i h : Nat} (hi : i < 4) (hh : h < 4) (hlt : (h : Int) < (c.nodes i).height) : findB c l i h 6 = true := by
  obtain ⟨r, hr, j, k, hjk, hk, ok⟩ := hI.bound hi hh hlt
  refine findB_of ?_ hr
  have hit : ∀ m, m = j ∨ m = k → hitB c l i h r m = true := fun m hm => by
    obtain ⟨h1, h2, h3⟩ := ok m hm
    simp only [hitB, Bool.and_eq_true, Bool.not_eq_true', beq_eq_false_iff_ne, beq_iff_eq]
    exact ⟨h1, h2, by rw [h3, h2]⟩
  have e1 : cntB c l i h r (j + 1) = cntB c l i h r j + 1 := by simp only [cntB]; rw [if_pos (hit j (.inl rfl))]
  have e2 : cntB c l i h r (k + 1) = cntB c l i h r k + 1 := by simp only [cntB]; rw [if_pos (hit k (.inr rfl))]
  have m1 := cntB_mono c l i h r (show j + 1 ≤ k by omega)
  have m2 := cntB_mono c l i h r (show k + 1 ≤ 4 by omega)
  have b := cntB_bd c l i h r j
  omega

end Go.W
