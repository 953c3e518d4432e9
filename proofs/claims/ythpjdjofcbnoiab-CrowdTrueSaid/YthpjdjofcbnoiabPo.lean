/-
  True nodes tell beginnings of one list, in plain Lean.
-/
import Derived.Test.YthpjdjofcbnoiabPm
namespace Go.W

def fixV (v : Int) : Int := if v < 1 ∨ 9 < v then 1 else v
theorem fixV_bd (v : Int) : 1 ≤ fixV v ∧ fixV v ≤ 9 := by unfold fixV; split <;> omega
def fixH (all : Nat → Int) (h : Nat) : Nat → Int := fun j => if j < h then fixV (all j) else all j
theorem fixH_at (all : Nat → Int) {h j : Nat} (hj : j < h) : fixH all h j = fixV (all j) := if_pos hj
/-- How many heights a node tells. -/
def numK (n : Nat → Int) (i : Nat) : Nat := (n i % 5).toNat
theorem numK_lt (n : Nat → Int) (i : Nat) : numK n i < 5 := by unfold numK; omega
def begH (all : Nat → Int) (k : Nat) : Nat → Int := fun j => if j < k then all j else 0
def rowT (all n tell : Nat → Int) (x : Int) (i : Nat) : Nat → Int := if (i : Int) = x then tell else begH all (numK n i)
def tellI (all n tell : Nat → Int) (x : Int) (i : Nat) : Nat → Nat → Int := fun k => if k < i then rowT all n tell x k else fun _ => 0
def longI (n : Nat → Int) (x : Int) : Nat → Int
  | 0 => 0
  | i + 1 => if (i : Int) = x then longI n x i else max (longI n x i) (numK n i : Int)
def endH (t : Nat → Int) : Nat → Bool
  | 0 => false
  | h + 1 => endH t h || (t h == 0)

theorem longI_bd (n : Nat → Int) (x : Int) : ∀ i, 0 ≤ longI n x i ∧ longI n x i ≤ 4
  | 0 => by simp [longI]
  | i + 1 => by
    have := longI_bd n x i
    have := numK_lt n i
    simp only [longI]
    split <;> omega
theorem longI_ge (n : Nat → Int) (x : Int) {j : Nat} (hj : (j : Int) ≠ x) : ∀ i, j < i → (numK n j : Int) ≤ longI n x i
  | 0, h => by omega
  | i + 1, h => by
    simp only [longI]
    rcases Nat.lt_or_ge j i with h1 | h1
    · have := longI_ge n x hj i h1
      split <;> omega
    · have : j = i := by omega
      subst this
      rw [if_neg hj]; omega
theorem tellI_upd (all n tell : Nat → Int) (x : Int) (i : Nat) : upd (tellI all n tell x i) i (rowT all n tell x i) = tellI all n tell x (i + 1) := by
  funext k
  by_cases e : k = i
  · subst e; rw [upd_same]; unfold tellI; rw [if_pos (by omega)]
  · rw [upd_other _ _ e]; unfold tellI
    by_cases h : k < i
    · rw [if_pos h, if_pos (by omega)]
    · rw [if_neg h, if_neg (by omega)]
theorem begH_upd (all : Nat → Int) (h : Nat) : upd (begH all h) h (all h) = begH all (h + 1) := by
  funext k
  by_cases e : k = h
  · subst e; rw [upd_same]; unfold begH; rw [if_pos (by omega)]
  · rw [upd_other _ _ e]; unfold begH
    by_cases h1 : k < h
    · rw [if_pos h1, if_pos (by omega)]
    · rw [if_neg h1, if_neg (by omega)]
theorem fixH_upd (all : Nat → Int) (h : Nat) : upd (fixH all h) h (fixV (all h)) = fixH all (h + 1) := by
  funext k
  by_cases e : k = h
  · subst e; rw [upd_same]; unfold fixH; rw [if_pos (by omega)]
  · rw [upd_other _ _ e]; unfold fixH
    by_cases h1 : k < h
    · rw [if_pos h1, if_pos (by omega)]
    · rw [if_neg h1, if_neg (by omega)]

theorem takeV_all {l : Nat → Nat → Int} {h : Nat} (hn : takeV l h ≠ 0) : ∀ j, j ≤ h → takeV l j ≠ 0 := by
  intro j hj
  have hh : decide (h < 4) = true ∧ pickAll l (h + 1) = true := by
    unfold takeV at hn
    split at hn
    · rename_i hc; simpa [Bool.and_eq_true] using hc
    · exact absurd rfl hn
  have hall : ∀ k, pickAll l k = true → ∀ m, m < k → pickH l m ≠ 0 ∧ pickAll l (m + 1) = true := by
    intro k
    induction k with
    | zero => intro _ m hm; omega
    | succ k ih =>
      intro hk m hm
      have hk' := hk
      simp only [pickAll, Bool.and_eq_true, Bool.not_eq_true', beq_eq_false_iff_ne] at hk
      rcases Nat.lt_or_ge m k with h1 | h1
      · exact ih hk.1 m h1
      · have : m = k := by omega
        subst this; exact ⟨hk.2, hk'⟩
  have h4 := of_decide_eq_true hh.1
  have := hall (h + 1) hh.2 j (by omega)
  unfold takeV
  rw [if_pos (by simp only [Bool.and_eq_true, decide_eq_true_eq]; exact ⟨by omega, this.2⟩)]
  exact this.1
theorem endH_no {t : Nat → Int} {h : Nat} (ht : ∀ j, j < h → t j ≠ 0) : endH t h = false := by
  induction h with
  | zero => rfl
  | succ h ih =>
    simp only [endH, Bool.or_eq_false_iff, beq_eq_false_iff_ne]
    exact ⟨ih fun j hj => ht j (by omega), ht h (by omega)⟩

/-- What is taken is a beginning. -/
theorem take_beg {all n tell : Nat → Int} {x : Int} {h : Nat} (hn : takeV (tellI all n tell x 4) h ≠ 0) : endH (takeV (tellI all n tell x 4)) h = false ∧ takeV (tellI all n tell x 4) h = all h ∧ (h : Int) < longI n x 4 := by
  obtain ⟨h2, h1, _, hh⟩ := takeV_two hn
  refine ⟨endH_no fun j hj => takeV_all hn j (by omega), ?_⟩
  obtain ⟨j, hj, hjx, e⟩ := cntH_other x h2
  rw [← e] at h1 ⊢
  have e1 : tellI all n tell x 4 j h = begH all (numK n j) h := by
    unfold tellI rowT
    rw [if_pos hj, if_neg hjx]
  rw [e1] at h1 ⊢
  have hlt : h < numK n j := by
    apply Classical.byContradiction
    intro hge
    unfold begH at h1
    rw [if_neg hge] at h1
    omega
  have := longI_ge n x hjx 4 hj
  exact ⟨by unfold begH; rw [if_pos hlt], by omega⟩

end Go.W
