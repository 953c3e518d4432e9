/-
  What is settled stays so, in plain Lean.
-/
import Derived.Test.YthpjdjofcbnoiaaPj
namespace Go.W

theorem doC_settled {c : CrowdS} (a : Act) {k h : Nat} (hh : h < 4) (hs : (c.nodes k).settled h ≠ 0) : ((doC c a).1.nodes k).settled h = (c.nodes k).settled h := by
  unfold doC
  split
  · rfl
  · rcases actC_cases c.tick a with ⟨e, he, _⟩ | ⟨_, he⟩ | ⟨_, _, _, he⟩ | ⟨j, t, w, _, _, hm, he, _⟩ <;> rw [he]
    · rfl
    · rfl
    · rfl
    · show (upd c.nodes j t.s k).settled h = _
      by_cases e : k = j
      · subst e; rw [upd_same]; exact hm.goes.adv.settled h hh hs
      · rw [upd_other _ _ e]

/-- What is written down of the first k. -/
def stS (c : CrowdS) (w : Nat → Nat → Int) : Nat → Nat → Nat → Int
  | 0 => w
  | k + 1 => upd (stS c w k) k (c.nodes k).settled
theorem stS_at (c : CrowdS) (w : Nat → Nat → Int) (j : Nat) : ∀ k, stS c w k j = if j < k then (c.nodes j).settled else w j
  | 0 => by simp [stS]
  | k + 1 => by
    simp only [stS]
    by_cases e : j = k
    · subst e; rw [upd_same, if_pos (by omega)]
    · rw [upd_other _ _ e, stS_at c w j k]
      by_cases h : j < k
      · rw [if_pos h, if_pos (by omega)]
      · rw [if_neg h, if_neg (by omega)]
def stW (liar : Int) (l : List Act) : Nat → Nat → Nat → Int
  | 0 => fun _ _ => 0
  | i + 1 => stS (playC (newC liar) (l.take (i + 1))) (stW liar l i) 4
theorem stW_at (liar : Int) (l : List Act) {k : Nat} (hk : k < 4) : ∀ i h, stW liar l i k h ≠ 0 → ((playC (newC liar) (l.take i)).nodes k).settled h = stW liar l i k h
  | 0, _, hn => absurd rfl hn
  | i + 1, h, _ => by simp only [stW]; rw [stS_at, if_pos hk]

end Go.W
