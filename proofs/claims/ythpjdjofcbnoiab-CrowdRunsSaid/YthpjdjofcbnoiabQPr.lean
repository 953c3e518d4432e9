/-
  Acts that are run, in plain Lean.
-/
import Derived.Test.YthpjdjofcbnoiabQPj
namespace Go.W

/-- The replies to acts. -/
def repliesC : CrowdS → List Act → List Reply
  | _, [] => []
  | c, a :: l => (doC c a).2 :: repliesC (doC c a).1 l
theorem repliesC_length : ∀ (l : List Act) (c : CrowdS), (repliesC c l).length = l.length
  | [], _ => rfl
  | a :: l, c => by simp only [repliesC, List.length_cons, repliesC_length l]
theorem repliesC_take : ∀ (l : List Act) (c : CrowdS) (i : Nat), i < l.length → repliesC c (l.take (i + 1)) = repliesC c (l.take i) ++ [(doC (playC c (l.take i)) (l.getD i Act.zero)).2]
  | a :: l, c, 0, _ => by simp [repliesC, playC]
  | a :: l, c, i + 1, h => by
    have := repliesC_take l (doC c a).1 i (by simpa using h)
    simp only [List.take_succ_cons, repliesC]
    rw [this]
    simp [playC]
theorem repliesC_beg : ∀ (l : List Act) (c : CrowdS) (i k : Nat), i < k → k ≤ l.length → (repliesC c (l.take k))[i]? = (repliesC c l)[i]?
  | [], _, _, k, h, hk => by simp at hk; omega
  | a :: l, c, 0, k + 1, _, _ => by simp [repliesC]
  | a :: l, c, i + 1, k + 1, h, hk => by
    simp only [List.take_succ_cons, repliesC, List.getElem?_cons_succ]
    exact repliesC_beg l (doC c a).1 i k (by omega) (by simpa using hk)

end Go.W
