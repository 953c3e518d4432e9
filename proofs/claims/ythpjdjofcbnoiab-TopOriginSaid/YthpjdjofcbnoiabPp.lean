/-
  What may be settled, as it is written down; in plain Lean.
-/
import Derived.Test.YthpjdjofcbnoiabPi
import Derived.Test.YthpjdjofcbnoiabPj
namespace Go.W

def m1S (a : Act) (r : Reply) (m : Nat → Bool) : Nat → Bool := if r.code = 0 ∧ a.kind = 1 then upd m a.value.toNat true else m
def m2S (a : Act) (r : Reply) (m : Nat → Bool) : Nat → Bool := if (r.code = 0 ∧ a.kind = 5) ∧ a.word.kind = 1 then upd (m1S a r m) a.word.value.toNat true else m1S a r m
def mayS (m : Nat → Bool) (v : Int) : Prop := ∃ n : Nat, v = n ∧ m n = true
def mayW (liar : Int) (l : List Act) : Nat → Nat → Bool
  | 0 => fun _ => false
  | i + 1 => m2S (l.getD i Act.zero) (doC (playC (newC liar) (l.take i)) (l.getD i Act.zero)).2 (mayW liar l i)

theorem upd_true {m : Nat → Bool} {k n : Nat} (h : m n = true) : upd m k true n = true := by
  by_cases e : n = k
  · subst e; exact upd_same _ _ _
  · rw [upd_other _ _ e]; exact h
theorem m2S_mono {a : Act} {r : Reply} {m : Nat → Bool} {n : Nat} (h : m n = true) : m2S a r m n = true := by
  have h1 : m1S a r m n = true := by
    unfold m1S; split
    · exact upd_true h
    · exact h
  unfold m2S; split
  · exact upd_true h1
  · exact h1
theorem m2S_brings {c : CrowdS} {a : Act} {m : Nat → Bool} {v : Int} (h : brings a (doC c a).2 v) : mayS (m2S a (doC c a).2 m) v := by
  have hb := brings_bd h
  obtain ⟨h0, hk⟩ := h
  refine ⟨v.toNat, by omega, ?_⟩
  rcases hk with ⟨h1, e⟩ | ⟨h5, h1, e⟩
  · have h2 : m1S a (doC c a).2 m v.toNat = true := by
      unfold m1S; rw [if_pos ⟨h0, h1⟩, e]; exact upd_same _ _ _
    unfold m2S; split
    · exact upd_true h2
    · exact h2
  · unfold m2S; rw [if_pos ⟨⟨h0, h5⟩, h1⟩, e]; exact upd_same _ _ _
theorem mayW_ok (liar : Int) (l : List Act) : ∀ i, i ≤ l.length → MayC (mayS (mayW liar l i)) (playC (newC liar) (l.take i))
  | 0, _ => .new _ _
  | i + 1, h => by
    rw [playC_take _ _ (by omega)]
    exact MayC.do ((mayW_ok liar l i (by omega)).mono fun v ⟨n, e, hm⟩ => ⟨n, e, m2S_mono hm⟩) _ fun v hv => m2S_brings hv

end Go.W
