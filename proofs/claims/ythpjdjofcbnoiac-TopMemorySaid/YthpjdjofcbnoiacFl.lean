/-
  The program's data: what is written into them.
-/
import Derived.Test.YthpjdjofcbnoiacFc
import Derived.Test.YthpjdjofcbnoiacFe
namespace Go.W
open Go.Proofs

def within (n lo hi : Int) : Bool := decide (lo ≤ n) && decide (n ≤ hi)

def upd {α : Type} (f : Nat → α) (k : Nat) (x : α) : Nat → α := fun j => bif Nat.beq j k then x else f j
theorem upd_same {α : Type} (f : Nat → α) (k : Nat) (x : α) : upd f k x k = x := by simp [upd]
theorem upd_other {α : Type} (f : Nat → α) {k j : Nat} (x : α) (h : j ≠ k) : upd f k x j = f j := by simp only [upd, nbeq_ne h, cond_false]
theorem bif_map {α β : Type} (g : α → β) (b : Bool) (x y : α) : (bif b then g x else g y) = g (bif b then x else y) := by cases b <;> rfl

theorem ints6_set (l : Nat → Int) (k : Nat) (x : Int) : (eInts6 l).set [k] (I x) = eInts6 (upd l k x) := by
  simp only [eInts6, D.set, set_nil, upd]
  congr 1
  funext j
  exact bif_map I _ _ _

theorem eWord_of {f : Nat → D} {w : Word} (h0 : f 0 = I w.kind) (h1 : f 1 = I w.frm) (h2 : f 2 = I w.height) (h3 : f 3 = I w.round) (h4 : f 4 = I w.value) (h5 : f 5 = I w.valid) (h6 : ∀ i, f (i + 6) = .nil) : AV.data (.agg 6 f) = AV.data (eWord w) := by
  unfold eWord
  congr 2
  funext i
  match i with
  | 0 => exact h0
  | 1 => exact h1
  | 2 => exact h2
  | 3 => exact h3
  | 4 => exact h4
  | 5 => exact h5
  | i + 6 => exact h6 i

theorem sameWW (a b : Word) : Same (eWord a) (eWord b) := ⟨rfl, fun i hi => by
  match i, hi with
  | 0, _ => trivial
  | 1, _ => trivial
  | 2, _ => trivial
  | 3, _ => trivial
  | 4, _ => trivial
  | 5, _ => trivial⟩
theorem sameW {a w : Word} {f : Nat → D} (h0 : f 0 = I w.kind) (h1 : f 1 = I w.frm) (h2 : f 2 = I w.height) (h3 : f 3 = I w.round) (h4 : f 4 = I w.value) (h5 : f 5 = I w.valid) (h6 : ∀ i, f (i + 6) = .nil) : Same (eWord a) (.agg 6 f) := by
  have := eWord_of h0 h1 h2 h3 h4 h5 h6
  simp only [AV.data.injEq] at this
  rw [this]; exact sameWW a w
/-- What a store of a word owes. -/
theorem sameW' {a w : Word} {f : Nat → D} (h0 : f 0 = I w.kind) (h1 : f 1 = I w.frm) (h2 : f 2 = I w.height) (h3 : f 3 = I w.round) (h4 : f 4 = I w.value) (h5 : f 5 = I w.valid) (h6 : ∀ i, f (i + 6) = .nil) : AllP [Same (eWord a) (.agg 6 f)] :=
  ⟨sameW h0 h1 h2 h3 h4 h5 h6, trivial⟩


end Go.W
