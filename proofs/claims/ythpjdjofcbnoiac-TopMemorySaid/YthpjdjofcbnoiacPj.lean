/-
  Acts that are played, in plain Lean.
-/
import Derived.Test.YthpjdjofcbnoiacPh
namespace Go.W

def playC (c : CrowdS) (l : List Act) : CrowdS := l.foldl (fun c a => (doC c a).1) c
theorem playC_take (c : CrowdS) (l : List Act) {i : Nat} (hi : i < l.length) : playC c (l.take (i + 1)) = (doC (playC c (l.take i)) (l.getD i Act.zero)).1 := by
  unfold playC
  rw [List.take_add_one, List.getElem?_eq_getElem hi, List.getD_eq_getElem?_getD, List.getElem?_eq_getElem hi]
  simp only [Option.toList_some, List.foldl_append, List.foldl_cons, List.foldl_nil, Option.getD_some]

theorem doC_net {c : CrowdS} (a : Act) (h : c.net.length ≤ 2000) : (doC c a).1.net.length ≤ 2000 := by
  unfold doC
  split
  · exact h
  · rcases actC_cases c.tick a with ⟨e, he, _⟩ | ⟨_, he⟩ | ⟨_, _, _, he⟩ | ⟨j, t, w, _, _, _, he, _⟩ <;> rw [he]
    · exact h
    · exact h
    · exact Nat.le_trans (List.length_eraseIdx_le _ _) h
    · exact (sendL_len j t.out c.net h).2
theorem doC_acts (c : CrowdS) (a : Act) (h : c.acts < 600) : (doC c a).1.acts = c.acts + 1 := by
  unfold doC
  rw [if_neg (by omega), actC_acts]
  rfl

/-- It has played i acts. -/
structure Played (liar : Int) (c : CrowdS) (i : Nat) : Prop where
  net : c.net.length ≤ 2000
  acts : c.acts = i
  inv : Inv liar c
  lier : c.liar = liar
theorem Played.new (liar : Int) : Played liar (newC liar) 0 := ⟨Nat.zero_le _, rfl, .new _ _, rfl⟩
theorem Played.do {liar : Int} {c : CrowdS} {i : Nat} (h : Played liar c i) (hi : i < 600) (a : Act) : Played liar (doC c a).1 (i + 1) :=
  ⟨doC_net a h.net, by rw [doC_acts c a (by have := h.acts; omega), h.acts]; rfl, h.inv.do (.inl h.lier), by rw [doC_liar, h.lier]⟩
theorem Played.play (liar : Int) (l : List Act) : ∀ i : Nat, i ≤ l.length → i ≤ 600 → Played liar (playC (newC liar) (l.take i)) i
  | 0, _, _ => .new liar
  | i + 1, h, h6 => by rw [playC_take _ _ (by omega)]; exact (Played.play liar l i (by omega) (by omega)).do (by omega) _
theorem Played.queue {liar : Int} {c : CrowdS} {i : Nat} (h : Played liar c i) {k : Nat} (hk : k < 4) : (c.nodes k).queue.length ≤ 1000000 := by
  have := (h.inv.good k hk).len; omega
/-- What is played of a list. -/
def played (liar : Int) (l : List Act) : CrowdS := playC (newC liar) (l.take 300)
theorem Played.all (liar : Int) (l : List Act) : Played liar (played liar l) (min 300 l.length) := by
  have := Played.play liar l (min 300 l.length) (by omega) (by omega)
  have e : l.take (min 300 l.length) = l.take 300 := by
    rcases Nat.le_total 300 l.length with h | h
    · rw [Nat.min_eq_left h]
    · rw [Nat.min_eq_right h, List.take_length, List.take_of_length_le h]
  rw [e] at this
  exact this
theorem played_end {liar : Int} {l : List Act} {i : Nat} (h : i = 300 ∨ i = l.length) (h3 : i ≤ 300) : playC (newC liar) (l.take i) = played liar l := by
  unfold played
  rcases h with rfl | rfl
  · rfl
  · rw [List.take_length, List.take_of_length_le h3]

end Go.W
