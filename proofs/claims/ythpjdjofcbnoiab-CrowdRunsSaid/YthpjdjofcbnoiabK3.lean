/-
  Texts for the law CrowdRuns: Hm Pn Tf Ia Ib Ic Te Tl Tn.
-/
import Derived.Test.YthpjdjofcbnoiabK2
import Derived.Test.YthpjdjofcbnoiabQPr
import Derived.Test.YthpjdjofcbnoiabQPm
import Derived.Test.YthpjdjofcbnoiabK4
import Derived.Test.YthpjdjofcbnoiabK6
import Derived.Test.YthpjdjofcbnoiabQPj

/-
  Package crowd, walked: acts that are run.
-/
namespace Go.W
open Go.Proofs

theorem cptr_actsR (l : List Act) {k : Nat} (h : k < l.length) : AV.cptr ((l.map eAct).getD k default) = .cptr (eAct (l.getD k Act.zero)) := by
  simp [List.getElem?_eq_getElem h]
theorem sizes_actsR (l : List Act) : ∀ d ∈ l.map eAct, d.size = 14 := by
  intro d hd
  obtain ⟨v, _, rfl⟩ := List.mem_map.1 hd
  rfl
theorem sameAAR (a b : Act) : Same (eAct a) (eAct b) := ⟨rfl, fun i hi => by
  match i, hi with
  | 0, _ => trivial
  | 1, _ => trivial
  | 2, _ => trivial
  | 3, _ => trivial
  | 4, _ => exact sameWW _ _
  | 5, _ => exact sameVV _ _⟩
theorem sizes_replies1 (l : List Reply) (x : Reply) : ∀ d ∈ l.map eReply ++ [eReply x], d.size = 6 := by
  intro d hd
  rcases List.mem_append.1 hd with h | h
  · obtain ⟨v, _, rfl⟩ := List.mem_map.1 h; rfl
  · rw [List.mem_singleton.1 h]; rfl
theorem fits_replies1 (l : List Reply) (x : Reply) (h : l.length ≤ 1000) : (l.map eReply ++ [eReply x]).length ≤ maxLen ∧ (l.map eReply ++ [eReply x]).length * 48 ≤ 140737488355328 := by
  rw [List.length_append, List.length_map]
  unfold maxLen
  simp only [List.length_cons, List.length_nil]
  omega

set_option maxRecDepth 100000 in
theorem run_bad (liar : Int) (l : List Act) (h : liar < -1 ∨ 4 ≤ liar) : Pure Try.prog 44 [.data (I liar), .data (eActs l)] (.tuple [.data .nil, .data (I 2)]) := by
  refine spec_of ttok Try.func44 rfl (by kernel_rfl) (by exact Nat.le_of_ble_eq_true rfl) fun hin hie c0 hc0 he => ?_
  have hn0 : c0.es.length ≤ 0 := Nat.le_of_eq (by rw [he]; rfl)
  refine R [] ?_
  refine R [.tuple [.nilptr, .data (I 2)]] (ho := by exact ⟨newC_err liar h, trivial⟩) ?_
  refine W.seq (R [] ?_)
  refine CT ?_
  refine R [] ?_
  exact W.ret (End 0 hn0 ⟨rfl, rfl⟩)

set_option maxRecDepth 100000 in
theorem run_long (liar : Int) (l : List Act) (h : -1 ≤ liar ∧ liar < 4) (hl : 600 < l.length) : Pure Try.prog 44 [.data (I liar), .data (eActs l)] (.tuple [.data .nil, .data (I 5)]) := by
  refine spec_of ttok Try.func44 rfl (by kernel_rfl) (by exact Nat.le_of_ble_eq_true rfl) fun hin hie c0 hc0 he => ?_
  have hn0 : c0.es.length ≤ 0 := Nat.le_of_eq (by rw [he]; rfl)
  refine R [] ?_
  refine R [Hint.on [] (CE (newC liar)) (.tuple [.ptr 0 [], .data (I 0)])] (ho := by exact ⟨newC_ok liar h, trivial⟩) ?_
  refine W.seq (R [] ?_)
  refine CF ?_
  refine W.skip ?_
  refine W.seq (R [] ?_)
  refine C (fun hb => ?_) (fun hb => ?_)
  · refine R [] ?_
    exact W.ret (End 0 hn0 ⟨rfl, rfl⟩)
  · exfalso
    have hb : decide (600 < ((l.map eAct).length : Int)) = false := hb
    rw [List.length_map] at hb
    have := of_decide_eq_false hb
    omega

set_option maxHeartbeats 8000000 in
set_option maxRecDepth 100000 in
theorem run_spec (liar : Int) (l : List Act) (hl : -1 ≤ liar ∧ liar < 4) (hlen : l.length ≤ 600) : Pure Try.prog 44 [.data (I liar), .data (eActs l)] (.tuple [.data (eReplies (repliesC (newC liar) l)), .data (I 0)]) := by
  refine spec_of ttok Try.func44 rfl (by kernel_rfl) (by exact Nat.le_of_ble_eq_true rfl) fun hin hie c0 hc0 he => ?_
  have hn0 : c0.es.length ≤ 0 := Nat.le_of_eq (by rw [he]; rfl)
  refine R [] ?_
  refine R [Hint.on [] (CE (newC liar)) (.tuple [.ptr 0 [], .data (I 0)])] (ho := by exact ⟨newC_ok liar hl, trivial⟩) ?_
  refine W.seq (R [] ?_)
  refine CF ?_
  refine W.skip ?_
  refine W.seq (R [] ?_)
  refine C (fun hb => ?_) (fun hb => ?_)
  · exfalso
    have hb : decide (600 < ((l.map eAct).length : Int)) = true := hb
    rw [List.length_map] at hb
    have := of_decide_eq_true hb
    omega
  clear hb
  refine W.skip ?_
  refine R [] ?_
  refine W.le hc0 (Le.slotRow 8 6 (by with_unfolding_all rfl)) ?_
  refine W.seq (R [] ?_)
  refine W.block (W.loop hc0 (ι := Nat) (fun i => ⟨36, frOf [(6, .ptr 0 []), (8, .row 2 ((repliesC (newC liar) (l.take i)).map eReply)), (22, .data (eActs l)), (23, .data (I ((l.map eAct).length : Int))), (24, .data (I i))], CE (playC (newC liar) (l.take i)) ++ [.row 6 ((repliesC (newC liar) (l.take i)).map eReply)]⟩) (fun i => i ≤ l.length) (fun i => l.length - i) 0 (by omega) ?_ ?_)
  · exact Le.cut _ 3 (by omega) ⟨⟨by with_unfolding_all rfl, rfl⟩, ⟨by with_unfolding_all rfl, rfl⟩, ⟨by with_unfolding_all rfl, rfl⟩, ⟨by with_unfolding_all rfl, rfl⟩, ⟨by with_unfolding_all rfl, rfl⟩, trivial⟩ (by with_unfolding_all rfl)
  · intro i hi
    refine R [] ?_
    refine W.seq (C (fun hb => ?_) (fun hb => ?_))
    · have hi : i < l.length := by have hb : (i : Int) < (l.map eAct).length := of_decide_eq_true hb; rw [List.length_map] at hb; omega
      clear hb
      have hp := Played.play liar l i (by omega) (by omega)
      have hT := playC_take (newC liar) l hi
      have hR := repliesC_take l (newC liar) i hi
      have hrl : (repliesC (newC liar) (l.take i)).length ≤ 600 := by rw [repliesC_length, List.length_take]; omega
      generalize playC (newC liar) (l.take i) = c at hp hT hR ⊢
      generalize repliesC (newC liar) (l.take i) = rs at hR hrl ⊢
      have hac : 0 ≤ c.acts ∧ c.acts ≤ 600 := by have := hp.acts; omega
      have hix : (0 : Int) ≤ i ∧ (i : Int) < (l.map eAct).length := ⟨by omega, by rw [List.length_map]; omega⟩
      generalize hx : l.getD i Act.zero = x at hT hR
      have hcp : AV.cptr ((l.map eAct).getD i default) = .cptr (eAct x) := by rw [cptr_actsR _ hi, hx]
      refine W.skip (W.seq (W.block ?_))
      refine R [.is 26 (.cptr (eAct x))] (ho := by exact ⟨hcp, hix, sizes_actsR l, sameAAR _ _, trivial⟩) ?_
      by_cases hd : drops c x
      · have hdo := do_drop hp.net hac hd
        generalize doC c x = y at hdo hT hR
        refine R1 [Hint.on [0, 1] [.var (eCrowd y.1) [([1], 2)], .row 7 (c.net.map eLetter), .row 7 (y.1.net.map eLetter)] (.data (eReply y.2))] (ho := by exact ⟨hdo, rfl, sizes_replies1 _ _, fits_replies1 _ _ (by omega), trivial⟩) ?_
        refine R1 [] ?_
        refine ⟨i + 1, by omega, by omega, Le.pick [0, 4, 2] _ (fun k hk => by omega) (by with_unfolding_all rfl) ?_ ?_⟩
        · rw [hT, hR, List.map_append]
          with_unfolding_all rfl
        · refine ⟨by with_unfolding_all rfl, ?_, by with_unfolding_all rfl, by with_unfolding_all rfl, ?_, trivial⟩
          · rw [hR, List.map_append]
            with_unfolding_all rfl
          · with_unfolding_all exact congrArg (fun n => some (AV.data (I n))) (wrap_up (k := i) (by omega))
      · have hdo := do_no hp.net hac hd
        generalize doC c x = y at hdo hT hR
        refine R1 [Hint.on [0, 1] (CE y.1) (.data (eReply y.2))] (ho := by exact ⟨hdo, rfl, sizes_replies1 _ _, fits_replies1 _ _ (by omega), trivial⟩) ?_
        refine R1 [] ?_
        refine ⟨i + 1, by omega, by omega, Le.cut _ 3 (by omega) ⟨⟨by with_unfolding_all rfl, rfl⟩, ⟨?_, rfl⟩, ⟨by with_unfolding_all rfl, rfl⟩, ⟨by with_unfolding_all rfl, rfl⟩, ⟨sl_int (wrap_up (by omega)), rfl⟩, trivial⟩ ?_⟩
        · rw [hR, List.map_append]
          with_unfolding_all rfl
        · rw [hT, hR, List.map_append]
          with_unfolding_all rfl
    · have hi : i = l.length := by have hb : ¬ (i : Int) < (l.map eAct).length := of_decide_eq_false hb; rw [List.length_map] at hb; omega
      subst hi
      refine W.exit ?_
      refine R [] ?_
      rw [List.take_length]
      exact W.ret (End 0 hn0 ⟨rfl, rfl⟩)

end Go.W

/-
  What the reference takes is what a client takes, in plain Lean.
-/
namespace Go.W

theorem leastH_le (l : Nat → Nat → Int) (h : Nat) {v : Nat} (h1 : 1 ≤ v) (hc : 2 ≤ cntH l h v 4) : ∀ k, v ≤ k → leastH l h k ≠ 0 ∧ leastH l h k ≤ v := by
  intro k hk
  induction k with
  | zero => omega
  | succ k ih =>
    simp only [leastH]
    rcases Nat.lt_or_ge k v with h2 | h2
    · have : v = k + 1 := by omega
      subst this
      by_cases h0 : leastH l h k = 0
      · rw [if_pos h0, if_pos (by simpa using hc)]
        omega
      · rw [if_neg h0]
        have := leastH_two l h k h0
        exact ⟨h0, by omega⟩
    · have := ih h2
      rw [if_neg this.1]
      exact this
theorem cntH_two {l : Nat → Nat → Int} {h : Nat} {v : Int} {i k : Nat} (hi : i < 4) (hk : k < i) (h1 : l i h = v) (h2 : l k h = v) : 2 ≤ cntH l h v 4 := by
  have nn : ∀ j : Nat, 0 ≤ (if l j h = v then (1 : Int) else 0) := fun j => by split <;> omega
  have e1 : (if l i h = v then (1 : Int) else 0) = 1 := if_pos h1
  have e2 : (if l k h = v then (1 : Int) else 0) = 1 := if_pos h2
  have n0 := nn 0; have n1 := nn 1; have n2 := nn 2; have n3 := nn 3
  simp only [cntH]
  have hi' : i = 1 ∨ i = 2 ∨ i = 3 := by omega
  have hk' : k = 0 ∨ k = 1 ∨ k = 2 := by omega
  rcases hi' with rfl | rfl | rfl <;> rcases hk' with rfl | rfl | rfl <;> omega
theorem cntH_pair {l : Nat → Nat → Int} {h : Nat} {v : Int} (hc : 2 ≤ cntH l h v 4) : ∃ i k : Nat, i < 4 ∧ k < i ∧ l i h = v ∧ l k h = v := by
  obtain ⟨j, hj, _, e⟩ := cntH_other (-1) hc
  obtain ⟨k, hk, hne, e'⟩ := cntH_other j hc
  rcases Nat.lt_or_ge j k with h1 | h1
  · exact ⟨k, j, hk, h1, e', e⟩
  · exact ⟨j, k, hj, by omega, e, e'⟩

/-- One pair that the reference looks at. -/
def hitT (o v u : Int) : Bool := (within v 1 9 && (u == v)) && (o == 0 || decide (v < o))
def innT (l : Nat → Nat → Int) (h i : Nat) (o : Int) : Nat → Int
  | 0 => o
  | k + 1 => if hitT (innT l h i o k) (l i h) (l k h) then l i h else innT l h i o k
def outT (l : Nat → Nat → Int) (h : Nat) : Nat → Int
  | 0 => 0
  | i + 1 => innT l h i (outT l h i) i

structure TOK (l : Nat → Nat → Int) (h : Nat) (o : Int) : Prop where
  bd : 0 ≤ o ∧ o ≤ 9
  two : o ≠ 0 → 2 ≤ cntH l h o 4
theorem innT_ok {l : Nat → Nat → Int} {h i : Nat} {o : Int} (hi : i < 4) (ho : TOK l h o) : ∀ k, k ≤ i → TOK l h (innT l h i o k) ∧ (o ≠ 0 → innT l h i o k ≠ 0 ∧ innT l h i o k ≤ o) ∧ ∀ j, j < k → 1 ≤ l i h → l i h ≤ 9 → l j h = l i h → innT l h i o k ≠ 0 ∧ innT l h i o k ≤ l i h
  | 0, _ => ⟨ho, fun hn => ⟨hn, Int.le_refl _⟩, fun j hj => by omega⟩
  | k + 1, hk => by
    obtain ⟨h1, h2, h3⟩ := innT_ok hi ho k (by omega)
    simp only [innT]
    by_cases hh : hitT (innT l h i o k) (l i h) (l k h) = true
    · rw [if_pos hh]
      simp only [hitT, within, Bool.and_eq_true, Bool.or_eq_true, decide_eq_true_eq, beq_iff_eq] at hh
      refine ⟨⟨by omega, fun _ => cntH_two hi (by omega) rfl hh.1.2⟩, fun hn => ?_, fun j hj g1 g9 _ => ⟨by omega, Int.le_refl _⟩⟩
      have := h2 hn
      have := h1.bd
      omega
    · rw [if_neg hh]
      refine ⟨h1, h2, fun j hj g1 g9 e => ?_⟩
      rcases Nat.lt_or_ge j k with hjk | hjk
      · exact h3 j hjk g1 g9 e
      · have : j = k := by omega
        subst this
        simp only [hitT, within, Bool.and_eq_true, Bool.or_eq_true, decide_eq_true_eq, beq_iff_eq] at hh
        have := h1.bd
        by_cases e0 : innT l h i o j = 0
        · exact absurd ⟨⟨⟨g1, g9⟩, e⟩, .inl e0⟩ hh
        · refine ⟨e0, ?_⟩
          rcases Int.lt_or_le (l i h) (innT l h i o j) with h5 | h5
          · exact absurd ⟨⟨⟨g1, g9⟩, e⟩, .inr h5⟩ hh
          · exact h5
theorem outT_ok (l : Nat → Nat → Int) (h : Nat) : ∀ i, i ≤ 4 → TOK l h (outT l h i) ∧ ∀ a b, a < i → b < a → 1 ≤ l a h → l a h ≤ 9 → l b h = l a h → outT l h i ≠ 0 ∧ outT l h i ≤ l a h
  | 0, _ => ⟨⟨by simp [outT], fun hn => absurd rfl hn⟩, fun a b ha => by omega⟩
  | i + 1, hi => by
    obtain ⟨h1, h2⟩ := outT_ok l h i (by omega)
    obtain ⟨g1, g2, g3⟩ := innT_ok (show i < 4 by omega) h1 i (Nat.le_refl _)
    refine ⟨g1, fun a b ha hb q1 q9 e => ?_⟩
    rcases Nat.lt_or_ge a i with hai | hai
    · have := h2 a b hai hb q1 q9 e
      have := g2 this.1
      simp only [outT]
      omega
    · have : a = i := by omega
      subst this
      exact g3 b hb q1 q9 e
theorem outT_pick (l : Nat → Nat → Int) (h : Nat) : outT l h 4 = pickH l h := by
  obtain ⟨h1, h2⟩ := outT_ok l h 4 (Nat.le_refl _)
  unfold pickH
  by_cases h0 : outT l h 4 = 0
  · rw [h0]
    apply Classical.byContradiction
    intro hne
    have hl := leastH_two l h 9 (Ne.symm hne)
    obtain ⟨i, k, hi, hk, e1, e2⟩ := cntH_pair hl.1
    exact (h2 i k hi hk (by omega) (by omega) (by rw [e1, e2])).1 h0
  · have hb := h1.bd
    have hv : outT l h 4 = ((outT l h 4).toNat : Int) := by omega
    have := leastH_le l h (v := (outT l h 4).toNat) (by omega) (by rw [← hv]; exact h1.two h0) 9 (by omega)
    have hl := leastH_two l h 9 this.1
    obtain ⟨i, k, hi, hk, e1, e2⟩ := cntH_pair hl.1
    have := h2 i k hi hk (by omega) (by omega) (by rw [e1, e2])
    omega

end Go.W

/-
  What the reference takes, walked; whether a crowd answers at all (package law); the law CrowdTakes.
-/
namespace Go.W
open Go.Proofs

set_option maxHeartbeats 4000000 in
set_option maxRecDepth 100000 in
theorem alive_law : Pure Try.prog 38 [] (.data (.bool true)) := by
  refine spec_of ttok Try.func38 rfl (by kernel_rfl) (by exact Nat.le_of_ble_eq_true rfl) fun hin hie c0 hc0 he => ?_
  have hn0 : c0.es.length ≤ 0 := Nat.le_of_eq (by rw [he]; rfl)
  obtain ⟨c, s, e, h1, h2, h3⟩ := alive_fact
  have hdo := do_no (c := newC (-1)) (a := a0) (Nat.zero_le _) ⟨by decide, by decide⟩ (fun h => absurd h.2.1 (by decide))
  rw [e] at hdo
  refine R [] ?_
  refine R [Hint.on [] (CE (newC (-1))) (.tuple [.ptr 0 [], .data (I 0)])] (ho := by exact ⟨newC_ok (-1) (by omega), trivial⟩) ?_
  refine W.seq (R [] ?_)
  refine CF ?_
  refine W.skip ?_
  refine R [Hint.on [0, 1] (CE c) (.data (eReply ⟨0, 6, s⟩))] (ho := by with_unfolding_all exact ⟨fn_act hdo (actD (a := a0) rfl rfl rfl rfl rfl rfl (fun _ => rfl)), sameRR _ _, trivial⟩) ?_
  refine R [(Hint.on [0, 1] (CE c) (.data (eLetters c.net))).take, (Hint.on [0, 1] (CE c) (.data (eNode (c.nodes 0)))).take] (ho := ?ob) ?_
  case ob =>
    have hl : ((c.net.map eLetter).length : Int) = 6 := by rw [List.length_map]; omega
    refine ⟨rfl, crowdNet_spec c (by omega), beq_of hl, crowdNode_spec c 0 (by omega) h3, trivial⟩
  refine W.ret (EndB 0 hn0 ?_)
  have hl : (((c.net.map eLetter).length : Int) == 6) = true := beq_of (by rw [List.length_map]; omega)
  exact bifh2 hl (beq_of h2)

set_option maxHeartbeats 8000000 in
set_option maxRecDepth 100000 in
theorem taken_spec (l : Nat → Nat → Int) : Pure Try.prog 37 [.data (eInts44 l)] (.data (eVotes (takeV l))) := by
  refine spec_of ttok Try.func37 rfl (by kernel_rfl) (by exact Nat.le_of_ble_eq_true rfl) fun hin hie c0 hc0 he => ?_
  have hn0 : c0.es.length ≤ 0 := Nat.le_of_eq (by rw [he]; rfl)
  refine R [] ?_
  refine R [] ?_
  refine W.seq (R [] ?_)
  refine W.block (W.loop hc0 (ι := Nat) (fun h => ⟨59, frOf [(1, .ptr 0 []), (2, .ptr 1 []), (3, .ptr 2 []), (8, .data (I h))], [.var (eInts44 l) [], .var (eVotes fun _ => 0) [], .var (eVotes (outH l h)) []]⟩) (fun h => h ≤ 4 ∧ pickAll l h = true) (fun h => 4 - h) 0 ⟨by omega, rfl⟩ ?_ ?_)
  · refine Le.cut _ 3 (by omega) ⟨⟨by with_unfolding_all rfl, rfl⟩, ⟨by with_unfolding_all rfl, rfl⟩, ⟨by with_unfolding_all rfl, rfl⟩, ⟨by with_unfolding_all rfl, rfl⟩, trivial⟩ ?_
    have : outH l 0 = fun _ => 0 := by funext j; rfl
    rw [this]
    with_unfolding_all rfl
  · intro h ⟨hh, hp⟩
    refine R [] ?_
    refine W.seq (C (fun hb => ?_) (fun hb => ?_))
    · have hh : h < 4 := by have := of_decide_eq_true hb; omega
      have hhi : (0 : Int) ≤ h ∧ (h : Int) < 4 := by omega
      clear hb
      refine W.skip (W.seq (W.block ?_))
      refine R [] ?_
      refine W.seq (R [] ?_)
      refine W.block (W.loop hc0 (ι := Nat) (fun i => ⟨59, frOf [(1, .ptr 0 []), (2, .ptr 1 []), (3, .ptr 2 []), (4, .data (I h)), (8, .data (I h)), (11, .data (I i))], [.var (eInts44 l) [], .var (eVotes fun _ => 0) [], .var (eVotes (upd (outH l h) h (outT l h i))) []]⟩) (fun i => i ≤ 4) (fun i => 4 - i) 0 (by omega) ?_ ?_)
      · refine Le.cut _ 3 (by omega) ⟨⟨by with_unfolding_all rfl, rfl⟩, ⟨by with_unfolding_all rfl, rfl⟩, ⟨by with_unfolding_all rfl, rfl⟩, ⟨by with_unfolding_all rfl, rfl⟩, ⟨by with_unfolding_all rfl, rfl⟩, ⟨by with_unfolding_all rfl, rfl⟩, trivial⟩ ?_
        have : upd (outH l h) h (outT l h 0) = outH l h := outH_at l h
        rw [this]
        with_unfolding_all rfl
      · intro i hi
        refine R [] ?_
        refine W.seq (C (fun hb => ?_) (fun hb => ?_))
        · have hi : i < 4 := by have := of_decide_eq_true hb; omega
          have hii : (0 : Int) ≤ i ∧ (i : Int) < 4 := by omega
          clear hb
          refine W.skip (W.seq (W.block ?_))
          refine R [] ?_
          refine R [] ?_
          refine W.block (W.loop hc0 (ι := Nat) (fun k => ⟨59, frOf [(1, .ptr 0 []), (2, .ptr 1 []), (3, .ptr 2 []), (4, .data (I h)), (5, .data (I i)), (8, .data (I h)), (11, .data (I i)), (14, .data (I i)), (15, .data (I k))], [.var (eInts44 l) [], .var (eVotes fun _ => 0) [], .var (eVotes (upd (outH l h) h (innT l h i (outT l h i) k))) []]⟩) (fun k => k ≤ i) (fun k => i - k) 0 (by omega) ?_ ?_)
          · exact Le.cut _ 3 (by omega) ⟨⟨by with_unfolding_all rfl, rfl⟩, ⟨by with_unfolding_all rfl, rfl⟩, ⟨by with_unfolding_all rfl, rfl⟩, ⟨by with_unfolding_all rfl, rfl⟩, ⟨by with_unfolding_all rfl, rfl⟩, ⟨by with_unfolding_all rfl, rfl⟩, ⟨by with_unfolding_all rfl, rfl⟩, ⟨by with_unfolding_all rfl, rfl⟩, ⟨by with_unfolding_all rfl, rfl⟩, trivial⟩ (by with_unfolding_all rfl)
          · intro k hk
            refine R [] ?_
            refine W.seq (C (fun hb => ?_) (fun hb => ?_))
            · have hk : k < i := by have := of_decide_eq_true hb; omega
              have hki : (0 : Int) ≤ k ∧ (k : Int) < 4 := by omega
              clear hb
              have hstep : innT l h i (outT l h i) (k + 1) = if hitT (innT l h i (outT l h i) k) (l i h) (l k h) then l i h else innT l h i (outT l h i) k := rfl
              generalize innT l h i (outT l h i) k = o at hstep ⊢
              refine W.skip (W.seq (W.block ?_))
              refine R [] ?_
              refine R [] (ho := by exact ⟨hii, hhi, trivial⟩) ?_
              refine R [.data (.bool (within (l i h) 1 9)), .is 37 (.data (I o)), .is 43 (.data (I o))] (ho := ?ob) ?_
              case ob =>
                have e := congrArg (fun x => AV.data (I x)) (upd_same (outH l h) h o)
                exact ⟨within_spec _ _ _, fun _ => hki, fun _ => hhi, fun _ => hhi, fun _ => e, fun _ => hhi, fun _ => e, trivial⟩
              refine C (fun hb => ?_) (fun hb => ?_)
              · have hb : (bif (bif within (l i h) 1 9 then l k h == l i h else false) then (bif o == 0 then true else decide (l i h < o)) else false) = true := hb
                rw [bif_and, bif_and, bif_or] at hb
                have hb : hitT o (l i h) (l k h) = true := hb
                rw [if_pos hb] at hstep
                refine R1 [] (ho := by exact ⟨hhi, trivial⟩) ?_
                refine R1 [] ?_
                refine ⟨k + 1, by omega, by omega, Le.cut _ 3 (by omega) ⟨⟨by with_unfolding_all rfl, rfl⟩, ⟨by with_unfolding_all rfl, rfl⟩, ⟨by with_unfolding_all rfl, rfl⟩, ⟨by with_unfolding_all rfl, rfl⟩, ⟨by with_unfolding_all rfl, rfl⟩, ⟨by with_unfolding_all rfl, rfl⟩, ⟨by with_unfolding_all rfl, rfl⟩, ⟨by with_unfolding_all rfl, rfl⟩, ⟨sl_int (wrap_up (by omega)), rfl⟩, trivial⟩ ?_⟩
                rw [hstep]
                have e1 := votes_set (upd (outH l h) h o) h (l i h)
                rw [upd_upd] at e1
                with_unfolding_all exact congrArg (fun d => [Ent.var (eInts44 l) [], .var (eVotes fun _ => 0) [], .var d []]) e1
              · have hb : (bif (bif within (l i h) 1 9 then l k h == l i h else false) then (bif o == 0 then true else decide (l i h < o)) else false) = false := hb
                rw [bif_and, bif_and, bif_or] at hb
                have hb : hitT o (l i h) (l k h) = false := hb
                rw [hb, if_neg Bool.false_ne_true] at hstep
                refine W.skip ?_
                refine R1 [] ?_
                refine ⟨k + 1, by omega, by omega, Le.cut _ 3 (by omega) ⟨⟨by with_unfolding_all rfl, rfl⟩, ⟨by with_unfolding_all rfl, rfl⟩, ⟨by with_unfolding_all rfl, rfl⟩, ⟨by with_unfolding_all rfl, rfl⟩, ⟨by with_unfolding_all rfl, rfl⟩, ⟨by with_unfolding_all rfl, rfl⟩, ⟨by with_unfolding_all rfl, rfl⟩, ⟨by with_unfolding_all rfl, rfl⟩, ⟨sl_int (wrap_up (by omega)), rfl⟩, trivial⟩ ?_⟩
                rw [hstep]
                with_unfolding_all rfl
            · have hk : k = i := by have := of_decide_eq_false hb; omega
              subst hk
              refine W.exit ?_
              refine R1 [] ?_
              exact ⟨k + 1, by omega, by omega, Le.cut _ 3 (by omega) ⟨⟨by with_unfolding_all rfl, rfl⟩, ⟨by with_unfolding_all rfl, rfl⟩, ⟨by with_unfolding_all rfl, rfl⟩, ⟨by with_unfolding_all rfl, rfl⟩, ⟨by with_unfolding_all rfl, rfl⟩, ⟨sl_int (wrap_up (by omega)), rfl⟩, trivial⟩ (by with_unfolding_all rfl)⟩
        · have hi : i = 4 := by have := of_decide_eq_false hb; omega
          subst hi
          rw [outT_pick]
          refine W.exit ?_
          refine R [.is 54 (.data (I (pickH l h)))] (ho := by exact ⟨hhi, congrArg (fun x => AV.data (I x)) (upd_same (outH l h) h (pickH l h)), trivial⟩) ?_
          refine C (fun hb => ?_) (fun hb => ?_)
          · have h0 : pickH l h = 0 := by
              have hb : (pickH l h == 0) = true := hb
              simpa using hb
            refine R [] (ho := by exact ⟨sameVV _ _, trivial⟩) ?_
            refine W.ret (End 0 hn0 ⟨?_, rfl⟩)
            have e : upd (outH l h) h (pickH l h) = takeV l := by
              rw [h0, outH_at]
              exact outH_end hp (.inr h0) (by omega)
            exact congrArg (fun v => AV.data (eVotes v)) e
          · have h0 : pickH l h ≠ 0 := by
              have hb : (pickH l h == 0) = false := hb
              simpa using hb
            refine W.skip ?_
            refine R1 [] ?_
            refine ⟨h + 1, ⟨by omega, by simp [pickAll, hp, h0]⟩, by omega, Le.cut _ 3 (by omega) ⟨⟨by with_unfolding_all rfl, rfl⟩, ⟨by with_unfolding_all rfl, rfl⟩, ⟨by with_unfolding_all rfl, rfl⟩, ⟨sl_int (wrap_up (by omega)), rfl⟩, trivial⟩ ?_⟩
            rw [← outH_upd]
            with_unfolding_all rfl
    · have hh : h = 4 := by have := of_decide_eq_false hb; omega
      subst hh
      refine W.exit ?_
      refine R [] (ho := by exact ⟨sameVV _ _, trivial⟩) ?_
      refine W.ret (End 0 hn0 ⟨?_, rfl⟩)
      exact congrArg (fun v => AV.data (eVotes v)) (outH_end hp (.inl rfl) (by omega))

set_option maxHeartbeats 4000000 in
set_option maxRecDepth 100000 in
theorem crowdTakes_spec (l : Nat → Nat → Int) : Pure Try.prog 9 [.data (eInts44 l)] (.data (.bool true)) := by
  refine spec_of ttok Try.func9 rfl (by kernel_rfl) (by exact Nat.le_of_ble_eq_true rfl) fun hin hie c0 hc0 he => ?_
  have hn0 : c0.es.length ≤ 0 := Nat.le_of_eq (by rw [he]; rfl)
  refine R [] ?_
  refine RD [.data (eVotes (takeV l)), .data (eVotes (takeV l)), .data (.bool true)] (ho := by exact ⟨take_spec l, taken_spec l, fun _ => alive_law, trivial⟩) ?_
  refine W.ret (EndB 0 hn0 ?_)
  have he : eqD (eVotes (takeV l)) (eVotes (takeV l)) = true := allTo_spec.2 fun _ _ => beq_self_eq_true _
  exact bifh2 he rfl

end Go.W

/-
  The reference's crowd, walked: none for a liar that may not be one.
-/
namespace Go.W
open Go.Proofs

set_option maxRecDepth 100000 in
theorem refNew_err (liar : Int) (h : liar < -1 ∨ 4 ≤ liar) : Pure Try.prog 40 [.data (I liar)] (.tuple [.nilptr, .data (I 2)]) := by
  refine spec_of ttok Try.func40 rfl (by kernel_rfl) (by exact Nat.le_of_ble_eq_true rfl) fun hin hie c0 hc0 he => ?_
  have hn0 : c0.es.length ≤ 0 := Nat.le_of_eq (by rw [he]; rfl)
  have hw : within liar (-1) 3 = false := by
    cases hb : within liar (-1) 3 with
    | false => rfl
    | true =>
      simp only [within, Bool.and_eq_true, decide_eq_true_eq] at hb
      omega
  have hs := within_spec liar (-1) 3
  rw [hw] at hs
  refine R [] ?_
  refine W.seq (R [.data (.bool false)] (ho := by exact ⟨hs, trivial⟩) ?_)
  refine CT ?_
  refine R [] ?_
  exact W.ret (End 0 hn0 ⟨rfl, rfl⟩)

theorem rdo1_spec (x : Int) : Pure Try.prog 76 [.data (I x)] (.data (eReply (errR x))) := by
  refine spec_of ttok Try.func76 rfl (by kernel_rfl) (by exact Nat.le_of_ble_eq_true rfl) fun hin hie c0 hc0 he => ?_
  have hn0 : c0.es.length ≤ 0 := Nat.le_of_eq (by rw [he]; rfl)
  refine R [] ?_
  refine R [] (ho := by with_unfolding_all exact ⟨sameR (r := errR x) rfl rfl rfl (fun _ => rfl), trivial⟩) ?_
  refine W.ret (End 0 hn0 ⟨?_, rfl⟩)
  with_unfolding_all exact congrArg AV.data (replyD (r := errR x) rfl rfl rfl (fun _ => rfl))

end Go.W

/-
  The reference's crowd, walked: an act.
-/
namespace Go.W
open Go.Proofs

theorem takeV_congr {l l' : Nat → Nat → Int} (h : ∀ k, k < 4 → l k = l' k) : takeV l = takeV l' := by
  have hc : ∀ h v k, k ≤ 4 → cntH l h v k = cntH l' h v k := by
    intro a v k
    induction k with
    | zero => intro _; rfl
    | succ k ih =>
      intro hk
      simp only [cntH]
      rw [ih (by omega), h k (by omega)]
  have hl : ∀ h k, leastH l h k = leastH l' h k := by
    intro a k
    induction k with
    | zero => rfl
    | succ k ih => simp only [leastH]; rw [ih, hc _ _ 4 (by omega)]
  have hp : ∀ h, pickH l h = pickH l' h := fun h => hl h 9
  have ha : ∀ h, pickAll l h = pickAll l' h := by
    intro a
    induction a with
    | zero => rfl
    | succ a ih => simp only [pickAll]; rw [ih, hp]
  funext a
  unfold takeV
  rw [ha, hp]

/-- What the first k have settled. -/
def setI (c : CrowdS) (k : Nat) : Nat → Nat → Int := fun j => if j < k then (c.nodes j).settled else fun _ => 0
theorem setI_upd (c : CrowdS) (k : Nat) : upd (setI c k) k (c.nodes k).settled = setI c (k + 1) := by
  funext j
  by_cases e : j = k
  · subst e; rw [upd_same]; unfold setI; rw [if_pos (by omega)]
  · rw [upd_other _ _ e]; unfold setI
    by_cases h : j < k
    · rw [if_pos h, if_pos (by omega)]
    · rw [if_neg h, if_neg (by omega)]

/-- What a turn comes to, where the node is one. -/
def goT (c : CrowdS) (i : Nat) (t : Turn) : CrowdS × Reply := turnC c i t
theorem goT_err {c : CrowdS} {i : Nat} {t : Turn} (hi : i < 4) (h : t.err ≠ 0) : goT c i t = (c, errR t.err) := by unfold goT turnC; rw [if_neg (by omega), if_pos h]
theorem goT_ok {c : CrowdS} {i : Nat} {t : Turn} (hi : i < 4) (h : t.err = 0) : goT c i t = ({ c with nodes := upd c.nodes i t.s, net := sendL i t.out c.net }, sentR ((sendL i t.out c.net).length - c.net.length)) := by
  unfold goT turnC; rw [if_neg (by omega), if_neg (by omega)]; rfl

theorem reply_set1 (r : Reply) (x : Int) : (eReply r).set [1] (I x) = eReply { r with n := x } := by
  simp only [eReply, D.set, set_nil]
  congr 1
  funext j
  match j with
  | 0 => rfl
  | 1 => rfl
  | 2 => rfl
  | _ + 3 => rfl

theorem rsend_ents (c : CrowdS) (N : List Letter) (w : Word) (k : Nat) (X a r s q : D) (hX : X = eLetter ⟨k, w⟩) : [Ent.var ((eCrowd (withNet c N)).set [1] (.list (N.map eLetter ++ [X]))) [([1], 1)], .row 7 (N.map eLetter ++ [X]), .var a [], .var r [], .var s [], .var q [], .var (eWord w) []] =
    CE (withNet c (N ++ [⟨k, w⟩])) ++ [.var a [], .var r [], .var s [], .var q [], .var (eWord w) []] := by
  subst hX
  unfold eCrowd
  rw [crowd_set1]
  simp only [withNet, CE, eCrowd, eLetters, List.map_append, List.map_cons, List.map_nil, List.cons_append, List.nil_append]

set_option maxHeartbeats 32000000 in
set_option maxRecDepth 100000 in
theorem rdo_spec (c : CrowdS) (a : Act) (hn : c.net.length ≤ 2000) (hac : 0 ≤ c.acts ∧ c.acts ≤ 600) (hto : ∀ x ∈ c.net, 0 ≤ x.to ∧ x.to < 4) (hli : -1 ≤ c.liar ∧ c.liar < 4) :
    Fn Try.prog 41 [.ptr 0 [], .data (eAct a)] (CE c) (.data (eReply (doC c a).2)) (DE c a) := by
  refine spec_of ttok Try.func41 rfl (by kernel_rfl) (by exact Nat.le_of_ble_eq_true rfl) fun hin hie c0 hc0 he => ?_
  have hn0 : c0.es.length ≤ 2 := Nat.le_of_eq (by rw [he]; rfl)
  refine R [] ?_
  refine R [] ?_
  refine W.seq (R [] ?_)
  refine C (fun hb => ?_) (fun hb => ?_)
  · have h6 : 600 ≤ c.acts := by have hb : (c.acts == 600) = true := hb; have := beq_iff_eq.1 hb; omega
    have e : doC c a = (c, errR 5) := if_pos h6
    have hd : ¬ drops c a := fun h => by have := h.1; omega
    refine R [.data (eReply (errR 5))] (ho := by exact ⟨rdo1_spec _, sameRR _ _, trivial⟩) ?_
    refine W.ret (End 2 hn0 ⟨?_, ?_⟩)
    · rw [e]; rfl
    · rw [DE_no hd, e]; rfl
  have h6 : ¬ 600 ≤ c.acts := by
    have hb : (c.acts == 600) = false := hb
    have := beq_eq_false_iff_ne.1 hb
    omega
  clear hb
  have hon := doC_on (a := a) h6
  refine W.skip ?_
  refine R [] ?_
  have hset : (eCrowd c).set [3] (I (IntKind.i64.wrap (c.acts + 1))) = eCrowd c.tick := by
    unfold eCrowd
    rw [crowd_set3, i64_wrap (by omega) (by omega)]; rfl
  refine W.ents (es' := CE c.tick ++ [.var (eAct a) [], .var (eReply Reply.zero) []]) ?_ ?_
  · with_unfolding_all exact congrArg (fun x => [Ent.var x [([1], 1)], .row 7 (c.net.map eLetter), .var (eAct a) [], .var (eReply Reply.zero) []]) hset
  have hnt : c.tick.net.length ≤ 2000 := hn
  have hdr : drops c a ↔ a.kind = 3 ∧ 0 ≤ a.n ∧ a.n < c.tick.net.length := ⟨fun h => h.2, fun h => ⟨by omega, h⟩⟩
  have htt : ∀ x ∈ c.tick.net, 0 ≤ x.to ∧ x.to < 4 := hto
  have hli : -1 ≤ c.tick.liar ∧ c.tick.liar < 4 := hli
  generalize hDE : DE c a = de
  rw [hon]
  have hDE' : ¬ drops c a → CE (actC c.tick a).1 = de := fun h => by rw [← hDE, DE_no h, hon]
  have hDEd : drops c a → [.var (eCrowd (actC c.tick a).1) [([1], 2)], .row 7 (c.tick.net.map eLetter), .row 7 ((actC c.tick a).1.net.map eLetter)] = de := fun h => by rw [← hDE, DE, if_pos h, hon]; rfl
  clear hDE hset hto
  generalize c.tick = T at *
  refine R [] ?_
  refine R [] ?_
  refine R [] ?_
  refine R [] ?_
  -- what comes behind a node's turn
  refine W.seq ?_
  generalize hK : (thenS _ _ : Exit → St → Prop) = K
  have kret : ∀ s, Fin tt c0.es.length _ (fun v e => v = .data (eReply (actC T a).2) ∧ e = de) .ret s → K .ret s := fun s hs => by rw [← hK]; exact hs
  have tail : ∀ (i : Nat) (t : Turn), i < 4 → t.out.length ≤ 1000000 → actC T a = goT T i t → ¬ drops c a →
      ∀ s, Le c0.es.length s ⟨264, frOf [(0, .ptr 0 []), (4, .ptr 3 []), (5, .func 76 []), (6, .data (I i)), (7, .ptr 4 []), (8, .data (eWords t.out)), (9, .data (I t.err))], CE T ++ [.var (eAct a) [], .var (eReply Reply.zero) [], .var (eNode t.s) []]⟩ → K .normal s := by
    intro i t hi hl hact hd s hle
    rw [hact] at hDE'
    rw [hact] at hK
    rw [← hK]
    clear kret hK hDEd
    have hii : (0 : Int) ≤ i ∧ (i : Int) < 4 := by omega
    show AWP Try.prog c0 _ _ _
    refine W.le hc0 hle ?_
    refine W.seq (R [] ?_)
    refine C (fun hb => ?_) (fun hb => ?_)
    · have ht : t.err ≠ 0 := by simpa using hb
      have e := goT_err (c := T) hi ht
      refine R [.data (eReply (errR t.err))] (ho := by exact ⟨rdo1_spec _, sameRR _ _, trivial⟩) ?_
      refine W.ret (End 2 hn0 ⟨?_, ?_⟩)
      · rw [e]; rfl
      · rw [← hDE' hd, e]; rfl
    have ht : t.err = 0 := by simpa using hb
    clear hb
    have e := goT_ok (c := T) hi ht
    refine W.skip ?_
    refine RD [] (ho := by exact ⟨hii, sameNN _ _, trivial⟩) ?_
    have hset : (eCrowd T).set [0, i] (eNode t.s) = eCrowd { T with nodes := upd T.nodes i t.s } := by
      unfold eCrowd; rw [crowd_set0, nodes_set']
    refine W.ents (es' := CE { T with nodes := upd T.nodes i t.s } ++ [.var (eAct a) [], .var (eReply Reply.zero) [], .var (eNode t.s) []]) ?_ ?_
    · with_unfolding_all exact congrArg (fun x => [Ent.var x [([1], 1)], .row 7 (T.net.map eLetter), .var (eAct a) [], .var (eReply Reply.zero) [], .var (eNode t.s) []]) hset
    rw [e] at hDE' ⊢
    clear hset e hact
    have hDE2 := hDE' hd
    clear hDE'
    generalize hT1 : ({ T with nodes := upd T.nodes i t.s } : CrowdS) = T1
    have hn1 : T1.net = T.net := by rw [← hT1]
    have hfin : CE (withNet T1 (sendL i t.out T.net)) = de := by rw [← hDE2, ← hT1]; rfl
    rw [← hn1] at hfin hnt ⊢
    clear hDE2 hT1 hn1
    refine R [] (ho := by exact ⟨sameRR _ _, trivial⟩) ?_
    refine W.seq (R [] ?_)
    refine W.block (W.loop hc0 (ι := Nat) (fun j => ⟨264, frOf [(0, .ptr 0 []), (4, .ptr 3 []), (6, .data (I i)), (14, .ptr 5 []), (225, .data (eWords t.out)), (226, .data (I ((t.out.map eWord).length : Int))), (227, .data (I j))], CE (withNet T1 (sendL i (t.out.take j) T1.net)) ++ [.var (eAct a) [], .var (eReply Reply.zero) [], .var (eNode t.s) [], .var (eReply (sentR ((sendL i (t.out.take j) T1.net).length - T1.net.length))) []]⟩) (fun j => j ≤ t.out.length) (fun j => t.out.length - j) 0 (by omega) ?_ ?_)
    · refine Le.cut _ 6 (by omega) ⟨⟨by with_unfolding_all rfl, rfl⟩, ⟨by with_unfolding_all rfl, rfl⟩, ⟨by with_unfolding_all rfl, rfl⟩, ⟨by with_unfolding_all rfl, rfl⟩, ⟨by with_unfolding_all rfl, rfl⟩, ⟨by with_unfolding_all rfl, rfl⟩, ⟨by with_unfolding_all rfl, rfl⟩, trivial⟩ ?_
      have e0 : (((sendL i (t.out.take 0) T1.net).length : Int) - T1.net.length) = 0 := by simp [sendL]
      rw [e0]
      with_unfolding_all rfl
    · intro j hj
      refine R [] ?_
      refine W.seq (C (fun hb => ?_) (fun hb => ?_))
      · have hj : j < t.out.length := by have := of_decide_eq_true hb; rw [List.length_map] at this; omega
        clear hb
        have hM := sendL_len i (t.out.take j) T1.net hnt
        have hTk := sendL_take i t.out T1.net hj
        generalize hMM : sendL i (t.out.take j) T1.net = M at hM hTk ⊢
        have hW := sendW_len i (t.out.getD j Word.zero) M hM.2
        refine W.skip (W.seq (W.block ?_))
        refine R [.is 229 (.cptr (eWord (t.out.getD j Word.zero)))] (ho := by exact ⟨cptr_words t.out hj, ⟨by omega, by rw [List.length_map]; omega⟩, sizes_words t.out, sameWW _ _, trivial⟩) ?_
        refine R [] ?_
        refine W.block (W.loop hc0 (ι := Nat) (fun k => ⟨264, frOf [(0, .ptr 0 []), (4, .ptr 3 []), (6, .data (I i)), (14, .ptr 5 []), (16, .ptr 6 []), (225, .data (eWords t.out)), (226, .data (I ((t.out.map eWord).length : Int))), (227, .data (I j)), (231, .data (I k))], CE (withNet T1 (sendW i (t.out.getD j Word.zero) M k)) ++ [.var (eAct a) [], .var (eReply Reply.zero) [], .var (eNode t.s) [], .var (eReply (sentR ((sendW i (t.out.getD j Word.zero) M k).length - T1.net.length))) [], .var (eWord (t.out.getD j Word.zero)) []]⟩) (fun k => k ≤ 4) (fun k => 4 - k) 0 (by omega) ?_ ?_)
        · exact Le.cut _ 7 (by omega) ⟨⟨by with_unfolding_all rfl, rfl⟩, ⟨by with_unfolding_all rfl, rfl⟩, ⟨by with_unfolding_all rfl, rfl⟩, ⟨by with_unfolding_all rfl, rfl⟩, ⟨by with_unfolding_all rfl, rfl⟩, ⟨by with_unfolding_all rfl, rfl⟩, ⟨by with_unfolding_all rfl, rfl⟩, ⟨by with_unfolding_all rfl, rfl⟩, ⟨by with_unfolding_all rfl, rfl⟩, trivial⟩ (by with_unfolding_all rfl)
        · intro k hk
          have hNN := hW k
          have hS : sendW i (t.out.getD j Word.zero) M (k + 1) = if !((k : Int) == i) && decide ((sendW i (t.out.getD j Word.zero) M k).length < 2000) then sendW i (t.out.getD j Word.zero) M k ++ [⟨k, t.out.getD j Word.zero⟩] else sendW i (t.out.getD j Word.zero) M k := rfl
          generalize hNNN : sendW i (t.out.getD j Word.zero) M k = N at hNN hS ⊢
          refine R [] ?_
          refine W.seq (C (fun hb => ?_) (fun hb => ?_))
          · have hk : k < 4 := by have := of_decide_eq_true hb; omega
            clear hb
            refine W.skip (W.seq (W.block ?_))
            refine R [] ?_
            refine R [] ?_
            refine C (fun hb => ?_) (fun hb => ?_)
            · have hb : (bif !((k : Int) == i) then decide (((N.map eLetter).length : Int) < 2000) else false) = true := hb
              rw [bif_and, List.length_map] at hb
              simp only [Bool.and_eq_true, decide_eq_true_eq] at hb
              have hlt : N.length < 2000 := by omega
              have e1 : sendW i (t.out.getD j Word.zero) M (k + 1) = N ++ [⟨k, t.out.getD j Word.zero⟩] := by
                rw [hS, if_pos (by rw [hb.1, decide_eq_true hlt]; rfl)]
              refine RF [] 7 [(9, .wr 1), (11, .rd (some 0))] (ho := by with_unfolding_all exact ⟨rfl, sizes_lettersD N _ rfl, fits_lettersD N _ (by omega), trivial⟩) ?_
              refine R1 [] ?_
              refine R1 [] ?_
              refine ⟨k + 1, by omega, by omega, Le.cut _ 7 (by omega) ⟨⟨by with_unfolding_all rfl, rfl⟩, ⟨by with_unfolding_all rfl, rfl⟩, ⟨by with_unfolding_all rfl, rfl⟩, ⟨by with_unfolding_all rfl, rfl⟩, ⟨by with_unfolding_all rfl, rfl⟩, ⟨by with_unfolding_all rfl, rfl⟩, ⟨by with_unfolding_all rfl, rfl⟩, ⟨by with_unfolding_all rfl, rfl⟩, ⟨sl_int (wrap_up (by omega)), rfl⟩, trivial⟩ ?_⟩
              have e2 : IntKind.i64.wrap (((N.length : Int) - T1.net.length) + 1) = (((N ++ [(⟨k, t.out.getD j Word.zero⟩ : Letter)]).length : Nat) : Int) - T1.net.length := by
                rw [i64_wrap (by omega) (by omega), List.length_append]
                simp only [List.length_cons, List.length_nil]
                omega
              rw [e1]
              have e4 : (eReply (sentR ((N.length : Int) - T1.net.length))).set [1] (I (IntKind.i64.wrap (((N.length : Int) - T1.net.length) + 1))) = eReply (sentR ((((N ++ [(⟨k, t.out.getD j Word.zero⟩ : Letter)]).length : Nat) : Int) - T1.net.length)) := by
                rw [reply_set1, e2]; rfl
              rw [← e4]
              with_unfolding_all exact rsend_ents T1 N (t.out.getD j Word.zero) k _ _ _ _ _ (letterD (x := ⟨k, t.out.getD j Word.zero⟩) rfl (set_nil _ _) (fun _ => rfl))
            · have hb : (bif !((k : Int) == i) then decide (((N.map eLetter).length : Int) < 2000) else false) = false := hb
              rw [bif_and, List.length_map] at hb
              have e1 : sendW i (t.out.getD j Word.zero) M (k + 1) = N := by
                rw [hS, if_neg]
                intro h
                simp only [Bool.and_eq_true, decide_eq_true_eq] at h
                rw [h.1, decide_eq_true (by omega)] at hb
                cases hb
              refine W.skip ?_
              refine R1 [] ?_
              refine ⟨k + 1, by omega, by omega, Le.cut _ 7 (by omega) ⟨⟨by with_unfolding_all rfl, rfl⟩, ⟨by with_unfolding_all rfl, rfl⟩, ⟨by with_unfolding_all rfl, rfl⟩, ⟨by with_unfolding_all rfl, rfl⟩, ⟨by with_unfolding_all rfl, rfl⟩, ⟨by with_unfolding_all rfl, rfl⟩, ⟨by with_unfolding_all rfl, rfl⟩, ⟨by with_unfolding_all rfl, rfl⟩, ⟨sl_int (wrap_up (by omega)), rfl⟩, trivial⟩ ?_⟩
              rw [e1]
              with_unfolding_all rfl
          · have hk : k = 4 := by have := of_decide_eq_false hb; omega
            subst hk
            refine W.exit ?_
            refine R1 [] ?_
            refine ⟨j + 1, by omega, by omega, Le.cut _ 6 (by omega) ⟨⟨by with_unfolding_all rfl, rfl⟩, ⟨by with_unfolding_all rfl, rfl⟩, ⟨by with_unfolding_all rfl, rfl⟩, ⟨by with_unfolding_all rfl, rfl⟩, ⟨by with_unfolding_all rfl, rfl⟩, ⟨by with_unfolding_all rfl, rfl⟩, ⟨sl_int (wrap_up (by omega)), rfl⟩, trivial⟩ ?_⟩
            rw [hTk, hNNN]
            with_unfolding_all rfl
      · have hj : j = t.out.length := by have := of_decide_eq_false hb; rw [List.length_map] at this; omega
        subst hj
        rw [List.take_length]
        refine W.exit ?_
        refine R [] (ho := by exact ⟨sameRR _ _, trivial⟩) ?_
        refine W.ret (End 2 hn0 ⟨rfl, ?_⟩)
        rw [← hfin]; rfl
  have range : ∀ x : Int, (within x 0 3 = true → ∃ i : Nat, i < 4 ∧ x = i) ∧ (within x 0 3 = false → x < 0 ∨ 4 ≤ x) := fun x => by
    constructor
    · intro h
      simp only [within, Bool.and_eq_true, decide_eq_true_eq] at h
      exact ⟨x.toNat, by omega, by omega⟩
    · intro h
      apply Classical.byContradiction
      intro hn
      have : within x 0 3 = true := by simp only [within, Bool.and_eq_true, decide_eq_true_eq]; omega
      rw [h] at this; cases this
  obtain ⟨kind, node, n, value, word, tell⟩ := a
  refine R [] ?_
  refine W.block ?_
  by_cases hk1 : kind = 1
  · subst hk1
    have hd : ¬ drops c ⟨1, node, n, value, word, tell⟩ := fun h => by have : (1 : Int) = 3 := h.2.1; omega
    have hact : actC T ⟨1, node, n, value, word, tell⟩ = turnC T node (submitT (T.nodes node.toNat) node value) := rfl
    refine W.seq (R [] ?_)
    refine CT ?_
    refine W.skip ?_
    refine CT ?_
    refine W.seq (R [] ?_)
    refine CF ?_
    refine W.skip ?_
    refine W.seq (R [.data (.bool (within node 0 3))] (ho := by exact ⟨within_spec _ _ _, trivial⟩) ?_)
    refine C (fun hb => ?_) (fun hb => ?_)
    · have ho := (range node).2 (by have hb : (!(within node 0 3)) = true := hb; simpa using hb)
      have e : actC T ⟨1, node, n, value, word, tell⟩ = (T, errR 2) := by rw [hact]; unfold turnC; rw [if_pos ho]
      refine R [.data (eReply (errR 2))] (ho := by exact ⟨rdo1_spec _, sameRR _ _, trivial⟩) ?_
      refine W.ret (kret _ (End 2 hn0 ⟨?_, ?_⟩))
      · rw [e]; rfl
      · rw [← hDE' hd, e]; rfl
    obtain ⟨i, hi, rfl⟩ := (range node).1 (by have hb : (!(within node 0 3)) = false := hb; simpa using hb)
    clear hb
    have hii : (0 : Int) ≤ i ∧ (i : Int) < 4 := by omega
    have hs := submitValue_spec (T.nodes i) i value
    have hl := submitT_len (T.nodes i) i value
    have hact : actC T ⟨1, i, n, value, word, tell⟩ = goT T i (submitT (T.nodes i) i value) := hact
    generalize submitT (T.nodes i) i value = t at hs hl hact
    refine W.skip ?_
    refine R [] ?_
    refine W.block (R [] ?_)
    refine CT ?_
    refine RD1 [.tuple [.data (eNode t.s), .data (eWords t.out), .data (I t.err)]] (ho := by exact ⟨hii, hs, sameNz _ _, trivial⟩) ?_
    exact tail i t hi (by omega) hact hd _ (Le.cut _ 5 (by omega) ⟨⟨by with_unfolding_all rfl, rfl⟩, ⟨by with_unfolding_all rfl, rfl⟩, ⟨by with_unfolding_all rfl, rfl⟩, ⟨by with_unfolding_all rfl, rfl⟩, ⟨by with_unfolding_all rfl, rfl⟩, ⟨by with_unfolding_all rfl, rfl⟩, ⟨by with_unfolding_all rfl, rfl⟩, trivial⟩ (by with_unfolding_all rfl))
  by_cases hk4 : kind = 4
  · subst hk4
    have hd : ¬ drops c ⟨4, node, n, value, word, tell⟩ := fun h => by have : (4 : Int) = 3 := h.2.1; omega
    have hact : actC T ⟨4, node, n, value, word, tell⟩ = turnC T node (timeT (T.nodes node.toNat) node) := rfl
    refine W.seq (R [] ?_)
    refine CF ?_
    refine R [] ?_
    refine CT ?_
    refine W.skip ?_
    refine CT ?_
    refine W.seq (R [] ?_)
    refine CF ?_
    refine W.skip ?_
    refine W.seq (R [.data (.bool (within node 0 3))] (ho := by exact ⟨within_spec _ _ _, trivial⟩) ?_)
    refine C (fun hb => ?_) (fun hb => ?_)
    · have ho := (range node).2 (by have hb : (!(within node 0 3)) = true := hb; simpa using hb)
      have e : actC T ⟨4, node, n, value, word, tell⟩ = (T, errR 2) := by rw [hact]; unfold turnC; rw [if_pos ho]
      refine R [.data (eReply (errR 2))] (ho := by exact ⟨rdo1_spec _, sameRR _ _, trivial⟩) ?_
      refine W.ret (kret _ (End 2 hn0 ⟨?_, ?_⟩))
      · rw [e]; rfl
      · rw [← hDE' hd, e]; rfl
    obtain ⟨i, hi, rfl⟩ := (range node).1 (by have hb : (!(within node 0 3)) = false := hb; simpa using hb)
    clear hb
    have hii : (0 : Int) ≤ i ∧ (i : Int) < 4 := by omega
    have hs := timeOver_spec (T.nodes i) i
    have hl := timeT_len (T.nodes i) i
    have hact : actC T ⟨4, i, n, value, word, tell⟩ = goT T i (timeT (T.nodes i) i) := hact
    generalize timeT (T.nodes i) i = t at hs hl hact
    refine W.skip ?_
    refine R [] ?_
    refine W.block (R [] ?_)
    refine CF ?_
    refine R [] ?_
    refine CT ?_
    refine R1 [.tuple [.data (eNode t.s), .data (eWords t.out), .data (I t.err)]] (ho := by exact ⟨hii, hs, sameNz _ _, trivial⟩) ?_
    exact tail i t hi (by omega) hact hd _ (Le.cut _ 5 (by omega) ⟨⟨by with_unfolding_all rfl, rfl⟩, ⟨by with_unfolding_all rfl, rfl⟩, ⟨by with_unfolding_all rfl, rfl⟩, ⟨by with_unfolding_all rfl, rfl⟩, ⟨by with_unfolding_all rfl, rfl⟩, ⟨by with_unfolding_all rfl, rfl⟩, ⟨by with_unfolding_all rfl, rfl⟩, trivial⟩ (by with_unfolding_all rfl))
  by_cases hk5 : kind = 5
  · subst hk5
    have hd : ¬ drops c ⟨5, node, n, value, word, tell⟩ := fun h => by have : (5 : Int) = 3 := h.2.1; omega
    have hact : actC T ⟨5, node, n, value, word, tell⟩ = if goodW word ≠ 0 then (T, errR (goodW word)) else if word.frm ≠ T.liar then (T, errR 6) else turnC T node (hearT (T.nodes node.toNat) node word) := rfl
    refine W.seq (R [] ?_)
    refine CF ?_
    refine R [] ?_
    refine CF ?_
    refine R1 [] ?_
    refine CT ?_
    refine W.seq (R [] ?_)
    refine CT ?_
    refine W.seq (R [.data (I (goodW word))] (ho := by exact ⟨wordError_spec _, trivial⟩) ?_)
    refine R [] ?_
    refine C (fun hb => ?_) (fun hb => ?_)
    · have hg : goodW word ≠ 0 := by simpa using hb
      rw [if_pos hg] at hact
      refine R [.data (eReply (errR (goodW word)))] (ho := by exact ⟨rdo1_spec _, sameRR _ _, trivial⟩) ?_
      refine W.ret (kret _ (End 2 hn0 ⟨?_, ?_⟩))
      · rw [hact]; rfl
      · rw [← hDE' hd, hact]; rfl
    have hg : ¬ goodW word ≠ 0 := by simpa using hb
    clear hb
    rw [if_neg hg] at hact
    refine W.skip ?_
    refine RD [] ?_
    refine C (fun hb => ?_) (fun hb => ?_)
    · have hf : word.frm ≠ T.liar := by simpa using hb
      rw [if_pos hf] at hact
      refine R [.data (eReply (errR 6))] (ho := by exact ⟨rdo1_spec _, sameRR _ _, trivial⟩) ?_
      refine W.ret (kret _ (End 2 hn0 ⟨?_, ?_⟩))
      · rw [hact]; rfl
      · rw [← hDE' hd, hact]; rfl
    have hf : ¬ word.frm ≠ T.liar := by simpa using hb
    clear hb
    rw [if_neg hf] at hact
    refine W.skip ?_
    refine W.seq (R [.data (.bool (within node 0 3))] (ho := by exact ⟨within_spec _ _ _, trivial⟩) ?_)
    refine C (fun hb => ?_) (fun hb => ?_)
    · have ho := (range node).2 (by have hb : (!(within node 0 3)) = true := hb; simpa using hb)
      have e : actC T ⟨5, node, n, value, word, tell⟩ = (T, errR 2) := by rw [hact]; unfold turnC; rw [if_pos ho]
      refine R [.data (eReply (errR 2))] (ho := by exact ⟨rdo1_spec _, sameRR _ _, trivial⟩) ?_
      refine W.ret (kret _ (End 2 hn0 ⟨?_, ?_⟩))
      · rw [e]; rfl
      · rw [← hDE' hd, e]; rfl
    obtain ⟨i, hi, rfl⟩ := (range node).1 (by have hb : (!(within node 0 3)) = false := hb; simpa using hb)
    clear hb
    have hii : (0 : Int) ≤ i ∧ (i : Int) < 4 := by omega
    have hs := hearWord_spec (T.nodes i) i word
    have hl := hearT_len (T.nodes i) i word
    have hact : actC T ⟨5, i, n, value, word, tell⟩ = goT T i (hearT (T.nodes i) i word) := hact
    generalize hearT (T.nodes i) i word = t at hs hl hact
    refine W.skip ?_
    refine R [] ?_
    refine W.block (R [] ?_)
    refine CF ?_
    refine R [] ?_
    refine CF ?_
    refine RD1 [.tuple [.data (eNode t.s), .data (eWords t.out), .data (I t.err)]] (ho := by exact ⟨hii, hs, sameNz _ _, trivial⟩) ?_
    exact tail i t hi (by omega) hact hd _ (Le.cut _ 5 (by omega) ⟨⟨by with_unfolding_all rfl, rfl⟩, ⟨by with_unfolding_all rfl, rfl⟩, ⟨by with_unfolding_all rfl, rfl⟩, ⟨by with_unfolding_all rfl, rfl⟩, ⟨by with_unfolding_all rfl, rfl⟩, ⟨by with_unfolding_all rfl, rfl⟩, ⟨by with_unfolding_all rfl, rfl⟩, trivial⟩ (by with_unfolding_all rfl))
  by_cases hk2 : kind = 2
  · subst hk2
    have hact : actC T ⟨2, node, n, value, word, tell⟩ = if n < 0 ∨ (T.net.length : Int) ≤ n then (T, errR 4) else Act.deliver T (T.net.getD n.toNat Letter.zero) := rfl
    refine W.seq (R [] ?_)
    refine CF ?_
    refine R [] ?_
    refine CF ?_
    refine R1 [] ?_
    refine CF ?_
    refine W.seq (R [] ?_)
    refine CT ?_
    refine W.skip ?_
    refine CT ?_
    have hlw : IntKind.i64.wrap (((T.net.map eLetter).length : Int) - 1) = (T.net.length : Int) - 1 := by rw [List.length_map]; exact i64_wrap (by omega) (by omega)
    refine W.seq (RD [.data (.bool (within n 0 (IntKind.i64.wrap (((T.net.map eLetter).length : Int) - 1))))] (ho := by exact ⟨within_spec _ _ _, trivial⟩) ?_)
    rw [hlw]
    refine C (fun hb => ?_) (fun hb => ?_)
    · have hr : n < 0 ∨ (T.net.length : Int) ≤ n := by
        have hb : (!(within n 0 ((T.net.length : Int) - 1))) = true := hb
        apply Classical.byContradiction
        intro hn
        have : within n 0 ((T.net.length : Int) - 1) = true := by simp only [within, Bool.and_eq_true, decide_eq_true_eq]; omega
        rw [this] at hb; cases hb
      have hd : ¬ drops c ⟨2, node, n, value, word, tell⟩ := fun h => by have h2 : 0 ≤ n ∧ n < T.net.length := (hdr.1 h).2; omega
      rw [if_pos hr] at hact
      refine R [.data (eReply (errR 4))] (ho := by exact ⟨rdo1_spec _, sameRR _ _, trivial⟩) ?_
      refine W.ret (kret _ (End 2 hn0 ⟨?_, ?_⟩))
      · rw [hact]; rfl
      · rw [← hDE' hd, hact]; rfl
    have hr : 0 ≤ n ∧ n < T.net.length := by
      have hb : (!(within n 0 ((T.net.length : Int) - 1))) = false := hb
      have hb : within n 0 ((T.net.length : Int) - 1) = true := by simpa using hb
      simp only [within, Bool.and_eq_true, decide_eq_true_eq] at hb
      omega
    clear hb
    rw [if_neg (by omega)] at hact
    have hlt : n.toNat < T.net.length := by omega
    have hix : (0 : Int) ≤ n ∧ n < ((T.net.map eLetter).length : Int) := ⟨hr.1, by rw [List.length_map]; omega⟩
    refine W.skip ?_
    refine RD [.is 135 (.cptr (eLetter (T.net.getD n.toNat Letter.zero)))] (ho := by exact ⟨cptr_letters _ hlt, hix, sizes_letters _, sameLL _ _, trivial⟩) ?_
    refine W.seq (R [] ?_)
    refine CF ?_
    have hd : ¬ drops c ⟨2, node, n, value, word, tell⟩ := fun h => by have : (2 : Int) = 3 := h.2.1; omega
    have hx : T.net.getD n.toNat Letter.zero ∈ T.net := by
      rw [List.getD_eq_getElem?_getD, List.getElem?_eq_getElem hlt]
      exact List.getElem_mem hlt
    have hxt := htt _ hx
    generalize T.net.getD n.toNat Letter.zero = x at hact hxt
    obtain ⟨i, hi, hxi⟩ : ∃ i : Nat, i < 4 ∧ x.to = i := ⟨x.to.toNat, by omega, by omega⟩
    have hs := hearWord_spec (T.nodes i) i x.word
    have hl := hearT_len (T.nodes i) i x.word
    have hact : actC T ⟨2, node, n, value, word, tell⟩ = goT T i (hearT (T.nodes i) i x.word) := by rw [hact]; unfold Act.deliver; rw [hxi]; rfl
    have hs' : Pure Try.prog 78 [.data (eNode (T.nodes x.to.toNat)), .data (I x.to), .data (eWord x.word)] (turnAV (hearT (T.nodes i) i x.word)) := by rw [hxi]; exact hs
    generalize hearT (T.nodes i) i x.word = t at hs' hl hact
    refine W.skip ?_
    refine R [] ?_
    refine RD1 [.tuple [.data (eNode t.s), .data (eWords t.out), .data (I t.err)]] (ho := by exact ⟨hxt, hs', sameNz _ _, trivial⟩) ?_
    exact tail i t hi (by omega) hact hd _ (Le.cut _ 5 (by omega) ⟨⟨by with_unfolding_all rfl, rfl⟩, ⟨by with_unfolding_all rfl, rfl⟩, ⟨by with_unfolding_all rfl, rfl⟩, ⟨sl_int hxi, rfl⟩, ⟨by with_unfolding_all rfl, rfl⟩, ⟨by with_unfolding_all rfl, rfl⟩, ⟨by with_unfolding_all rfl, rfl⟩, trivial⟩ (by with_unfolding_all rfl))
  by_cases hk3 : kind = 3
  · subst hk3
    have hact : actC T ⟨3, node, n, value, word, tell⟩ = if n < 0 ∨ (T.net.length : Int) ≤ n then (T, errR 4) else (if (3 : Int) = 3 then ({ T with net := T.net.eraseIdx n.toNat }, errR 0) else Act.deliver T (T.net.getD n.toNat Letter.zero)) := rfl
    refine W.seq (R [] ?_)
    refine CF ?_
    refine R [] ?_
    refine CF ?_
    refine R1 [] ?_
    refine CF ?_
    refine W.seq (R [] ?_)
    refine CF ?_
    refine R1 [] ?_
    refine CT ?_
    have hlw : IntKind.i64.wrap (((T.net.map eLetter).length : Int) - 1) = (T.net.length : Int) - 1 := by rw [List.length_map]; exact i64_wrap (by omega) (by omega)
    refine W.seq (RD [.data (.bool (within n 0 (IntKind.i64.wrap (((T.net.map eLetter).length : Int) - 1))))] (ho := by exact ⟨within_spec _ _ _, trivial⟩) ?_)
    rw [hlw]
    refine C (fun hb => ?_) (fun hb => ?_)
    · have hr : n < 0 ∨ (T.net.length : Int) ≤ n := by
        have hb : (!(within n 0 ((T.net.length : Int) - 1))) = true := hb
        apply Classical.byContradiction
        intro hn
        have : within n 0 ((T.net.length : Int) - 1) = true := by simp only [within, Bool.and_eq_true, decide_eq_true_eq]; omega
        rw [this] at hb; cases hb
      have hd : ¬ drops c ⟨3, node, n, value, word, tell⟩ := fun h => by have h2 : 0 ≤ n ∧ n < T.net.length := (hdr.1 h).2; omega
      rw [if_pos hr] at hact
      refine R [.data (eReply (errR 4))] (ho := by exact ⟨rdo1_spec _, sameRR _ _, trivial⟩) ?_
      refine W.ret (kret _ (End 2 hn0 ⟨?_, ?_⟩))
      · rw [hact]; rfl
      · rw [← hDE' hd, hact]; rfl
    have hr : 0 ≤ n ∧ n < T.net.length := by
      have hb : (!(within n 0 ((T.net.length : Int) - 1))) = false := hb
      have hb : within n 0 ((T.net.length : Int) - 1) = true := by simpa using hb
      simp only [within, Bool.and_eq_true, decide_eq_true_eq] at hb
      omega
    clear hb
    rw [if_neg (by omega)] at hact
    have hlt : n.toNat < T.net.length := by omega
    have hix : (0 : Int) ≤ n ∧ n < ((T.net.map eLetter).length : Int) := ⟨hr.1, by rw [List.length_map]; omega⟩
    refine W.skip ?_
    refine RD [.is 135 (.cptr (eLetter (T.net.getD n.toNat Letter.zero)))] (ho := by exact ⟨cptr_letters _ hlt, hix, sizes_letters _, sameLL _ _, trivial⟩) ?_
    refine W.seq (R [] ?_)
    refine CT ?_
    have hd : drops c ⟨3, node, n, value, word, tell⟩ := hdr.2 ⟨rfl, hr⟩
    refine RF [] 6 [(3, .rd (some 0)), (4, .rd (some 0)), (5, .rd (some 2)), (6, .rd (some 2)), (7, .rd none), (8, .on []), (11, .rd (some 0)), (12, .rd (some 0)), (13, .rd (some 2)), (14, .rd (some 2)), (16, .rd none), (17, .wr 6)] (ho := ?ob) ?_
    case ob =>
      clear hDE' hDEd hdr hon kret tail range hact hd
      have hw : IntKind.i64.wrap (n + 1) = n + 1 := i64_wrap (by omega) (by omega)
      have hlm : (T.net.map eLetter).length = T.net.length := List.length_map _
      have ht : ∀ d ∈ (T.net.map eLetter).take n.toNat, d.size = 7 := fun d h => sizes_letters _ d (List.mem_of_mem_take h)
      have hta : ∀ d ∈ (T.net.map eLetter).take n.toNat ++ (T.net.map eLetter).drop (IntKind.i64.wrap (n + 1)).toNat, d.size = 7 := fun d h => by
        rcases List.mem_append.1 h with h | h
        · exact ht d h
        · exact sizes_letters _ d (List.mem_of_mem_drop h)
      have hf1 : ((T.net.map eLetter).take n.toNat).length ≤ maxLen ∧ ((T.net.map eLetter).take n.toNat).length * 56 ≤ 140737488355328 := by
        rw [List.length_take]; unfold maxLen; omega
      have hf2 : ((T.net.map eLetter).take n.toNat ++ (T.net.map eLetter).drop (IntKind.i64.wrap (n + 1)).toNat).length ≤ maxLen ∧ ((T.net.map eLetter).take n.toNat ++ (T.net.map eLetter).drop (IntKind.i64.wrap (n + 1)).toNat).length * 56 ≤ 140737488355328 := by
        rw [List.length_append, List.length_take, List.length_drop]; unfold maxLen; omega
      refine ⟨⟨trivial, hr.1, Nat.zero_le _, ?_⟩, sizes_letters _, ht, hf1, ⟨?_, trivial, ?_, Nat.le_refl _⟩, sizes_letters _, rfl, hta, hf2, trivial⟩
      · show n.toNat ≤ (T.net.map eLetter).length; omega
      · show 0 ≤ IntKind.i64.wrap (n + 1); omega
      · show (IntKind.i64.wrap (n + 1)).toNat ≤ (T.net.map eLetter).length; omega
    have e1 : (T.net.map eLetter).take n.toNat ++ (T.net.map eLetter).drop (IntKind.i64.wrap (n + 1)).toNat = (T.net.eraseIdx n.toNat).map eLetter := by
      have hw : IntKind.i64.wrap (n + 1) = n + 1 := i64_wrap (by omega) (by omega)
      rw [hw, show (n + 1).toNat = n.toNat + 1 by omega, List.eraseIdx_eq_take_drop_succ, List.map_append, List.map_take, List.map_drop]
    have hact : actC T ⟨3, node, n, value, word, tell⟩ = ({ T with net := T.net.eraseIdx n.toNat }, errR 0) := by rw [hact, if_pos rfl]
    rw [hact] at hDEd
    have hret := kret
    rw [hact] at hret
    clear hDE' hon kret tail range
    refine R [.data (eReply (errR 0))] (ho := by exact ⟨rdo1_spec _, sameRR _ _, trivial⟩) ?_
    refine W.ret (hret _ (EndM [0, 1, 6] (fun i hi => ?_) ⟨rfl, ?_⟩))
    · match i, hi with
      | 0, _ => rfl
      | 1, _ => rfl
      | i + 2, h => omega
    · rw [← hDEd hd]
      have e2 : (eCrowd T).set [1] (.list ((T.net.eraseIdx n.toNat).map eLetter)) = eCrowd { T with net := T.net.eraseIdx n.toNat } := by
        unfold eCrowd; rw [crowd_set1]; rfl
      have key : [Ent.var ((eCrowd T).set [1] (.list ((T.net.map eLetter).take n.toNat ++ (T.net.map eLetter).drop (IntKind.i64.wrap (n + 1)).toNat))) [([1], 2)], .row 7 (T.net.map eLetter), .row 7 ((T.net.map eLetter).take n.toNat ++ (T.net.map eLetter).drop (IntKind.i64.wrap (n + 1)).toNat)] =
          [.var (eCrowd { T with net := T.net.eraseIdx n.toNat }) [([1], 2)], .row 7 (T.net.map eLetter), .row 7 ((T.net.eraseIdx n.toNat).map eLetter)] := by rw [e1, e2]
      clear e1 e2 hDEd hact
      refine Eq.trans ?_ key
      refine congr (congrArg List.cons ?_) (congr (congrArg List.cons ?_) (congr (congrArg List.cons ?_) rfl))
      · with_unfolding_all rfl
      · with_unfolding_all rfl
      · with_unfolding_all rfl
  have hd : ¬ drops c ⟨kind, node, n, value, word, tell⟩ := fun h => hk3 h.2.1
  have nb : ∀ {x : Int}, ¬ kind = x → (kind == x) = false := fun {x} h => by simpa using h
  refine W.seq (R [] ?_)
  refine C (fun hb => absurd (hb.symm.trans (nb hk1)) (by simp)) (fun _ => ?_)
  refine R [] ?_
  refine C (fun hb => absurd (hb.symm.trans (nb hk4)) (by simp)) (fun _ => ?_)
  refine R1 [] ?_
  refine C (fun hb => absurd (hb.symm.trans (nb hk5)) (by simp)) (fun _ => ?_)
  refine W.seq (R [] ?_)
  refine C (fun hb => absurd (hb.symm.trans (nb hk2)) (by simp)) (fun _ => ?_)
  refine R1 [] ?_
  refine C (fun hb => absurd (hb.symm.trans (nb hk3)) (by simp)) (fun _ => ?_)
  refine R [] ?_
  by_cases hk6 : kind = 6
  · subst hk6
    have hact : actC T ⟨6, node, n, value, word, tell⟩ = (T, Act.read T ⟨6, node, n, value, word, tell⟩) := rfl
    refine CT ?_
    refine R [] ?_
    refine W.seq (R [] ?_)
    refine W.block (W.loop hc0 (ι := Nat) (fun i => ⟨264, frOf [(0, .ptr 0 []), (3, .ptr 2 []), (4, .ptr 3 []), (12, .ptr 5 []), (180, .data (I i))], CE T ++ [.var (eAct ⟨6, node, n, value, word, tell⟩) [], .var (eReply Reply.zero) [], .var (eNodeN Node.zero) [], .var (eInts44 (setI T i)) []]⟩) (fun i => i ≤ 4) (fun i => 4 - i) 0 (by omega) ?_ ?_)
    · refine Le.cut _ 6 (by omega) ⟨⟨by with_unfolding_all rfl, rfl⟩, ⟨by with_unfolding_all rfl, rfl⟩, ⟨by with_unfolding_all rfl, rfl⟩, ⟨by with_unfolding_all rfl, rfl⟩, ⟨by with_unfolding_all rfl, rfl⟩, trivial⟩ ?_
      have e0 : setI T 0 = fun _ _ => 0 := by funext k j; unfold setI; rw [if_neg (by omega)]
      rw [e0]
      with_unfolding_all rfl
    · intro i hi
      refine R [] ?_
      refine W.seq (C (fun hb => ?_) (fun hb => ?_))
      · have hi : i < 4 := by have := of_decide_eq_true hb; omega
        have hii : (0 : Int) ≤ i ∧ (i : Int) < 4 := by omega
        clear hb
        refine W.skip (W.seq (W.block ?_))
        refine R [] ?_
        refine R1 [] (ho := by exact ⟨hii, hii, sameVV _ _, trivial⟩) ?_
        refine R1 [] ?_
        refine ⟨i + 1, by omega, by omega, Le.cut _ 6 (by omega) ⟨⟨by with_unfolding_all rfl, rfl⟩, ⟨by with_unfolding_all rfl, rfl⟩, ⟨by with_unfolding_all rfl, rfl⟩, ⟨by with_unfolding_all rfl, rfl⟩, ⟨sl_int (wrap_up (by omega)), rfl⟩, trivial⟩ ?_⟩
        rw [← setI_upd, ← inner_set]
        with_unfolding_all rfl
      · have hi : i = 4 := by have := of_decide_eq_false hb; omega
        subst hi
        clear hb
        refine W.exit ?_
        refine W.seq (R [] ?_)
        refine C (fun hb => ?_) (fun hb => ?_)
        · have hb : (bif decide (0 ≤ T.liar) then !(n == 0) else false) = true := hb
          rw [bif_and] at hb
          simp only [Bool.and_eq_true, decide_eq_true_eq] at hb
          have hlb : (0 : Int) ≤ T.liar ∧ T.liar < 4 := ⟨hb.1, hli.2⟩
          have hl : upd (setI T 4) T.liar.toNat tell = upd (setI T 4) T.liar.toNat tell := rfl
          have htk : takeV (upd (setI T 4) T.liar.toNat tell) = takeV (toldC T ⟨6, node, n, value, word, tell⟩) := by
            refine takeV_congr fun k hk => ?_
            by_cases e : k = T.liar.toNat
            · subst e
              rw [upd_same]
              unfold toldC
              rw [if_pos]
              have : ((T.liar.toNat : Nat) : Int) = T.liar := by omega
              show (((T.liar.toNat : Nat) : Int) == T.liar && !(n == 0)) = true
              rw [this, hb.2]; simp
            · rw [upd_other _ _ e]
              unfold toldC setI
              rw [if_pos hk, if_neg]
              show ¬ ((((k : Nat) : Int) == T.liar && !(n == 0)) = true)
              simp only [Bool.and_eq_true, beq_iff_eq, not_and]
              intro h; omega
          refine RD1 [] (ho := by exact ⟨hlb, sameVV _ _, trivial⟩) ?_
          refine W.ents (es' := CE T ++ [.var (eAct ⟨6, node, n, value, word, tell⟩) [], .var (eReply Reply.zero) [], .var (eNodeN Node.zero) [], .var (eInts44 (upd (setI T 4) T.liar.toNat tell)) []]) ?_ ?_
          · rw [← inner_set]
            with_unfolding_all rfl
          refine R [.data (eVotes (takeV (upd (setI T 4) T.liar.toNat tell)))] (ho := by with_unfolding_all exact ⟨taken_spec _, sameR (r := Act.read T ⟨6, node, n, value, word, tell⟩) rfl rfl (congrArg eVotes htk) (fun _ => rfl), trivial⟩) ?_
          refine W.ret (kret _ (End 2 hn0 ⟨?_, ?_⟩))
          · rw [hact]
            with_unfolding_all exact congrArg AV.data (replyD (r := Act.read T ⟨6, node, n, value, word, tell⟩) rfl rfl (congrArg eVotes htk) (fun _ => rfl))
          · rw [← hDE' hd, hact]; rfl
        · have hb : (bif decide (0 ≤ T.liar) then !(n == 0) else false) = false := hb
          rw [bif_and] at hb
          have htk : takeV (setI T 4) = takeV (toldC T ⟨6, node, n, value, word, tell⟩) := by
            refine takeV_congr fun k hk => ?_
            unfold toldC setI
            rw [if_pos hk, if_neg]
            show ¬ ((((k : Nat) : Int) == T.liar && !(n == 0)) = true)
            intro h
            simp only [Bool.and_eq_true, beq_iff_eq] at h
            rw [h.2, decide_eq_true (show 0 ≤ T.liar by omega)] at hb
            cases hb
          refine W.skip ?_
          refine R [.data (eVotes (takeV (setI T 4)))] (ho := by with_unfolding_all exact ⟨taken_spec _, sameR (r := Act.read T ⟨6, node, n, value, word, tell⟩) rfl rfl (congrArg eVotes htk) (fun _ => rfl), trivial⟩) ?_
          refine W.ret (kret _ (End 2 hn0 ⟨?_, ?_⟩))
          · rw [hact]
            with_unfolding_all exact congrArg AV.data (replyD (r := Act.read T ⟨6, node, n, value, word, tell⟩) rfl rfl (congrArg eVotes htk) (fun _ => rfl))
          · rw [← hDE' hd, hact]; rfl
  · have hact : actC T ⟨kind, node, n, value, word, tell⟩ = (T, errR 3) := by
      unfold actC
      simp only []
      rw [if_neg hk1, if_neg hk4, if_neg (by omega), if_neg hk5, if_neg hk6]
    refine C (fun hb => absurd (hb.symm.trans (nb hk6)) (by simp)) (fun _ => ?_)
    refine R [.data (eReply (errR 3))] (ho := by exact ⟨rdo1_spec _, sameRR _ _, trivial⟩) ?_
    refine W.ret (kret _ (End 2 hn0 ⟨?_, ?_⟩))
    · rw [hact]; rfl
    · rw [← hDE' hd, hact]; rfl

end Go.W

/-
  The reference's crowd, walked: new ones.
-/
namespace Go.W
open Go.Proofs

theorem crowdD' {f : Nat → D} {n m : D} {l a : Int} (h0 : f 0 = n) (h1 : f 1 = m) (h2 : f 2 = I l) (h3 : f 3 = I a) (h4 : ∀ i, f (i + 4) = .nil) : D.agg 4 f = eCrowdD n m l a := crowdD h0 h1 h2 h3 h4
def freshM (k : Nat) : Nat → Node := fun i => if i < k then { newN with validIn := 0 } else Node.zero

set_option maxHeartbeats 4000000 in
set_option maxRecDepth 100000 in
theorem refNew_ok (liar : Int) (h : -1 ≤ liar ∧ liar < 4) : Fn Try.prog 40 [.data (I liar)] [] (.tuple [.ptr 0 [], .data (I 0)]) (CE (newC liar)) := by
  refine spec_of ttok Try.func40 rfl (by kernel_rfl) (by exact Nat.le_of_ble_eq_true rfl) fun hin hie c0 hc0 he => ?_
  have hn0 : c0.es.length ≤ 0 := Nat.le_of_eq (by rw [he]; rfl)
  have hw : within liar (-1) 3 = true := by
    simp only [within, Bool.and_eq_true, decide_eq_true_eq]
    omega
  have hs := within_spec liar (-1) 3
  rw [hw] at hs
  refine R [] ?_
  refine W.seq (R [.data (.bool true)] (ho := by exact ⟨hs, trivial⟩) ?_)
  refine CF ?_
  refine W.skip ?_
  refine R [] ?_
  refine W.ents (es' := [.var (eCrowdD (eNodesN fun _ => Node.zero) .nil liar 0) []]) ?_ ?_
  · with_unfolding_all exact congrArg (fun d => [Ent.var d []]) (crowdD' (n := eNodesN fun _ => Node.zero) (m := .nil) (l := liar) (a := 0) rfl rfl rfl rfl (fun _ => rfl))
  refine W.le hc0 (Le.recast 0 (d := eCrowdD (eNodesN fun _ => Node.zero) .nil liar 0) (d' := eCrowdD (eNodes (freshK 0)) .nil liar 0) (tok := []) rfl (DRle.crowd (DRle.arr fun i _ => DRle.nodeN Node.zero)) (fun _ _ h => by cases h)) ?_
  refine W.le hc0 (Le.nilRow 0 [1] 7 (d := eCrowdD (eNodes (freshK 0)) .nil liar 0) (tok := []) rfl ⟨by omega, trivial⟩ rfl) ?_
  refine W.seq (R [] ?_)
  refine W.block (W.loop hc0 (ι := Nat) (fun k => ⟨29, frOf [(4, .ptr 0 []), (12, .data (I k))], CE ⟨freshK k, [], liar, 0⟩⟩) (fun k => k ≤ 4) (fun k => 4 - k) 0 (by omega) ?_ ?_)
  · refine Le.cut _ 2 (by omega) ⟨⟨by with_unfolding_all rfl, rfl⟩, ⟨by with_unfolding_all rfl, rfl⟩, trivial⟩ ?_
    with_unfolding_all exact congrArg (fun d => [Ent.var d [([1], 1)], .row 7 []]) (crowd_set1 (eNodes (freshK 0)) .nil liar 0 (.list []))
  · intro k hk
    refine R [] ?_
    refine W.seq (C (fun hb => ?_) (fun hb => ?_))
    · have hk : k < 4 := by have := of_decide_eq_true hb; omega
      have hkk : (0 : Int) ≤ k ∧ (k : Int) < 4 := by omega
      clear hb
      have e1 : (eNodes (freshK k)).set [k, 4] (I (-1)) = eNodes (upd (freshK k) k { Node.zero with boundIn := -1 }) := nodes_set (by
        have : freshK k k = Node.zero := by unfold freshK; rw [if_neg (by omega)]
        rw [this]; exact node_set4 Node.zero (-1))
      have e2 : (eNodes (upd (freshK k) k { Node.zero with boundIn := -1 })).set [k, 6] (I (-1)) = eNodes (freshK (k + 1)) := by
        refine (nodes_set (x := newN) ?_).trans ?_
        · rw [upd_same]; exact node_set6 { Node.zero with boundIn := -1 } (-1)
        · rw [upd_upd, freshK_upd]
      have e : ((eCrowdD (eNodes (freshK k)) (eLetters []) liar 0).set [0, k, 4] (I (-1))).set [0, k, 6] (I (-1)) = eCrowdD (eNodes (freshK (k + 1))) (eLetters []) liar 0 := by rw [crowd_set0, e1, crowd_set0, e2]
      clear e1 e2
      obtain ⟨j, hj⟩ : ∃ j, j = k + 1 := ⟨_, rfl⟩
      rw [← hj] at e
      refine W.skip (W.seq (W.block ?_))
      rcases (by omega : k = 0 ∨ k = 1 ∨ k = 2 ∨ k = 3) with rfl | rfl | rfl | rfl
      all_goals
        refine R [] ?_
        refine RF1 [] 2 [(8, .wl 0), (10, .sh 0)] (ho := by exact ⟨hkk, hkk, trivial⟩) ?_
        refine R1 [] ?_
        refine ⟨j, by omega, by omega, Le.cut _ 2 (by omega) ⟨⟨by with_unfolding_all rfl, rfl⟩, ⟨sl_int (by subst hj; exact wrap_up (by omega)), rfl⟩, trivial⟩ ?_⟩
        with_unfolding_all exact congrArg (fun d => [Ent.var d [([1], 1)], .row 7 []]) e
    · have hk : k = 4 := by have := of_decide_eq_false hb; omega
      subst hk
      refine W.exit ?_
      refine R [] ?_
      refine W.le hc0 (Le.recast 0 (d := eCrowd ⟨freshK 4, [], liar, 0⟩) (d' := eCrowd (newC liar)) (tok := [([1], 1)]) (by with_unfolding_all rfl) (DRle.crowd (DRle.arr fun i hi => ?_)) (fun p y hp => ?_)) ?_
      · have e : freshK 4 i = newN := by unfold freshK; rw [if_pos hi]
        show DRle (eNode (freshK 4 i)) (eNode newN)
        rw [e]; exact .refl _
      · have := List.mem_singleton.1 hp
        simp only [Prod.mk.injEq] at this
        obtain ⟨rfl, rfl⟩ := this
        rfl
      exact W.ret (End 2 (by omega) ⟨rfl, rfl⟩)

end Go.W

/-
  A crowd that is nil; the law CrowdNil.
-/
namespace Go.W
open Go.Proofs

theorem VD.nodeN {w : World} {fz : Nat → Nat} {s : Node} {v : Value} (h : VD w fz (eNodeQ s .nil) v) : VD w fz (eNodeQ s (eQ [])) v := by
  obtain ⟨cs, h1, h2, h3⟩ := h
  exact ⟨cs, h1, h2, (DRle.nodeN s).dr _ _ _ h3⟩
theorem VR.nodeN {c : Cx} {s : Node} {v : Value} (h : VR c (.data (eNodeQ s .nil)) v) : VR c (.data (eNodeQ s (eQ []))) v := by
  cases h with
  | data h => exact .data h.nodeN
/-- Nodes whose queue is nil are as such whose queue is empty. -/
theorem pure_nodeN {P : Program} {f : FuncId} {s t : Node} {r : AV} (h : Pure P f [.data (eNodeQ s (eQ [])), .data (eNodeQ t (eQ []))] r) : Pure P f [.data (eNodeQ s .nil), .data (eNodeQ t .nil)] r := by
  refine ⟨h.1, fun c hc he vals hsz hv => h.2 c hc he vals hsz fun i hi => ?_⟩
  match i, hi with
  | 0, _ => exact (hv 0 (by simp)).nodeN
  | 1, _ => exact (hv 1 (by simp)).nodeN

set_option maxRecDepth 100000 in
theorem do_nil (a : Act) : Pure Try.prog 29 [.nilptr, .data (eAct a)] (.data (eReply (errR 4))) := by
  refine spec_of ttok Try.func29 rfl (by kernel_rfl) (by exact Nat.le_of_ble_eq_true rfl) fun hin hie c0 hc0 he => ?_
  have hn0 : c0.es.length ≤ 0 := Nat.le_of_eq (by rw [he]; rfl)
  refine R [] ?_
  refine R [] ?_
  refine W.seq (W.block (R [] ?_))
  refine CT ?_
  refine R [.data (eReply (errR 4))] (ho := by exact ⟨do1_spec _, sameRR _ _, trivial⟩) ?_
  exact W.ret (End 0 hn0 ⟨rfl, rfl⟩)

set_option maxRecDepth 100000 in
theorem node_nil (i : Int) : Pure Try.prog 30 [.nilptr, .data (I i)] (.data (eNodeN Node.zero)) := by
  refine spec_of ttok Try.func30 rfl (by kernel_rfl) (by exact Nat.le_of_ble_eq_true rfl) fun hin hie c0 hc0 he => ?_
  have hn0 : c0.es.length ≤ 0 := Nat.le_of_eq (by rw [he]; rfl)
  refine R [] ?_
  refine W.seq (R [] ?_)
  refine CT ?_
  refine R [] (ho := by exact ⟨Same.refl _, trivial⟩) ?_
  exact W.ret (End 0 hn0 ⟨rfl, rfl⟩)

set_option maxRecDepth 100000 in
theorem net_nil : Pure Try.prog 35 [.nilptr] (.data .nil) := by
  refine spec_of ttok Try.func35 rfl (by kernel_rfl) (by exact Nat.le_of_ble_eq_true rfl) fun hin hie c0 hc0 he => ?_
  have hn0 : c0.es.length ≤ 0 := Nat.le_of_eq (by rw [he]; rfl)
  refine R [] ?_
  refine W.seq (R [] ?_)
  refine CT ?_
  refine R [] ?_
  exact W.ret (End 0 hn0 ⟨rfl, rfl⟩)

set_option maxRecDepth 100000 in
theorem crowdNil_spec (a : Act) (i : Int) : Pure Try.prog 8 [.data (eAct a), .data (I i)] (.data (.bool true)) := by
  refine spec_of ttok Try.func8 rfl (by kernel_rfl) (by exact Nat.le_of_ble_eq_true rfl) fun hin hie c0 hc0 he => ?_
  have hn0 : c0.es.length ≤ 0 := Nat.le_of_eq (by rw [he]; rfl)
  refine R [] ?_
  refine R [] ?_
  refine R [.data (eReply (errR 4)), .data (eNodeN Node.zero), .data (.bool true), .data .nil] (ho := ?ob) ?_
  case ob =>
    refine ⟨do_nil a, fun _ => node_nil i, fun _ => pure_nodeN (sameNode_spec Node.zero), fun _ => net_nil, trivial⟩
  refine W.ret (EndB 0 hn0 ?_)
  with_unfolding_all rfl

end Go.W

/-
  The law CrowdPlays (under way).
-/
namespace Go.W
open Go.Proofs

theorem eqDp_votes (v : Nat → Int) : eqD (eVotes v) (eVotes v) = true := allTo_spec.2 fun _ _ => beq_self_eq_true _
theorem eqDp_word (w : Word) : eqD (eWord w) (eWord w) = true := allTo_spec.2 fun i hi => by
  match i, hi with
  | 0, _ => exact beq_self_eq_true _
  | 1, _ => exact beq_self_eq_true _
  | 2, _ => exact beq_self_eq_true _
  | 3, _ => exact beq_self_eq_true _
  | 4, _ => exact beq_self_eq_true _
  | 5, _ => exact beq_self_eq_true _
theorem eqDp_letter (x : Letter) : eqD (eLetter x) (eLetter x) = true := allTo_spec.2 fun i hi => by
  match i, hi with
  | 0, _ => exact beq_self_eq_true _
  | 1, _ => exact eqDp_word _
theorem eqDp_reply (r : Reply) : eqD (eReply r) (eReply r) = true := allTo_spec.2 fun i hi => by
  match i, hi with
  | 0, _ => exact beq_self_eq_true _
  | 1, _ => exact beq_self_eq_true _
  | 2, _ => exact eqDp_votes _
theorem notp {a : Bool} (h : a = true) : (!a) = false := by subst h; rfl
theorem beqp (a : Int) : (!(a == a)) = false := by simp
theorem cptr_actsP (l : List Act) {k : Nat} (h : k < l.length) : AV.cptr ((l.map eAct).getD k default) = .cptr (eAct (l.getD k Act.zero)) := by
  simp [List.getElem?_eq_getElem h]
theorem sizes_actsP (l : List Act) : ∀ d ∈ l.map eAct, d.size = 14 := by
  intro d hd
  obtain ⟨v, _, rfl⟩ := List.mem_map.1 hd
  rfl

theorem rdo_no {c : CrowdS} {a : Act} (hn : c.net.length ≤ 2000) (hac : 0 ≤ c.acts ∧ c.acts ≤ 600) (hto : ∀ x ∈ c.net, 0 ≤ x.to ∧ x.to < 4) (hli : -1 ≤ c.liar ∧ c.liar < 4) (h : ¬ drops c a) :
    Fn Try.prog 41 [.ptr 0 [], .data (eAct a)] (CE c) (.data (eReply (doC c a).2)) (CE (doC c a).1) := by
  have := rdo_spec c a hn hac hto hli
  rwa [DE_no h] at this
theorem rdo_drop {c : CrowdS} {a : Act} (hn : c.net.length ≤ 2000) (hac : 0 ≤ c.acts ∧ c.acts ≤ 600) (hto : ∀ x ∈ c.net, 0 ≤ x.to ∧ x.to < 4) (hli : -1 ≤ c.liar ∧ c.liar < 4) (h : drops c a) :
    Fn Try.prog 41 [.ptr 0 [], .data (eAct a)] (CE c) (.data (eReply (doC c a).2)) [.var (eCrowd (doC c a).1) [([1], 2)], .row 7 (c.net.map eLetter), .row 7 ((doC c a).1.net.map eLetter)] := by
  have := rdo_spec c a hn hac hto hli
  rwa [DE_yes h] at this

set_option maxHeartbeats 4000000 in
set_option maxRecDepth 100000 in
theorem sameNet_spec (l : List Letter) : Pure Try.prog 42 [.data (eLetters l), .data (eLetters l)] (.data (.bool true)) := by
  refine spec_of ttok Try.func42 rfl (by kernel_rfl) (by exact Nat.le_of_ble_eq_true rfl) fun hin hie c0 hc0 he => ?_
  have hn0 : c0.es.length ≤ 0 := Nat.le_of_eq (by rw [he]; rfl)
  have hlen : l.length ≤ 9223372036854775807 := by
    have : InR (eLetters l) := hin (.data (eLetters l)) (by simp)
    cases this with
    | list h _ => simpa [maxLen] using h
  refine R [] ?_
  refine W.seq (R [] ?_)
  refine C (fun h => ?_) (fun h => ?_)
  · have h : (!(((l.map eLetter).length : Int) == ((l.map eLetter).length : Int))) = true := h
    rw [beqp] at h; cases h
  refine W.skip ?_
  refine W.seq (R [] ?_)
  refine W.block (W.loop hc0 (ι := Nat) (fun k => ⟨26, frOf [(0, .data (eLetters l)), (1, .data (eLetters l)), (12, .data (I ((l.map eLetter).length : Int))), (13, .data (I k))], []⟩) (fun k => k ≤ l.length) (fun k => l.length - k) 0 (by omega) ?_ ?_)
  · exact Le.cut _ 0 (by omega) ⟨⟨by with_unfolding_all rfl, rfl⟩, ⟨by with_unfolding_all rfl, rfl⟩, ⟨by with_unfolding_all rfl, rfl⟩, ⟨by with_unfolding_all rfl, rfl⟩, trivial⟩ (by with_unfolding_all rfl)
  · intro k hk
    refine R [] ?_
    refine W.seq (C (fun hb => ?_) (fun hb => ?_))
    · have hk : k < l.length := by have hb : (k : Int) < (l.map eLetter).length := of_decide_eq_true hb; rw [List.length_map] at hb; omega
      have hki : (0 : Int) ≤ k ∧ (k : Int) < (l.map eLetter).length := ⟨by omega, by rw [List.length_map]; omega⟩
      have hcp := cptr_letters l hk
      generalize l.getD k Letter.zero = x at hcp
      clear hb
      refine W.skip (W.seq (W.block ?_))
      refine R [] ?_
      refine RD [.is 18 (.cptr (eLetter x)), .is 22 (.cptr (eLetter x))] (ho := by exact ⟨hcp, hki, sizes_letters _, hcp, hki, sizes_letters _, trivial⟩) ?_
      refine C (fun hb => ?_) (fun hb => ?_)
      · exfalso
        have hb : (!(eqD (eLetter x) (eLetter x))) = true := hb
        rw [notp (eqDp_letter x)] at hb; cases hb
      refine W.skip ?_
      refine R1 [] ?_
      exact ⟨k + 1, by omega, by omega, Le.cut _ 0 (by omega) ⟨⟨by with_unfolding_all rfl, rfl⟩, ⟨by with_unfolding_all rfl, rfl⟩, ⟨by with_unfolding_all rfl, rfl⟩, ⟨sl_int (wrap_up (by omega)), rfl⟩, trivial⟩ (by with_unfolding_all rfl)⟩
    · refine W.exit ?_
      refine R [] ?_
      exact W.ret (EndB 0 hn0 rfl)

set_option maxRecDepth 100000 in
theorem crowdNode_out (c : CrowdS) (i : Int) (hi : i < 0 ∨ 4 ≤ i) : Fn Try.prog 30 [.ptr 0 [], .data (I i)] (CE c) (.data (eNodeN Node.zero)) (CE c) := by
  refine spec_of ttok Try.func30 rfl (by kernel_rfl) (by exact Nat.le_of_ble_eq_true rfl) fun hin hie c0 hc0 he => ?_
  have hn0 : c0.es.length ≤ 2 := Nat.le_of_eq (by rw [he]; rfl)
  refine R [] ?_
  refine W.seq (R [] ?_)
  refine C (fun hb => ?_) (fun hb => ?_)
  · refine R [] (ho := by exact ⟨Same.refl _, trivial⟩) ?_
    exact W.ret (End 2 hn0 ⟨rfl, rfl⟩)
  · exfalso
    have hb : (bif bif false then true else decide (i < 0) then true else decide (4 ≤ i)) = false := hb
    rw [bif_or, bif_or] at hb
    simp only [Bool.or_eq_false_iff, decide_eq_false_iff_not] at hb
    omega

theorem Played.letters {liar : Int} {c : CrowdS} {i : Nat} (h : Played liar c i) : ∀ x ∈ c.net, 0 ≤ x.to ∧ x.to < 4 := fun x hx => ⟨(h.inv.net x hx).1, (h.inv.net x hx).2.1⟩

/-- Two crowds, the second one's row at 3. -/
abbrev CEs (c g : CrowdS) : List Ent := CE c ++ [.var (eCrowd g) [([1], 3)], .row 7 (g.net.map eLetter)]

set_option maxHeartbeats 16000000 in
set_option maxRecDepth 100000 in
theorem crowdPlays_spec (liar : Int) (l : List Act) : Pure Try.prog 10 [.data (I liar), .data (eActs l)] (.data (.bool true)) := by
  refine spec_of ttok Try.func10 rfl (by kernel_rfl) (by exact Nat.le_of_ble_eq_true rfl) fun hin hie c0 hc0 he => ?_
  have hn0 : c0.es.length ≤ 0 := Nat.le_of_eq (by rw [he]; rfl)
  refine R [] ?_
  by_cases hl : liar < -1 ∨ 4 ≤ liar
  · refine R [.tuple [.nilptr, .data (I 2)]] (ho := by exact ⟨newC_err liar hl, trivial⟩) ?_
    refine R [.tuple [.nilptr, .data (I 2)]] (ho := by exact ⟨refNew_err liar hl, trivial⟩) ?_
    refine W.seq (R [.data (.bool true)] (ho := by exact ⟨fun _ => alive_law, trivial⟩) ?_)
    refine CF ?_
    refine W.skip ?_
    refine W.seq (R [] ?_)
    refine CT ?_
    refine R [] ?_
    exact W.ret (EndB 0 hn0 rfl)
  have hL : -1 ≤ liar ∧ liar < 4 := by omega
  refine R [Hint.on [] (CE (newC liar)) (.tuple [.ptr 0 [], .data (I 0)])] (ho := by exact ⟨newC_ok liar hL, trivial⟩) ?_
  refine R [Hint.on [] (CE (newC liar)) (.tuple [.ptr 0 [], .data (I 0)])] (ho := by exact ⟨refNew_ok liar hL, trivial⟩) ?_
  refine W.seq (R [.data (.bool true)] (ho := by exact ⟨fun _ => alive_law, trivial⟩) ?_)
  refine CF ?_
  refine W.skip ?_
  refine W.seq (R [] ?_)
  refine CF ?_
  refine W.skip ?_
  refine W.seq (R [] ?_)
  refine W.block (W.loop hc0 (ι := Nat) (fun i => ⟨85, frOf [(1, .data (eActs l)), (5, .ptr 0 []), (7, .ptr 2 []), (9, .data (I i))], CEs (playC (newC liar) (l.take i)) (playC (newC liar) (l.take i))⟩) (fun i => i ≤ 300 ∧ i ≤ l.length) (fun i => 300 - i) 0 (by omega) ?_ ?_)
  · exact Le.cut _ 4 (by omega) ⟨⟨by with_unfolding_all rfl, rfl⟩, ⟨by with_unfolding_all rfl, rfl⟩, ⟨by with_unfolding_all rfl, rfl⟩, ⟨by with_unfolding_all rfl, rfl⟩, trivial⟩ (by with_unfolding_all rfl)
  · intro i ⟨hi3, hil⟩
    refine W.seq (R [] ?_)
    refine C (fun hb => ?_) (fun hb => ?_)
    · have hii : i < l.length ∧ i < 300 := by
        have hb : (bif decide ((i : Int) < ((l.map eAct).length : Int)) then decide ((i : Int) < 300) else false) = true := hb
        rw [bif_and, List.length_map] at hb
        simp only [Bool.and_eq_true, decide_eq_true_eq] at hb
        omega
      clear hb
      have hp := Played.play liar l i hil (by omega)
      have hT := playC_take (newC liar) l hii.1
      generalize playC (newC liar) (l.take i) = c at hp hT ⊢
      have hac : 0 ≤ c.acts ∧ c.acts ≤ 600 := by have := hp.acts; omega
      have hix : (0 : Int) ≤ i ∧ (i : Int) < (l.map eAct).length := ⟨by omega, by rw [List.length_map]; omega⟩
      generalize hx : l.getD i Act.zero = x at hT
      have hcp : AV.cptr ((l.map eAct).getD i default) = .cptr (eAct x) := by rw [cptr_actsP _ hii.1, hx]
      have hlc : -1 ≤ c.liar ∧ c.liar < 4 := by rw [hp.lier]; exact hL
      refine W.skip (W.seq (W.block ?_))
      by_cases hd : drops c x
      case' pos =>
        have hdo := do_drop hp.net hac hd
        have hrdo := rdo_drop hp.net hac hp.letters hlc hd
        generalize doC c x = y at hdo hrdo hT
        refine RF [.is 46 (.cptr (eAct x)), Hint.on [0, 1] [.var (eCrowd y.1) [([1], 2)], .row 7 (c.net.map eLetter), .row 7 (y.1.net.map eLetter)] (.data (eReply y.2)), .is 52 (.cptr (eAct x)), Hint.on [2, 3] [.var (eCrowd y.1) [([1], 2)], .row 7 (c.net.map eLetter), .row 7 (y.1.net.map eLetter)] (.data (eReply y.2))] 4 [(3, .rd none), (4, .rd none), (5, .on [0, 1]), (9, .rd none), (10, .rd none), (11, .on [2, 3])] (ho := by exact ⟨hcp, hix, sizes_actsP l, hdo, hcp, hix, sizes_actsP l, hrdo, trivial⟩) ?_
        refine C (fun hb => ?zpa) (fun hb => ?zpb)
        case zpa =>
          exfalso
          have hb : (!(eqD (eReply y.2) (eReply y.2))) = true := hb
          rw [notp (eqDp_reply y.2)] at hb; cases hb
        case' zpb =>
          clear hb
          refine W.skip ?_
          refine W.le hc0 (Le.pick [0, 4, 2, 5] [(1, .data (eActs l)), (5, .ptr 0 []), (7, .ptr 2 []), (9, .data (I i))] (es' := CEs y.1 y.1) (fun k hk => by omega) (by with_unfolding_all rfl) (by with_unfolding_all rfl) ⟨by with_unfolding_all rfl, by with_unfolding_all rfl, by with_unfolding_all rfl, by with_unfolding_all rfl, trivial⟩) ?_
      case' neg =>
        have hdo := do_no hp.net hac hd
        have hrdo := rdo_no hp.net hac hp.letters hlc hd
        generalize doC c x = y at hdo hrdo hT
        refine RF [.is 46 (.cptr (eAct x)), Hint.on [0, 1] (CE y.1) (.data (eReply y.2)), .is 52 (.cptr (eAct x)), Hint.on [2, 3] (CE y.1) (.data (eReply y.2))] 4 [(3, .rd none), (4, .rd none), (5, .on [0, 1]), (9, .rd none), (10, .rd none), (11, .on [2, 3])] (ho := by exact ⟨hcp, hix, sizes_actsP l, hdo, hcp, hix, sizes_actsP l, hrdo, trivial⟩) ?_
        refine C (fun hb => ?zna) (fun hb => ?znb)
        case zna =>
          exfalso
          have hb : (!(eqD (eReply y.2) (eReply y.2))) = true := hb
          rw [notp (eqDp_reply y.2)] at hb; cases hb
        case' znb =>
          clear hb
          refine W.skip ?_
          refine W.le hc0 (Le.cut [(1, .data (eActs l)), (5, .ptr 0 []), (7, .ptr 2 []), (9, .data (I i))] 4 (by omega) (es' := CEs y.1 y.1) ⟨⟨by with_unfolding_all rfl, rfl⟩, ⟨by with_unfolding_all rfl, rfl⟩, ⟨by with_unfolding_all rfl, rfl⟩, ⟨by with_unfolding_all rfl, rfl⟩, trivial⟩ (by with_unfolding_all rfl)) ?_
      all_goals
        refine R1 [] ?_
        refine ⟨i + 1, by omega, by omega, Le.cut _ 4 (by omega) ⟨⟨by with_unfolding_all rfl, rfl⟩, ⟨by with_unfolding_all rfl, rfl⟩, ⟨by with_unfolding_all rfl, rfl⟩, ⟨sl_int (wrap_up (by omega)), rfl⟩, trivial⟩ ?_⟩
        rw [hT]
        with_unfolding_all rfl
    · have hp := Played.play liar l i hil (by omega)
      generalize playC (newC liar) (l.take i) = c at hp ⊢
      clear hb
      refine W.exit ?_
      refine W.seq (R [] ?_)
      refine W.block (W.loop hc0 (ι := Nat) (fun k => ⟨85, frOf [(5, .ptr 0 []), (7, .ptr 2 []), (10, .data (I ((k : Int) - 1)))], CEs c c⟩) (fun k => k ≤ 6) (fun k => 6 - k) 0 (by omega) ?_ ?_)
      · exact Le.cut _ 4 (by omega) ⟨⟨by with_unfolding_all rfl, rfl⟩, ⟨by with_unfolding_all rfl, rfl⟩, ⟨by with_unfolding_all rfl, rfl⟩, trivial⟩ (by with_unfolding_all rfl)
      · intro k hk
        have hup : IntKind.i64.wrap ((k : Int) - 1 + 1) = ((k + 1 : Nat) : Int) - 1 := by rw [i64_wrap (by omega) (by omega)]; omega
        refine W.seq (R [] ?_)
        refine C (fun hb => ?_) (fun hb => ?_)
        · have hk : k < 6 := by have := of_decide_eq_true hb; omega
          clear hb
          refine W.skip (W.seq (W.block ?_))
          refine R [] ?_
          refine W.seq (R [] ?_)
          refine C (fun hb => ?zia) (fun hb => ?zib)
          case zia =>
            have hki : 1 ≤ k ∧ k < 5 := by
              have hb : (bif decide ((0 : Int) ≤ (k : Int) - 1) then decide ((k : Int) - 1 < 4) else false) = true := hb
              rw [bif_and] at hb
              simp only [Bool.and_eq_true, decide_eq_true_eq] at hb
              omega
            clear hb
            obtain ⟨j, hj⟩ : ∃ j, k = j + 1 := ⟨k - 1, by omega⟩
            have hkj : (k : Int) - 1 = (j : Int) := by omega
            have hj4 : j < 4 := by omega
            have hji : (0 : Int) ≤ j ∧ (j : Int) < 4 := by omega
            rw [hkj] at hup
            rw [hkj]
            have hnode := crowdNode_spec c (j : Nat) (by omega) (hp.queue hj4)
            refine R1 [] (ho := by exact ⟨hji, sameNz _ _, trivial⟩) ?_
            refine RF [Hint.on [0, 1] (CE c) (.data (eNode (c.nodes j))), .data (.bool true)] 5 [(2, .on [0, 1]), (3, .rd (some 4))] (ho := by exact ⟨hnode, sameNode_spec _, trivial⟩) ?_
            refine CF ?_
            refine W.skip ?_
            refine R1 [] ?_
            exact ⟨k + 1, by omega, by omega, Le.cut _ 4 (by omega) ⟨⟨by with_unfolding_all rfl, rfl⟩, ⟨by with_unfolding_all rfl, rfl⟩, ⟨sl_int hup, rfl⟩, trivial⟩ (by with_unfolding_all rfl)⟩
          case zib =>
            have hki : (k : Int) - 1 < 0 ∨ 4 ≤ (k : Int) - 1 := by
              have hb : (bif decide ((0 : Int) ≤ (k : Int) - 1) then decide ((k : Int) - 1 < 4) else false) = false := hb
              rw [bif_and] at hb
              simp only [Bool.and_eq_false_iff, decide_eq_false_iff_not] at hb
              omega
            clear hb
            have hnode := crowdNode_out c ((k : Int) - 1) hki
            refine W.skip ?_
            refine RF [Hint.on [0, 1] (CE c) (.data (eNodeN Node.zero)), .data (.bool true)] 5 [(2, .on [0, 1]), (3, .rd (some 4))] (ho := by exact ⟨hnode, pure_nodeN (sameNode_spec Node.zero), trivial⟩) ?_
            refine CF ?_
            refine W.skip ?_
            refine R1 [] ?_
            exact ⟨k + 1, by omega, by omega, Le.cut _ 4 (by omega) ⟨⟨by with_unfolding_all rfl, rfl⟩, ⟨by with_unfolding_all rfl, rfl⟩, ⟨sl_int hup, rfl⟩, trivial⟩ (by with_unfolding_all rfl)⟩
        · clear hb
          refine W.exit ?_
          refine RF [Hint.on [0, 1] (CE c) (.data (eLetters c.net)), .data (.bool true)] 4 [(1, .on [0, 1]), (4, .rd (some 2)), (5, .rd (some 2))] (ho := by exact ⟨crowdNet_spec c hp.net, sameNet_spec c.net, trivial⟩) ?_
          exact W.ret (EndB 0 hn0 rfl)

end Go.W

/-
  The law CrowdRuns.
-/
namespace Go.W
open Go.Proofs

set_option maxRecDepth 100000 in
theorem run_who (liar : Int) (l : List Act) (hl : liar < -1 ∨ 4 ≤ liar) : Pure Try.prog 44 [.data (I liar), .data (eActs l)] (.tuple [.data .nil, .data (I 2)]) := by
  refine spec_of ttok Try.func44 rfl (by kernel_rfl) (by exact Nat.le_of_ble_eq_true rfl) fun hin hie c0 hc0 he => ?_
  have hn0 : c0.es.length ≤ 0 := Nat.le_of_eq (by rw [he]; rfl)
  refine R [] ?_
  refine R [.tuple [.nilptr, .data (I 2)]] (ho := by exact ⟨newC_err liar hl, trivial⟩) ?_
  refine W.seq (R [] ?_)
  refine CT ?_
  refine R [] ?_
  exact W.ret (End 0 hn0 ⟨rfl, rfl⟩)

set_option maxRecDepth 100000 in
theorem run_many (liar : Int) (l : List Act) (hl : -1 ≤ liar ∧ liar < 4) (hlen : 600 < l.length) : Pure Try.prog 44 [.data (I liar), .data (eActs l)] (.tuple [.data .nil, .data (I 5)]) := by
  refine spec_of ttok Try.func44 rfl (by kernel_rfl) (by exact Nat.le_of_ble_eq_true rfl) fun hin hie c0 hc0 he => ?_
  have hn0 : c0.es.length ≤ 0 := Nat.le_of_eq (by rw [he]; rfl)
  refine R [] ?_
  refine R [Hint.on [] (CE (newC liar)) (.tuple [.ptr 0 [], .data (I 0)])] (ho := by exact ⟨newC_ok liar hl, trivial⟩) ?_
  refine W.seq (R [] ?_)
  refine CF ?_
  refine W.skip ?_
  refine W.seq (R [] ?_)
  refine C (fun hb => ?_) (fun hb => ?_)
  · refine R [] ?_
    exact W.ret (End 0 hn0 ⟨rfl, rfl⟩)
  · exfalso
    have hb : decide (600 < ((l.map eAct).length : Int)) = false := hb
    rw [List.length_map] at hb
    have := of_decide_eq_false hb
    omega

theorem biftR {a b : Bool} (h1 : a = false) (h2 : b = false) : (bif a then true else b) = false := by subst h1; exact h2
theorem pure_2R {P : Program} {f : FuncId} {p r : AV} {d d' : D} (h : Pure P f [p, .data d'] r) (e : d = d') : Pure P f [p, .data d] r := by subst e; exact h
theorem fits_actsR (l : List Act) (h : l.length ≤ 1256584717421) : ((l.map eAct)).length ≤ maxLen ∧ ((l.map eAct)).length * 112 ≤ 140737488355328 := by
  rw [List.length_map]
  unfold maxLen
  omega
theorem cptr_repliesR (l : List Reply) {k : Nat} (h : k < l.length) : AV.cptr ((l.map eReply).getD k default) = .cptr (eReply (l.getD k Reply.zero)) := by
  simp [List.getElem?_eq_getElem h]
theorem sizes_repliesR (l : List Reply) : ∀ d ∈ l.map eReply, d.size = 6 := by
  intro d hd
  obtain ⟨v, _, rfl⟩ := List.mem_map.1 hd
  rfl

/-- An act of no kind. -/
def a99 : Act := ⟨99, 0, 0, 0, .zero, fun _ => 0⟩

theorem repliesC_at (l : List Act) (c : CrowdS) (i : Nat) (hi : i < l.length) : (repliesC c l).getD i Reply.zero = (doC (playC c (l.take i)) (l.getD i Act.zero)).2 := by
  have h1 := repliesC_take l c i hi
  have h2 := repliesC_beg l c i (i + 1) (by omega) (by omega)
  have h3 : (repliesC c (l.take i)).length = i := by rw [repliesC_length, List.length_take]; omega
  rw [List.getD_eq_getElem?_getD, ← h2, h1, List.getElem?_append_right (by omega), h3]
  simp

set_option maxHeartbeats 16000000 in
set_option maxRecDepth 100000 in
theorem crowdRuns_spec (liar : Int) (l : List Act) (hq : l.length ≤ 1256584717421) : Pure Try.prog 12 [.data (I liar), .data (eActs l)] (.data (.bool true)) := by
  refine spec_of ttok Try.func12 rfl (by kernel_rfl) (by exact Nat.le_of_ble_eq_true rfl) fun hin hie c0 hc0 he => ?_
  have hn0 : c0.es.length ≤ 0 := Nat.le_of_eq (by rw [he]; rfl)
  have hx1 : (repliesC (newC 0) [a99]).length = 1 := repliesC_length _ _
  have hrx := run_spec 0 [a99] (by omega) (by decide)
  generalize repliesC (newC 0) [a99] = xs at hx1 hrx
  have hxl : ((xs.map eReply).length : Int) = 1 := by rw [List.length_map, hx1]; rfl
  refine R [] ?_
  by_cases hl : liar < -1 ∨ 4 ≤ liar
  · refine R [.tuple [.data .nil, .data (I 2)]] (ho := by exact ⟨sizes_actsP l, fits_actsR l hq, run_who liar l hl, trivial⟩) ?_
    refine R [.tuple [.data (eReplies xs), .data (I 0)]] (ho := by with_unfolding_all exact ⟨pure_2R hrx (congrArg (fun d => D.list [d]) (actD (a := a99) rfl rfl rfl rfl rfl rfl (fun _ => rfl))), trivial⟩) ?_
    refine R [.tuple [.nilptr, .data (I 2)]] (ho := by exact ⟨refNew_err liar hl, trivial⟩) ?_
    refine W.seq (R [.data (.bool true)] (ho := by exact ⟨fun _ => alive_law, trivial⟩) ?_)
    refine C (fun hb => ?_) (fun hb => ?_)
    · exfalso
      have hf := hb.symm.trans (biftR (biftR (beqp 0) (show (!(_ == _)) = false from by rw [hxl]; exact beqp _)) rfl)
      cases hf
    refine W.skip ?_
    refine W.seq (R [] ?_)
    refine CT ?_
    refine R [] ?_
    exact W.ret (EndB 0 hn0 rfl)
  have hL : -1 ≤ liar ∧ liar < 4 := by omega
  by_cases hn : 600 < l.length
  · refine R [.tuple [.data .nil, .data (I 5)]] (ho := by exact ⟨sizes_actsP l, fits_actsR l hq, run_many liar l hL hn, trivial⟩) ?_
    refine R [.tuple [.data (eReplies xs), .data (I 0)]] (ho := by with_unfolding_all exact ⟨pure_2R hrx (congrArg (fun d => D.list [d]) (actD (a := a99) rfl rfl rfl rfl rfl rfl (fun _ => rfl))), trivial⟩) ?_
    refine R [Hint.on [] (CE (newC liar)) (.tuple [.ptr 0 [], .data (I 0)])] (ho := by exact ⟨refNew_ok liar hL, trivial⟩) ?_
    refine W.seq (R [.data (.bool true)] (ho := by exact ⟨fun _ => alive_law, trivial⟩) ?_)
    refine C (fun hb => ?_) (fun hb => ?_)
    · exfalso
      have hf := hb.symm.trans (biftR (biftR (beqp 0) (show (!(_ == _)) = false from by rw [hxl]; exact beqp _)) rfl)
      cases hf
    refine W.skip ?_
    refine W.seq (R [] ?_)
    refine CF ?_
    refine W.skip ?_
    refine W.seq (R [] ?_)
    refine C (fun hb => ?_) (fun hb => ?_)
    · refine R [] ?_
      exact W.ret (EndB 0 hn0 rfl)
    · exfalso
      have hb : decide (600 < ((l.map eAct).length : Int)) = false := hb
      rw [List.length_map] at hb
      have := of_decide_eq_false hb
      omega
  refine R [.tuple [.data (eReplies (repliesC (newC liar) l)), .data (I 0)]] (ho := by exact ⟨sizes_actsP l, fits_actsR l hq, run_spec liar l hL (by omega), trivial⟩) ?_
  refine R [.tuple [.data (eReplies xs), .data (I 0)]] (ho := by with_unfolding_all exact ⟨pure_2R hrx (congrArg (fun d => D.list [d]) (actD (a := a99) rfl rfl rfl rfl rfl rfl (fun _ => rfl))), trivial⟩) ?_
  refine R [Hint.on [] (CE (newC liar)) (.tuple [.ptr 0 [], .data (I 0)])] (ho := by exact ⟨refNew_ok liar hL, trivial⟩) ?_
  refine W.seq (R [.data (.bool true)] (ho := by exact ⟨fun _ => alive_law, trivial⟩) ?_)
  refine C (fun hb => ?_) (fun hb => ?_)
  · exfalso
    have hf := hb.symm.trans (biftR (biftR (beqp 0) (show (!(_ == _)) = false from by rw [hxl]; exact beqp _)) rfl)
    cases hf
  clear hb
  refine W.skip ?_
  refine W.seq (R [] ?_)
  refine CF ?_
  refine W.skip ?_
  refine W.seq (R [] ?_)
  refine C (fun hb => ?_) (fun hb => ?_)
  · exfalso
    have hb : decide (600 < ((l.map eAct).length : Int)) = true := hb
    rw [List.length_map] at hb
    have := of_decide_eq_true hb
    omega
  clear hb
  have hrl : (((repliesC (newC liar) l).map eReply).length : Int) = ((l.map eAct).length : Int) := by rw [List.length_map, List.length_map, repliesC_length]
  refine W.skip ?_
  refine W.seq (R [] ?_)
  refine C (fun hb => ?_) (fun hb => ?_)
  · exfalso
    have hf := hb.symm.trans (biftR (beqp 0) (show (!(_ == _)) = false from by rw [hrl]; exact beqp _))
    cases hf
  clear hb
  refine W.skip ?_
  refine W.seq (R [] ?_)
  refine W.le hc0 (Le.pick [1, 2] [(1, .data (eActs l)), (5, .data (eReplies (repliesC (newC liar) l))), (9, .ptr 0 []), (11, .data (I 0))] (es' := CE (newC liar)) (fun k hk => by omega) (by with_unfolding_all rfl) (by with_unfolding_all rfl) ⟨by with_unfolding_all rfl, by with_unfolding_all rfl, by with_unfolding_all rfl, by with_unfolding_all rfl, trivial⟩) ?_
  refine W.block (W.loop hc0 (ι := Nat) (fun i => ⟨87, frOf [(1, .data (eActs l)), (5, .data (eReplies (repliesC (newC liar) l))), (9, .ptr 0 []), (11, .data (I i))], CE (playC (newC liar) (l.take i))⟩) (fun i => i ≤ l.length) (fun i => l.length - i) 0 (by omega) ?_ ?_)
  · exact Le.cut _ 2 (by omega) ⟨⟨by with_unfolding_all rfl, rfl⟩, ⟨by with_unfolding_all rfl, rfl⟩, ⟨by with_unfolding_all rfl, rfl⟩, ⟨by with_unfolding_all rfl, rfl⟩, trivial⟩ (by with_unfolding_all rfl)
  · intro i hi
    refine W.seq (R [] ?_)
    refine C (fun hb => ?_) (fun hb => ?_)
    · have hii : i < l.length := by
        have hb : decide ((i : Int) < ((l.map eAct).length : Int)) = true := hb
        rw [List.length_map] at hb
        have := of_decide_eq_true hb
        omega
      clear hb
      have hp := Played.play liar l i hi (by omega)
      have hT := playC_take (newC liar) l hii
      have hat := repliesC_at l (newC liar) i hii
      have hcr := cptr_repliesR (repliesC (newC liar) l) (k := i) (by rw [repliesC_length]; exact hii)
      have hix : (0 : Int) ≤ i ∧ (i : Int) < (l.map eAct).length := ⟨by omega, by rw [List.length_map]; omega⟩
      have hir : (0 : Int) ≤ i ∧ (i : Int) < ((repliesC (newC liar) l).map eReply).length := ⟨by omega, by rw [hrl]; exact hix.2⟩
      generalize playC (newC liar) (l.take i) = c at hp hT hat ⊢
      have hac : 0 ≤ c.acts ∧ c.acts ≤ 600 := by have := hp.acts; omega
      generalize hx : l.getD i Act.zero = x at hT hat
      have hcp : AV.cptr ((l.map eAct).getD i default) = .cptr (eAct x) := by rw [cptr_actsP _ hii, hx]
      have hlc : -1 ≤ c.liar ∧ c.liar < 4 := by rw [hp.lier]; exact hL
      rw [hat] at hcr
      refine W.skip (W.seq (W.block ?_))
      by_cases hd : drops c x
      case' pos =>
        have hrdo := rdo_drop hp.net hac hp.letters hlc hd
        generalize doC c x = y at hrdo hT hcr
        refine RF [.is 78 (.cptr (eReply y.2)), .is 83 (.cptr (eAct x)), Hint.on [0, 1] [.var (eCrowd y.1) [([1], 2)], .row 7 (c.net.map eLetter), .row 7 (y.1.net.map eLetter)] (.data (eReply y.2))] 2 [(2, .rd none), (3, .rd none), (7, .rd none), (8, .rd none), (9, .on [0, 1])] (ho := by exact ⟨hcr, hir, sizes_repliesR _, hcp, hix, sizes_actsP l, hrdo, trivial⟩) ?_
        refine C (fun hb => ?zpa) (fun hb => ?zpb)
        case zpa =>
          exfalso
          have hb : (!(eqD (eReply y.2) (eReply y.2))) = true := hb
          rw [notp (eqDp_reply y.2)] at hb; cases hb
        case' zpb =>
          clear hb
          refine W.skip ?_
          refine W.le hc0 (Le.pick [0, 2] [(1, .data (eActs l)), (5, .data (eReplies (repliesC (newC liar) l))), (9, .ptr 0 []), (11, .data (I i))] (es' := CE y.1) (fun k hk => by omega) (by with_unfolding_all rfl) (by with_unfolding_all rfl) ⟨by with_unfolding_all rfl, by with_unfolding_all rfl, by with_unfolding_all rfl, by with_unfolding_all rfl, trivial⟩) ?_
      case' neg =>
        have hrdo := rdo_no hp.net hac hp.letters hlc hd
        generalize doC c x = y at hrdo hT hcr
        refine RF [.is 78 (.cptr (eReply y.2)), .is 83 (.cptr (eAct x)), Hint.on [0, 1] (CE y.1) (.data (eReply y.2))] 2 [(2, .rd none), (3, .rd none), (7, .rd none), (8, .rd none), (9, .on [0, 1])] (ho := by exact ⟨hcr, hir, sizes_repliesR _, hcp, hix, sizes_actsP l, hrdo, trivial⟩) ?_
        refine C (fun hb => ?zna) (fun hb => ?znb)
        case zna =>
          exfalso
          have hb : (!(eqD (eReply y.2) (eReply y.2))) = true := hb
          rw [notp (eqDp_reply y.2)] at hb; cases hb
        case' znb =>
          clear hb
          refine W.skip ?_
          refine W.le hc0 (Le.cut [(1, .data (eActs l)), (5, .data (eReplies (repliesC (newC liar) l))), (9, .ptr 0 []), (11, .data (I i))] 2 (by omega) (es' := CE y.1) ⟨⟨by with_unfolding_all rfl, rfl⟩, ⟨by with_unfolding_all rfl, rfl⟩, ⟨by with_unfolding_all rfl, rfl⟩, ⟨by with_unfolding_all rfl, rfl⟩, trivial⟩ (by with_unfolding_all rfl)) ?_
      all_goals
        refine R1 [] ?_
        refine ⟨i + 1, by omega, by omega, Le.cut _ 2 (by omega) ⟨⟨by with_unfolding_all rfl, rfl⟩, ⟨by with_unfolding_all rfl, rfl⟩, ⟨by with_unfolding_all rfl, rfl⟩, ⟨sl_int (wrap_up (by omega)), rfl⟩, trivial⟩ ?_⟩
        rw [hT]
        with_unfolding_all rfl
    · refine W.exit ?_
      refine R [] ?_
      exact W.ret (EndB 0 hn0 rfl)

end Go.W
