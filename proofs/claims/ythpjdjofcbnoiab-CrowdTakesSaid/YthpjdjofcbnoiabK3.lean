/-
  Texts for the law CrowdTakes: Pn Tf.
-/
import Derived.Test.YthpjdjofcbnoiabPm
import Derived.Test.YthpjdjofcbnoiabK2
import Derived.Test.YthpjdjofcbnoiabFd

/-
  What the reference takes is what a client takes, in plain Lean.
-/
namespace Go.W

theorem leastH_le (l : Nat → Nat → Int) (h : Nat) {v : Nat} (h1 : 1 ≤ v) (hc : 2 ≤ cntH l h v 4) : ∀ k, v ≤ k → leastH l h k ≠ 0 ∧ leastH l h k ≤ v := by
  intro k hk
  induction k with
  | zero => omega
  | succ k ih =>
    simp only [leastH]
    rcases Nat.lt_or_ge k v with h2 | h2
    · have : v = k + 1 := by omega
      subst this
      by_cases h0 : leastH l h k = 0
      · rw [if_pos h0, if_pos (by simpa using hc)]
        omega
      · rw [if_neg h0]
        have := leastH_two l h k h0
        exact ⟨h0, by omega⟩
    · have := ih h2
      rw [if_neg this.1]
      exact this
theorem cntH_two {l : Nat → Nat → Int} {h : Nat} {v : Int} {i k : Nat} (hi : i < 4) (hk : k < i) (h1 : l i h = v) (h2 : l k h = v) : 2 ≤ cntH l h v 4 := by
  have nn : ∀ j : Nat, 0 ≤ (if l j h = v then (1 : Int) else 0) := fun j => by split <;> omega
  have e1 : (if l i h = v then (1 : Int) else 0) = 1 := if_pos h1
  have e2 : (if l k h = v then (1 : Int) else 0) = 1 := if_pos h2
  have n0 := nn 0; have n1 := nn 1; have n2 := nn 2; have n3 := nn 3
  simp only [cntH]
  have hi' : i = 1 ∨ i = 2 ∨ i = 3 := by omega
  have hk' : k = 0 ∨ k = 1 ∨ k = 2 := by omega
  rcases hi' with rfl | rfl | rfl <;> rcases hk' with rfl | rfl | rfl <;> omega
theorem cntH_pair {l : Nat → Nat → Int} {h : Nat} {v : Int} (hc : 2 ≤ cntH l h v 4) : ∃ i k : Nat, i < 4 ∧ k < i ∧ l i h = v ∧ l k h = v := by
  obtain ⟨j, hj, _, e⟩ := cntH_other (-1) hc
  obtain ⟨k, hk, hne, e'⟩ := cntH_other j hc
  rcases Nat.lt_or_ge j k with h1 | h1
  · exact ⟨k, j, hk, h1, e', e⟩
  · exact ⟨j, k, hj, by omega, e, e'⟩

/-- One pair that the reference looks at. -/
def hitT (o v u : Int) : Bool := (within v 1 9 && (u == v)) && (o == 0 || decide (v < o))
def innT (l : Nat → Nat → Int) (h i : Nat) (o : Int) : Nat → Int
  | 0 => o
  | k + 1 => if hitT (innT l h i o k) (l i h) (l k h) then l i h else innT l h i o k
def outT (l : Nat → Nat → Int) (h : Nat) : Nat → Int
  | 0 => 0
  | i + 1 => innT l h i (outT l h i) i

structure TOK (l : Nat → Nat → Int) (h : Nat) (o : Int) : Prop where
  bd : 0 ≤ o ∧ o ≤ 9
  two : o ≠ 0 → 2 ≤ cntH l h o 4
theorem innT_ok {l : Nat → Nat → Int} {h i : Nat} {o : Int} (hi : i < 4) (ho : TOK l h o) : ∀ k, k ≤ i → TOK l h (innT l h i o k) ∧ (o ≠ 0 → innT l h i o k ≠ 0 ∧ innT l h i o k ≤ o) ∧ ∀ j, j < k → 1 ≤ l i h → l i h ≤ 9 → l j h = l i h → innT l h i o k ≠ 0 ∧ innT l h i o k ≤ l i h
  | 0, _ => ⟨ho, fun hn => ⟨hn, Int.le_refl _⟩, fun j hj => by omega⟩
  | k + 1, hk => by
    obtain ⟨h1, h2, h3⟩ := innT_ok hi ho k (by omega)
    simp only [innT]
    by_cases hh : hitT (innT l h i o k) (l i h) (l k h) = true
    · rw [if_pos hh]
      simp only [hitT, within, Bool.and_eq_true, Bool.or_eq_true, decide_eq_true_eq, beq_iff_eq] at hh
      refine ⟨⟨by omega, fun _ => cntH_two hi (by omega) rfl hh.1.2⟩, fun hn => ?_, fun j hj g1 g9 _ => ⟨by omega, Int.le_refl _⟩⟩
      have := h2 hn
      have := h1.bd
      omega
    · rw [if_neg hh]
      refine ⟨h1, h2, fun j hj g1 g9 e => ?_⟩
      rcases Nat.lt_or_ge j k with hjk | hjk
      · exact h3 j hjk g1 g9 e
      · have : j = k := by omega
        subst this
        simp only [hitT, within, Bool.and_eq_true, Bool.or_eq_true, decide_eq_true_eq, beq_iff_eq] at hh
        have := h1.bd
        by_cases e0 : innT l h i o j = 0
        · exact absurd ⟨⟨⟨g1, g9⟩, e⟩, .inl e0⟩ hh
        · refine ⟨e0, ?_⟩
          rcases Int.lt_or_le (l i h) (innT l h i o j) with h5 | h5
          · exact absurd ⟨⟨⟨g1, g9⟩, e⟩, .inr h5⟩ hh
          · exact h5
theorem outT_ok (l : Nat → Nat → Int) (h : Nat) : ∀ i, i ≤ 4 → TOK l h (outT l h i) ∧ ∀ a b, a < i → b < a → 1 ≤ l a h → l a h ≤ 9 → l b h = l a h → outT l h i ≠ 0 ∧ outT l h i ≤ l a h
  | 0, _ => ⟨⟨by simp [outT], fun hn => absurd rfl hn⟩, fun a b ha => by omega⟩
  | i + 1, hi => by
    obtain ⟨h1, h2⟩ := outT_ok l h i (by omega)
    obtain ⟨g1, g2, g3⟩ := innT_ok (show i < 4 by omega) h1 i (Nat.le_refl _)
    refine ⟨g1, fun a b ha hb q1 q9 e => ?_⟩
    rcases Nat.lt_or_ge a i with hai | hai
    · have := h2 a b hai hb q1 q9 e
      have := g2 this.1
      simp only [outT]
      omega
    · have : a = i := by omega
      subst this
      exact g3 b hb q1 q9 e
theorem outT_pick (l : Nat → Nat → Int) (h : Nat) : outT l h 4 = pickH l h := by
  obtain ⟨h1, h2⟩ := outT_ok l h 4 (Nat.le_refl _)
  unfold pickH
  by_cases h0 : outT l h 4 = 0
  · rw [h0]
    apply Classical.byContradiction
    intro hne
    have hl := leastH_two l h 9 (Ne.symm hne)
    obtain ⟨i, k, hi, hk, e1, e2⟩ := cntH_pair hl.1
    exact (h2 i k hi hk (by omega) (by omega) (by rw [e1, e2])).1 h0
  · have hb := h1.bd
    have hv : outT l h 4 = ((outT l h 4).toNat : Int) := by omega
    have := leastH_le l h (v := (outT l h 4).toNat) (by omega) (by rw [← hv]; exact h1.two h0) 9 (by omega)
    have hl := leastH_two l h 9 this.1
    obtain ⟨i, k, hi, hk, e1, e2⟩ := cntH_pair hl.1
    have := h2 i k hi hk (by omega) (by omega) (by rw [e1, e2])
    omega

end Go.W

/-
  What the reference takes, walked; whether a crowd answers at all (package law); the law CrowdTakes.
-/
namespace Go.W
open Go.Proofs

set_option maxHeartbeats 4000000 in
set_option maxRecDepth 100000 in
theorem alive_law : Pure Try.prog 38 [] (.data (.bool true)) := by
  refine spec_of ttok Try.func38 rfl (by kernel_rfl) (by exact Nat.le_of_ble_eq_true rfl) fun hin hie c0 hc0 he => ?_
  have hn0 : c0.es.length ≤ 0 := Nat.le_of_eq (by rw [he]; rfl)
  obtain ⟨c, s, e, h1, h2, h3⟩ := alive_fact
  have hdo := do_no (c := newC (-1)) (a := a0) (Nat.zero_le _) ⟨by decide, by decide⟩ (fun h => absurd h.2.1 (by decide))
  rw [e] at hdo
  refine R [] ?_
  refine R [Hint.on [] (CE (newC (-1))) (.tuple [.ptr 0 [], .data (I 0)])] (ho := by exact ⟨newC_ok (-1) (by omega), trivial⟩) ?_
  refine W.seq (R [] ?_)
  refine CF ?_
  refine W.skip ?_
  refine R [Hint.on [0, 1] (CE c) (.data (eReply ⟨0, 6, s⟩))] (ho := by with_unfolding_all exact ⟨fn_act hdo (actD (a := a0) rfl rfl rfl rfl rfl rfl (fun _ => rfl)), sameRR _ _, trivial⟩) ?_
  refine R [(Hint.on [0, 1] (CE c) (.data (eLetters c.net))).take, (Hint.on [0, 1] (CE c) (.data (eNode (c.nodes 0)))).take] (ho := ?ob) ?_
  case ob =>
    have hl : ((c.net.map eLetter).length : Int) = 6 := by rw [List.length_map]; omega
    refine ⟨rfl, crowdNet_spec c (by omega), beq_of hl, crowdNode_spec c 0 (by omega) h3, trivial⟩
  refine W.ret (EndB 0 hn0 ?_)
  have hl : (((c.net.map eLetter).length : Int) == 6) = true := beq_of (by rw [List.length_map]; omega)
  exact bifh2 hl (beq_of h2)

set_option maxHeartbeats 8000000 in
set_option maxRecDepth 100000 in
theorem taken_spec (l : Nat → Nat → Int) : Pure Try.prog 37 [.data (eInts44 l)] (.data (eVotes (takeV l))) := by
  refine spec_of ttok Try.func37 rfl (by kernel_rfl) (by exact Nat.le_of_ble_eq_true rfl) fun hin hie c0 hc0 he => ?_
  have hn0 : c0.es.length ≤ 0 := Nat.le_of_eq (by rw [he]; rfl)
  refine R [] ?_
  refine R [] ?_
  refine W.seq (R [] ?_)
  refine W.block (W.loop hc0 (ι := Nat) (fun h => ⟨59, frOf [(1, .ptr 0 []), (2, .ptr 1 []), (3, .ptr 2 []), (8, .data (I h))], [.var (eInts44 l) [], .var (eVotes fun _ => 0) [], .var (eVotes (outH l h)) []]⟩) (fun h => h ≤ 4 ∧ pickAll l h = true) (fun h => 4 - h) 0 ⟨by omega, rfl⟩ ?_ ?_)
  · refine Le.cut _ 3 (by omega) ⟨⟨by with_unfolding_all rfl, rfl⟩, ⟨by with_unfolding_all rfl, rfl⟩, ⟨by with_unfolding_all rfl, rfl⟩, ⟨by with_unfolding_all rfl, rfl⟩, trivial⟩ ?_
    have : outH l 0 = fun _ => 0 := by funext j; rfl
    rw [this]
    with_unfolding_all rfl
  · intro h ⟨hh, hp⟩
    refine R [] ?_
    refine W.seq (C (fun hb => ?_) (fun hb => ?_))
    · have hh : h < 4 := by have := of_decide_eq_true hb; omega
      have hhi : (0 : Int) ≤ h ∧ (h : Int) < 4 := by omega
      clear hb
      refine W.skip (W.seq (W.block ?_))
      refine R [] ?_
      refine W.seq (R [] ?_)
      refine W.block (W.loop hc0 (ι := Nat) (fun i => ⟨59, frOf [(1, .ptr 0 []), (2, .ptr 1 []), (3, .ptr 2 []), (4, .data (I h)), (8, .data (I h)), (11, .data (I i))], [.var (eInts44 l) [], .var (eVotes fun _ => 0) [], .var (eVotes (upd (outH l h) h (outT l h i))) []]⟩) (fun i => i ≤ 4) (fun i => 4 - i) 0 (by omega) ?_ ?_)
      · refine Le.cut _ 3 (by omega) ⟨⟨by with_unfolding_all rfl, rfl⟩, ⟨by with_unfolding_all rfl, rfl⟩, ⟨by with_unfolding_all rfl, rfl⟩, ⟨by with_unfolding_all rfl, rfl⟩, ⟨by with_unfolding_all rfl, rfl⟩, ⟨by with_unfolding_all rfl, rfl⟩, trivial⟩ ?_
        have : upd (outH l h) h (outT l h 0) = outH l h := outH_at l h
        rw [this]
        with_unfolding_all rfl
      · intro i hi
        refine R [] ?_
        refine W.seq (C (fun hb => ?_) (fun hb => ?_))
        · have hi : i < 4 := by have := of_decide_eq_true hb; omega
          have hii : (0 : Int) ≤ i ∧ (i : Int) < 4 := by omega
          clear hb
          refine W.skip (W.seq (W.block ?_))
          refine R [] ?_
          refine R [] ?_
          refine W.block (W.loop hc0 (ι := Nat) (fun k => ⟨59, frOf [(1, .ptr 0 []), (2, .ptr 1 []), (3, .ptr 2 []), (4, .data (I h)), (5, .data (I i)), (8, .data (I h)), (11, .data (I i)), (14, .data (I i)), (15, .data (I k))], [.var (eInts44 l) [], .var (eVotes fun _ => 0) [], .var (eVotes (upd (outH l h) h (innT l h i (outT l h i) k))) []]⟩) (fun k => k ≤ i) (fun k => i - k) 0 (by omega) ?_ ?_)
          · exact Le.cut _ 3 (by omega) ⟨⟨by with_unfolding_all rfl, rfl⟩, ⟨by with_unfolding_all rfl, rfl⟩, ⟨by with_unfolding_all rfl, rfl⟩, ⟨by with_unfolding_all rfl, rfl⟩, ⟨by with_unfolding_all rfl, rfl⟩, ⟨by with_unfolding_all rfl, rfl⟩, ⟨by with_unfolding_all rfl, rfl⟩, ⟨by with_unfolding_all rfl, rfl⟩, ⟨by with_unfolding_all rfl, rfl⟩, trivial⟩ (by with_unfolding_all rfl)
          · intro k hk
            refine R [] ?_
            refine W.seq (C (fun hb => ?_) (fun hb => ?_))
            · have hk : k < i := by have := of_decide_eq_true hb; omega
              have hki : (0 : Int) ≤ k ∧ (k : Int) < 4 := by omega
              clear hb
              have hstep : innT l h i (outT l h i) (k + 1) = if hitT (innT l h i (outT l h i) k) (l i h) (l k h) then l i h else innT l h i (outT l h i) k := rfl
              generalize innT l h i (outT l h i) k = o at hstep ⊢
              refine W.skip (W.seq (W.block ?_))
              refine R [] ?_
              refine R [] (ho := by exact ⟨hii, hhi, trivial⟩) ?_
              refine R [.data (.bool (within (l i h) 1 9)), .is 37 (.data (I o)), .is 43 (.data (I o))] (ho := ?ob) ?_
              case ob =>
                have e := congrArg (fun x => AV.data (I x)) (upd_same (outH l h) h o)
                exact ⟨within_spec _ _ _, fun _ => hki, fun _ => hhi, fun _ => hhi, fun _ => e, fun _ => hhi, fun _ => e, trivial⟩
              refine C (fun hb => ?_) (fun hb => ?_)
              · have hb : (bif (bif within (l i h) 1 9 then l k h == l i h else false) then (bif o == 0 then true else decide (l i h < o)) else false) = true := hb
                rw [bif_and, bif_and, bif_or] at hb
                have hb : hitT o (l i h) (l k h) = true := hb
                rw [if_pos hb] at hstep
                refine R1 [] (ho := by exact ⟨hhi, trivial⟩) ?_
                refine R1 [] ?_
                refine ⟨k + 1, by omega, by omega, Le.cut _ 3 (by omega) ⟨⟨by with_unfolding_all rfl, rfl⟩, ⟨by with_unfolding_all rfl, rfl⟩, ⟨by with_unfolding_all rfl, rfl⟩, ⟨by with_unfolding_all rfl, rfl⟩, ⟨by with_unfolding_all rfl, rfl⟩, ⟨by with_unfolding_all rfl, rfl⟩, ⟨by with_unfolding_all rfl, rfl⟩, ⟨by with_unfolding_all rfl, rfl⟩, ⟨sl_int (wrap_up (by omega)), rfl⟩, trivial⟩ ?_⟩
                rw [hstep]
                have e1 := votes_set (upd (outH l h) h o) h (l i h)
                rw [upd_upd] at e1
                with_unfolding_all exact congrArg (fun d => [Ent.var (eInts44 l) [], .var (eVotes fun _ => 0) [], .var d []]) e1
              · have hb : (bif (bif within (l i h) 1 9 then l k h == l i h else false) then (bif o == 0 then true else decide (l i h < o)) else false) = false := hb
                rw [bif_and, bif_and, bif_or] at hb
                have hb : hitT o (l i h) (l k h) = false := hb
                rw [hb, if_neg Bool.false_ne_true] at hstep
                refine W.skip ?_
                refine R1 [] ?_
                refine ⟨k + 1, by omega, by omega, Le.cut _ 3 (by omega) ⟨⟨by with_unfolding_all rfl, rfl⟩, ⟨by with_unfolding_all rfl, rfl⟩, ⟨by with_unfolding_all rfl, rfl⟩, ⟨by with_unfolding_all rfl, rfl⟩, ⟨by with_unfolding_all rfl, rfl⟩, ⟨by with_unfolding_all rfl, rfl⟩, ⟨by with_unfolding_all rfl, rfl⟩, ⟨by with_unfolding_all rfl, rfl⟩, ⟨sl_int (wrap_up (by omega)), rfl⟩, trivial⟩ ?_⟩
                rw [hstep]
                with_unfolding_all rfl
            · have hk : k = i := by have := of_decide_eq_false hb; omega
              subst hk
              refine W.exit ?_
              refine R1 [] ?_
              exact ⟨k + 1, by omega, by omega, Le.cut _ 3 (by omega) ⟨⟨by with_unfolding_all rfl, rfl⟩, ⟨by with_unfolding_all rfl, rfl⟩, ⟨by with_unfolding_all rfl, rfl⟩, ⟨by with_unfolding_all rfl, rfl⟩, ⟨by with_unfolding_all rfl, rfl⟩, ⟨sl_int (wrap_up (by omega)), rfl⟩, trivial⟩ (by with_unfolding_all rfl)⟩
        · have hi : i = 4 := by have := of_decide_eq_false hb; omega
          subst hi
          rw [outT_pick]
          refine W.exit ?_
          refine R [.is 54 (.data (I (pickH l h)))] (ho := by exact ⟨hhi, congrArg (fun x => AV.data (I x)) (upd_same (outH l h) h (pickH l h)), trivial⟩) ?_
          refine C (fun hb => ?_) (fun hb => ?_)
          · have h0 : pickH l h = 0 := by
              have hb : (pickH l h == 0) = true := hb
              simpa using hb
            refine R [] (ho := by exact ⟨sameVV _ _, trivial⟩) ?_
            refine W.ret (End 0 hn0 ⟨?_, rfl⟩)
            have e : upd (outH l h) h (pickH l h) = takeV l := by
              rw [h0, outH_at]
              exact outH_end hp (.inr h0) (by omega)
            exact congrArg (fun v => AV.data (eVotes v)) e
          · have h0 : pickH l h ≠ 0 := by
              have hb : (pickH l h == 0) = false := hb
              simpa using hb
            refine W.skip ?_
            refine R1 [] ?_
            refine ⟨h + 1, ⟨by omega, by simp [pickAll, hp, h0]⟩, by omega, Le.cut _ 3 (by omega) ⟨⟨by with_unfolding_all rfl, rfl⟩, ⟨by with_unfolding_all rfl, rfl⟩, ⟨by with_unfolding_all rfl, rfl⟩, ⟨sl_int (wrap_up (by omega)), rfl⟩, trivial⟩ ?_⟩
            rw [← outH_upd]
            with_unfolding_all rfl
    · have hh : h = 4 := by have := of_decide_eq_false hb; omega
      subst hh
      refine W.exit ?_
      refine R [] (ho := by exact ⟨sameVV _ _, trivial⟩) ?_
      refine W.ret (End 0 hn0 ⟨?_, rfl⟩)
      exact congrArg (fun v => AV.data (eVotes v)) (outH_end hp (.inl rfl) (by omega))

set_option maxHeartbeats 4000000 in
set_option maxRecDepth 100000 in
theorem crowdTakes_spec (l : Nat → Nat → Int) : Pure Try.prog 9 [.data (eInts44 l)] (.data (.bool true)) := by
  refine spec_of ttok Try.func9 rfl (by kernel_rfl) (by exact Nat.le_of_ble_eq_true rfl) fun hin hie c0 hc0 he => ?_
  have hn0 : c0.es.length ≤ 0 := Nat.le_of_eq (by rw [he]; rfl)
  refine R [] ?_
  refine RD [.data (eVotes (takeV l)), .data (eVotes (takeV l)), .data (.bool true)] (ho := by exact ⟨take_spec l, taken_spec l, fun _ => alive_law, trivial⟩) ?_
  refine W.ret (EndB 0 hn0 ?_)
  have he : eqD (eVotes (takeV l)) (eVotes (takeV l)) = true := allTo_spec.2 fun _ _ => beq_self_eq_true _
  exact bifh2 he rfl

end Go.W
