/-
  The reference's node, walked: what it tells, how it enters a round, one thing after the other.
-/
import Derived.Test.YthpjdjofcbnoiabFw
import Derived.Test.YthpjdjofcbnoiabQFk
namespace Go.W
open Go.Proofs

set_option maxRecDepth 100000 in
theorem tell_spec (x : Run) (k v u : Int) (hh : 0 ≤ x.s.height ∧ x.s.height < 4) (hl : x.out.length ≤ 2000) : Fn Try.prog 60 [.ptr 0 [], .data (I k), .data (I v), .data (I u)] (RE x) (.tuple []) (RE (sayR x k v u)) := by
  refine spec_of ttok Try.func60 rfl (by kernel_rfl) (by exact Nat.le_of_ble_eq_true rfl) fun hin hie c0 hc0 he => ?_
  have hn0 : c0.es.length ≤ 2 := Nat.le_of_eq (by rw [he]; rfl)
  refine RD [] (ho := by with_unfolding_all exact ⟨sameW (w := wordOf x k v u) rfl rfl rfl rfl rfl rfl (fun _ => rfl), trivial⟩) ?_
  refine W.ents (es' := RE x ++ [.var (eWord (wordOf x k v u)) []]) ?_ ?_
  · with_unfolding_all exact congrArg (fun d => RE x ++ [Ent.var d []]) (wordD (w := wordOf x k v u) rfl rfl rfl rfl rfl rfl (fun _ => rfl))
  refine RF [] 3 [(7, .wr 1), (9, .rd (some 0))] (ho := by exact ⟨rfl, sizes_words1 _ _, fits_words _ _ hl, trivial⟩) ?_
  refine W.ents (es' := [.var (eRunnerD (eNode x.s) x.who (eWords (x.out ++ [wordOf x k v u]))) [([2], 1)], .row 6 ((x.out ++ [wordOf x k v u]).map eWord), .var (eWord (wordOf x k v u)) []]) ?_ ?_
  · simp only [eWords, List.map_append, List.map_cons, List.map_nil]
    with_unfolding_all exact congrArg (fun d => [Ent.var d [([2], 1)], .row 6 (x.out.map eWord ++ [eWord (wordOf x k v u)]), .var (eWord (wordOf x k v u)) []]) (runner_set2 (eNode x.s) x.who (eWords x.out) [] (.list (x.out.map eWord ++ [eWord (wordOf x k v u)])))
  refine RD1 [.data (eSheet (hearS x.s.cur (wordOf x k v u)))] (ho := by exact ⟨hh, hearSheet_spec _ _, hh, sameSS _ _, trivial⟩) ?_
  refine End 2 hn0 ⟨rfl, ?_⟩
  with_unfolding_all exact congrArg (fun d => [Ent.var d [([2], 1)], .row 6 ((x.out ++ [wordOf x k v u]).map eWord)]) (run_say x k v u)

set_option maxRecDepth 100000 in
theorem sheet_spec (x : Run) (hh : 0 ≤ x.s.height ∧ x.s.height < 4) : Pure Try.prog 59 [.cptr (eRun x)] (.data (eSheet x.s.cur)) := by
  refine spec_of ttok Try.func59 rfl (by kernel_rfl) (by exact Nat.le_of_ble_eq_true rfl) fun hin hie c0 hc0 he => ?_
  have hn0 : c0.es.length ≤ 0 := Nat.le_of_eq (by rw [he]; rfl)
  refine R [] ?_
  refine RD [] (ho := by exact ⟨hh, sameSS _ _, trivial⟩) ?_
  exact W.ret (End 0 hn0 ⟨rfl, rfl⟩)

/-- How the reference enters a round. -/
def enterR (x : Run) (k : Int) : Run := if x.s.height = 4 then ⟨atRound x.s k, x.who, x.out⟩ else startR x k
theorem enterR_4 {x : Run} (k : Int) (h : x.s.height = 4) : enterR x k = ⟨atRound x.s k, x.who, x.out⟩ := by unfold enterR; rw [if_pos h]
theorem enterR_s {x : Run} (k : Int) (h : x.s.height ≠ 4) : enterR x k = startR x k := by unfold enterR; rw [if_neg h]

set_option maxHeartbeats 4000000 in
set_option maxRecDepth 100000 in
theorem enter_spec (x : Run) (k : Int) (hh : 0 ≤ x.s.height ∧ x.s.height ≤ 4) (hk : 0 ≤ k ∧ k < 6) (hl : x.out.length ≤ 2000) : Fn Try.prog 55 [.ptr 0 [], .data (I k)] (RE x) (.tuple []) (RE (enterR x k)) := by
  refine spec_of ttok Try.func55 rfl (by kernel_rfl) (by exact Nat.le_of_ble_eq_true rfl) fun hin hie c0 hc0 he => ?_
  have hn0 : c0.es.length ≤ 2 := Nat.le_of_eq (by rw [he]; rfl)
  refine R [] ?_
  refine W.ents (es' := RE ⟨atRound x.s k, x.who, x.out⟩) ?_ ?_
  · with_unfolding_all exact congrArg (fun d => [Ent.var d [([2], 1)], .row 6 (x.out.map eWord)]) (run_round x k)
  by_cases h4 : x.s.height = 4
  · have hb : (x.s.height == 4) = true := by simp [h4]
    refine W.seq (RD [.data (I (leader x.s.height k)), .data (eSheet (x.s.heard 0))] (ho := ?ob) ?_)
    case ob =>
      refine ⟨fun _ => leaderOf_spec _ _, fun h => ?_, fun _ => hk, trivial⟩
      have h : (bif x.s.height == 4 then true else !(leader x.s.height k == x.who)) = false := h
      rw [hb] at h
      cases h
    refine C (fun h => ?_) (fun h => ?_)
    · refine W.ret (End 2 hn0 ⟨rfl, ?_⟩)
      rw [enterR_4 k h4]; rfl
    · exfalso
      have h : (bif (bif x.s.height == 4 then true else !(leader x.s.height k == x.who)) then true else ((x.s.heard 0).calls k.toNat).is) = false := h
      rw [hb] at h
      cases h
  have hhl : 0 ≤ x.s.height ∧ x.s.height < 4 := by omega
  have hb : (x.s.height == 4) = false := by simp [h4]
  have hO := enterR_s k h4
  refine W.seq (RD [.data (I (leader x.s.height k)), .data (eSheet x.s.cur)] (ho := by exact ⟨fun _ => leaderOf_spec _ _, fun _ => sheet_spec ⟨atRound x.s k, x.who, x.out⟩ hhl, fun _ => hk, trivial⟩) ?_)
  refine C (fun h => ?_) (fun h => ?_)
  · have hm : mute x.s x.who k = true := by
      have h : (bif (bif x.s.height == 4 then true else !(leader x.s.height k == x.who)) then true else (x.s.cur.calls k.toNat).is) = true := h
      rw [hb, bif_or, bif_or, Bool.false_or] at h
      exact h
    refine W.ret (End 2 hn0 ⟨rfl, ?_⟩)
    rw [hO, startR_mute hm]; rfl
  have hm : mute x.s x.who k = false := by
    have h : (bif (bif x.s.height == 4 then true else !(leader x.s.height k == x.who)) then true else (x.s.cur.calls k.toNat).is) = false := h
    rw [hb, bif_or, bif_or, Bool.false_or] at h
    exact h
  clear h
  refine W.skip (R [] ?_)
  refine C (fun h => ?_) (fun h => ?_)
  · have hp : proposal x.s = some (x.s.valid, x.s.validIn) := by
      have h : 0 ≤ x.s.validIn := of_decide_eq_true h
      simp only [proposal, if_pos h]
    refine RD1 [Hint.on [0, 1] (RE (sayR ⟨atRound x.s k, x.who, x.out⟩ 1 x.s.valid x.s.validIn)) (.tuple [])] (ho := by exact ⟨tell_spec ⟨atRound x.s k, x.who, x.out⟩ 1 x.s.valid x.s.validIn hhl hl, trivial⟩) ?_
    refine End 2 hn0 ⟨rfl, ?_⟩
    rw [hO, startR_some hm hp]; rfl
  · have h0 : ¬ 0 ≤ x.s.validIn := of_decide_eq_false h
    refine R [] ?_
    refine C (fun h => ?_) (fun h => ?_)
    · have hq : 0 < x.s.queue.length := by
        have h' : (0 : Int) < (x.s.queue.map I).length := of_decide_eq_true h
        rw [List.length_map] at h'
        omega
      have hp : proposal x.s = some (x.s.queue.getD 0 0, -1) := by
        simp only [proposal, if_neg h0]
        cases hqq : x.s.queue with
        | nil => simp [hqq] at hq
        | cons a l => rfl
      refine R1 [.is 72 (.cptr (I (x.s.queue.getD 0 0))), Hint.on [0, 1] (RE (sayR ⟨atRound x.s k, x.who, x.out⟩ 1 (x.s.queue.getD 0 0) (-1))) (.tuple [])]
        (ho := by exact ⟨cptr_q _ hq, ⟨by omega, by rw [List.length_map]; exact Int.ofNat_lt.2 hq⟩, sizes_q _, tell_spec ⟨atRound x.s k, x.who, x.out⟩ 1 (x.s.queue.getD 0 0) (-1) hhl hl, trivial⟩) ?_
      refine End 2 hn0 ⟨rfl, ?_⟩
      rw [hO, startR_some hm hp]; rfl
    · have hp : proposal x.s = none := by
        have h' : ¬ (0 : Int) < (x.s.queue.map I).length := of_decide_eq_false h
        rw [List.length_map] at h'
        simp only [proposal, if_neg h0]
        cases hqq : x.s.queue with
        | nil => rfl
        | cons a l => simp [hqq] at h'
      refine W.skip ?_
      refine End 2 hn0 ⟨rfl, ?_⟩
      rw [hO, startR_none hm hp]; rfl

end Go.W
