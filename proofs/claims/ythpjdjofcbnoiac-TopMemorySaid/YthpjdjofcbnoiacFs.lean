/-
  Package node, walked: settling.
-/
import Derived.Test.YthpjdjofcbnoiacFr
namespace Go.W
open Go.Proofs

set_option maxRecDepth 100000 in
theorem deleteFunc_nil (v : Int) : Fn Try.prog 54 [.data (.list []), .func 55 [.ptr 0 []]] [.var (I v) []] (.data (.list [])) [.var (I v) []] := by
  refine spec_of ttok Try.func54 rfl (by kernel_rfl) (by exact Nat.le_of_ble_eq_true rfl) fun hin hie c0 hc0 he => ?_
  have hn0 : c0.es.length ≤ 1 := Nat.le_of_eq (by rw [he]; rfl)
  refine R [] ?_
  refine R [.data (I (-1))] (ho := by exact ⟨indexFunc_spec1 [] (p := fun x => x == v) fun x => settle1_spec x v, trivial⟩) ?_
  refine W.seq (R [] ?_)
  refine C (fun h => ?_) (fun h => ?_)
  · refine R [] ?_
    exact W.ret (End 1 hn0 ⟨rfl, rfl⟩)
  · cases h

/-- What settling does, if it does. -/
def settleO (x : Run) : Bool × Run := match settleK x.s with
  | some k => (true, settleR x (mostV (x.s.cur.promises k)))
  | none => (false, x)

theorem settleO_some {x : Run} {k : Nat} (hp : promised x.s.cur k = true) (hm : ∀ j, j < k → promised x.s.cur j = false) (hk : k < 6) : settleO x = (true, settleR x (mostV (x.s.cur.promises k))) := by
  unfold settleO settleK
  rw [firstN_at hp hm hk]
theorem settleO_none {x : Run} (hm : ∀ j, j < 6 → promised x.s.cur j = false) : settleO x = (false, x) := by
  unfold settleO settleK
  rw [firstN_none.2 hm]

def settleQ (s : Node) (v : Int) : Node := { s with settled := upd s.settled s.height.toNat v, queue := s.queue.filter fun q => !(q == v) }
theorem run_queue (x : Run) (v : Int) : ((eRun x).set [0, 9, x.s.height.toNat] (I v)).set [0, 10] (eQ (x.s.queue.filter fun q => !(q == v))) = eRun ⟨settleQ x.s v, x.who, x.out⟩ := by
  unfold eRun
  rw [runner_set0, runner_set0, node_set9 (votes_set _ _ _), node_set10]; rfl
theorem run_settle (x : Run) (v : Int) (h : 0 ≤ x.s.height ∧ x.s.height < 4) :
    ((((((((eRun ⟨settleQ x.s v, x.who, x.out⟩).set [0, 0] (I (IntKind.i64.wrap (x.s.height + 1)))).set [0, 3] (I 0)).set [0, 4] (I (-1))).set [0, 5] (I 0)).set [0, 6] (I (-1))).set [0, 7] (eBools6 fun _ => false)).set [0, 1] (I 0)).set [0, 2] (I 0) = eRun ⟨settleS x.s v, x.who, x.out⟩ := by
  unfold eRun
  rw [i64_wrap (by omega) (by omega)]
  rw [runner_set0, node_set0, runner_set0, node_set3, runner_set0, node_set4, runner_set0, node_set5, runner_set0, node_set6, runner_set0, node_set7 (set_nil _ _), runner_set0, node_set1, runner_set0, node_set2]; rfl

theorem promised_bif (s : Sheet) (k : Nat) : promised s k = !(bif bif bif !mostOk (s.promises k) then true else mostV (s.promises k) == 0 then true else !(s.calls k).is then true else !((s.calls k).value == mostV (s.promises k))) := by
  simp only [promised, bif_or, Bool.not_or, Bool.not_not]

set_option maxHeartbeats 4000000 in
set_option maxRecDepth 100000 in
theorem settle_spec (x : Run) (hg : GoodR x) (hh : x.s.height < 4) (hl : x.out.length ≤ 2000) : Fn Try.prog 45 [.ptr 0 []] (RE x) (.data (.bool (settleO x).1)) (RE (settleO x).2) := by
  have hh : 0 ≤ x.s.height ∧ x.s.height < 4 := ⟨hg.s.height.1, hh⟩
  refine spec_of ttok Try.func45 rfl (by kernel_rfl) (by exact Nat.le_of_ble_eq_true rfl) fun hin hie c0 hc0 he => ?_
  have hn0 : c0.es.length ≤ 2 := Nat.le_of_eq (by rw [he]; rfl)
  refine R [] ?_
  refine RD [] (ho := by exact ⟨hh, sameSS _ _, trivial⟩) ?_
  refine W.seq (R [] ?_)
  refine W.block (W.loop hc0 (ι := Nat) (fun k => ⟨121, frOf [(0, .ptr 0 []), (3, .ptr 2 []), (19, .data (I k))], RE x ++ [.var (eSheet x.s.cur) []]⟩) (fun k => k ≤ 6 ∧ ∀ j, j < k → promised x.s.cur j = false) (fun k => 6 - k) 0 ⟨by omega, fun i hi => by omega⟩ ?_ ?_)
  · exact Le.cut _ 3 (by omega) ⟨⟨by with_unfolding_all rfl, rfl⟩, ⟨by with_unfolding_all rfl, rfl⟩, ⟨by with_unfolding_all rfl, rfl⟩, trivial⟩ (by with_unfolding_all rfl)
  · intro k ⟨hk, hm⟩
    refine R [] ?_
    refine W.seq (C (fun h => ?_) (fun h => ?_))
    · have hk : k < 6 := by have := of_decide_eq_true h; omega
      refine W.skip (W.seq (W.block ?_))
      refine R [] ?_
      refine R [.tuple [.data (I (mostV (x.s.cur.promises k))), .data (.bool (mostOk (x.s.cur.promises k)))]] (ho := by exact ⟨⟨by omega, by omega⟩, most_spec _, trivial⟩) ?_
      refine W.seq (R [] (ho := by exact ⟨⟨by omega, by omega⟩, sameCC _ _, trivial⟩) ?_)
      refine R [] ?_
      refine C (fun h => ?_) (fun h => ?_)
      · have hp : promised x.s.cur k = false := by
          rw [promised_bif, Bool.not_eq_false']
          exact h
        refine W.exit ?_
        refine R1 [] ?_
        refine ⟨k + 1, ⟨by omega, fun j hj => ?_⟩, by omega, Le.cut _ 3 (by omega) ⟨⟨by with_unfolding_all rfl, rfl⟩, ⟨by with_unfolding_all rfl, rfl⟩, ⟨sl_int (wrap_cast hk (by omega)), rfl⟩, trivial⟩ (by with_unfolding_all rfl)⟩
        rcases Nat.lt_or_ge j k with h2 | h2
        · exact hm j h2
        · have : j = k := by omega
          subst this; exact hp
      have hp : promised x.s.cur k = true := by
        rw [promised_bif, Bool.not_eq_true']
        exact h
      have hO : settleO x = (true, settleR x (mostV (x.s.cur.promises k))) := settleO_some hp hm hk
      clear h
      generalize hv : mostV (x.s.cur.promises k) = v at hO ⊢
      have hql : x.s.queue.length ≤ 1000000 := by have := hg.s.len; omega
      refine W.skip ?_
      refine RD [] (ho := by exact ⟨hh, trivial⟩) ?_
      by_cases hq : x.s.queue = []
      case' pos =>
        refine R [Hint.on [] [.row 1 []] (.row 0 []), Hint.on [3] [.var (I v) []] (.data (.list []))] (ho := ?ob) ?_
        case' ob =>
          refine ⟨?_, deleteFunc_nil v, trivial⟩
          have := cloneInts_row [] (by simp)
          with_unfolding_all rw [hq]
          exact this
        refine W.le hc0 (Le.cut [(0, .ptr 0 [])] 2 hn0 (es' := RE ⟨settleQ x.s v, x.who, x.out⟩) ⟨⟨by with_unfolding_all rfl, rfl⟩, trivial⟩ ?eq) ?rest
        case' eq =>
          have := run_queue x v
          simp only [hq, List.filter_nil] at this
          with_unfolding_all exact congrArg (fun d => [Ent.var d [([2], 1)], .row 6 (x.out.map eWord)]) this
      case' neg =>
        refine R [Hint.on [] [.var (.arr x.s.queue.length 1 (ownQ x.s.queue)) []] (.sl 0 0 x.s.queue.length x.s.queue.length), Hint.on [5, 3] [.var (.arr x.s.queue.length 1 (ownQ (x.s.queue.filter fun q => !(q == v)))) [], .var (I v) []] (.sl 0 0 (x.s.queue.filter fun q => !(q == v)).length x.s.queue.length)]
          (ho := by exact ⟨cloneInts_own _ hq hql, deleteFunc_spec _ v hql, List.length_pos_iff.2 hq, trivial⟩) ?_
        refine W.le hc0 (Le.cut [(0, .ptr 0 [])] 2 hn0 (es' := RE ⟨settleQ x.s v, x.who, x.out⟩) ⟨⟨by with_unfolding_all rfl, rfl⟩, trivial⟩ ?eq2) ?rest2
        case' eq2 =>
          have := run_queue x v
          unfold eQ at this
          rw [← lst_own] at this
          with_unfolding_all exact congrArg (fun d => [Ent.var d [([2], 1)], .row 6 (x.out.map eWord)]) this
      all_goals
        refine R [] ?_
        refine R [] ?_
        refine R [] (ho := by exact ⟨sameB6 _ _, trivial⟩) ?_
        refine R [] ?_
        refine W.ents (es' := RE ⟨settleS x.s v, x.who, x.out⟩) ?_ ?_
        · with_unfolding_all exact congrArg (fun d => [Ent.var d [([2], 1)], .row 6 (x.out.map eWord)]) (run_settle x v hh)
        refine W.seq (R [] ?_)
        refine C (fun h => ?_) (fun h => ?_)
        · have h4 : x.s.height + 1 < 4 := of_decide_eq_true h
          refine R1 [Hint.on [0, 1] (RE (startR ⟨settleS x.s v, x.who, x.out⟩ 0)) (.tuple [])] (ho := by exact ⟨start_spec ⟨settleS x.s v, x.who, x.out⟩ 0 ⟨by show 0 ≤ x.s.height + 1; omega, h4⟩ (by omega) hl, trivial⟩) ?_
          refine R [] ?_
          refine W.ret (End 2 hn0 ⟨?_, ?_⟩)
          · rw [hO]; rfl
          · rw [hO]; simp only [settleR, if_pos h4]; rfl
        · have h4 : ¬ x.s.height + 1 < 4 := of_decide_eq_false h
          refine W.skip ?_
          refine R [] ?_
          refine W.ret (End 2 hn0 ⟨?_, ?_⟩)
          · rw [hO]; rfl
          · rw [hO]; simp only [settleR, if_neg h4]; rfl
    · have hk : k = 6 := by have := of_decide_eq_false h; omega
      subst hk
      have hO : settleO x = (false, x) := settleO_none hm
      refine W.exit ?_
      refine R [] ?_
      refine W.ret (End 2 hn0 ⟨?_, ?_⟩)
      · rw [hO]; rfl
      · rw [hO]; rfl

end Go.W
