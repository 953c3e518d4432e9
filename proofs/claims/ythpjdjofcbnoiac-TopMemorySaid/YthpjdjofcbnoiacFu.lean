/-
  Package node, walked: promising, the flow.
-/
import Derived.Test.YthpjdjofcbnoiacFt
namespace Go.W
open Go.Proofs

def promO (x : Run) : Bool × Run := match promR x with
  | some y => (true, y)
  | none => (false, x)
abbrev mvOf (s : Node) : Int := mostV (s.cur.wishes s.round.toNat)
abbrev moOf (s : Node) : Bool := mostOk (s.cur.wishes s.round.toNat)
theorem promO_1 {x : Run} (h : (!moOf x.s || x.s.step == 0) = true) : promO x = (false, x) := by
  unfold promO promR
  simp only [h, if_true]
theorem promO_2 {x : Run} (h : (!moOf x.s || x.s.step == 0) = false) (h2 : (mvOf x.s == 0 && x.s.step == 1) = true) : promO x = (true, sayR ⟨{ x.s with step := 2 }, x.who, x.out⟩ 3 0 0) := by
  unfold promO promR
  simp only [h, h2, if_true, Bool.false_eq_true, if_false]
theorem promO_3 {x : Run} (h : (!moOf x.s || x.s.step == 0) = false) (h2 : (mvOf x.s == 0 && x.s.step == 1) = false) (h3 : (mvOf x.s == 0 || !(callOf x.s).is || !((callOf x.s).value == mvOf x.s) || x.s.seen x.s.round.toNat) = true) : promO x = (false, x) := by
  unfold promO promR
  simp only [h, h2, h3, if_true, Bool.false_eq_true, if_false]
theorem promO_4 {x : Run} (h : (!moOf x.s || x.s.step == 0) = false) (h2 : (mvOf x.s == 0 && x.s.step == 1) = false) (h3 : (mvOf x.s == 0 || !(callOf x.s).is || !((callOf x.s).value == mvOf x.s) || x.s.seen x.s.round.toNat) = false) (h4 : (x.s.step == 1) = true) :
    promO x = (true, sayR ⟨bindS (seeS x.s (mvOf x.s)) (mvOf x.s), x.who, x.out⟩ 3 (mvOf x.s) 0) := by
  unfold promO promR
  simp only [h, h2, h3, Bool.false_eq_true, if_false]
  simp only [h4, if_true]
theorem promO_5 {x : Run} (h : (!moOf x.s || x.s.step == 0) = false) (h2 : (mvOf x.s == 0 && x.s.step == 1) = false) (h3 : (mvOf x.s == 0 || !(callOf x.s).is || !((callOf x.s).value == mvOf x.s) || x.s.seen x.s.round.toNat) = false) (h4 : (x.s.step == 1) = false) :
    promO x = (true, ⟨seeS x.s (mvOf x.s), x.who, x.out⟩) := by
  unfold promO promR
  simp only [h, h2, h3, Bool.false_eq_true, if_false]
  simp only [h4, Bool.false_eq_true, if_false]

theorem run_see (x : Run) (v : Int) : (((eRun x).set [0, 7, x.s.round.toNat] (.bool true)).set [0, 5] (I v)).set [0, 6] (I x.s.round) = eRun ⟨seeS x.s v, x.who, x.out⟩ := by
  unfold eRun
  rw [runner_set0, node_set7 (bools_set _ _ _), runner_set0, node_set5, runner_set0, node_set6]; rfl
theorem run_bind (x : Run) (v : Int) : (((eRun x).set [0, 3] (I v)).set [0, 4] (I x.s.round)).set [0, 2] (I 2) = eRun ⟨bindS x.s v, x.who, x.out⟩ := by
  unfold eRun
  rw [runner_set0, node_set3, runner_set0, node_set4, runner_set0, node_set2]; rfl

set_option maxHeartbeats 4000000 in
set_option maxRecDepth 100000 in
theorem promise_spec (x : Run) (hg : GoodR x) (hh : x.s.height < 4) (hl : x.out.length ≤ 2000) : Fn Try.prog 48 [.ptr 0 []] (RE x) (.data (.bool (promO x).1)) (RE (promO x).2) := by
  have hh : 0 ≤ x.s.height ∧ x.s.height < 4 := ⟨hg.s.height.1, hh⟩
  have hr := hg.s.round
  refine spec_of ttok Try.func48 rfl (by kernel_rfl) (by exact Nat.le_of_ble_eq_true rfl) fun hin hie c0 hc0 he => ?_
  have hn0 : c0.es.length ≤ 2 := Nat.le_of_eq (by rw [he]; rfl)
  refine R [] ?_
  refine RD [] (ho := by exact ⟨hh, sameSS _ _, trivial⟩) ?_
  refine R [.tuple [.data (I (mvOf x.s)), .data (.bool (moOf x.s))]] (ho := by exact ⟨hr, most_spec _, trivial⟩) ?_
  refine R [] (ho := by exact ⟨hr, sameCC _ _, trivial⟩) ?_
  refine W.le hc0 (Le.cut [(0, .ptr 0 []), (3, .ptr 2 []), (4, .data (I (mvOf x.s))), (5, .data (.bool (moOf x.s))), (6, .ptr 3 [])] 4 (by omega) (es' := RE x ++ [.var (eSheet x.s.cur) [], .var (eCall (callOf x.s)) []]) ⟨⟨by with_unfolding_all rfl, rfl⟩, ⟨by with_unfolding_all rfl, rfl⟩, ⟨by with_unfolding_all rfl, rfl⟩, ⟨by with_unfolding_all rfl, rfl⟩, ⟨by with_unfolding_all rfl, rfl⟩, trivial⟩ (by with_unfolding_all rfl)) ?_
  refine W.seq (W.block (R [] ?_))
  refine C (fun h => ?_) (fun h => ?_)
  · have h1 : (!moOf x.s || x.s.step == 0) = true := by rw [bif_or] at h; exact h
    refine R [] ?_
    refine W.ret (End 2 hn0 ⟨?_, ?_⟩)
    · rw [promO_1 h1]; rfl
    · rw [promO_1 h1]; rfl
  have h1 : (!moOf x.s || x.s.step == 0) = false := by rw [bif_or] at h; exact h
  clear h
  refine R [] ?_
  refine C (fun h => ?_) (fun h => ?_)
  · have h2 : (mvOf x.s == 0 && x.s.step == 1) = true := by rw [bif_and] at h; exact h
    refine R [] ?_
    refine W.ents (es' := RE ⟨{ x.s with step := 2 }, x.who, x.out⟩ ++ [.var (eSheet x.s.cur) [], .var (eCall (callOf x.s)) []]) ?_ ?_
    · with_unfolding_all exact congrArg (fun d => [Ent.var d [([2], 1)], .row 6 (x.out.map eWord), .var (eSheet x.s.cur) [], .var (eCall (callOf x.s)) []]) (run_step x 2)
    refine R [Hint.on [0, 1] (RE (sayR ⟨{ x.s with step := 2 }, x.who, x.out⟩ 3 0 0)) (.tuple [])] (ho := by exact ⟨say_spec ⟨{ x.s with step := 2 }, x.who, x.out⟩ 3 0 0 hh hl, trivial⟩) ?_
    refine R [] ?_
    refine W.ret (End 2 hn0 ⟨?_, ?_⟩)
    · rw [promO_2 h1 h2]; rfl
    · rw [promO_2 h1 h2]; rfl
  have h2 : (mvOf x.s == 0 && x.s.step == 1) = false := by rw [bif_and] at h; exact h
  clear h
  refine RD [] (ho := by exact ⟨fun _ => hr, trivial⟩) ?_
  refine C (fun h => ?_) (fun h => ?_)
  · have h3 : (mvOf x.s == 0 || !(callOf x.s).is || !((callOf x.s).value == mvOf x.s) || x.s.seen x.s.round.toNat) = true := by rw [bif_or, bif_or, bif_or] at h; exact h
    refine R [] ?_
    refine W.ret (End 2 hn0 ⟨?_, ?_⟩)
    · rw [promO_3 h1 h2 h3]; rfl
    · rw [promO_3 h1 h2 h3]; rfl
  have h3 : (mvOf x.s == 0 || !(callOf x.s).is || !((callOf x.s).value == mvOf x.s) || x.s.seen x.s.round.toNat) = false := by rw [bif_or, bif_or, bif_or] at h; exact h
  clear h
  refine W.skip ?_
  refine RD [] (ho := by exact ⟨hr, trivial⟩) ?_
  refine R [] ?_
  refine W.le hc0 (Le.cut [(0, .ptr 0 []), (4, .data (I (mvOf x.s)))] 2 hn0 (es' := RE ⟨seeS x.s (mvOf x.s), x.who, x.out⟩) ⟨⟨by with_unfolding_all rfl, rfl⟩, ⟨by with_unfolding_all rfl, rfl⟩, trivial⟩ ?eq) ?_
  case eq => with_unfolding_all exact congrArg (fun d => [Ent.var d [([2], 1)], .row 6 (x.out.map eWord)]) (run_see x (mvOf x.s))
  refine W.seq (R [] ?_)
  refine C (fun h => ?_) (fun h => ?_)
  · have h4 : (x.s.step == 1) = true := h
    refine R [] ?_
    refine R [] ?_
    refine W.ents (es' := RE ⟨bindS (seeS x.s (mvOf x.s)) (mvOf x.s), x.who, x.out⟩) ?_ ?_
    · with_unfolding_all exact congrArg (fun d => [Ent.var d [([2], 1)], .row 6 (x.out.map eWord)]) (run_bind ⟨seeS x.s (mvOf x.s), x.who, x.out⟩ (mvOf x.s))
    refine R1 [Hint.on [0, 1] (RE (sayR ⟨bindS (seeS x.s (mvOf x.s)) (mvOf x.s), x.who, x.out⟩ 3 (mvOf x.s) 0)) (.tuple [])] (ho := by exact ⟨say_spec ⟨bindS (seeS x.s (mvOf x.s)) (mvOf x.s), x.who, x.out⟩ 3 (mvOf x.s) 0 hh hl, trivial⟩) ?_
    refine R [] ?_
    refine W.ret (End 2 hn0 ⟨?_, ?_⟩)
    · rw [promO_4 h1 h2 h3 h4]; rfl
    · rw [promO_4 h1 h2 h3 h4]; rfl
  · have h4 : (x.s.step == 1) = false := h
    refine W.skip ?_
    refine R [] ?_
    refine W.ret (End 2 hn0 ⟨?_, ?_⟩)
    · rw [promO_5 h1 h2 h3 h4]; rfl
    · rw [promO_5 h1 h2 h3 h4]; rfl

/-! ### The flow -/

theorem oneR_settle {x : Run} (hh : x.s.height < 4) (h : (settleO x).1 = true) : oneR x = some (settleO x).2 := by
  unfold oneR actR
  rw [if_pos hh]
  unfold settleO at h ⊢
  split at h
  · rename_i k hk; simp only [hk]
  · cases h
theorem oneR_skip {x : Run} (hh : x.s.height < 4) (h0 : (settleO x).1 = false) (h : (skipO x).1 = true) : oneR x = some (skipO x).2 := by
  unfold oneR actR
  rw [if_pos hh]
  unfold settleO at h0
  split at h0
  · cases h0
  · rename_i hk
    simp only [hk]
    unfold skipO at h ⊢
    split at h
    · rename_i k hk; simp only [hk]
    · cases h
theorem oneR_wish {x : Run} (hh : x.s.height < 4) (h0 : (settleO x).1 = false) (h1 : (skipO x).1 = false) (h : (wishO x).1 = true) : oneR x = some (wishO x).2 := by
  unfold oneR actR
  rw [if_pos hh]
  unfold settleO at h0
  split at h0
  · cases h0
  · rename_i hk
    simp only [hk]
    unfold skipO at h1
    split at h1
    · cases h1
    · rename_i hk
      simp only [hk]
      unfold wishO at h ⊢
      split at h
      · rename_i k hk; simp only [hk]
      · cases h
theorem oneR_prom {x : Run} (hh : x.s.height < 4) (h0 : (settleO x).1 = false) (h1 : (skipO x).1 = false) (h2 : (wishO x).1 = false) : oneR x = if (promO x).1 then some (promO x).2 else none := by
  unfold oneR actR
  rw [if_pos hh]
  unfold settleO at h0
  split at h0
  · cases h0
  · rename_i hk
    simp only [hk]
    unfold skipO at h1
    split at h1
    · cases h1
    · rename_i hk
      simp only [hk]
      unfold wishO at h2
      split at h2
      · cases h2
      · rename_i hk
        simp only [hk]
        unfold promO
        split <;> simp [*]
theorem settleO_no {x : Run} (h : (settleO x).1 = false) : settleO x = (false, x) := by
  unfold settleO at h ⊢
  split at h
  · cases h
  · rename_i hk; simp only [hk]
theorem skipO_no {x : Run} (h : (skipO x).1 = false) : skipO x = (false, x) := by
  unfold skipO at h ⊢
  split at h
  · cases h
  · rename_i hk; simp only [hk]
theorem wishO_no {x : Run} (h : (wishO x).1 = false) : wishO x = (false, x) := by
  unfold wishO at h ⊢
  split at h
  · cases h
  · rename_i hk; simp only [hk]
theorem promO_no {x : Run} (h : (promO x).1 = false) : promO x = (false, x) := by
  unfold promO at h ⊢
  split at h
  · cases h
  · rename_i hk; simp only [hk]

theorem startR_len (x : Run) (k : Int) : (startR x k).out.length ≤ x.out.length + 1 := by
  rcases startR_cases x k with e | ⟨v, u, _, _, e⟩ <;> rw [e] <;> simp [sayR]
theorem oneR_len {x y : Run} (h : oneR x = some y) : y.out.length ≤ x.out.length + 1 := by
  obtain ⟨hh, hc⟩ := oneR_cases h
  rcases hc with ⟨k, hk, rfl⟩ | ⟨k, _, hk, rfl⟩ | ⟨v, _, _, hv, rfl⟩ | ⟨_, _, _, hp⟩
  · unfold settleR
    split
    · exact startR_len _ _
    · exact Nat.le_succ _
  · exact startR_len _ _
  · simp [wishR, sayR]
  · obtain ⟨v, hm, rfl, hst', hc⟩ := promR_cases hp
    rcases hc with ⟨_, hs, rfl⟩ | ⟨h0, _, _, hseen, ⟨hs, rfl⟩ | ⟨hs, rfl⟩⟩
    · simp [sayR]
    · simp [sayR]
    · simp

structure FlowI (x y : Run) : Prop where
  good : GoodR y
  flow : flowR y = flowR x
  len : y.out.length + meas y.s ≤ 2000
theorem FlowI.next {x y z : Run} (h : FlowI x y) (hz : oneR y = some z) : FlowI x z ∧ meas z.s < meas y.s := by
  have h1 := meas_one h.good hz
  have h2 := oneR_len hz
  have h3 := h.len
  exact ⟨⟨h.good.one hz, by rw [← flowR_some h.good hz]; exact h.flow, by omega⟩, h1⟩

theorem fn_eq {P : Program} {f : FuncId} {args : List AV} {es es1 es1' : List Ent} {r r' : AV} (h : Fn P f args es r es1) (e : r = r') (e' : es1 = es1') : Fn P f args es r' es1' := by subst e; subst e'; exact h

set_option maxHeartbeats 4000000 in
set_option maxRecDepth 100000 in
theorem flow_spec (x : Run) (hg : GoodR x) (hl : x.out.length + meas x.s ≤ 2000) : Fn Try.prog 39 [.ptr 0 []] (RE x) (.tuple []) (RE (flowR x)) := by
  refine spec_of ttok Try.func39 rfl (by kernel_rfl) (by exact Nat.le_of_ble_eq_true rfl) fun hin hie c0 hc0 he => ?_
  have hn0 : c0.es.length ≤ 2 := Nat.le_of_eq (by rw [he]; rfl)
  refine W.block (W.loop hc0 (ι := Run) (fun y => ⟨24, frOf [(0, .ptr 0 [])], RE y⟩) (FlowI x) (fun y => meas y.s) x ⟨hg, rfl, hl⟩ ?_ ?_)
  · exact Le.cut _ 2 hn0 ⟨⟨by with_unfolding_all rfl, rfl⟩, trivial⟩ (by with_unfolding_all rfl)
  · intro y hy
    have hly : y.out.length ≤ 2000 := by have := hy.len; omega
    by_cases hh : y.s.height < 4
    · have hd : decide (y.s.height < 4) = true := decide_eq_true hh
      cases e1 : (settleO y).1 with
      | true =>
        have ho := oneR_settle hh e1
        have hs := fn_eq (settle_spec y hy.good hh hly) (by rw [e1]) (rfl : RE (settleO y).2 = _)
        generalize (settleO y).2 = z at ho hs
        obtain ⟨hz, hm⟩ := hy.next ho
        refine W.seq (R [(Hint.on [0, 1] (RE z) (.data (.bool true))).take, .skip (.data (.bool false)), .skip (.data (.bool false)), .skip (.data (.bool false))] (ho := by exact ⟨hd, hs, .inl rfl, .inl rfl, .inl rfl, trivial⟩) ?_)
        refine C (fun h => ?_) (fun h => ?_)
        · refine W.skip (W.block (W.skip ?_))
          exact ⟨z, hz, hm, Le.cut _ 2 hn0 ⟨⟨by with_unfolding_all rfl, rfl⟩, trivial⟩ (by with_unfolding_all rfl)⟩
        · have h : (bif decide (y.s.height < 4) then true else false) = false := h
          rw [hd] at h; cases h
      | false =>
      have hs := fn_eq (settle_spec y hy.good hh hly) (r' := .data (.bool false)) (es1' := RE y) (by rw [e1]) (by rw [settleO_no e1])
      cases e2 : (skipO y).1 with
      | true =>
        have ho := oneR_skip hh e1 e2
        have hk := fn_eq (skip_spec y hy.good hh hly) (by rw [e2]) (rfl : RE (skipO y).2 = _)
        generalize (skipO y).2 = z at ho hk
        obtain ⟨hz, hm⟩ := hy.next ho
        refine W.seq (R [(Hint.on [0, 1] (RE y) (.data (.bool false))).take, (Hint.on [0, 1] (RE z) (.data (.bool true))).take, .skip (.data (.bool false)), .skip (.data (.bool false))] (ho := by exact ⟨hd, hs, ⟨rfl, hd⟩, hk, .inl rfl, .inl rfl, trivial⟩) ?_)
        refine C (fun h => ?_) (fun h => ?_)
        · refine W.skip (W.block (W.skip ?_))
          exact ⟨z, hz, hm, Le.cut _ 2 hn0 ⟨⟨by with_unfolding_all rfl, rfl⟩, trivial⟩ (by with_unfolding_all rfl)⟩
        · have h : (bif decide (y.s.height < 4) then true else false) = false := h
          rw [hd] at h; cases h
      | false =>
      have hk := fn_eq (skip_spec y hy.good hh hly) (r' := .data (.bool false)) (es1' := RE y) (by rw [e2]) (by rw [skipO_no e2])
      cases e3 : (wishO y).1 with
      | true =>
        have ho := oneR_wish hh e1 e2 e3
        have hw := fn_eq (wish_spec y hy.good hh hly) (by rw [e3]) (rfl : RE (wishO y).2 = _)
        generalize (wishO y).2 = z at ho hw
        obtain ⟨hz, hm⟩ := hy.next ho
        refine W.seq (R [(Hint.on [0, 1] (RE y) (.data (.bool false))).take, (Hint.on [0, 1] (RE y) (.data (.bool false))).take, (Hint.on [0, 1] (RE z) (.data (.bool true))).take, .skip (.data (.bool false))] (ho := by exact ⟨hd, hs, ⟨rfl, hd⟩, hk, ⟨rfl, hd⟩, hw, .inl rfl, trivial⟩) ?_)
        refine C (fun h => ?_) (fun h => ?_)
        · refine W.skip (W.block (W.skip ?_))
          exact ⟨z, hz, hm, Le.cut _ 2 hn0 ⟨⟨by with_unfolding_all rfl, rfl⟩, trivial⟩ (by with_unfolding_all rfl)⟩
        · have h : (bif decide (y.s.height < 4) then true else false) = false := h
          rw [hd] at h; cases h
      | false =>
      have hw := fn_eq (wish_spec y hy.good hh hly) (r' := .data (.bool false)) (es1' := RE y) (by rw [e3]) (by rw [wishO_no e3])
      cases e4 : (promO y).1 with
      | true =>
        have ho := oneR_prom hh e1 e2 e3
        rw [e4, if_pos rfl] at ho
        have hp := fn_eq (promise_spec y hy.good hh hly) (by rw [e4]) (rfl : RE (promO y).2 = _)
        generalize (promO y).2 = z at ho hp
        obtain ⟨hz, hm⟩ := hy.next ho
        refine W.seq (R [(Hint.on [0, 1] (RE y) (.data (.bool false))).take, (Hint.on [0, 1] (RE y) (.data (.bool false))).take, (Hint.on [0, 1] (RE y) (.data (.bool false))).take, (Hint.on [0, 1] (RE z) (.data (.bool true))).take] (ho := by exact ⟨hd, hs, ⟨rfl, hd⟩, hk, ⟨rfl, hd⟩, hw, ⟨rfl, hd⟩, hp, trivial⟩) ?_)
        refine C (fun h => ?_) (fun h => ?_)
        · refine W.skip (W.block (W.skip ?_))
          exact ⟨z, hz, hm, Le.cut _ 2 hn0 ⟨⟨by with_unfolding_all rfl, rfl⟩, trivial⟩ (by with_unfolding_all rfl)⟩
        · have h : (bif decide (y.s.height < 4) then true else false) = false := h
          rw [hd] at h; cases h
      | false =>
        have ho := oneR_prom hh e1 e2 e3
        rw [e4, if_neg (by simp)] at ho
        have hp := fn_eq (promise_spec y hy.good hh hly) (r' := .data (.bool false)) (es1' := RE y) (by rw [e4]) (by rw [promO_no e4])
        refine W.seq (R [(Hint.on [0, 1] (RE y) (.data (.bool false))).take, (Hint.on [0, 1] (RE y) (.data (.bool false))).take, (Hint.on [0, 1] (RE y) (.data (.bool false))).take, (Hint.on [0, 1] (RE y) (.data (.bool false))).take] (ho := by exact ⟨hd, hs, ⟨rfl, hd⟩, hk, ⟨rfl, hd⟩, hw, ⟨rfl, hd⟩, hp, trivial⟩) ?_)
        refine C (fun h => ?_) (fun h => ?_)
        · have h : (bif decide (y.s.height < 4) then false else false) = true := h
          rw [hd] at h; cases h
        · refine W.exit ?_
          refine End 2 hn0 ⟨rfl, ?_⟩
          rw [← hy.flow, flowR_none ho]; rfl
    · have hd : decide (y.s.height < 4) = false := decide_eq_false hh
      have ho : oneR y = none := by unfold oneR; rw [if_neg hh]
      refine W.seq (R [.skip (.data (.bool false)), .skip (.data (.bool false)), .skip (.data (.bool false)), .skip (.data (.bool false))] (ho := by exact ⟨hd, .inr hd, .inr hd, .inr hd, trivial⟩) ?_)
      refine C (fun h => ?_) (fun h => ?_)
      · have h : (bif decide (y.s.height < 4) then false else false) = true := h
        rw [hd] at h; cases h
      · refine W.exit ?_
        refine End 2 hn0 ⟨rfl, ?_⟩
        rw [← hy.flow, flowR_none ho]; rfl

end Go.W
