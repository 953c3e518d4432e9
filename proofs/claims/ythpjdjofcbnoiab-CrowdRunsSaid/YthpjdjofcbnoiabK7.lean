/-
  Texts for the law CrowdRuns: Fx Fy Fz.
-/
import Derived.Test.YthpjdjofcbnoiabQFw
import Derived.Test.YthpjdjofcbnoiabQFk

/-
  The reference's node, walked: what it tells, how it enters a round, one thing after the other.
-/
namespace Go.W
open Go.Proofs

set_option maxRecDepth 100000 in
theorem tell_spec (x : Run) (k v u : Int) (hh : 0 ≤ x.s.height ∧ x.s.height < 4) (hl : x.out.length ≤ 2000) : Fn Try.prog 60 [.ptr 0 [], .data (I k), .data (I v), .data (I u)] (RE x) (.tuple []) (RE (sayR x k v u)) := by
  refine spec_of ttok Try.func60 rfl (by kernel_rfl) (by exact Nat.le_of_ble_eq_true rfl) fun hin hie c0 hc0 he => ?_
  have hn0 : c0.es.length ≤ 2 := Nat.le_of_eq (by rw [he]; rfl)
  refine RD [] (ho := by with_unfolding_all exact ⟨sameW (w := wordOf x k v u) rfl rfl rfl rfl rfl rfl (fun _ => rfl), trivial⟩) ?_
  refine W.ents (es' := RE x ++ [.var (eWord (wordOf x k v u)) []]) ?_ ?_
  · with_unfolding_all exact congrArg (fun d => RE x ++ [Ent.var d []]) (wordD (w := wordOf x k v u) rfl rfl rfl rfl rfl rfl (fun _ => rfl))
  refine RF [] 3 [(7, .wr 1), (9, .rd (some 0))] (ho := by exact ⟨rfl, sizes_words1 _ _, fits_words _ _ hl, trivial⟩) ?_
  refine W.ents (es' := [.var (eRunnerD (eNode x.s) x.who (eWords (x.out ++ [wordOf x k v u]))) [([2], 1)], .row 6 ((x.out ++ [wordOf x k v u]).map eWord), .var (eWord (wordOf x k v u)) []]) ?_ ?_
  · simp only [eWords, List.map_append, List.map_cons, List.map_nil]
    with_unfolding_all exact congrArg (fun d => [Ent.var d [([2], 1)], .row 6 (x.out.map eWord ++ [eWord (wordOf x k v u)]), .var (eWord (wordOf x k v u)) []]) (runner_set2 (eNode x.s) x.who (eWords x.out) [] (.list (x.out.map eWord ++ [eWord (wordOf x k v u)])))
  refine RD1 [.data (eSheet (hearS x.s.cur (wordOf x k v u)))] (ho := by exact ⟨hh, hearSheet_spec _ _, hh, sameSS _ _, trivial⟩) ?_
  refine End 2 hn0 ⟨rfl, ?_⟩
  with_unfolding_all exact congrArg (fun d => [Ent.var d [([2], 1)], .row 6 ((x.out ++ [wordOf x k v u]).map eWord)]) (run_say x k v u)

set_option maxRecDepth 100000 in
theorem sheet_spec (x : Run) (hh : 0 ≤ x.s.height ∧ x.s.height < 4) : Pure Try.prog 59 [.cptr (eRun x)] (.data (eSheet x.s.cur)) := by
  refine spec_of ttok Try.func59 rfl (by kernel_rfl) (by exact Nat.le_of_ble_eq_true rfl) fun hin hie c0 hc0 he => ?_
  have hn0 : c0.es.length ≤ 0 := Nat.le_of_eq (by rw [he]; rfl)
  refine R [] ?_
  refine RD [] (ho := by exact ⟨hh, sameSS _ _, trivial⟩) ?_
  exact W.ret (End 0 hn0 ⟨rfl, rfl⟩)

/-- How the reference enters a round. -/
def enterR (x : Run) (k : Int) : Run := if x.s.height = 4 then ⟨atRound x.s k, x.who, x.out⟩ else startR x k
theorem enterR_4 {x : Run} (k : Int) (h : x.s.height = 4) : enterR x k = ⟨atRound x.s k, x.who, x.out⟩ := by unfold enterR; rw [if_pos h]
theorem enterR_s {x : Run} (k : Int) (h : x.s.height ≠ 4) : enterR x k = startR x k := by unfold enterR; rw [if_neg h]

set_option maxHeartbeats 4000000 in
set_option maxRecDepth 100000 in
theorem enter_spec (x : Run) (k : Int) (hh : 0 ≤ x.s.height ∧ x.s.height ≤ 4) (hk : 0 ≤ k ∧ k < 6) (hl : x.out.length ≤ 2000) : Fn Try.prog 55 [.ptr 0 [], .data (I k)] (RE x) (.tuple []) (RE (enterR x k)) := by
  refine spec_of ttok Try.func55 rfl (by kernel_rfl) (by exact Nat.le_of_ble_eq_true rfl) fun hin hie c0 hc0 he => ?_
  have hn0 : c0.es.length ≤ 2 := Nat.le_of_eq (by rw [he]; rfl)
  refine R [] ?_
  refine W.ents (es' := RE ⟨atRound x.s k, x.who, x.out⟩) ?_ ?_
  · with_unfolding_all exact congrArg (fun d => [Ent.var d [([2], 1)], .row 6 (x.out.map eWord)]) (run_round x k)
  by_cases h4 : x.s.height = 4
  · have hb : (x.s.height == 4) = true := by simp [h4]
    refine W.seq (RD [.data (I (leader x.s.height k)), .data (eSheet (x.s.heard 0))] (ho := ?ob) ?_)
    case ob =>
      refine ⟨fun _ => leaderOf_spec _ _, fun h => ?_, fun _ => hk, trivial⟩
      have h : (bif x.s.height == 4 then true else !(leader x.s.height k == x.who)) = false := h
      rw [hb] at h
      cases h
    refine C (fun h => ?_) (fun h => ?_)
    · refine W.ret (End 2 hn0 ⟨rfl, ?_⟩)
      rw [enterR_4 k h4]; rfl
    · exfalso
      have h : (bif (bif x.s.height == 4 then true else !(leader x.s.height k == x.who)) then true else ((x.s.heard 0).calls k.toNat).is) = false := h
      rw [hb] at h
      cases h
  have hhl : 0 ≤ x.s.height ∧ x.s.height < 4 := by omega
  have hb : (x.s.height == 4) = false := by simp [h4]
  have hO := enterR_s k h4
  refine W.seq (RD [.data (I (leader x.s.height k)), .data (eSheet x.s.cur)] (ho := by exact ⟨fun _ => leaderOf_spec _ _, fun _ => sheet_spec ⟨atRound x.s k, x.who, x.out⟩ hhl, fun _ => hk, trivial⟩) ?_)
  refine C (fun h => ?_) (fun h => ?_)
  · have hm : mute x.s x.who k = true := by
      have h : (bif (bif x.s.height == 4 then true else !(leader x.s.height k == x.who)) then true else (x.s.cur.calls k.toNat).is) = true := h
      rw [hb, bif_or, bif_or, Bool.false_or] at h
      exact h
    refine W.ret (End 2 hn0 ⟨rfl, ?_⟩)
    rw [hO, startR_mute hm]; rfl
  have hm : mute x.s x.who k = false := by
    have h : (bif (bif x.s.height == 4 then true else !(leader x.s.height k == x.who)) then true else (x.s.cur.calls k.toNat).is) = false := h
    rw [hb, bif_or, bif_or, Bool.false_or] at h
    exact h
  clear h
  refine W.skip (R [] ?_)
  refine C (fun h => ?_) (fun h => ?_)
  · have hp : proposal x.s = some (x.s.valid, x.s.validIn) := by
      have h : 0 ≤ x.s.validIn := of_decide_eq_true h
      simp only [proposal, if_pos h]
    refine RD1 [Hint.on [0, 1] (RE (sayR ⟨atRound x.s k, x.who, x.out⟩ 1 x.s.valid x.s.validIn)) (.tuple [])] (ho := by exact ⟨tell_spec ⟨atRound x.s k, x.who, x.out⟩ 1 x.s.valid x.s.validIn hhl hl, trivial⟩) ?_
    refine End 2 hn0 ⟨rfl, ?_⟩
    rw [hO, startR_some hm hp]; rfl
  · have h0 : ¬ 0 ≤ x.s.validIn := of_decide_eq_false h
    refine R [] ?_
    refine C (fun h => ?_) (fun h => ?_)
    · have hq : 0 < x.s.queue.length := by
        have h' : (0 : Int) < (x.s.queue.map I).length := of_decide_eq_true h
        rw [List.length_map] at h'
        omega
      have hp : proposal x.s = some (x.s.queue.getD 0 0, -1) := by
        simp only [proposal, if_neg h0]
        cases hqq : x.s.queue with
        | nil => simp [hqq] at hq
        | cons a l => rfl
      refine R1 [.is 72 (.cptr (I (x.s.queue.getD 0 0))), Hint.on [0, 1] (RE (sayR ⟨atRound x.s k, x.who, x.out⟩ 1 (x.s.queue.getD 0 0) (-1))) (.tuple [])]
        (ho := by exact ⟨cptr_q _ hq, ⟨by omega, by rw [List.length_map]; exact Int.ofNat_lt.2 hq⟩, sizes_q _, tell_spec ⟨atRound x.s k, x.who, x.out⟩ 1 (x.s.queue.getD 0 0) (-1) hhl hl, trivial⟩) ?_
      refine End 2 hn0 ⟨rfl, ?_⟩
      rw [hO, startR_some hm hp]; rfl
    · have hp : proposal x.s = none := by
        have h' : ¬ (0 : Int) < (x.s.queue.map I).length := of_decide_eq_false h
        rw [List.length_map] at h'
        simp only [proposal, if_neg h0]
        cases hqq : x.s.queue with
        | nil => rfl
        | cons a l => simp [hqq] at h'
      refine W.skip ?_
      refine End 2 hn0 ⟨rfl, ?_⟩
      rw [hO, startR_none hm hp]; rfl

end Go.W

/-
  The reference's node, walked: one thing after the other.
-/
namespace Go.W
open Go.Proofs

/-! ### What the reference asks -/

theorem promised_said {s : Sheet} (h : goodS s = true) {k : Nat} (hk : k < 6) : promised s k = ((s.calls k).is && decide (3 ≤ count (s.promises k) (s.calls k).value)) := by
  rw [Bool.eq_iff_iff]
  constructor
  · intro hp
    have h1 := promised_iff hp
    have h2 := mostV_of h1.1
    simp only [Bool.and_eq_true, decide_eq_true_eq]
    rw [h1.2.2.2.2]
    exact ⟨h1.2.2.2.1, h2.1⟩
  · intro hp
    simp only [Bool.and_eq_true, decide_eq_true_eq] at hp
    have hc := goodC_is (goodS_calls h hk) hp.1
    have h1 := mostV_eq hp.2 (by omega) hc.2.1
    simp only [promised, Bool.and_eq_true, Bool.not_eq_true', beq_iff_eq, beq_eq_false_iff_ne, h1, hp.1]
    exact ⟨⟨⟨trivial, by omega⟩, trivial⟩, trivial⟩

def oneF (x : Run) : Bool × Run := match oneR x with
  | some y => (true, y)
  | none => (false, x)
theorem oneF_some {x y : Run} (h : oneR x = some y) : oneF x = (true, y) := by unfold oneF; rw [h]
theorem oneF_none {x : Run} (h : oneR x = none) : oneF x = (false, x) := by unfold oneF; rw [h]
theorem oneF_settle {x : Run} (hh : x.s.height < 4) {k : Nat} (hp : promised x.s.cur k = true) (hm : ∀ j, j < k → promised x.s.cur j = false) (hk : k < 6) : oneF x = (true, settleR x (mostV (x.s.cur.promises k))) := by
  have h := settleO_some hp hm hk
  rw [oneF_some (oneR_settle hh (by rw [h])), h]
theorem oneF_skip {x : Run} (hh : x.s.height < 4) (hn : settleO x = (false, x)) {k : Nat} (h : skipK x.s = some k) : oneF x = (true, startR x k) := by
  have h1 : skipO x = (true, startR x k) := by unfold skipO; rw [h]
  rw [oneF_some (oneR_skip hh (by rw [hn]) (by rw [h1])), h1]
theorem skipO_n {x : Run} (h : skipK x.s = none) : skipO x = (false, x) := by unfold skipO; rw [h]
theorem oneF_wish {x : Run} (hh : x.s.height < 4) (hn : settleO x = (false, x)) (hs : skipK x.s = none) {y : Run} (h : wishO x = (true, y)) : oneF x = (true, y) := by
  rw [oneF_some (oneR_wish hh (by rw [hn]) (by rw [skipO_n hs]) (by rw [h])), h]
theorem oneF_prom {x : Run} (hh : x.s.height < 4) (hn : settleO x = (false, x)) (hs : skipK x.s = none) (hw : wishO x = (false, x)) {y : Run} (h : promO x = (true, y)) : oneF x = (true, y) := by
  have h1 := oneR_prom hh (by rw [hn]) (by rw [skipO_n hs]) (by rw [hw])
  rw [h] at h1
  exact oneF_some h1
theorem oneF_no {x : Run} (hh : x.s.height < 4) (hn : settleO x = (false, x)) (hs : skipK x.s = none) (hw : wishO x = (false, x)) (h : promO x = (false, x)) : oneF x = (false, x) := by
  have h1 := oneR_prom hh (by rw [hn]) (by rw [skipO_n hs]) (by rw [hw])
  rw [h] at h1
  exact oneF_none h1

/-- How far it skips, of the rounds below r. -/
def farOf (s : Node) (r : Nat) : Int := match lastN (fun k => decide (s.round < k) && decide (2 ≤ heard s.cur k)) r with
  | some k => k
  | none => s.round
theorem farOf_succ (s : Node) (r : Nat) : farOf s (r + 1) = if (decide (s.round < r) && decide (2 ≤ heard s.cur r)) = true then (r : Int) else farOf s r := by
  unfold farOf
  simp only [lastN]
  by_cases h : (decide (s.round < r) && decide (2 ≤ heard s.cur r)) = true
  · rw [if_pos h, if_pos h]
  · rw [if_neg h, if_neg h]
theorem farOf_first {s : Node} (h : 0 ≤ s.round) : farOf s (s.round.toNat + 1) = s.round := by
  unfold farOf
  rw [lastN_none.2 fun j hj => ?_]
  simp only [Bool.and_eq_false_iff, decide_eq_false_iff_not]
  exact .inl (by omega)
theorem farOf_skip {s : Node} (h : s.round < farOf s 6) : ∃ k : Nat, skipK s = some k ∧ farOf s 6 = k := by
  unfold farOf at h ⊢
  unfold skipK
  cases hl : lastN (fun k => decide (s.round < k) && decide (2 ≤ heard s.cur k)) 6 with
  | some k => exact ⟨k, rfl, rfl⟩
  | none => rw [hl] at h; simp at h
theorem farOf_none {s : Node} (h : ¬ s.round < farOf s 6) : skipK s = none := by
  cases hl : skipK s with
  | none => rfl
  | some k =>
    exfalso
    have h1 := skipK_some hl
    unfold skipK at hl
    unfold farOf at h
    rw [hl] at h
    simp only at h
    omega

abbrev settleP (s : Node) (v : Int) : Node := { settleS s v with round := s.round, step := s.step }
theorem settleR_enter {x : Run} (hh : x.s.height < 4) (v : Int) : enterR ⟨settleP x.s v, x.who, x.out⟩ 0 = settleR x v := by
  unfold settleR enterR
  by_cases h : x.s.height + 1 = 4
  · rw [if_pos (show (settleP x.s v).height = 4 from h), if_neg (by omega)]; rfl
  · rw [if_neg (show ¬ (settleP x.s v).height = 4 from h), if_pos (by omega)]; rfl
theorem run_settleP (x : Run) (v : Int) (h : 0 ≤ x.s.height ∧ x.s.height < 4) :
    ((((((eRun ⟨settleQ x.s v, x.who, x.out⟩).set [0, 0] (I (IntKind.i64.wrap (x.s.height + 1)))).set [0, 3] (I 0)).set [0, 4] (I (-1))).set [0, 5] (I 0)).set [0, 6] (I (-1))).set [0, 7] (eBools6 fun _ => false) = eRun ⟨settleP x.s v, x.who, x.out⟩ := by
  unfold eRun
  rw [i64_wrap (by omega) (by omega)]
  rw [runner_set0, node_set0, runner_set0, node_set3, runner_set0, node_set4, runner_set0, node_set5, runner_set0, node_set6, runner_set0, node_set7 (set_nil _ _)]; rfl

theorem freeB_ref {s : Node} {c : Call} (h : -1 ≤ c.valid) : freeB s c = (decide (s.boundIn ≤ c.valid) || s.bound == c.value) := by
  unfold freeB
  split
  · rfl
  · have : c.valid = -1 := by omega
    rw [this]
    congr 1
    rw [decide_eq_decide]
    omega

abbrev saidW (s : Node) (v : Int) : Int := count (s.cur.wishes s.round.toNat) v
theorem promO_ref0 {x : Run} (h1 : x.s.step = 1) (h2 : 3 ≤ saidW x.s 0) : promO x = (true, sayR ⟨{ x.s with step := 2 }, x.who, x.out⟩ 3 0 0) := by
  have hm := mostV_eq h2 (by omega) (by omega)
  refine promO_2 ?_ ?_
  · simp only [moOf, hm.1, h1]; rfl
  · simp only [mvOf, hm.2, h1]; rfl
theorem promO_ref1 {x : Run} (hg : GoodR x) (hh : x.s.height < 4) (h0 : x.s.step ≠ 0) (h1 : ¬ (x.s.step = 1 ∧ 3 ≤ saidW x.s 0)) (hi : (callOf x.s).is = true) (hs : x.s.seen x.s.round.toNat = false) (hc : 3 ≤ saidW x.s (callOf x.s).value) :
    promO x = (true, if x.s.step = 1 then sayR ⟨bindS (seeS x.s (callOf x.s).value) (callOf x.s).value, x.who, x.out⟩ 3 (callOf x.s).value 0 else ⟨seeS x.s (callOf x.s).value, x.who, x.out⟩) := by
  have h2 := hg.s.height
  have hr := hg.s.round
  have hgc : 1 ≤ (callOf x.s).value ∧ (callOf x.s).value ≤ 9 ∧ -1 ≤ (callOf x.s).valid ∧ (callOf x.s).valid < ((x.s.round.toNat : Nat) : Int) := goodC_is (goodS_calls (hg.s.heard x.s.height.toNat (by omega)) (r := x.s.round.toNat) (by omega)) hi
  have hm := mostV_eq hc (by omega) hgc.2.1
  have hv : mvOf x.s = (callOf x.s).value := hm.2
  have hmo : moOf x.s = true := hm.1
  have hv0 : (mvOf x.s == 0) = false := by rw [hv, beq_eq_false_iff_ne]; omega
  have e1 : (!moOf x.s || x.s.step == 0) = false := by rw [hmo]; simp [h0]
  have e2 : (mvOf x.s == 0 && x.s.step == 1) = false := by rw [hv0]; rfl
  have e3 : (mvOf x.s == 0 || !(callOf x.s).is || !((callOf x.s).value == mvOf x.s) || x.s.seen x.s.round.toNat) = false := by rw [hv0, hi, hv, hs]; simp
  by_cases h4 : x.s.step = 1
  · rw [promO_4 e1 e2 e3 (by simp [h4]), hv, if_pos h4]
  · rw [promO_5 e1 e2 e3 (by simp [h4]), hv, if_neg h4]
theorem promO_ref2 {x : Run} (h1 : ¬ (x.s.step = 1 ∧ 3 ≤ saidW x.s 0)) (h2 : ¬ ((callOf x.s).is = true ∧ x.s.seen x.s.round.toNat = false ∧ 3 ≤ saidW x.s (callOf x.s).value)) : promO x = (false, x) := by
  cases e1 : (!moOf x.s || x.s.step == 0) with
  | true => exact promO_1 e1
  | false =>
    have hmo : moOf x.s = true := by
      simp only [Bool.or_eq_false_iff, Bool.not_eq_false'] at e1; exact e1.1
    have hm := mostV_of hmo
    cases e2 : (mvOf x.s == 0 && x.s.step == 1) with
    | true =>
      exfalso
      simp only [Bool.and_eq_true, beq_iff_eq] at e2
      refine h1 ⟨e2.2, ?_⟩
      have h3 := hm.1
      have e4 : mostV (x.s.cur.wishes x.s.round.toNat) = 0 := e2.1
      rw [e4] at h3
      exact h3
    | false =>
      cases e3 : (mvOf x.s == 0 || !(callOf x.s).is || !((callOf x.s).value == mvOf x.s) || x.s.seen x.s.round.toNat) with
      | true => exact promO_3 e1 e2 e3
      | false =>
        exfalso
        simp only [Bool.or_eq_false_iff, Bool.not_eq_false', beq_iff_eq] at e3
        refine h2 ⟨e3.1.1.2, e3.2, ?_⟩
        rw [e3.1.2]
        exact hm.1

theorem run_queueL (x : Run) (v : Int) (q : List Int) (hq : q = x.s.queue.filter fun q => !(q == v)) : ((eRun x).set [0, 9, x.s.height.toNat] (I v)).set [0, 10] (.list (q.map I)) = eRun ⟨settleQ x.s v, x.who, x.out⟩ := by
  subst hq; exact run_queue x v

set_option maxHeartbeats 16000000 in
set_option maxRecDepth 100000 in
theorem one_spec (x : Run) (hg : GoodR x) (hl : x.out.length ≤ 2000) : Fn Try.prog 86 [.ptr 0 []] (RE x) (.data (.bool (oneF x).1)) (RE (oneF x).2) := by
  have hr := hg.s.round
  have hh4 := hg.s.height
  refine spec_of ttok Try.func86 rfl (by kernel_rfl) (by exact Nat.le_of_ble_eq_true rfl) fun hin hie c0 hc0 he => ?_
  have hn0 : c0.es.length ≤ 2 := Nat.le_of_eq (by rw [he]; rfl)
  refine R [] ?_
  refine W.seq (R [] ?_)
  refine C (fun h => ?_) (fun h => ?_)
  · have h4 : x.s.height = 4 := by simpa using h
    have hO : oneF x = (false, x) := oneF_none (by unfold oneR; rw [if_neg (by omega)])
    refine R [] ?_
    refine W.ret (End 2 hn0 ⟨?_, ?_⟩)
    · rw [hO]; rfl
    · rw [hO]; rfl
  have h4 : x.s.height ≠ 4 := by simpa using h
  clear h
  have hlt : x.s.height < 4 := by omega
  have hh : 0 ≤ x.s.height ∧ x.s.height < 4 := by omega
  have hgs : goodS x.s.cur = true := hg.s.heard x.s.height.toNat (by omega)
  refine W.skip ?_
  refine R [.data (eSheet x.s.cur)] (ho := by exact ⟨sheet_spec x hh, sameSS _ _, trivial⟩) ?_
  refine W.seq (R [] ?_)
  refine W.block (W.loop hc0 (ι := Nat) (fun k => ⟨307, frOf [(0, .ptr 0 []), (3, .ptr 2 []), (20, .data (I k))], RE x ++ [.var (eSheet x.s.cur) []]⟩) (fun k => k ≤ 6 ∧ ∀ j, j < k → promised x.s.cur j = false) (fun k => 6 - k) 0 ⟨by omega, fun i hi => by omega⟩ ?_ ?_)
  · exact Le.cut _ 3 (by omega) ⟨⟨by with_unfolding_all rfl, rfl⟩, ⟨by with_unfolding_all rfl, rfl⟩, ⟨by with_unfolding_all rfl, rfl⟩, trivial⟩ (by with_unfolding_all rfl)
  · intro k ⟨hk, hm⟩
    refine R [] ?_
    refine W.seq (C (fun h => ?_) (fun h => ?_))
    · have hk : k < 6 := by have := of_decide_eq_true h; omega
      have hps := promised_said hgs hk
      refine W.skip (W.seq (W.block ?_))
      refine R [] ?_
      refine R [] (ho := by exact ⟨⟨by omega, by omega⟩, sameCC _ _, trivial⟩) ?_
      refine RD [.data (I (count (x.s.cur.promises k) (x.s.cur.calls k).value))] (ho := by exact ⟨fun _ => ⟨by omega, by omega⟩, fun _ => said_spec _ _, trivial⟩) ?_
      refine C (fun h => ?_) (fun h => ?_)
      · have hp : promised x.s.cur k = true := by rw [hps, ← bif_and]; exact h
        have hO := oneF_settle hlt hp hm hk
        have hmv : mostV (x.s.cur.promises k) = (x.s.cur.calls k).value := (promised_iff hp).2.2.2.2.symm
        rw [hmv] at hO
        clear h
        have hql : x.s.queue.length ≤ 6 := hg.s.len
        refine RD [] (ho := by exact ⟨hh, trivial⟩) ?_
        generalize hcv : x.s.cur.calls k = c at hO ⊢
        refine R [] ?_
        refine W.le hc0 (Le.cut [(0, .ptr 0 []), (5, .ptr 3 []), (6, .data .nil)] 4 (by omega) (es' := [.var ((eRun x).set [0, 9, x.s.height.toNat] (I c.value)) [([2], 1)], .row 6 (x.out.map eWord), .var (eSheet x.s.cur) [], .var (eCall c) []]) ⟨⟨by with_unfolding_all rfl, rfl⟩, ⟨by with_unfolding_all rfl, rfl⟩, ⟨by with_unfolding_all rfl, rfl⟩, trivial⟩ ?eqa) ?_
        case eqa =>
          subst hcv
          with_unfolding_all rfl
        refine W.le hc0 (Le.slotRow 6 1 rfl) ?_
        refine W.seq (R [] ?_)
        refine W.block (W.loop hc0 (ι := Nat) (fun j => ⟨307, frOf [(0, .ptr 0 []), (5, .ptr 3 []), (6, .row 4 ((leftQ x.s.queue c.value j).map I)), (55, .data (eQ x.s.queue)), (56, .data (I ((x.s.queue.map I).length : Int))), (57, .data (I j))],
          [.var ((eRun x).set [0, 9, x.s.height.toNat] (I c.value)) [([2], 1)], .row 6 (x.out.map eWord), .var (eSheet x.s.cur) [], .var (eCall c) [], .row 1 ((leftQ x.s.queue c.value j).map I)]⟩) (fun j => j ≤ x.s.queue.length) (fun j => x.s.queue.length - j) 0 (by omega) ?_ ?_)
        · exact Le.cut _ 5 (by omega) ⟨⟨by with_unfolding_all rfl, rfl⟩, ⟨by with_unfolding_all rfl, rfl⟩, ⟨by with_unfolding_all rfl, rfl⟩, ⟨by with_unfolding_all rfl, rfl⟩, ⟨by with_unfolding_all rfl, rfl⟩, ⟨by with_unfolding_all rfl, rfl⟩, trivial⟩ (by with_unfolding_all rfl)
        · intro j hj
          refine R [] ?_
          refine W.seq (C (fun h => ?_) (fun h => ?_))
          · have hj : j < x.s.queue.length := by have h : (j : Int) < (x.s.queue.map I).length := of_decide_eq_true h; rw [List.length_map] at h; omega
            have hji : (0 : Int) ≤ j ∧ (j : Int) < (x.s.queue.map I).length := ⟨by omega, by rw [List.length_map]; omega⟩
            have hll := leftQ_le x.s.queue c.value j
            refine W.skip (W.seq (W.block ?_))
            refine R [.is 59 (.cptr (I (x.s.queue.getD j 0)))] (ho := by exact ⟨cptr_q _ hj, hji, sizes_q _, trivial⟩) ?_
            refine R [] ?_
            refine C (fun h => ?_) (fun h => ?_)
            · have hne : x.s.queue.getD j 0 ≠ c.value := by
                have h : (!(x.s.queue.getD j 0 == c.value)) = true := h
                simpa using h
              have hsu : (leftQ x.s.queue c.value (j + 1)).map I = (leftQ x.s.queue c.value j).map I ++ [I (x.s.queue.getD j 0)] := by rw [leftQ_succ hj, if_neg hne]; simp
              refine R1 [] (ho := by exact ⟨rfl, sizes_q1 _ _, fits_q _ _ (by omega), trivial⟩) ?_
              refine R1 [] ?_
              refine ⟨j + 1, by omega, by omega, Le.cut _ 5 (by omega) ⟨⟨by with_unfolding_all rfl, rfl⟩, ⟨by with_unfolding_all rfl, rfl⟩, ⟨sl (x := .row 4 ((leftQ x.s.queue c.value j).map I ++ [I (x.s.queue.getD j 0)])) (by rw [hsu]), rfl⟩, ⟨by with_unfolding_all rfl, rfl⟩, ⟨by with_unfolding_all rfl, rfl⟩, ⟨sl_int (wrap_up (by omega)), rfl⟩, trivial⟩ ?_⟩
              rw [hsu]; with_unfolding_all rfl
            · have he : x.s.queue.getD j 0 = c.value := by
                have h : (!(x.s.queue.getD j 0 == c.value)) = false := h
                simpa using h
              have hsu : leftQ x.s.queue c.value (j + 1) = leftQ x.s.queue c.value j := by rw [leftQ_succ hj, if_pos he]
              refine W.skip ?_
              refine R1 [] ?_
              refine ⟨j + 1, by omega, by omega, Le.cut _ 5 (by omega) ⟨⟨by with_unfolding_all rfl, rfl⟩, ⟨by with_unfolding_all rfl, rfl⟩, ⟨sl (x := .row 4 ((leftQ x.s.queue c.value j).map I)) (by rw [hsu]), rfl⟩, ⟨by with_unfolding_all rfl, rfl⟩, ⟨by with_unfolding_all rfl, rfl⟩, ⟨sl_int (wrap_up (by omega)), rfl⟩, trivial⟩ ?_⟩
              rw [hsu]; with_unfolding_all rfl
          · have hj : j = x.s.queue.length := by have h : ¬ (j : Int) < (x.s.queue.map I).length := of_decide_eq_false h; rw [List.length_map] at h; omega
            subst hj
            refine W.exit ?_
            refine R [] ?_
            refine W.le hc0 (Le.cut [(0, .ptr 0 [])] 2 hn0 (es' := RE ⟨settleQ x.s c.value, x.who, x.out⟩) ⟨⟨by with_unfolding_all rfl, rfl⟩, trivial⟩ ?eqb) ?_
            case eqb => with_unfolding_all exact congrArg (fun d => [Ent.var d [([2], 1)], .row 6 (x.out.map eWord)]) (run_queueL x c.value _ (leftQ_all _ _))
            refine R [] ?_
            refine R [] ?_
            refine R [] (ho := by exact ⟨sameB6 _ _, trivial⟩) ?_
            refine W.ents (es' := RE ⟨settleP x.s c.value, x.who, x.out⟩) ?_ ?_
            · with_unfolding_all exact congrArg (fun d => [Ent.var d [([2], 1)], .row 6 (x.out.map eWord)]) (run_settleP x c.value hh)
            have hen := enter_spec ⟨settleP x.s c.value, x.who, x.out⟩ 0 (by show 0 ≤ x.s.height + 1 ∧ x.s.height + 1 ≤ 4; omega) (by omega) hl
            rw [settleR_enter hlt] at hen
            refine R [Hint.on [0, 1] (RE (settleR x c.value)) (.tuple [])] (ho := by exact ⟨hen, trivial⟩) ?_
            refine R [] ?_
            refine W.ret (End 2 hn0 ⟨?_, ?_⟩)
            · rw [hO]; rfl
            · rw [hO]; rfl
      · have hp : promised x.s.cur k = false := by rw [hps, ← bif_and]; exact h
        refine W.skip ?_
        refine R1 [] ?_
        refine ⟨k + 1, ⟨by omega, fun j hj => ?_⟩, by omega, Le.cut _ 3 (by omega) ⟨⟨by with_unfolding_all rfl, rfl⟩, ⟨by with_unfolding_all rfl, rfl⟩, ⟨sl_int (wrap_up (by omega)), rfl⟩, trivial⟩ (by with_unfolding_all rfl)⟩
        rcases Nat.lt_or_ge j k with h2 | h2
        · exact hm j h2
        · have : j = k := by omega
          subst this; exact hp
    · have hk : k = 6 := by have := of_decide_eq_false h; omega
      subst hk
      clear h
      have hsn : settleO x = (false, x) := settleO_none hm
      refine W.exit ?_
      refine R [] ?_
      refine W.seq (R [] ?_)
      refine W.block (W.loop hc0 (ι := Nat) (fun r => ⟨307, frOf [(0, .ptr 0 []), (3, .ptr 2 []), (9, .data (I (farOf x.s r))), (10, .data (I r))], RE x ++ [.var (eSheet x.s.cur) []]⟩) (fun r => r ≤ 6 ∧ x.s.round < r) (fun r => 6 - r) (x.s.round.toNat + 1) ⟨by omega, by omega⟩ ?_ ?_)
      · refine Le.cut _ 3 (by omega) ⟨⟨by with_unfolding_all rfl, rfl⟩, ⟨by with_unfolding_all rfl, rfl⟩, ⟨sl_int (a := x.s.round) (farOf_first hr.1).symm, rfl⟩, ⟨sl_int (a := IntKind.i64.wrap (x.s.round + 1)) ?_, rfl⟩, trivial⟩ (by with_unfolding_all rfl)
        rw [i64_wrap (by omega) (by omega)]; omega
      · intro r ⟨hr6, hrr⟩
        refine W.seq (R [] ?_)
        refine C (fun h => ?_) (fun h => ?_)
        · have hr6 : r < 6 := by have := of_decide_eq_true h; omega
          have hfs := farOf_succ x.s r
          refine W.skip (W.seq (W.block ?_))
          refine R [.data (I (heard x.s.cur r))] (ho := by exact ⟨heardIn_spec _ _, trivial⟩) ?_
          refine C (fun h => ?_) (fun h => ?_)
          · have hd : 1 < heard x.s.cur r := of_decide_eq_true h
            rw [if_pos (by simp only [Bool.and_eq_true, decide_eq_true_eq]; omega)] at hfs
            refine R1 [] ?_
            refine R1 [] ?_
            exact ⟨r + 1, ⟨by omega, by omega⟩, by omega, Le.cut _ 3 (by omega) ⟨⟨by with_unfolding_all rfl, rfl⟩, ⟨by with_unfolding_all rfl, rfl⟩, ⟨sl_int (a := (r : Int)) hfs.symm, rfl⟩, ⟨sl_int (wrap_up (by omega)), rfl⟩, trivial⟩ (by with_unfolding_all rfl)⟩
          · have hd : ¬ 1 < heard x.s.cur r := of_decide_eq_false h
            rw [if_neg (by simp only [Bool.and_eq_true, decide_eq_true_eq]; omega)] at hfs
            refine W.skip ?_
            refine R1 [] ?_
            exact ⟨r + 1, ⟨by omega, by omega⟩, by omega, Le.cut _ 3 (by omega) ⟨⟨by with_unfolding_all rfl, rfl⟩, ⟨by with_unfolding_all rfl, rfl⟩, ⟨sl_int (a := farOf x.s r) hfs.symm, rfl⟩, ⟨sl_int (wrap_up (by omega)), rfl⟩, trivial⟩ (by with_unfolding_all rfl)⟩
        · have hr6 : r = 6 := by have := of_decide_eq_false h; omega
          subst hr6
          clear h
          refine W.exit ?_
          refine W.seq (R [] ?_)
          refine C (fun h => ?_) (fun h => ?_)
          · have hf : x.s.round < farOf x.s 6 := of_decide_eq_true h
            obtain ⟨k, hk, hfk⟩ := farOf_skip hf
            have hk6 := skipK_some hk
            have hO := oneF_skip hlt hsn hk
            have hen := enter_spec x k (by omega) (by omega) hl
            rw [enterR_s _ h4] at hen
            refine R [Hint.on [0, 1] (RE (startR x k)) (.tuple [])] (ho := by with_unfolding_all exact ⟨(by rw [hfk]; exact hen), trivial⟩) ?_
            refine R [] ?_
            refine W.ret (End 2 hn0 ⟨?_, ?_⟩)
            · rw [hO]; rfl
            · rw [hO]; rfl
          have hsk : skipK x.s = none := farOf_none (of_decide_eq_false h)
          clear h
          refine W.skip ?_
          refine R [] (ho := by exact ⟨hr, sameCC _ _, trivial⟩) ?_
          refine W.le hc0 (Le.cut [(0, .ptr 0 []), (3, .ptr 2 []), (11, .ptr 3 [])] 4 (by omega) (es' := RE x ++ [.var (eSheet x.s.cur) [], .var (eCall (callOf x.s)) []]) ⟨⟨by with_unfolding_all rfl, rfl⟩, ⟨by with_unfolding_all rfl, rfl⟩, ⟨by with_unfolding_all rfl, rfl⟩, trivial⟩ (by with_unfolding_all rfl)) ?_
          refine W.seq (R [] ?_)
          refine C (fun h => ?_) (fun h => ?_)
          · have h0 : x.s.step = 0 := by simpa using h
            clear h
            have hci : (callOf x.s).is = true → 1 ≤ (callOf x.s).value ∧ (callOf x.s).value ≤ 9 ∧ -1 ≤ (callOf x.s).valid ∧ (callOf x.s).valid < ((x.s.round.toNat : Nat) : Int) := fun hi => goodC_is (goodS_calls hgs (r := x.s.round.toNat) (by omega)) hi
            refine W.seq (RD [.data (I (count (x.s.cur.wishes (callOf x.s).valid.toNat) (callOf x.s).value))] (ho := ?ob) ?_)
            case ob =>
              refine ⟨fun h => ?_, fun _ => said_spec _ _, trivial⟩
              have hi : (callOf x.s).is = true ∨ (callOf x.s).is = false := by cases (callOf x.s).is <;> simp
              rcases hi with hi | hi
              · have := hci hi
                have h : decide (0 ≤ (callOf x.s).valid) = true := h
                have := of_decide_eq_true h
                exact ⟨this, by omega⟩
              · have hz := goodS_calls hgs (r := x.s.round.toNat) (by omega)
                have hi : (x.s.cur.calls x.s.round.toNat).is = false := hi
                unfold goodC at hz
                rw [hi] at hz
                simp only [Bool.false_eq_true, if_false, Bool.and_eq_true, beq_iff_eq] at hz
                show 0 ≤ (x.s.cur.calls x.s.round.toNat).valid ∧ (x.s.cur.calls x.s.round.toNat).valid < 6
                omega
            refine C (fun h => ?_) (fun h => ?_)
            · have hw : wishO x = (false, x) := by
                have h : (bif !(callOf x.s).is then true else bif decide (0 ≤ (callOf x.s).valid) then decide (count (x.s.cur.wishes (callOf x.s).valid.toNat) (callOf x.s).value < 3) else false) = true := h
                rw [bif_or, bif_and] at h
                simp only [Bool.or_eq_true, Bool.not_eq_true', Bool.and_eq_true, decide_eq_true_eq] at h
                cases hi : (callOf x.s).is with
                | false => exact wishO_1 (by rw [h0, hi]; rfl)
                | true =>
                  rcases h with h | h
                  · rw [hi] at h; cases h
                  · exact wishO_2 (by rw [h0, hi]; rfl) h.1 h.2
              have hO := oneF_no hlt hsn hsk hw (promO_1 (by rw [h0]; simp))
              refine R [] ?_
              refine W.ret (End 2 hn0 ⟨?_, ?_⟩)
              · rw [hO]; rfl
              · rw [hO]; rfl
            have h : (bif !(callOf x.s).is then true else bif decide (0 ≤ (callOf x.s).valid) then decide (count (x.s.cur.wishes (callOf x.s).valid.toNat) (callOf x.s).value < 3) else false) = false := h
            rw [bif_or, bif_and] at h
            have hi : (callOf x.s).is = true := by
              simp only [Bool.or_eq_false_iff, Bool.not_eq_false'] at h; exact h.1
            have hn3 : ¬ (0 ≤ (callOf x.s).valid ∧ count (x.s.cur.wishes (callOf x.s).valid.toNat) (callOf x.s).value < 3) := by
              rintro ⟨a, b⟩
              rw [hi, decide_eq_true a, decide_eq_true b] at h
              cases h
            clear h
            have hO := oneF_wish hlt hsn hsk (wishO_3 (by rw [h0, hi]; rfl) hn3)
            rw [freeB_ref (hci hi).2.2.1] at hO
            refine W.skip ?_
            refine R [] ?_
            refine W.ents (es' := RE ⟨{ x.s with step := 1 }, x.who, x.out⟩ ++ [.var (eSheet x.s.cur) [], .var (eCall (callOf x.s)) []]) ?_ ?_
            · with_unfolding_all exact congrArg (fun d => [Ent.var d [([2], 1)], .row 6 (x.out.map eWord), .var (eSheet x.s.cur) [], .var (eCall (callOf x.s)) []]) (run_step x 1)
            refine W.seq (RD [] ?_)
            refine C (fun h => ?_) (fun h => ?_)
            · have h : (decide (x.s.boundIn ≤ (callOf x.s).valid) || x.s.bound == (callOf x.s).value) = true := by rw [← bif_or]; exact h
              rw [h, if_pos rfl] at hO
              refine R1 [Hint.on [0, 1] (RE (wishR x (callOf x.s).value)) (.tuple [])] (ho := by exact ⟨tell_spec ⟨{ x.s with step := 1 }, x.who, x.out⟩ 2 (callOf x.s).value 0 hh hl, trivial⟩) ?_
              refine R [] ?_
              refine W.ret (End 2 hn0 ⟨?_, ?_⟩)
              · rw [hO]; rfl
              · rw [hO]; rfl
            · have h : (decide (x.s.boundIn ≤ (callOf x.s).valid) || x.s.bound == (callOf x.s).value) = false := by rw [← bif_or]; exact h
              rw [h, if_neg (by simp)] at hO
              refine R1 [Hint.on [0, 1] (RE (wishR x 0)) (.tuple [])] (ho := by exact ⟨tell_spec ⟨{ x.s with step := 1 }, x.who, x.out⟩ 2 0 0 hh hl, trivial⟩) ?_
              refine R [] ?_
              refine W.ret (End 2 hn0 ⟨?_, ?_⟩)
              · rw [hO]; rfl
              · rw [hO]; rfl
          have h0 : x.s.step ≠ 0 := by simpa using h
          clear h
          have hw : wishO x = (false, x) := wishO_1 (by simp [h0])
          refine W.skip ?_
          refine W.seq (R [.data (I (saidW x.s 0))] (ho := by exact ⟨fun _ => hr, fun _ => said_spec _ _, trivial⟩) ?_)
          refine C (fun h => ?_) (fun h => ?_)
          · have h1 : x.s.step = 1 ∧ 3 ≤ saidW x.s 0 := by
              have h : (bif x.s.step == 1 then decide (3 ≤ saidW x.s 0) else false) = true := h
              rw [bif_and] at h
              simpa using h
            have hO := oneF_prom hlt hsn hsk hw (promO_ref0 h1.1 h1.2)
            refine R [] ?_
            refine W.ents (es' := RE ⟨{ x.s with step := 2 }, x.who, x.out⟩ ++ [.var (eSheet x.s.cur) [], .var (eCall (callOf x.s)) []]) ?_ ?_
            · with_unfolding_all exact congrArg (fun d => [Ent.var d [([2], 1)], .row 6 (x.out.map eWord), .var (eSheet x.s.cur) [], .var (eCall (callOf x.s)) []]) (run_step x 2)
            refine R [Hint.on [0, 1] (RE (sayR ⟨{ x.s with step := 2 }, x.who, x.out⟩ 3 0 0)) (.tuple [])] (ho := by exact ⟨tell_spec ⟨{ x.s with step := 2 }, x.who, x.out⟩ 3 0 0 hh hl, trivial⟩) ?_
            refine R [] ?_
            refine W.ret (End 2 hn0 ⟨?_, ?_⟩)
            · rw [hO]; rfl
            · rw [hO]; rfl
          have h1 : ¬ (x.s.step = 1 ∧ 3 ≤ saidW x.s 0) := by
            rintro ⟨a, b⟩
            have h : (bif x.s.step == 1 then decide (3 ≤ saidW x.s 0) else false) = false := h
            rw [bif_and, a, decide_eq_true b] at h
            cases h
          clear h
          refine W.skip ?_
          refine W.seq (RD [.data (I (saidW x.s (callOf x.s).value))] (ho := by exact ⟨fun _ => hr, fun _ => hr, fun _ => said_spec _ _, trivial⟩) ?_)
          refine C (fun h => ?_) (fun h => ?_)
          · have h2 : ((callOf x.s).is = true ∧ x.s.seen x.s.round.toNat = false) ∧ 3 ≤ saidW x.s (callOf x.s).value := by
              have h : (bif (bif (callOf x.s).is then !x.s.seen x.s.round.toNat else false) then decide (3 ≤ saidW x.s (callOf x.s).value) else false) = true := h
              rw [bif_and, bif_and] at h
              simpa using h
            have hO := oneF_prom hlt hsn hsk hw (promO_ref1 hg hlt h0 h1 h2.1.1 h2.1.2 h2.2)
            clear h
            refine RD [] (ho := by exact ⟨hr, trivial⟩) ?_
            refine RD [] ?_
            refine W.ents (es' := RE ⟨seeS x.s (callOf x.s).value, x.who, x.out⟩ ++ [.var (eSheet x.s.cur) [], .var (eCall (callOf x.s)) []]) ?_ ?_
            · with_unfolding_all exact congrArg (fun d => [Ent.var d [([2], 1)], .row 6 (x.out.map eWord), .var (eSheet x.s.cur) [], .var (eCall (callOf x.s)) []]) (run_see x (callOf x.s).value)
            refine W.seq (R [] ?_)
            refine C (fun h => ?_) (fun h => ?_)
            · have h5 : x.s.step = 1 := by
                have h : (x.s.step == 1) = true := h
                simpa using h
              rw [if_pos h5] at hO
              refine RD [] ?_
              refine W.ents (es' := RE ⟨bindS (seeS x.s (callOf x.s).value) (callOf x.s).value, x.who, x.out⟩ ++ [.var (eSheet x.s.cur) [], .var (eCall (callOf x.s)) []]) ?_ ?_
              · with_unfolding_all exact congrArg (fun d => [Ent.var d [([2], 1)], .row 6 (x.out.map eWord), .var (eSheet x.s.cur) [], .var (eCall (callOf x.s)) []]) (run_bind ⟨seeS x.s (callOf x.s).value, x.who, x.out⟩ (callOf x.s).value)
              refine R1 [Hint.on [0, 1] (RE (sayR ⟨bindS (seeS x.s (callOf x.s).value) (callOf x.s).value, x.who, x.out⟩ 3 (callOf x.s).value 0)) (.tuple [])] (ho := by exact ⟨tell_spec ⟨bindS (seeS x.s (callOf x.s).value) (callOf x.s).value, x.who, x.out⟩ 3 (callOf x.s).value 0 hh hl, trivial⟩) ?_
              refine R [] ?_
              refine W.ret (End 2 hn0 ⟨?_, ?_⟩)
              · rw [hO]; rfl
              · rw [hO]; rfl
            · have h5 : ¬ x.s.step = 1 := by
                have h : (x.s.step == 1) = false := h
                simpa using h
              rw [if_neg h5] at hO
              refine W.skip ?_
              refine R [] ?_
              refine W.ret (End 2 hn0 ⟨?_, ?_⟩)
              · rw [hO]; rfl
              · rw [hO]; rfl
          · have h2 : ¬ ((callOf x.s).is = true ∧ x.s.seen x.s.round.toNat = false ∧ 3 ≤ saidW x.s (callOf x.s).value) := by
              rintro ⟨a, b, c⟩
              have h : (bif (bif (callOf x.s).is then !x.s.seen x.s.round.toNat else false) then decide (3 ≤ saidW x.s (callOf x.s).value) else false) = false := h
              rw [bif_and, bif_and, a, b, decide_eq_true c] at h
              cases h
            have hO := oneF_no hlt hsn hsk hw (promO_ref2 h1 h2)
            refine W.skip ?_
            refine R [] ?_
            refine W.ret (End 2 hn0 ⟨?_, ?_⟩)
            · rw [hO]; rfl
            · rw [hO]; rfl

end Go.W

/-
  The reference's node, walked: all that comes, copies, good nodes, what is opened.
-/
namespace Go.W
open Go.Proofs

set_option maxHeartbeats 4000000 in
set_option maxRecDepth 100000 in
theorem all_flow_spec (x : Run) (hg : GoodR x) (hl : x.out.length + meas x.s ≤ 2000) : Fn Try.prog 56 [.ptr 0 []] (RE x) (.tuple []) (RE (flowR x)) := by
  refine spec_of ttok Try.func56 rfl (by kernel_rfl) (by exact Nat.le_of_ble_eq_true rfl) fun hin hie c0 hc0 he => ?_
  have hn0 : c0.es.length ≤ 2 := Nat.le_of_eq (by rw [he]; rfl)
  refine W.block (W.loop hc0 (ι := Run) (fun y => ⟨4, frOf [(0, .ptr 0 [])], RE y⟩) (FlowI x) (fun y => meas y.s) x ⟨hg, rfl, hl⟩ ?_ ?_)
  · exact Le.cut _ 2 hn0 ⟨⟨by with_unfolding_all rfl, rfl⟩, trivial⟩ (by with_unfolding_all rfl)
  · intro y hy
    have hly : y.out.length ≤ 2000 := by have := hy.len; omega
    have hs := one_spec y hy.good hly
    cases ho : oneR y with
    | some z =>
      rw [oneF_some ho] at hs
      obtain ⟨hz, hm⟩ := hy.next ho
      refine W.seq (R [Hint.on [0, 1] (RE z) (.data (.bool true))] (ho := by exact ⟨hs, trivial⟩) ?_)
      refine C (fun h => ?_) (fun h => ?_)
      · refine W.skip (W.block (W.skip ?_))
        exact ⟨z, hz, hm, Le.cut _ 2 hn0 ⟨⟨by with_unfolding_all rfl, rfl⟩, trivial⟩ (by with_unfolding_all rfl)⟩
      · cases h
    | none =>
      rw [oneF_none ho] at hs
      refine W.seq (R [Hint.on [0, 1] (RE y) (.data (.bool false))] (ho := by exact ⟨hs, trivial⟩) ?_)
      refine C (fun h => ?_) (fun h => ?_)
      · cases h
      · refine W.exit ?_
        refine End 2 hn0 ⟨rfl, ?_⟩
        rw [← hy.flow, flowR_none ho]; rfl

theorem fits_qq (q : List Int) (h : q.length ≤ 17592186044416) : (q.map I).length ≤ maxLen ∧ (q.map I).length * 8 ≤ 140737488355328 := by
  rw [List.length_map]
  unfold maxLen
  omega

set_option maxRecDepth 100000 in
theorem copyNode_spec (s : Node) (hq : s.queue.length ≤ 17592186044416) : Fn Try.prog 18 [.data (eNode s)] [] (.rich (eNode s) [([10], 0)]) [.row 1 (s.queue.map I)] := by
  refine spec_of ttok Try.func18 rfl (by kernel_rfl) (by exact Nat.le_of_ble_eq_true rfl) fun hin hie c0 hc0 he => ?_
  have hn0 : c0.es.length ≤ 0 := Nat.le_of_eq (by rw [he]; rfl)
  refine R [] ?_
  refine R [] (ho := by exact ⟨sizes_q _, fits_qq _ hq, trivial⟩) ?_
  refine W.ents (es' := [.var (eNode s) [([10], 2)], .var (eNodeN Node.zero) [], .row 1 (s.queue.map I)]) ?_ ?_
  · with_unfolding_all exact congrArg (fun d => [Ent.var d [([10], 2)], .var (eNodeN Node.zero) [], .row 1 (s.queue.map I)]) (node_set10 s s.queue)
  refine R [] (ho := by exact ⟨sameNz _ _, trivial⟩) ?_
  exact W.ret (EndM [2] (fun i hi => by omega) ⟨rfl, rfl⟩)

/-! ### Good nodes -/

def okP (v i r : Int) : Bool := (v == 0 && i == -1) || (within v 1 9 && within i 0 r)
theorem okP_eq (v i r : Int) : okP v i r = boundB v i r := by
  rw [Bool.eq_iff_iff, boundB_iff]
  simp only [okP, within, Bool.or_eq_true, Bool.and_eq_true, beq_iff_eq, decide_eq_true_eq]
  omega
def pairV (s : Node) : Nat → Nat → Int
  | 0, 0 => s.bound
  | 0, 1 => s.boundIn
  | 1, 0 => s.valid
  | 1, 1 => s.validIn
  | _, _ => 0
def okJ (s : Node) : Nat → Bool
  | 0 => within s.height 0 4 && within s.round 0 5 && within s.step 0 2 && decide (((s.queue.map I).length : Int) < 7)
  | j + 1 => okJ s j && okP (pairV s j 0) (pairV s j 1) s.round
theorem okJ_eq (s : Node) : okJ s 2 = (placeB s && (boundB s.bound s.boundIn s.round && boundB s.valid s.validIn s.round)) := by
  have h0 : okJ s 0 = placeB s := by
    rw [Bool.eq_iff_iff]
    simp only [okJ, placeB, within, Bool.and_eq_true, decide_eq_true_eq, List.length_map]
    omega
  have h2 : okJ s 2 = (okJ s 0 && okP s.bound s.boundIn s.round && okP s.valid s.validIn s.round) := rfl
  rw [h2, h0, okP_eq, okP_eq, Bool.and_assoc]
def allQ (q : List Int) : Nat → Bool
  | 0 => true
  | k + 1 => allQ q k && within (q.getD k 0) 1 9
theorem allQ_eq (q : List Int) : allQ q q.length = q.all (fun v => within v 1 9) := by
  have h : ∀ k, allQ q k = true ↔ ∀ j, j < k → within (q.getD j 0) 1 9 = true := by
    intro k
    induction k with
    | zero => simp [allQ]
    | succ k ih =>
      simp only [allQ, Bool.and_eq_true, ih]
      constructor
      · rintro ⟨h1, h2⟩ j hj
        rcases Nat.lt_or_ge j k with h | h
        · exact h1 j h
        · have : j = k := by omega
          subst this; exact h2
      · intro h
        exact ⟨fun j hj => h j (by omega), h k (by omega)⟩
  rw [Bool.eq_iff_iff, h, List.all_eq_true]
  constructor
  · intro h1 v hv
    obtain ⟨j, hj, rfl⟩ := List.getElem_of_mem hv
    have := h1 j hj
    simpa [List.getElem?_eq_getElem hj] using this
  · intro h1 j hj
    have := h1 q[j] (List.getElem_mem hj)
    simpa [List.getElem?_eq_getElem hj] using this
theorem setB_ref1 {s : Node} {h : Nat} (hh : (h : Int) < s.height) : setB s h = (goodS (s.heard h) && within (s.settled h) 1 9) := by
  rw [Bool.eq_iff_iff, setB_iff]
  simp only [within, Bool.and_eq_true, decide_eq_true_eq]
  constructor
  · rintro ⟨⟨a, b, c⟩, d⟩; have := c.2 hh; exact ⟨d, by omega, b⟩
  · rintro ⟨d, a, b⟩; exact ⟨⟨by omega, b, by omega⟩, d⟩
theorem setB_ref2 {s : Node} {h : Nat} (hh : ¬ (h : Int) < s.height) : setB s h = (goodS (s.heard h) && s.settled h == 0) := by
  rw [Bool.eq_iff_iff, setB_iff]
  simp only [Bool.and_eq_true, beq_iff_eq]
  constructor
  · rintro ⟨⟨a, b, c⟩, d⟩
    refine ⟨d, ?_⟩
    rcases Int.lt_or_le 0 (s.settled h) with h1 | h1
    · exact absurd (c.1 h1) hh
    · omega
  · rintro ⟨d, a⟩; exact ⟨⟨by omega, by omega, by omega⟩, d⟩

theorem eInts2_of {f : Nat → D} {a b : Int} (h0 : f 0 = I a) (h1 : f 1 = I b) (h2 : ∀ i, f (i + 2) = I 0) : D.arr 2 1 f = eInts2 (fun | 0 => a | 1 => b | _ => 0) := by
  unfold eInts2
  congr 1
  funext i
  match i with
  | 0 => exact h0
  | 1 => exact h1
  | i + 2 => exact h2 i
theorem eInts22_of {f : Nat → D} {v : Nat → Nat → Int} (h : ∀ i, f i = eInts2 (v i)) : D.arr 2 2 f = eInts22 v := by
  unfold eInts22
  congr 1
  funext i
  exact h i

theorem eqD2 {v : Nat → Int} {f : Nat → D} {a b : Int} (h0 : f 0 = I a) (h1 : f 1 = I b) : eqD (eInts2 v) (.arr 2 1 f) = (v 0 == a && v 1 == b) := by
  simp only [eInts2, eqD, allTo, h0, h1, Bool.true_and]
theorem same22 (u v : Nat → Int) : Same (eInts2 u) (eInts2 v) := ⟨rfl, rfl, fun _ _ => trivial⟩

set_option maxHeartbeats 8000000 in
set_option maxRecDepth 100000 in
theorem isNode_spec (s : Node) : Pure Try.prog 84 [.data (eNode s)] (.data (.bool (goodN s))) := by
  refine spec_of ttok Try.func84 rfl (by kernel_rfl) (by exact Nat.le_of_ble_eq_true rfl) fun hin hie c0 hc0 he => ?_
  have hn0 : c0.es.length ≤ 0 := Nat.le_of_eq (by rw [he]; rfl)
  have hlen : s.queue.length ≤ 9223372036854775807 := by
    have : InR (eNode s) := hin (.data (eNode s)) (by simp)
    cases this with
    | agg h =>
      have : InR (eQ s.queue) := h 10 (by omega)
      cases this with
      | list h _ => simpa [maxLen] using h
  refine R [] ?_
  refine R [.data (.bool (within s.height 0 4)), .data (.bool (within s.round 0 5)), .data (.bool (within s.step 0 2))] (ho := by exact ⟨within_spec _ _ _, fun _ => within_spec _ _ _, fun _ => within_spec _ _ _, trivial⟩) ?_
  refine W.seq (R [.is 38 (.data (eInts22 (pairV s)))] (ho := ?ob) ?_)
  case ob =>
    refine ⟨?_, trivial⟩
    with_unfolding_all refine congrArg AV.data (eInts22_of (v := pairV s) fun i => ?_)
    match i with
    | 0 =>
      with_unfolding_all refine (eInts2_of (a := s.bound) (b := s.boundIn) rfl rfl (fun _ => rfl)).trans (congrArg eInts2 (funext fun j => ?_))
      match j with
      | 0 => rfl
      | 1 => rfl
      | _ + 2 => rfl
    | 1 =>
      with_unfolding_all refine (eInts2_of (a := s.valid) (b := s.validIn) rfl rfl (fun _ => rfl)).trans (congrArg eInts2 (funext fun j => ?_))
      match j with
      | 0 => rfl
      | 1 => rfl
      | _ + 2 => rfl
    | i + 2 =>
      with_unfolding_all refine congrArg eInts2 (funext fun j => ?_)
      rfl
  refine W.block (W.loop hc0 (ι := Nat) (fun k => ⟨107, frOf [(1, .ptr 0 []), (3, .data (.bool (okJ s k))), (38, .data (eInts22 (pairV s))), (39, .data (I k))], [.var (eNode s) []]⟩) (fun k => k ≤ 2) (fun k => 2 - k) 0 (by omega) ?_ ?_)
  · refine Le.cut _ 1 (by omega) ⟨⟨by with_unfolding_all rfl, rfl⟩, ⟨sl_bool ?_, rfl⟩, ⟨by with_unfolding_all rfl, rfl⟩, ⟨by with_unfolding_all rfl, rfl⟩, trivial⟩ (by with_unfolding_all rfl)
    rw [bif_and, bif_and, bif_and]; rfl
  · intro k hk
    refine R [] ?_
    refine W.seq (C (fun h => ?_) (fun h => ?_))
    · have hk : k < 2 := by have := of_decide_eq_true h; omega
      refine W.skip (W.seq (W.block ?_))
      refine R [] (ho := by exact ⟨⟨by omega, by omega⟩, same22 _ _, trivial⟩) ?_
      refine R1 [.is 46 (.data (.bool (pairV s k 0 == 0 && pairV s k 1 == -1))), .data (.bool (within (pairV s k 0) 1 9)), .data (.bool (within (pairV s k 1) 0 s.round))] (ho := ?ob) ?_
      case ob =>
        refine ⟨fun _ => ?_, fun _ => ⟨by omega, by omega⟩, fun _ => within_spec _ _ _, fun _ => ⟨by omega, by omega⟩, fun _ => within_spec _ _ _, trivial⟩
        with_unfolding_all exact congrArg (fun b => AV.data (D.bool b)) (eqD2 (v := pairV s k) (a := 0) (b := -1) rfl rfl)
      refine R1 [] ?_
      refine ⟨k + 1, by omega, by omega, Le.cut _ 1 (by omega) ⟨⟨by with_unfolding_all rfl, rfl⟩, ⟨sl_bool ?_, rfl⟩, ⟨by with_unfolding_all rfl, rfl⟩, ⟨sl_int (wrap_up (by omega)), rfl⟩, trivial⟩ (by with_unfolding_all rfl)⟩
      simp only [okJ, okP, bif_and, bif_or]
    · have hk : k = 2 := by have := of_decide_eq_false h; omega
      subst hk
      clear h
      refine W.exit ?_
      refine W.seq (R [] ?_)
      refine W.block (W.loop hc0 (ι := Nat) (fun k => ⟨107, frOf [(1, .ptr 0 []), (3, .data (.bool (okJ s 2 && setK s k))), (61, .data (I k))], [.var (eNode s) []]⟩) (fun k => k ≤ 4) (fun k => 4 - k) 0 (by omega) ?_ ?_)
      · refine Le.cut _ 1 (by omega) ⟨⟨by with_unfolding_all rfl, rfl⟩, ⟨sl_bool (a := okJ s 2) ?_, rfl⟩, ⟨by with_unfolding_all rfl, rfl⟩, trivial⟩ (by with_unfolding_all rfl)
        simp only [setK, Bool.and_true]
      · intro k hk
        refine R [] ?_
        refine W.seq (C (fun h => ?_) (fun h => ?_))
        · have hk : k < 4 := by have := of_decide_eq_true h; omega
          refine W.skip (W.seq (W.block ?_))
          refine R [] ?_
          refine R [.data (.bool (goodS (s.heard k)))] (ho := by exact ⟨fun _ => ⟨by omega, by omega⟩, fun _ => isSheet_spec _, trivial⟩) ?_
          refine R [] ?_
          refine C (fun h => ?_) (fun h => ?_)
          · have hlt : (k : Int) < s.height := of_decide_eq_true h
            have hsb := setB_ref1 hlt
            refine R1 [.data (.bool (within (s.settled k) 1 9))] (ho := by exact ⟨fun _ => ⟨by omega, by omega⟩, fun _ => within_spec _ _ _, trivial⟩) ?_
            refine R1 [] ?_
            refine ⟨k + 1, by omega, by omega, Le.cut _ 1 (by omega) ⟨⟨by with_unfolding_all rfl, rfl⟩, ⟨sl_bool ?_, rfl⟩, ⟨sl_int (wrap_up (by omega)), rfl⟩, trivial⟩ (by with_unfolding_all rfl)⟩
            simp only [setK, bif_and, hsb, Bool.and_assoc]
          · have hlt : ¬ (k : Int) < s.height := of_decide_eq_false h
            have hsb := setB_ref2 hlt
            refine R1 [] (ho := by exact ⟨fun _ => ⟨by omega, by omega⟩, trivial⟩) ?_
            refine R1 [] ?_
            refine ⟨k + 1, by omega, by omega, Le.cut _ 1 (by omega) ⟨⟨by with_unfolding_all rfl, rfl⟩, ⟨sl_bool ?_, rfl⟩, ⟨sl_int (wrap_up (by omega)), rfl⟩, trivial⟩ (by with_unfolding_all rfl)⟩
            simp only [setK, bif_and, hsb, Bool.and_assoc]; rfl
        · have hk : k = 4 := by have := of_decide_eq_false h; omega
          subst hk
          clear h
          refine W.exit ?_
          refine W.seq (R [] ?_)
          refine W.block (W.loop hc0 (ι := Nat) (fun k => ⟨107, frOf [(1, .ptr 0 []), (3, .data (.bool (okJ s 2 && setK s 4 && allQ s.queue k))), (94, .data (eQ s.queue)), (95, .data (I ((s.queue.map I).length : Int))), (96, .data (I k))], [.var (eNode s) []]⟩) (fun k => k ≤ s.queue.length) (fun k => s.queue.length - k) 0 (by omega) ?_ ?_)
          · refine Le.cut _ 1 (by omega) ⟨⟨by with_unfolding_all rfl, rfl⟩, ⟨sl_bool (a := okJ s 2 && setK s 4) ?_, rfl⟩, ⟨by with_unfolding_all rfl, rfl⟩, ⟨by with_unfolding_all rfl, rfl⟩, ⟨by with_unfolding_all rfl, rfl⟩, trivial⟩ (by with_unfolding_all rfl)
            simp only [allQ, Bool.and_true]
          · intro k hk
            refine R [] ?_
            refine W.seq (C (fun h => ?_) (fun h => ?_))
            · have hk : k < s.queue.length := by have h : (k : Int) < (s.queue.map I).length := of_decide_eq_true h; rw [List.length_map] at h; omega
              have hki : (0 : Int) ≤ k ∧ (k : Int) < (s.queue.map I).length := ⟨by omega, by rw [List.length_map]; omega⟩
              refine W.skip (W.seq (W.block ?_))
              refine R [.is 98 (.cptr (I (s.queue.getD k 0)))] (ho := by exact ⟨cptr_q _ hk, hki, sizes_q _, trivial⟩) ?_
              refine R1 [.data (.bool (within (s.queue.getD k 0) 1 9))] (ho := by exact ⟨fun _ => within_spec _ _ _, trivial⟩) ?_
              refine R1 [] ?_
              refine ⟨k + 1, by omega, by omega, Le.cut _ 1 (by omega) ⟨⟨by with_unfolding_all rfl, rfl⟩, ⟨sl_bool ?_, rfl⟩, ⟨by with_unfolding_all rfl, rfl⟩, ⟨by with_unfolding_all rfl, rfl⟩, ⟨sl_int (wrap_up (by omega)), rfl⟩, trivial⟩ (by with_unfolding_all rfl)⟩
              simp only [allQ, bif_and, Bool.and_assoc]
            · have hk : k = s.queue.length := by have h : ¬ (k : Int) < (s.queue.map I).length := of_decide_eq_false h; rw [List.length_map] at h; omega
              subst hk
              refine W.exit ?_
              refine R [] ?_
              refine W.ret (EndB 0 hn0 ?_)
              rw [allQ_eq, okJ_eq]; rfl

/-! ### What is opened -/

theorem begin_within (who : Int) : (!within who 0 3) = (decide (who < 0) || decide (4 ≤ who)) := by
  rw [Bool.eq_iff_iff]
  simp only [within, Bool.not_eq_true', Bool.and_eq_false_iff, Bool.or_eq_true, decide_eq_true_eq, decide_eq_false_iff_not]
  omega

set_option maxRecDepth 100000 in
theorem opened_err (s : Node) (who : Int) (h : beginE s who ≠ 0) : Pure Try.prog 53 [.data (eNode s), .data (I who)] (.tuple [.nilptr, .data (I (beginE s who))]) := by
  refine spec_of ttok Try.func53 rfl (by kernel_rfl) (by exact Nat.le_of_ble_eq_true rfl) fun hin hie c0 hc0 he => ?_
  have hn0 : c0.es.length ≤ 0 := Nat.le_of_eq (by rw [he]; rfl)
  refine R [] ?_
  refine W.seq (R [.data (.bool (goodN s))] (ho := by exact ⟨isNode_spec s, trivial⟩) ?_)
  refine C (fun h1 => ?_) (fun h1 => ?_)
  · have h1 : goodN s = false := by
      have h1 : (!goodN s) = true := h1
      simpa using h1
    refine R [] ?_
    refine W.ret (End 0 hn0 ⟨?_, rfl⟩)
    rw [beginE_1 who h1]; rfl
  have h1 : goodN s = true := by
    have h1 : (!goodN s) = false := h1
    simpa using h1
  refine W.skip ?_
  refine W.seq (R [.data (.bool (within who 0 3))] (ho := by exact ⟨within_spec _ _ _, trivial⟩) ?_)
  refine C (fun h2 => ?_) (fun h2 => ?_)
  · have h2 : (decide (who < 0) || decide (4 ≤ who)) = true := by rw [← begin_within]; exact h2
    refine R [] ?_
    refine W.ret (End 0 hn0 ⟨?_, rfl⟩)
    rw [beginE_2 h1 h2]; rfl
  · have h2 : (decide (who < 0) || decide (4 ≤ who)) = false := by rw [← begin_within]; exact h2
    exact absurd (beginE_0 h1 h2) h

theorem run_opened (s : Node) (who : Int) : ((eRunnerN Node.zero).set [0] (eNode s)).set [1] (I who) = eRunnerD (eNode s) who .nil := by
  simp only [eRunnerN, eRunnerD, D.set, set_nil]
  exact runnerD rfl rfl rfl fun _ => rfl

set_option maxRecDepth 100000 in
theorem opened_ok (s : Node) (who : Int) (h : beginE s who = 0) : Fn Try.prog 53 [.data (eNode s), .data (I who)] [] (.tuple [.ptr 0 [], .data (I 0)]) (BE s who) := by
  have hb := beginE_ok h
  have hg := (goodN_iff s).2 hb.1
  have hql : s.queue.length ≤ 17592186044416 := by have := hb.1.len; omega
  refine spec_of ttok Try.func53 rfl (by kernel_rfl) (by exact Nat.le_of_ble_eq_true rfl) fun hin hie c0 hc0 he => ?_
  have hn0 : c0.es.length ≤ 0 := Nat.le_of_eq (by rw [he]; rfl)
  refine R [] ?_
  refine W.seq (R [.data (.bool (goodN s))] (ho := by exact ⟨isNode_spec s, trivial⟩) ?_)
  refine C (fun h1 => ?_) (fun h1 => ?_)
  · have h1 : (!goodN s) = true := h1
    rw [hg] at h1; cases h1
  refine W.skip ?_
  refine W.seq (R [.data (.bool (within who 0 3))] (ho := by exact ⟨within_spec _ _ _, trivial⟩) ?_)
  refine C (fun h2 => ?_) (fun h2 => ?_)
  · have h2 : (!within who 0 3) = true := h2
    rw [begin_within] at h2
    simp only [Bool.or_eq_true, decide_eq_true_eq] at h2
    omega
  refine W.skip ?_
  refine R [Hint.on [] [.row 1 (s.queue.map I)] (.rich (eNode s) [([10], 0)])] (ho := by exact ⟨copyNode_spec _ hql, trivial⟩) ?_
  refine W.ret (EndM [2, 1] (fun i hi => by omega) ⟨rfl, ?_⟩)
  with_unfolding_all exact congrArg (fun d => [Ent.var d [([0, 10], 1)], .row 1 (s.queue.map I)]) (run_opened s who)

set_option maxRecDepth 100000 in
theorem opened_ok' (s : Node) (who : Int) (h : beginE s who = 0) : Fn Try.prog 53 [.data (eNode s), .data (I who)] [] (.tuple [.ptr 0 [], .data (I 0)]) [.var (eRunnerD (eNode s) who .nil) []] := by
  have hb := beginE_ok h
  have hg := (goodN_iff s).2 hb.1
  have hql : s.queue.length ≤ 17592186044416 := by have := hb.1.len; omega
  refine spec_of ttok Try.func53 rfl (by kernel_rfl) (by exact Nat.le_of_ble_eq_true rfl) fun hin hie c0 hc0 he => ?_
  have hn0 : c0.es.length ≤ 0 := Nat.le_of_eq (by rw [he]; rfl)
  refine R [] ?_
  refine W.seq (R [.data (.bool (goodN s))] (ho := by exact ⟨isNode_spec s, trivial⟩) ?_)
  refine C (fun h1 => ?_) (fun h1 => ?_)
  · have h1 : (!goodN s) = true := h1
    rw [hg] at h1; cases h1
  refine W.skip ?_
  refine W.seq (R [.data (.bool (within who 0 3))] (ho := by exact ⟨within_spec _ _ _, trivial⟩) ?_)
  refine C (fun h2 => ?_) (fun h2 => ?_)
  · have h2 : (!within who 0 3) = true := h2
    rw [begin_within] at h2
    simp only [Bool.or_eq_true, decide_eq_true_eq] at h2
    omega
  refine W.skip ?_
  refine R [Hint.on [] [.row 1 (s.queue.map I)] (.rich (eNode s) [([10], 0)])] (ho := by exact ⟨copyNode_spec _ hql, trivial⟩) ?_
  refine W.ret (EndM [2] (fun i hi => by omega) ⟨rfl, ?_⟩)
  with_unfolding_all exact congrArg (fun d => [Ent.var d []]) (run_opened s who)

end Go.W
