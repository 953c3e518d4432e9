/-
  The reference's node, walked: one thing after the other.
-/
import Derived.Test.YthpjdjofcbnoiabQFx
namespace Go.W
open Go.Proofs

/-! ### What the reference asks -/

theorem promised_said {s : Sheet} (h : goodS s = true) {k : Nat} (hk : k < 6) : promised s k = ((s.calls k).is && decide (3 ≤ count (s.promises k) (s.calls k).value)) := by
  rw [Bool.eq_iff_iff]
  constructor
  · intro hp
    have h1 := promised_iff hp
    have h2 := mostV_of h1.1
    simp only [Bool.and_eq_true, decide_eq_true_eq]
    rw [h1.2.2.2.2]
    exact ⟨h1.2.2.2.1, h2.1⟩
  · intro hp
    simp only [Bool.and_eq_true, decide_eq_true_eq] at hp
    have hc := goodC_is (goodS_calls h hk) hp.1
    have h1 := mostV_eq hp.2 (by omega) hc.2.1
    simp only [promised, Bool.and_eq_true, Bool.not_eq_true', beq_iff_eq, beq_eq_false_iff_ne, h1, hp.1]
    exact ⟨⟨⟨trivial, by omega⟩, trivial⟩, trivial⟩

def oneF (x : Run) : Bool × Run := match oneR x with
  | some y => (true, y)
  | none => (false, x)
theorem oneF_some {x y : Run} (h : oneR x = some y) : oneF x = (true, y) := by unfold oneF; rw [h]
theorem oneF_none {x : Run} (h : oneR x = none) : oneF x = (false, x) := by unfold oneF; rw [h]
theorem oneF_settle {x : Run} (hh : x.s.height < 4) {k : Nat} (hp : promised x.s.cur k = true) (hm : ∀ j, j < k → promised x.s.cur j = false) (hk : k < 6) : oneF x = (true, settleR x (mostV (x.s.cur.promises k))) := by
  have h := settleO_some hp hm hk
  rw [oneF_some (oneR_settle hh (by rw [h])), h]
theorem oneF_skip {x : Run} (hh : x.s.height < 4) (hn : settleO x = (false, x)) {k : Nat} (h : skipK x.s = some k) : oneF x = (true, startR x k) := by
  have h1 : skipO x = (true, startR x k) := by unfold skipO; rw [h]
  rw [oneF_some (oneR_skip hh (by rw [hn]) (by rw [h1])), h1]
theorem skipO_n {x : Run} (h : skipK x.s = none) : skipO x = (false, x) := by unfold skipO; rw [h]
theorem oneF_wish {x : Run} (hh : x.s.height < 4) (hn : settleO x = (false, x)) (hs : skipK x.s = none) {y : Run} (h : wishO x = (true, y)) : oneF x = (true, y) := by
  rw [oneF_some (oneR_wish hh (by rw [hn]) (by rw [skipO_n hs]) (by rw [h])), h]
theorem oneF_prom {x : Run} (hh : x.s.height < 4) (hn : settleO x = (false, x)) (hs : skipK x.s = none) (hw : wishO x = (false, x)) {y : Run} (h : promO x = (true, y)) : oneF x = (true, y) := by
  have h1 := oneR_prom hh (by rw [hn]) (by rw [skipO_n hs]) (by rw [hw])
  rw [h] at h1
  exact oneF_some h1
theorem oneF_no {x : Run} (hh : x.s.height < 4) (hn : settleO x = (false, x)) (hs : skipK x.s = none) (hw : wishO x = (false, x)) (h : promO x = (false, x)) : oneF x = (false, x) := by
  have h1 := oneR_prom hh (by rw [hn]) (by rw [skipO_n hs]) (by rw [hw])
  rw [h] at h1
  exact oneF_none h1

/-- How far it skips, of the rounds below r. -/
def farOf (s : Node) (r : Nat) : Int := match lastN (fun k => decide (s.round < k) && decide (2 ≤ heard s.cur k)) r with
  | some k => k
  | none => s.round
theorem farOf_succ (s : Node) (r : Nat) : farOf s (r + 1) = if (decide (s.round < r) && decide (2 ≤ heard s.cur r)) = true then (r : Int) else farOf s r := by
  unfold farOf
  simp only [lastN]
  by_cases h : (decide (s.round < r) && decide (2 ≤ heard s.cur r)) = true
  · rw [if_pos h, if_pos h]
  · rw [if_neg h, if_neg h]
theorem farOf_first {s : Node} (h : 0 ≤ s.round) : farOf s (s.round.toNat + 1) = s.round := by
  unfold farOf
  rw [lastN_none.2 fun j hj => ?_]
  simp only [Bool.and_eq_false_iff, decide_eq_false_iff_not]
  exact .inl (by omega)
theorem farOf_skip {s : Node} (h : s.round < farOf s 6) : ∃ k : Nat, skipK s = some k ∧ farOf s 6 = k := by
  unfold farOf at h ⊢
  unfold skipK
  cases hl : lastN (fun k => decide (s.round < k) && decide (2 ≤ heard s.cur k)) 6 with
  | some k => exact ⟨k, rfl, rfl⟩
  | none => rw [hl] at h; simp at h
theorem farOf_none {s : Node} (h : ¬ s.round < farOf s 6) : skipK s = none := by
  cases hl : skipK s with
  | none => rfl
  | some k =>
    exfalso
    have h1 := skipK_some hl
    unfold skipK at hl
    unfold farOf at h
    rw [hl] at h
    simp only at h
    omega

abbrev settleP (s : Node) (v : Int) : Node := { settleS s v with round := s.round, step := s.step }
theorem settleR_enter {x : Run} (hh : x.s.height < 4) (v : Int) : enterR ⟨settleP x.s v, x.who, x.out⟩ 0 = settleR x v := by
  unfold settleR enterR
  by_cases h : x.s.height + 1 = 4
  · rw [if_pos (show (settleP x.s v).height = 4 from h), if_neg (by omega)]; rfl
  · rw [if_neg (show ¬ (settleP x.s v).height = 4 from h), if_pos (by omega)]; rfl
theorem run_settleP (x : Run) (v : Int) (h : 0 ≤ x.s.height ∧ x.s.height < 4) :
    ((((((eRun ⟨settleQ x.s v, x.who, x.out⟩).set [0, 0] (I (IntKind.i64.wrap (x.s.height + 1)))).set [0, 3] (I 0)).set [0, 4] (I (-1))).set [0, 5] (I 0)).set [0, 6] (I (-1))).set [0, 7] (eBools6 fun _ => false) = eRun ⟨settleP x.s v, x.who, x.out⟩ := by
  unfold eRun
  rw [i64_wrap (by omega) (by omega)]
  rw [runner_set0, node_set0, runner_set0, node_set3, runner_set0, node_set4, runner_set0, node_set5, runner_set0, node_set6, runner_set0, node_set7 (set_nil _ _)]; rfl

theorem freeB_ref {s : Node} {c : Call} (h : -1 ≤ c.valid) : freeB s c = (decide (s.boundIn ≤ c.valid) || s.bound == c.value) := by
  unfold freeB
  split
  · rfl
  · have : c.valid = -1 := by omega
    rw [this]
    congr 1
    rw [decide_eq_decide]
    omega

abbrev saidW (s : Node) (v : Int) : Int := count (s.cur.wishes s.round.toNat) v
theorem promO_ref0 {x : Run} (h1 : x.s.step = 1) (h2 : 3 ≤ saidW x.s 0) : promO x = (true, sayR ⟨{ x.s with step := 2 }, x.who, x.out⟩ 3 0 0) := by
  have hm := mostV_eq h2 (by omega) (by omega)
  refine promO_2 ?_ ?_
  · simp only [moOf, hm.1, h1]; rfl
  · simp only [mvOf, hm.2, h1]; rfl
theorem promO_ref1 {x : Run} (hg : GoodR x) (hh : x.s.height < 4) (h0 : x.s.step ≠ 0) (h1 : ¬ (x.s.step = 1 ∧ 3 ≤ saidW x.s 0)) (hi : (callOf x.s).is = true) (hs : x.s.seen x.s.round.toNat = false) (hc : 3 ≤ saidW x.s (callOf x.s).value) :
    promO x = (true, if x.s.step = 1 then sayR ⟨bindS (seeS x.s (callOf x.s).value) (callOf x.s).value, x.who, x.out⟩ 3 (callOf x.s).value 0 else ⟨seeS x.s (callOf x.s).value, x.who, x.out⟩) := by
  have h2 := hg.s.height
  have hr := hg.s.round
  have hgc : 1 ≤ (callOf x.s).value ∧ (callOf x.s).value ≤ 9 ∧ -1 ≤ (callOf x.s).valid ∧ (callOf x.s).valid < ((x.s.round.toNat : Nat) : Int) := goodC_is (goodS_calls (hg.s.heard x.s.height.toNat (by omega)) (r := x.s.round.toNat) (by omega)) hi
  have hm := mostV_eq hc (by omega) hgc.2.1
  have hv : mvOf x.s = (callOf x.s).value := hm.2
  have hmo : moOf x.s = true := hm.1
  have hv0 : (mvOf x.s == 0) = false := by rw [hv, beq_eq_false_iff_ne]; omega
  have e1 : (!moOf x.s || x.s.step == 0) = false := by rw [hmo]; simp [h0]
  have e2 : (mvOf x.s == 0 && x.s.step == 1) = false := by rw [hv0]; rfl
  have e3 : (mvOf x.s == 0 || !(callOf x.s).is || !((callOf x.s).value == mvOf x.s) || x.s.seen x.s.round.toNat) = false := by rw [hv0, hi, hv, hs]; simp
  by_cases h4 : x.s.step = 1
  · rw [promO_4 e1 e2 e3 (by simp [h4]), hv, if_pos h4]
  · rw [promO_5 e1 e2 e3 (by simp [h4]), hv, if_neg h4]
theorem promO_ref2 {x : Run} (h1 : ¬ (x.s.step = 1 ∧ 3 ≤ saidW x.s 0)) (h2 : ¬ ((callOf x.s).is = true ∧ x.s.seen x.s.round.toNat = false ∧ 3 ≤ saidW x.s (callOf x.s).value)) : promO x = (false, x) := by
  cases e1 : (!moOf x.s || x.s.step == 0) with
  | true => exact promO_1 e1
  | false =>
    have hmo : moOf x.s = true := by
      simp only [Bool.or_eq_false_iff, Bool.not_eq_false'] at e1; exact e1.1
    have hm := mostV_of hmo
    cases e2 : (mvOf x.s == 0 && x.s.step == 1) with
    | true =>
      exfalso
      simp only [Bool.and_eq_true, beq_iff_eq] at e2
      refine h1 ⟨e2.2, ?_⟩
      have h3 := hm.1
      have e4 : mostV (x.s.cur.wishes x.s.round.toNat) = 0 := e2.1
      rw [e4] at h3
      exact h3
    | false =>
      cases e3 : (mvOf x.s == 0 || !(callOf x.s).is || !((callOf x.s).value == mvOf x.s) || x.s.seen x.s.round.toNat) with
      | true => exact promO_3 e1 e2 e3
      | false =>
        exfalso
        simp only [Bool.or_eq_false_iff, Bool.not_eq_false', beq_iff_eq] at e3
        refine h2 ⟨e3.1.1.2, e3.2, ?_⟩
        rw [e3.1.2]
        exact hm.1

theorem run_queueL (x : Run) (v : Int) (q : List Int) (hq : q = x.s.queue.filter fun q => !(q == v)) : ((eRun x).set [0, 9, x.s.height.toNat] (I v)).set [0, 10] (.list (q.map I)) = eRun ⟨settleQ x.s v, x.who, x.out⟩ := by
  subst hq; exact run_queue x v

set_option maxHeartbeats 16000000 in
set_option maxRecDepth 100000 in
theorem one_spec (x : Run) (hg : GoodR x) (hl : x.out.length ≤ 2000) : Fn Try.prog 86 [.ptr 0 []] (RE x) (.data (.bool (oneF x).1)) (RE (oneF x).2) := by
  have hr := hg.s.round
  have hh4 := hg.s.height
  refine spec_of ttok Try.func86 rfl (by kernel_rfl) (by exact Nat.le_of_ble_eq_true rfl) fun hin hie c0 hc0 he => ?_
  have hn0 : c0.es.length ≤ 2 := Nat.le_of_eq (by rw [he]; rfl)
  refine R [] ?_
  refine W.seq (R [] ?_)
  refine C (fun h => ?_) (fun h => ?_)
  · have h4 : x.s.height = 4 := by simpa using h
    have hO : oneF x = (false, x) := oneF_none (by unfold oneR; rw [if_neg (by omega)])
    refine R [] ?_
    refine W.ret (End 2 hn0 ⟨?_, ?_⟩)
    · rw [hO]; rfl
    · rw [hO]; rfl
  have h4 : x.s.height ≠ 4 := by simpa using h
  clear h
  have hlt : x.s.height < 4 := by omega
  have hh : 0 ≤ x.s.height ∧ x.s.height < 4 := by omega
  have hgs : goodS x.s.cur = true := hg.s.heard x.s.height.toNat (by omega)
  refine W.skip ?_
  refine R [.data (eSheet x.s.cur)] (ho := by exact ⟨sheet_spec x hh, sameSS _ _, trivial⟩) ?_
  refine W.seq (R [] ?_)
  refine W.block (W.loop hc0 (ι := Nat) (fun k => ⟨307, frOf [(0, .ptr 0 []), (3, .ptr 2 []), (20, .data (I k))], RE x ++ [.var (eSheet x.s.cur) []]⟩) (fun k => k ≤ 6 ∧ ∀ j, j < k → promised x.s.cur j = false) (fun k => 6 - k) 0 ⟨by omega, fun i hi => by omega⟩ ?_ ?_)
  · exact Le.cut _ 3 (by omega) ⟨⟨by with_unfolding_all rfl, rfl⟩, ⟨by with_unfolding_all rfl, rfl⟩, ⟨by with_unfolding_all rfl, rfl⟩, trivial⟩ (by with_unfolding_all rfl)
  · intro k ⟨hk, hm⟩
    refine R [] ?_
    refine W.seq (C (fun h => ?_) (fun h => ?_))
    · have hk : k < 6 := by have := of_decide_eq_true h; omega
      have hps := promised_said hgs hk
      refine W.skip (W.seq (W.block ?_))
      refine R [] ?_
      refine R [] (ho := by exact ⟨⟨by omega, by omega⟩, sameCC _ _, trivial⟩) ?_
      refine RD [.data (I (count (x.s.cur.promises k) (x.s.cur.calls k).value))] (ho := by exact ⟨fun _ => ⟨by omega, by omega⟩, fun _ => said_spec _ _, trivial⟩) ?_
      refine C (fun h => ?_) (fun h => ?_)
      · have hp : promised x.s.cur k = true := by rw [hps, ← bif_and]; exact h
        have hO := oneF_settle hlt hp hm hk
        have hmv : mostV (x.s.cur.promises k) = (x.s.cur.calls k).value := (promised_iff hp).2.2.2.2.symm
        rw [hmv] at hO
        clear h
        have hql : x.s.queue.length ≤ 6 := hg.s.len
        refine RD [] (ho := by exact ⟨hh, trivial⟩) ?_
        generalize hcv : x.s.cur.calls k = c at hO ⊢
        refine R [] ?_
        refine W.le hc0 (Le.cut [(0, .ptr 0 []), (5, .ptr 3 []), (6, .data .nil)] 4 (by omega) (es' := [.var ((eRun x).set [0, 9, x.s.height.toNat] (I c.value)) [([2], 1)], .row 6 (x.out.map eWord), .var (eSheet x.s.cur) [], .var (eCall c) []]) ⟨⟨by with_unfolding_all rfl, rfl⟩, ⟨by with_unfolding_all rfl, rfl⟩, ⟨by with_unfolding_all rfl, rfl⟩, trivial⟩ ?eqa) ?_
        case eqa =>
          subst hcv
          with_unfolding_all rfl
        refine W.le hc0 (Le.slotRow 6 1 rfl) ?_
        refine W.seq (R [] ?_)
        refine W.block (W.loop hc0 (ι := Nat) (fun j => ⟨307, frOf [(0, .ptr 0 []), (5, .ptr 3 []), (6, .row 4 ((leftQ x.s.queue c.value j).map I)), (55, .data (eQ x.s.queue)), (56, .data (I ((x.s.queue.map I).length : Int))), (57, .data (I j))],
          [.var ((eRun x).set [0, 9, x.s.height.toNat] (I c.value)) [([2], 1)], .row 6 (x.out.map eWord), .var (eSheet x.s.cur) [], .var (eCall c) [], .row 1 ((leftQ x.s.queue c.value j).map I)]⟩) (fun j => j ≤ x.s.queue.length) (fun j => x.s.queue.length - j) 0 (by omega) ?_ ?_)
        · exact Le.cut _ 5 (by omega) ⟨⟨by with_unfolding_all rfl, rfl⟩, ⟨by with_unfolding_all rfl, rfl⟩, ⟨by with_unfolding_all rfl, rfl⟩, ⟨by with_unfolding_all rfl, rfl⟩, ⟨by with_unfolding_all rfl, rfl⟩, ⟨by with_unfolding_all rfl, rfl⟩, trivial⟩ (by with_unfolding_all rfl)
        · intro j hj
          refine R [] ?_
          refine W.seq (C (fun h => ?_) (fun h => ?_))
          · have hj : j < x.s.queue.length := by have h : (j : Int) < (x.s.queue.map I).length := of_decide_eq_true h; rw [List.length_map] at h; omega
            have hji : (0 : Int) ≤ j ∧ (j : Int) < (x.s.queue.map I).length := ⟨by omega, by rw [List.length_map]; omega⟩
            have hll := leftQ_le x.s.queue c.value j
            refine W.skip (W.seq (W.block ?_))
            refine R [.is 59 (.cptr (I (x.s.queue.getD j 0)))] (ho := by exact ⟨cptr_q _ hj, hji, sizes_q _, trivial⟩) ?_
            refine R [] ?_
            refine C (fun h => ?_) (fun h => ?_)
            · have hne : x.s.queue.getD j 0 ≠ c.value := by
                have h : (!(x.s.queue.getD j 0 == c.value)) = true := h
                simpa using h
              have hsu : (leftQ x.s.queue c.value (j + 1)).map I = (leftQ x.s.queue c.value j).map I ++ [I (x.s.queue.getD j 0)] := by rw [leftQ_succ hj, if_neg hne]; simp
              refine R1 [] (ho := by exact ⟨rfl, sizes_q1 _ _, fits_q _ _ (by omega), trivial⟩) ?_
              refine R1 [] ?_
              refine ⟨j + 1, by omega, by omega, Le.cut _ 5 (by omega) ⟨⟨by with_unfolding_all rfl, rfl⟩, ⟨by with_unfolding_all rfl, rfl⟩, ⟨sl (x := .row 4 ((leftQ x.s.queue c.value j).map I ++ [I (x.s.queue.getD j 0)])) (by rw [hsu]), rfl⟩, ⟨by with_unfolding_all rfl, rfl⟩, ⟨by with_unfolding_all rfl, rfl⟩, ⟨sl_int (wrap_up (by omega)), rfl⟩, trivial⟩ ?_⟩
              rw [hsu]; with_unfolding_all rfl
            · have he : x.s.queue.getD j 0 = c.value := by
                have h : (!(x.s.queue.getD j 0 == c.value)) = false := h
                simpa using h
              have hsu : leftQ x.s.queue c.value (j + 1) = leftQ x.s.queue c.value j := by rw [leftQ_succ hj, if_pos he]
              refine W.skip ?_
              refine R1 [] ?_
              refine ⟨j + 1, by omega, by omega, Le.cut _ 5 (by omega) ⟨⟨by with_unfolding_all rfl, rfl⟩, ⟨by with_unfolding_all rfl, rfl⟩, ⟨sl (x := .row 4 ((leftQ x.s.queue c.value j).map I)) (by rw [hsu]), rfl⟩, ⟨by with_unfolding_all rfl, rfl⟩, ⟨by with_unfolding_all rfl, rfl⟩, ⟨sl_int (wrap_up (by omega)), rfl⟩, trivial⟩ ?_⟩
              rw [hsu]; with_unfolding_all rfl
          · have hj : j = x.s.queue.length := by have h : ¬ (j : Int) < (x.s.queue.map I).length := of_decide_eq_false h; rw [List.length_map] at h; omega
            subst hj
            refine W.exit ?_
            refine R [] ?_
            refine W.le hc0 (Le.cut [(0, .ptr 0 [])] 2 hn0 (es' := RE ⟨settleQ x.s c.value, x.who, x.out⟩) ⟨⟨by with_unfolding_all rfl, rfl⟩, trivial⟩ ?eqb) ?_
            case eqb => with_unfolding_all exact congrArg (fun d => [Ent.var d [([2], 1)], .row 6 (x.out.map eWord)]) (run_queueL x c.value _ (leftQ_all _ _))
            refine R [] ?_
            refine R [] ?_
            refine R [] (ho := by exact ⟨sameB6 _ _, trivial⟩) ?_
            refine W.ents (es' := RE ⟨settleP x.s c.value, x.who, x.out⟩) ?_ ?_
            · with_unfolding_all exact congrArg (fun d => [Ent.var d [([2], 1)], .row 6 (x.out.map eWord)]) (run_settleP x c.value hh)
            have hen := enter_spec ⟨settleP x.s c.value, x.who, x.out⟩ 0 (by show 0 ≤ x.s.height + 1 ∧ x.s.height + 1 ≤ 4; omega) (by omega) hl
            rw [settleR_enter hlt] at hen
            refine R [Hint.on [0, 1] (RE (settleR x c.value)) (.tuple [])] (ho := by exact ⟨hen, trivial⟩) ?_
            refine R [] ?_
            refine W.ret (End 2 hn0 ⟨?_, ?_⟩)
            · rw [hO]; rfl
            · rw [hO]; rfl
      · have hp : promised x.s.cur k = false := by rw [hps, ← bif_and]; exact h
        refine W.skip ?_
        refine R1 [] ?_
        refine ⟨k + 1, ⟨by omega, fun j hj => ?_⟩, by omega, Le.cut _ 3 (by omega) ⟨⟨by with_unfolding_all rfl, rfl⟩, ⟨by with_unfolding_all rfl, rfl⟩, ⟨sl_int (wrap_up (by omega)), rfl⟩, trivial⟩ (by with_unfolding_all rfl)⟩
        rcases Nat.lt_or_ge j k with h2 | h2
        · exact hm j h2
        · have : j = k := by omega
          subst this; exact hp
    · have hk : k = 6 := by have := of_decide_eq_false h; omega
      subst hk
      clear h
      have hsn : settleO x = (false, x) := settleO_none hm
      refine W.exit ?_
      refine R [] ?_
      refine W.seq (R [] ?_)
      refine W.block (W.loop hc0 (ι := Nat) (fun r => ⟨307, frOf [(0, .ptr 0 []), (3, .ptr 2 []), (9, .data (I (farOf x.s r))), (10, .data (I r))], RE x ++ [.var (eSheet x.s.cur) []]⟩) (fun r => r ≤ 6 ∧ x.s.round < r) (fun r => 6 - r) (x.s.round.toNat + 1) ⟨by omega, by omega⟩ ?_ ?_)
      · refine Le.cut _ 3 (by omega) ⟨⟨by with_unfolding_all rfl, rfl⟩, ⟨by with_unfolding_all rfl, rfl⟩, ⟨sl_int (a := x.s.round) (farOf_first hr.1).symm, rfl⟩, ⟨sl_int (a := IntKind.i64.wrap (x.s.round + 1)) ?_, rfl⟩, trivial⟩ (by with_unfolding_all rfl)
        rw [i64_wrap (by omega) (by omega)]; omega
      · intro r ⟨hr6, hrr⟩
        refine W.seq (R [] ?_)
        refine C (fun h => ?_) (fun h => ?_)
        · have hr6 : r < 6 := by have := of_decide_eq_true h; omega
          have hfs := farOf_succ x.s r
          refine W.skip (W.seq (W.block ?_))
          refine R [.data (I (heard x.s.cur r))] (ho := by exact ⟨heardIn_spec _ _, trivial⟩) ?_
          refine C (fun h => ?_) (fun h => ?_)
          · have hd : 1 < heard x.s.cur r := of_decide_eq_true h
            rw [if_pos (by simp only [Bool.and_eq_true, decide_eq_true_eq]; omega)] at hfs
            refine R1 [] ?_
            refine R1 [] ?_
            exact ⟨r + 1, ⟨by omega, by omega⟩, by omega, Le.cut _ 3 (by omega) ⟨⟨by with_unfolding_all rfl, rfl⟩, ⟨by with_unfolding_all rfl, rfl⟩, ⟨sl_int (a := (r : Int)) hfs.symm, rfl⟩, ⟨sl_int (wrap_up (by omega)), rfl⟩, trivial⟩ (by with_unfolding_all rfl)⟩
          · have hd : ¬ 1 < heard x.s.cur r := of_decide_eq_false h
            rw [if_neg (by simp only [Bool.and_eq_true, decide_eq_true_eq]; omega)] at hfs
            refine W.skip ?_
            refine R1 [] ?_
            exact ⟨r + 1, ⟨by omega, by omega⟩, by omega, Le.cut _ 3 (by omega) ⟨⟨by with_unfolding_all rfl, rfl⟩, ⟨by with_unfolding_all rfl, rfl⟩, ⟨sl_int (a := farOf x.s r) hfs.symm, rfl⟩, ⟨sl_int (wrap_up (by omega)), rfl⟩, trivial⟩ (by with_unfolding_all rfl)⟩
        · have hr6 : r = 6 := by have := of_decide_eq_false h; omega
          subst hr6
          clear h
          refine W.exit ?_
          refine W.seq (R [] ?_)
          refine C (fun h => ?_) (fun h => ?_)
          · have hf : x.s.round < farOf x.s 6 := of_decide_eq_true h
            obtain ⟨k, hk, hfk⟩ := farOf_skip hf
            have hk6 := skipK_some hk
            have hO := oneF_skip hlt hsn hk
            have hen := enter_spec x k (by omega) (by omega) hl
            rw [enterR_s _ h4] at hen
            refine R [Hint.on [0, 1] (RE (startR x k)) (.tuple [])] (ho := by with_unfolding_all exact ⟨(by rw [hfk]; exact hen), trivial⟩) ?_
            refine R [] ?_
            refine W.ret (End 2 hn0 ⟨?_, ?_⟩)
            · rw [hO]; rfl
            · rw [hO]; rfl
          have hsk : skipK x.s = none := farOf_none (of_decide_eq_false h)
          clear h
          refine W.skip ?_
          refine R [] (ho := by exact ⟨hr, sameCC _ _, trivial⟩) ?_
          refine W.le hc0 (Le.cut [(0, .ptr 0 []), (3, .ptr 2 []), (11, .ptr 3 [])] 4 (by omega) (es' := RE x ++ [.var (eSheet x.s.cur) [], .var (eCall (callOf x.s)) []]) ⟨⟨by with_unfolding_all rfl, rfl⟩, ⟨by with_unfolding_all rfl, rfl⟩, ⟨by with_unfolding_all rfl, rfl⟩, trivial⟩ (by with_unfolding_all rfl)) ?_
          refine W.seq (R [] ?_)
          refine C (fun h => ?_) (fun h => ?_)
          · have h0 : x.s.step = 0 := by simpa using h
            clear h
            have hci : (callOf x.s).is = true → 1 ≤ (callOf x.s).value ∧ (callOf x.s).value ≤ 9 ∧ -1 ≤ (callOf x.s).valid ∧ (callOf x.s).valid < ((x.s.round.toNat : Nat) : Int) := fun hi => goodC_is (goodS_calls hgs (r := x.s.round.toNat) (by omega)) hi
            refine W.seq (RD [.data (I (count (x.s.cur.wishes (callOf x.s).valid.toNat) (callOf x.s).value))] (ho := ?ob) ?_)
            case ob =>
              refine ⟨fun h => ?_, fun _ => said_spec _ _, trivial⟩
              have hi : (callOf x.s).is = true ∨ (callOf x.s).is = false := by cases (callOf x.s).is <;> simp
              rcases hi with hi | hi
              · have := hci hi
                have h : decide (0 ≤ (callOf x.s).valid) = true := h
                have := of_decide_eq_true h
                exact ⟨this, by omega⟩
              · have hz := goodS_calls hgs (r := x.s.round.toNat) (by omega)
                have hi : (x.s.cur.calls x.s.round.toNat).is = false := hi
                unfold goodC at hz
                rw [hi] at hz
                simp only [Bool.false_eq_true, if_false, Bool.and_eq_true, beq_iff_eq] at hz
                show 0 ≤ (x.s.cur.calls x.s.round.toNat).valid ∧ (x.s.cur.calls x.s.round.toNat).valid < 6
                omega
            refine C (fun h => ?_) (fun h => ?_)
            · have hw : wishO x = (false, x) := by
                have h : (bif !(callOf x.s).is then true else bif decide (0 ≤ (callOf x.s).valid) then decide (count (x.s.cur.wishes (callOf x.s).valid.toNat) (callOf x.s).value < 3) else false) = true := h
                rw [bif_or, bif_and] at h
                simp only [Bool.or_eq_true, Bool.not_eq_true', Bool.and_eq_true, decide_eq_true_eq] at h
                cases hi : (callOf x.s).is with
                | false => exact wishO_1 (by rw [h0, hi]; rfl)
                | true =>
                  rcases h with h | h
                  · rw [hi] at h; cases h
                  · exact wishO_2 (by rw [h0, hi]; rfl) h.1 h.2
              have hO := oneF_no hlt hsn hsk hw (promO_1 (by rw [h0]; simp))
              refine R [] ?_
              refine W.ret (End 2 hn0 ⟨?_, ?_⟩)
              · rw [hO]; rfl
              · rw [hO]; rfl
            have h : (bif !(callOf x.s).is then true else bif decide (0 ≤ (callOf x.s).valid) then decide (count (x.s.cur.wishes (callOf x.s).valid.toNat) (callOf x.s).value < 3) else false) = false := h
            rw [bif_or, bif_and] at h
            have hi : (callOf x.s).is = true := by
              simp only [Bool.or_eq_false_iff, Bool.not_eq_false'] at h; exact h.1
            have hn3 : ¬ (0 ≤ (callOf x.s).valid ∧ count (x.s.cur.wishes (callOf x.s).valid.toNat) (callOf x.s).value < 3) := by
              rintro ⟨a, b⟩
              rw [hi, decide_eq_true a, decide_eq_true b] at h
              cases h
            clear h
            have hO := oneF_wish hlt hsn hsk (wishO_3 (by rw [h0, hi]; rfl) hn3)
            rw [freeB_ref (hci hi).2.2.1] at hO
            refine W.skip ?_
            refine R [] ?_
            refine W.ents (es' := RE ⟨{ x.s with step := 1 }, x.who, x.out⟩ ++ [.var (eSheet x.s.cur) [], .var (eCall (callOf x.s)) []]) ?_ ?_
            · with_unfolding_all exact congrArg (fun d => [Ent.var d [([2], 1)], .row 6 (x.out.map eWord), .var (eSheet x.s.cur) [], .var (eCall (callOf x.s)) []]) (run_step x 1)
            refine W.seq (RD [] ?_)
            refine C (fun h => ?_) (fun h => ?_)
            · have h : (decide (x.s.boundIn ≤ (callOf x.s).valid) || x.s.bound == (callOf x.s).value) = true := by rw [← bif_or]; exact h
              rw [h, if_pos rfl] at hO
              refine R1 [Hint.on [0, 1] (RE (wishR x (callOf x.s).value)) (.tuple [])] (ho := by exact ⟨tell_spec ⟨{ x.s with step := 1 }, x.who, x.out⟩ 2 (callOf x.s).value 0 hh hl, trivial⟩) ?_
              refine R [] ?_
              refine W.ret (End 2 hn0 ⟨?_, ?_⟩)
              · rw [hO]; rfl
              · rw [hO]; rfl
            · have h : (decide (x.s.boundIn ≤ (callOf x.s).valid) || x.s.bound == (callOf x.s).value) = false := by rw [← bif_or]; exact h
              rw [h, if_neg (by simp)] at hO
              refine R1 [Hint.on [0, 1] (RE (wishR x 0)) (.tuple [])] (ho := by exact ⟨tell_spec ⟨{ x.s with step := 1 }, x.who, x.out⟩ 2 0 0 hh hl, trivial⟩) ?_
              refine R [] ?_
              refine W.ret (End 2 hn0 ⟨?_, ?_⟩)
              · rw [hO]; rfl
              · rw [hO]; rfl
          have h0 : x.s.step ≠ 0 := by simpa using h
          clear h
          have hw : wishO x = (false, x) := wishO_1 (by simp [h0])
          refine W.skip ?_
          refine W.seq (R [.data (I (saidW x.s 0))] (ho := by exact ⟨fun _ => hr, fun _ => said_spec _ _, trivial⟩) ?_)
          refine C (fun h => ?_) (fun h => ?_)
          · have h1 : x.s.step = 1 ∧ 3 ≤ saidW x.s 0 := by
              have h : (bif x.s.step == 1 then decide (3 ≤ saidW x.s 0) else false) = true := h
              rw [bif_and] at h
              simpa using h
            have hO := oneF_prom hlt hsn hsk hw (promO_ref0 h1.1 h1.2)
            refine R [] ?_
            refine W.ents (es' := RE ⟨{ x.s with step := 2 }, x.who, x.out⟩ ++ [.var (eSheet x.s.cur) [], .var (eCall (callOf x.s)) []]) ?_ ?_
            · with_unfolding_all exact congrArg (fun d => [Ent.var d [([2], 1)], .row 6 (x.out.map eWord), .var (eSheet x.s.cur) [], .var (eCall (callOf x.s)) []]) (run_step x 2)
            refine R [Hint.on [0, 1] (RE (sayR ⟨{ x.s with step := 2 }, x.who, x.out⟩ 3 0 0)) (.tuple [])] (ho := by exact ⟨tell_spec ⟨{ x.s with step := 2 }, x.who, x.out⟩ 3 0 0 hh hl, trivial⟩) ?_
            refine R [] ?_
            refine W.ret (End 2 hn0 ⟨?_, ?_⟩)
            · rw [hO]; rfl
            · rw [hO]; rfl
          have h1 : ¬ (x.s.step = 1 ∧ 3 ≤ saidW x.s 0) := by
            rintro ⟨a, b⟩
            have h : (bif x.s.step == 1 then decide (3 ≤ saidW x.s 0) else false) = false := h
            rw [bif_and, a, decide_eq_true b] at h
            cases h
          clear h
          refine W.skip ?_
          refine W.seq (RD [.data (I (saidW x.s (callOf x.s).value))] (ho := by exact ⟨fun _ => hr, fun _ => hr, fun _ => said_spec _ _, trivial⟩) ?_)
          refine C (fun h => ?_) (fun h => ?_)
          · have h2 : ((callOf x.s).is = true ∧ x.s.seen x.s.round.toNat = false) ∧ 3 ≤ saidW x.s (callOf x.s).value := by
              have h : (bif (bif (callOf x.s).is then !x.s.seen x.s.round.toNat else false) then decide (3 ≤ saidW x.s (callOf x.s).value) else false) = true := h
              rw [bif_and, bif_and] at h
              simpa using h
            have hO := oneF_prom hlt hsn hsk hw (promO_ref1 hg hlt h0 h1 h2.1.1 h2.1.2 h2.2)
            clear h
            refine RD [] (ho := by exact ⟨hr, trivial⟩) ?_
            refine RD [] ?_
            refine W.ents (es' := RE ⟨seeS x.s (callOf x.s).value, x.who, x.out⟩ ++ [.var (eSheet x.s.cur) [], .var (eCall (callOf x.s)) []]) ?_ ?_
            · with_unfolding_all exact congrArg (fun d => [Ent.var d [([2], 1)], .row 6 (x.out.map eWord), .var (eSheet x.s.cur) [], .var (eCall (callOf x.s)) []]) (run_see x (callOf x.s).value)
            refine W.seq (R [] ?_)
            refine C (fun h => ?_) (fun h => ?_)
            · have h5 : x.s.step = 1 := by
                have h : (x.s.step == 1) = true := h
                simpa using h
              rw [if_pos h5] at hO
              refine RD [] ?_
              refine W.ents (es' := RE ⟨bindS (seeS x.s (callOf x.s).value) (callOf x.s).value, x.who, x.out⟩ ++ [.var (eSheet x.s.cur) [], .var (eCall (callOf x.s)) []]) ?_ ?_
              · with_unfolding_all exact congrArg (fun d => [Ent.var d [([2], 1)], .row 6 (x.out.map eWord), .var (eSheet x.s.cur) [], .var (eCall (callOf x.s)) []]) (run_bind ⟨seeS x.s (callOf x.s).value, x.who, x.out⟩ (callOf x.s).value)
              refine R1 [Hint.on [0, 1] (RE (sayR ⟨bindS (seeS x.s (callOf x.s).value) (callOf x.s).value, x.who, x.out⟩ 3 (callOf x.s).value 0)) (.tuple [])] (ho := by exact ⟨tell_spec ⟨bindS (seeS x.s (callOf x.s).value) (callOf x.s).value, x.who, x.out⟩ 3 (callOf x.s).value 0 hh hl, trivial⟩) ?_
              refine R [] ?_
              refine W.ret (End 2 hn0 ⟨?_, ?_⟩)
              · rw [hO]; rfl
              · rw [hO]; rfl
            · have h5 : ¬ x.s.step = 1 := by
                have h : (x.s.step == 1) = false := h
                simpa using h
              rw [if_neg h5] at hO
              refine W.skip ?_
              refine R [] ?_
              refine W.ret (End 2 hn0 ⟨?_, ?_⟩)
              · rw [hO]; rfl
              · rw [hO]; rfl
          · have h2 : ¬ ((callOf x.s).is = true ∧ x.s.seen x.s.round.toNat = false ∧ 3 ≤ saidW x.s (callOf x.s).value) := by
              rintro ⟨a, b, c⟩
              have h : (bif (bif (callOf x.s).is then !x.s.seen x.s.round.toNat else false) then decide (3 ≤ saidW x.s (callOf x.s).value) else false) = false := h
              rw [bif_and, bif_and, a, b, decide_eq_true c] at h
              cases h
            have hO := oneF_no hlt hsn hsk hw (promO_ref2 h1 h2)
            refine W.skip ?_
            refine R [] ?_
            refine W.ret (End 2 hn0 ⟨?_, ?_⟩)
            · rw [hO]; rfl
            · rw [hO]; rfl

end Go.W
