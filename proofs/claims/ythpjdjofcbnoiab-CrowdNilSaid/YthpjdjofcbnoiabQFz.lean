/-
  The reference's node, walked: all that comes, copies, good nodes, what is opened.
-/
import Derived.Test.YthpjdjofcbnoiabQFy
namespace Go.W
open Go.Proofs

set_option maxHeartbeats 4000000 in
set_option maxRecDepth 100000 in
theorem all_flow_spec (x : Run) (hg : GoodR x) (hl : x.out.length + meas x.s ≤ 2000) : Fn Try.prog 56 [.ptr 0 []] (RE x) (.tuple []) (RE (flowR x)) := by
  refine spec_of ttok Try.func56 rfl (by kernel_rfl) (by exact Nat.le_of_ble_eq_true rfl) fun hin hie c0 hc0 he => ?_
  have hn0 : c0.es.length ≤ 2 := Nat.le_of_eq (by rw [he]; rfl)
  refine W.block (W.loop hc0 (ι := Run) (fun y => ⟨4, frOf [(0, .ptr 0 [])], RE y⟩) (FlowI x) (fun y => meas y.s) x ⟨hg, rfl, hl⟩ ?_ ?_)
  · exact Le.cut _ 2 hn0 ⟨⟨by with_unfolding_all rfl, rfl⟩, trivial⟩ (by with_unfolding_all rfl)
  · intro y hy
    have hly : y.out.length ≤ 2000 := by have := hy.len; omega
    have hs := one_spec y hy.good hly
    cases ho : oneR y with
    | some z =>
      rw [oneF_some ho] at hs
      obtain ⟨hz, hm⟩ := hy.next ho
      refine W.seq (R [Hint.on [0, 1] (RE z) (.data (.bool true))] (ho := by exact ⟨hs, trivial⟩) ?_)
      refine C (fun h => ?_) (fun h => ?_)
      · refine W.skip (W.block (W.skip ?_))
        exact ⟨z, hz, hm, Le.cut _ 2 hn0 ⟨⟨by with_unfolding_all rfl, rfl⟩, trivial⟩ (by with_unfolding_all rfl)⟩
      · cases h
    | none =>
      rw [oneF_none ho] at hs
      refine W.seq (R [Hint.on [0, 1] (RE y) (.data (.bool false))] (ho := by exact ⟨hs, trivial⟩) ?_)
      refine C (fun h => ?_) (fun h => ?_)
      · cases h
      · refine W.exit ?_
        refine End 2 hn0 ⟨rfl, ?_⟩
        rw [← hy.flow, flowR_none ho]; rfl

theorem fits_qq (q : List Int) (h : q.length ≤ 17592186044416) : (q.map I).length ≤ maxLen ∧ (q.map I).length * 8 ≤ 140737488355328 := by
  rw [List.length_map]
  unfold maxLen
  omega

set_option maxRecDepth 100000 in
theorem copyNode_spec (s : Node) (hq : s.queue.length ≤ 17592186044416) : Fn Try.prog 18 [.data (eNode s)] [] (.rich (eNode s) [([10], 0)]) [.row 1 (s.queue.map I)] := by
  refine spec_of ttok Try.func18 rfl (by kernel_rfl) (by exact Nat.le_of_ble_eq_true rfl) fun hin hie c0 hc0 he => ?_
  have hn0 : c0.es.length ≤ 0 := Nat.le_of_eq (by rw [he]; rfl)
  refine R [] ?_
  refine R [] (ho := by exact ⟨sizes_q _, fits_qq _ hq, trivial⟩) ?_
  refine W.ents (es' := [.var (eNode s) [([10], 2)], .var (eNodeN Node.zero) [], .row 1 (s.queue.map I)]) ?_ ?_
  · with_unfolding_all exact congrArg (fun d => [Ent.var d [([10], 2)], .var (eNodeN Node.zero) [], .row 1 (s.queue.map I)]) (node_set10 s s.queue)
  refine R [] (ho := by exact ⟨sameNz _ _, trivial⟩) ?_
  exact W.ret (EndM [2] (fun i hi => by omega) ⟨rfl, rfl⟩)

/-! ### Good nodes -/

def okP (v i r : Int) : Bool := (v == 0 && i == -1) || (within v 1 9 && within i 0 r)
theorem okP_eq (v i r : Int) : okP v i r = boundB v i r := by
  rw [Bool.eq_iff_iff, boundB_iff]
  simp only [okP, within, Bool.or_eq_true, Bool.and_eq_true, beq_iff_eq, decide_eq_true_eq]
  omega
def pairV (s : Node) : Nat → Nat → Int
  | 0, 0 => s.bound
  | 0, 1 => s.boundIn
  | 1, 0 => s.valid
  | 1, 1 => s.validIn
  | _, _ => 0
def okJ (s : Node) : Nat → Bool
  | 0 => within s.height 0 4 && within s.round 0 5 && within s.step 0 2 && decide (((s.queue.map I).length : Int) < 7)
  | j + 1 => okJ s j && okP (pairV s j 0) (pairV s j 1) s.round
theorem okJ_eq (s : Node) : okJ s 2 = (placeB s && (boundB s.bound s.boundIn s.round && boundB s.valid s.validIn s.round)) := by
  have h0 : okJ s 0 = placeB s := by
    rw [Bool.eq_iff_iff]
    simp only [okJ, placeB, within, Bool.and_eq_true, decide_eq_true_eq, List.length_map]
    omega
  have h2 : okJ s 2 = (okJ s 0 && okP s.bound s.boundIn s.round && okP s.valid s.validIn s.round) := rfl
  rw [h2, h0, okP_eq, okP_eq, Bool.and_assoc]
def allQ (q : List Int) : Nat → Bool
  | 0 => true
  | k + 1 => allQ q k && within (q.getD k 0) 1 9
theorem allQ_eq (q : List Int) : allQ q q.length = q.all (fun v => within v 1 9) := by
  have h : ∀ k, allQ q k = true ↔ ∀ j, j < k → within (q.getD j 0) 1 9 = true := by
    intro k
    induction k with
    | zero => simp [allQ]
    | succ k ih =>
      simp only [allQ, Bool.and_eq_true, ih]
      constructor
      · rintro ⟨h1, h2⟩ j hj
        rcases Nat.lt_or_ge j k with h | h
        · exact h1 j h
        · have : j = k := by omega
          subst this; exact h2
      · intro h
        exact ⟨fun j hj => h j (by omega), h k (by omega)⟩
  rw [Bool.eq_iff_iff, h, List.all_eq_true]
  constructor
  · intro h1 v hv
    obtain ⟨j, hj, rfl⟩ := List.getElem_of_mem hv
    have := h1 j hj
    simpa [List.getElem?_eq_getElem hj] using this
  · intro h1 j hj
    have := h1 q[j] (List.getElem_mem hj)
    simpa [List.getElem?_eq_getElem hj] using this
theorem setB_ref1 {s : Node} {h : Nat} (hh : (h : Int) < s.height) : setB s h = (goodS (s.heard h) && within (s.settled h) 1 9) := by
  rw [Bool.eq_iff_iff, setB_iff]
  simp only [within, Bool.and_eq_true, decide_eq_true_eq]
  constructor
  · rintro ⟨⟨a, b, c⟩, d⟩; have := c.2 hh; exact ⟨d, by omega, b⟩
  · rintro ⟨d, a, b⟩; exact ⟨⟨by omega, b, by omega⟩, d⟩
theorem setB_ref2 {s : Node} {h : Nat} (hh : ¬ (h : Int) < s.height) : setB s h = (goodS (s.heard h) && s.settled h == 0) := by
  rw [Bool.eq_iff_iff, setB_iff]
  simp only [Bool.and_eq_true, beq_iff_eq]
  constructor
  · rintro ⟨⟨a, b, c⟩, d⟩
    refine ⟨d, ?_⟩
    rcases Int.lt_or_le 0 (s.settled h) with h1 | h1
    · exact absurd (c.1 h1) hh
    · omega
  · rintro ⟨d, a⟩; exact ⟨⟨by omega, by omega, by omega⟩, d⟩

theorem eInts2_of {f : Nat → D} {a b : Int} (h0 : f 0 = I a) (h1 : f 1 = I b) (h2 : ∀ i, f (i + 2) = I 0) : D.arr 2 1 f = eInts2 (fun | 0 => a | 1 => b | _ => 0) := by
  unfold eInts2
  congr 1
  funext i
  match i with
  | 0 => exact h0
  | 1 => exact h1
  | i + 2 => exact h2 i
theorem eInts22_of {f : Nat → D} {v : Nat → Nat → Int} (h : ∀ i, f i = eInts2 (v i)) : D.arr 2 2 f = eInts22 v := by
  unfold eInts22
  congr 1
  funext i
  exact h i

theorem eqD2 {v : Nat → Int} {f : Nat → D} {a b : Int} (h0 : f 0 = I a) (h1 : f 1 = I b) : eqD (eInts2 v) (.arr 2 1 f) = (v 0 == a && v 1 == b) := by
  simp only [eInts2, eqD, allTo, h0, h1, Bool.true_and]
theorem same22 (u v : Nat → Int) : Same (eInts2 u) (eInts2 v) := ⟨rfl, rfl, fun _ _ => trivial⟩

set_option maxHeartbeats 8000000 in
set_option maxRecDepth 100000 in
theorem isNode_spec (s : Node) : Pure Try.prog 84 [.data (eNode s)] (.data (.bool (goodN s))) := by
  refine spec_of ttok Try.func84 rfl (by kernel_rfl) (by exact Nat.le_of_ble_eq_true rfl) fun hin hie c0 hc0 he => ?_
  have hn0 : c0.es.length ≤ 0 := Nat.le_of_eq (by rw [he]; rfl)
  have hlen : s.queue.length ≤ 9223372036854775807 := by
    have : InR (eNode s) := hin (.data (eNode s)) (by simp)
    cases this with
    | agg h =>
      have : InR (eQ s.queue) := h 10 (by omega)
      cases this with
      | list h _ => simpa [maxLen] using h
  refine R [] ?_
  refine R [.data (.bool (within s.height 0 4)), .data (.bool (within s.round 0 5)), .data (.bool (within s.step 0 2))] (ho := by exact ⟨within_spec _ _ _, fun _ => within_spec _ _ _, fun _ => within_spec _ _ _, trivial⟩) ?_
  refine W.seq (R [.is 38 (.data (eInts22 (pairV s)))] (ho := ?ob) ?_)
  case ob =>
    refine ⟨?_, trivial⟩
    with_unfolding_all refine congrArg AV.data (eInts22_of (v := pairV s) fun i => ?_)
    match i with
    | 0 =>
      with_unfolding_all refine (eInts2_of (a := s.bound) (b := s.boundIn) rfl rfl (fun _ => rfl)).trans (congrArg eInts2 (funext fun j => ?_))
      match j with
      | 0 => rfl
      | 1 => rfl
      | _ + 2 => rfl
    | 1 =>
      with_unfolding_all refine (eInts2_of (a := s.valid) (b := s.validIn) rfl rfl (fun _ => rfl)).trans (congrArg eInts2 (funext fun j => ?_))
      match j with
      | 0 => rfl
      | 1 => rfl
      | _ + 2 => rfl
    | i + 2 =>
      with_unfolding_all refine congrArg eInts2 (funext fun j => ?_)
      rfl
  refine W.block (W.loop hc0 (ι := Nat) (fun k => ⟨107, frOf [(1, .ptr 0 []), (3, .data (.bool (okJ s k))), (38, .data (eInts22 (pairV s))), (39, .data (I k))], [.var (eNode s) []]⟩) (fun k => k ≤ 2) (fun k => 2 - k) 0 (by omega) ?_ ?_)
  · refine Le.cut _ 1 (by omega) ⟨⟨by with_unfolding_all rfl, rfl⟩, ⟨sl_bool ?_, rfl⟩, ⟨by with_unfolding_all rfl, rfl⟩, ⟨by with_unfolding_all rfl, rfl⟩, trivial⟩ (by with_unfolding_all rfl)
    rw [bif_and, bif_and, bif_and]; rfl
  · intro k hk
    refine R [] ?_
    refine W.seq (C (fun h => ?_) (fun h => ?_))
    · have hk : k < 2 := by have := of_decide_eq_true h; omega
      refine W.skip (W.seq (W.block ?_))
      refine R [] (ho := by exact ⟨⟨by omega, by omega⟩, same22 _ _, trivial⟩) ?_
      refine R1 [.is 46 (.data (.bool (pairV s k 0 == 0 && pairV s k 1 == -1))), .data (.bool (within (pairV s k 0) 1 9)), .data (.bool (within (pairV s k 1) 0 s.round))] (ho := ?ob) ?_
      case ob =>
        refine ⟨fun _ => ?_, fun _ => ⟨by omega, by omega⟩, fun _ => within_spec _ _ _, fun _ => ⟨by omega, by omega⟩, fun _ => within_spec _ _ _, trivial⟩
        with_unfolding_all exact congrArg (fun b => AV.data (D.bool b)) (eqD2 (v := pairV s k) (a := 0) (b := -1) rfl rfl)
      refine R1 [] ?_
      refine ⟨k + 1, by omega, by omega, Le.cut _ 1 (by omega) ⟨⟨by with_unfolding_all rfl, rfl⟩, ⟨sl_bool ?_, rfl⟩, ⟨by with_unfolding_all rfl, rfl⟩, ⟨sl_int (wrap_up (by omega)), rfl⟩, trivial⟩ (by with_unfolding_all rfl)⟩
      simp only [okJ, okP, bif_and, bif_or]
    · have hk : k = 2 := by have := of_decide_eq_false h; omega
      subst hk
      clear h
      refine W.exit ?_
      refine W.seq (R [] ?_)
      refine W.block (W.loop hc0 (ι := Nat) (fun k => ⟨107, frOf [(1, .ptr 0 []), (3, .data (.bool (okJ s 2 && setK s k))), (61, .data (I k))], [.var (eNode s) []]⟩) (fun k => k ≤ 4) (fun k => 4 - k) 0 (by omega) ?_ ?_)
      · refine Le.cut _ 1 (by omega) ⟨⟨by with_unfolding_all rfl, rfl⟩, ⟨sl_bool (a := okJ s 2) ?_, rfl⟩, ⟨by with_unfolding_all rfl, rfl⟩, trivial⟩ (by with_unfolding_all rfl)
        simp only [setK, Bool.and_true]
      · intro k hk
        refine R [] ?_
        refine W.seq (C (fun h => ?_) (fun h => ?_))
        · have hk : k < 4 := by have := of_decide_eq_true h; omega
          refine W.skip (W.seq (W.block ?_))
          refine R [] ?_
          refine R [.data (.bool (goodS (s.heard k)))] (ho := by exact ⟨fun _ => ⟨by omega, by omega⟩, fun _ => isSheet_spec _, trivial⟩) ?_
          refine R [] ?_
          refine C (fun h => ?_) (fun h => ?_)
          · have hlt : (k : Int) < s.height := of_decide_eq_true h
            have hsb := setB_ref1 hlt
            refine R1 [.data (.bool (within (s.settled k) 1 9))] (ho := by exact ⟨fun _ => ⟨by omega, by omega⟩, fun _ => within_spec _ _ _, trivial⟩) ?_
            refine R1 [] ?_
            refine ⟨k + 1, by omega, by omega, Le.cut _ 1 (by omega) ⟨⟨by with_unfolding_all rfl, rfl⟩, ⟨sl_bool ?_, rfl⟩, ⟨sl_int (wrap_up (by omega)), rfl⟩, trivial⟩ (by with_unfolding_all rfl)⟩
            simp only [setK, bif_and, hsb, Bool.and_assoc]
          · have hlt : ¬ (k : Int) < s.height := of_decide_eq_false h
            have hsb := setB_ref2 hlt
            refine R1 [] (ho := by exact ⟨fun _ => ⟨by omega, by omega⟩, trivial⟩) ?_
            refine R1 [] ?_
            refine ⟨k + 1, by omega, by omega, Le.cut _ 1 (by omega) ⟨⟨by with_unfolding_all rfl, rfl⟩, ⟨sl_bool ?_, rfl⟩, ⟨sl_int (wrap_up (by omega)), rfl⟩, trivial⟩ (by with_unfolding_all rfl)⟩
            simp only [setK, bif_and, hsb, Bool.and_assoc]; rfl
        · have hk : k = 4 := by have := of_decide_eq_false h; omega
          subst hk
          clear h
          refine W.exit ?_
          refine W.seq (R [] ?_)
          refine W.block (W.loop hc0 (ι := Nat) (fun k => ⟨107, frOf [(1, .ptr 0 []), (3, .data (.bool (okJ s 2 && setK s 4 && allQ s.queue k))), (94, .data (eQ s.queue)), (95, .data (I ((s.queue.map I).length : Int))), (96, .data (I k))], [.var (eNode s) []]⟩) (fun k => k ≤ s.queue.length) (fun k => s.queue.length - k) 0 (by omega) ?_ ?_)
          · refine Le.cut _ 1 (by omega) ⟨⟨by with_unfolding_all rfl, rfl⟩, ⟨sl_bool (a := okJ s 2 && setK s 4) ?_, rfl⟩, ⟨by with_unfolding_all rfl, rfl⟩, ⟨by with_unfolding_all rfl, rfl⟩, ⟨by with_unfolding_all rfl, rfl⟩, trivial⟩ (by with_unfolding_all rfl)
            simp only [allQ, Bool.and_true]
          · intro k hk
            refine R [] ?_
            refine W.seq (C (fun h => ?_) (fun h => ?_))
            · have hk : k < s.queue.length := by have h : (k : Int) < (s.queue.map I).length := of_decide_eq_true h; rw [List.length_map] at h; omega
              have hki : (0 : Int) ≤ k ∧ (k : Int) < (s.queue.map I).length := ⟨by omega, by rw [List.length_map]; omega⟩
              refine W.skip (W.seq (W.block ?_))
              refine R [.is 98 (.cptr (I (s.queue.getD k 0)))] (ho := by exact ⟨cptr_q _ hk, hki, sizes_q _, trivial⟩) ?_
              refine R1 [.data (.bool (within (s.queue.getD k 0) 1 9))] (ho := by exact ⟨fun _ => within_spec _ _ _, trivial⟩) ?_
              refine R1 [] ?_
              refine ⟨k + 1, by omega, by omega, Le.cut _ 1 (by omega) ⟨⟨by with_unfolding_all rfl, rfl⟩, ⟨sl_bool ?_, rfl⟩, ⟨by with_unfolding_all rfl, rfl⟩, ⟨by with_unfolding_all rfl, rfl⟩, ⟨sl_int (wrap_up (by omega)), rfl⟩, trivial⟩ (by with_unfolding_all rfl)⟩
              simp only [allQ, bif_and, Bool.and_assoc]
            · have hk : k = s.queue.length := by have h : ¬ (k : Int) < (s.queue.map I).length := of_decide_eq_false h; rw [List.length_map] at h; omega
              subst hk
              refine W.exit ?_
              refine R [] ?_
              refine W.ret (EndB 0 hn0 ?_)
              rw [allQ_eq, okJ_eq]; rfl

/-! ### What is opened -/

theorem begin_within (who : Int) : (!within who 0 3) = (decide (who < 0) || decide (4 ≤ who)) := by
  rw [Bool.eq_iff_iff]
  simp only [within, Bool.not_eq_true', Bool.and_eq_false_iff, Bool.or_eq_true, decide_eq_true_eq, decide_eq_false_iff_not]
  omega

set_option maxRecDepth 100000 in
theorem opened_err (s : Node) (who : Int) (h : beginE s who ≠ 0) : Pure Try.prog 53 [.data (eNode s), .data (I who)] (.tuple [.nilptr, .data (I (beginE s who))]) := by
  refine spec_of ttok Try.func53 rfl (by kernel_rfl) (by exact Nat.le_of_ble_eq_true rfl) fun hin hie c0 hc0 he => ?_
  have hn0 : c0.es.length ≤ 0 := Nat.le_of_eq (by rw [he]; rfl)
  refine R [] ?_
  refine W.seq (R [.data (.bool (goodN s))] (ho := by exact ⟨isNode_spec s, trivial⟩) ?_)
  refine C (fun h1 => ?_) (fun h1 => ?_)
  · have h1 : goodN s = false := by
      have h1 : (!goodN s) = true := h1
      simpa using h1
    refine R [] ?_
    refine W.ret (End 0 hn0 ⟨?_, rfl⟩)
    rw [beginE_1 who h1]; rfl
  have h1 : goodN s = true := by
    have h1 : (!goodN s) = false := h1
    simpa using h1
  refine W.skip ?_
  refine W.seq (R [.data (.bool (within who 0 3))] (ho := by exact ⟨within_spec _ _ _, trivial⟩) ?_)
  refine C (fun h2 => ?_) (fun h2 => ?_)
  · have h2 : (decide (who < 0) || decide (4 ≤ who)) = true := by rw [← begin_within]; exact h2
    refine R [] ?_
    refine W.ret (End 0 hn0 ⟨?_, rfl⟩)
    rw [beginE_2 h1 h2]; rfl
  · have h2 : (decide (who < 0) || decide (4 ≤ who)) = false := by rw [← begin_within]; exact h2
    exact absurd (beginE_0 h1 h2) h

theorem run_opened (s : Node) (who : Int) : ((eRunnerN Node.zero).set [0] (eNode s)).set [1] (I who) = eRunnerD (eNode s) who .nil := by
  simp only [eRunnerN, eRunnerD, D.set, set_nil]
  exact runnerD rfl rfl rfl fun _ => rfl

set_option maxRecDepth 100000 in
theorem opened_ok (s : Node) (who : Int) (h : beginE s who = 0) : Fn Try.prog 53 [.data (eNode s), .data (I who)] [] (.tuple [.ptr 0 [], .data (I 0)]) (BE s who) := by
  have hb := beginE_ok h
  have hg := (goodN_iff s).2 hb.1
  have hql : s.queue.length ≤ 17592186044416 := by have := hb.1.len; omega
  refine spec_of ttok Try.func53 rfl (by kernel_rfl) (by exact Nat.le_of_ble_eq_true rfl) fun hin hie c0 hc0 he => ?_
  have hn0 : c0.es.length ≤ 0 := Nat.le_of_eq (by rw [he]; rfl)
  refine R [] ?_
  refine W.seq (R [.data (.bool (goodN s))] (ho := by exact ⟨isNode_spec s, trivial⟩) ?_)
  refine C (fun h1 => ?_) (fun h1 => ?_)
  · have h1 : (!goodN s) = true := h1
    rw [hg] at h1; cases h1
  refine W.skip ?_
  refine W.seq (R [.data (.bool (within who 0 3))] (ho := by exact ⟨within_spec _ _ _, trivial⟩) ?_)
  refine C (fun h2 => ?_) (fun h2 => ?_)
  · have h2 : (!within who 0 3) = true := h2
    rw [begin_within] at h2
    simp only [Bool.or_eq_true, decide_eq_true_eq] at h2
    omega
  refine W.skip ?_
  refine R [Hint.on [] [.row 1 (s.queue.map I)] (.rich (eNode s) [([10], 0)])] (ho := by exact ⟨copyNode_spec _ hql, trivial⟩) ?_
  refine W.ret (EndM [2, 1] (fun i hi => by omega) ⟨rfl, ?_⟩)
  with_unfolding_all exact congrArg (fun d => [Ent.var d [([0, 10], 1)], .row 1 (s.queue.map I)]) (run_opened s who)

set_option maxRecDepth 100000 in
theorem opened_ok' (s : Node) (who : Int) (h : beginE s who = 0) : Fn Try.prog 53 [.data (eNode s), .data (I who)] [] (.tuple [.ptr 0 [], .data (I 0)]) [.var (eRunnerD (eNode s) who .nil) []] := by
  have hb := beginE_ok h
  have hg := (goodN_iff s).2 hb.1
  have hql : s.queue.length ≤ 17592186044416 := by have := hb.1.len; omega
  refine spec_of ttok Try.func53 rfl (by kernel_rfl) (by exact Nat.le_of_ble_eq_true rfl) fun hin hie c0 hc0 he => ?_
  have hn0 : c0.es.length ≤ 0 := Nat.le_of_eq (by rw [he]; rfl)
  refine R [] ?_
  refine W.seq (R [.data (.bool (goodN s))] (ho := by exact ⟨isNode_spec s, trivial⟩) ?_)
  refine C (fun h1 => ?_) (fun h1 => ?_)
  · have h1 : (!goodN s) = true := h1
    rw [hg] at h1; cases h1
  refine W.skip ?_
  refine W.seq (R [.data (.bool (within who 0 3))] (ho := by exact ⟨within_spec _ _ _, trivial⟩) ?_)
  refine C (fun h2 => ?_) (fun h2 => ?_)
  · have h2 : (!within who 0 3) = true := h2
    rw [begin_within] at h2
    simp only [Bool.or_eq_true, decide_eq_true_eq] at h2
    omega
  refine W.skip ?_
  refine R [Hint.on [] [.row 1 (s.queue.map I)] (.rich (eNode s) [([10], 0)])] (ho := by exact ⟨copyNode_spec _ hql, trivial⟩) ?_
  refine W.ret (EndM [2] (fun i hi => by omega) ⟨rfl, ?_⟩)
  with_unfolding_all exact congrArg (fun d => [Ent.var d []]) (run_opened s who)

end Go.W
