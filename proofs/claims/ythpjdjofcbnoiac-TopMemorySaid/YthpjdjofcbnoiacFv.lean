/-
  Package node, walked: begin, Hear, Submit, Time.
-/
import Derived.Test.YthpjdjofcbnoiacFu
namespace Go.W
open Go.Proofs

theorem runnerD {f : Nat → D} {n o : D} {w : Int} (h0 : f 0 = n) (h1 : f 1 = I w) (h2 : f 2 = o) (h3 : ∀ i, f (i + 3) = .nil) : D.agg 3 f = eRunnerD n w o := by
  unfold eRunnerD
  congr 1
  funext i
  match i with
  | 0 => exact h0
  | 1 => exact h1
  | 2 => exact h2
  | i + 3 => exact h3 i
theorem beginE_1 {s : Node} (who : Int) (h : goodN s = false) : beginE s who = 1 := by unfold beginE; rw [h]; rfl
theorem beginE_2 {s : Node} {who : Int} (h : goodN s = true) (h2 : (decide (who < 0) || decide (4 ≤ who)) = true) : beginE s who = 2 := by
  unfold beginE
  simp only [Bool.or_eq_true, decide_eq_true_eq] at h2
  rw [if_pos h, if_pos h2]
theorem beginE_0 {s : Node} {who : Int} (h : goodN s = true) (h2 : (decide (who < 0) || decide (4 ≤ who)) = false) : beginE s who = 0 := by
  unfold beginE
  simp only [Bool.or_eq_false_iff, decide_eq_false_iff_not] at h2
  rw [if_pos h, if_neg (by omega)]

set_option maxRecDepth 100000 in
theorem begin_err (s : Node) (who : Int) (h : beginE s who ≠ 0) : Pure Try.prog 37 [.data (eNode s), .data (I who)] (.tuple [.nilptr, .data (I (beginE s who))]) := by
  refine spec_of ttok Try.func37 rfl (by kernel_rfl) (by exact Nat.le_of_ble_eq_true rfl) fun hin hie c0 hc0 he => ?_
  have hn0 : c0.es.length ≤ 0 := Nat.le_of_eq (by rw [he]; rfl)
  refine R [] ?_
  refine W.seq (R [.data (.bool (goodN s))] (ho := by exact ⟨goodN_spec s, trivial⟩) ?_)
  refine C (fun h1 => ?_) (fun h1 => ?_)
  · have h1 : goodN s = false := by
      have h1 : (!goodN s) = true := h1
      simpa using h1
    refine R [] ?_
    refine W.ret (End 0 hn0 ⟨?_, rfl⟩)
    rw [beginE_1 who h1]; rfl
  have h1 : goodN s = true := by
    have h1 : (!goodN s) = false := h1
    simpa using h1
  refine W.skip ?_
  refine W.seq (R [] ?_)
  refine C (fun h2 => ?_) (fun h2 => ?_)
  · have h2 : (decide (who < 0) || decide (4 ≤ who)) = true := by rw [bif_or] at h2; exact h2
    refine R [] ?_
    refine W.ret (End 0 hn0 ⟨?_, rfl⟩)
    rw [beginE_2 h1 h2]; rfl
  · have h2 : (decide (who < 0) || decide (4 ≤ who)) = false := by rw [bif_or] at h2; exact h2
    exact absurd (beginE_0 h1 h2) h

abbrev BE (s : Node) (who : Int) : List Ent := [.var (eRunnerD (eNode s) who .nil) [([0, 10], 1)], .row 1 (s.queue.map I)]

theorem run_begin (s : Node) (who : Int) : ((eRunnerN Node.zero).set [0] ((eNode s).set [10] (eQ s.queue))).set [1] (I who) = eRunnerD (eNode s) who .nil := by
  have h := node_set10 s s.queue
  rw [h]
  simp only [eRunnerN, eRunnerD, D.set, set_nil]
  exact runnerD rfl rfl rfl fun _ => rfl

set_option maxRecDepth 100000 in
theorem begin_ok (s : Node) (who : Int) (h : beginE s who = 0) : Fn Try.prog 37 [.data (eNode s), .data (I who)] [] (.tuple [.ptr 0 [], .data (I 0)]) (BE s who) := by
  have hb := beginE_ok h
  have hg := (goodN_iff s).2 hb.1
  have hql : s.queue.length ≤ 1000000 := by have := hb.1.len; omega
  refine spec_of ttok Try.func37 rfl (by kernel_rfl) (by exact Nat.le_of_ble_eq_true rfl) fun hin hie c0 hc0 he => ?_
  have hn0 : c0.es.length ≤ 0 := Nat.le_of_eq (by rw [he]; rfl)
  refine R [] ?_
  refine W.seq (R [.data (.bool (goodN s))] (ho := by exact ⟨goodN_spec s, trivial⟩) ?_)
  refine C (fun h1 => ?_) (fun h1 => ?_)
  · have h1 : (!goodN s) = true := h1
    rw [hg] at h1; cases h1
  refine W.skip ?_
  refine W.seq (R [] ?_)
  refine C (fun h2 => ?_) (fun h2 => ?_)
  · rw [bif_or] at h2
    simp only [Bool.or_eq_true, decide_eq_true_eq] at h2
    omega
  refine W.skip ?_
  refine R [Hint.on [] [.row 1 (s.queue.map I)] (.row 0 (s.queue.map I))] (ho := by exact ⟨cloneInts_row _ hql, trivial⟩) ?_
  refine R [] ?_
  refine W.ret (EndM [2, 1] (fun i hi => by omega) ⟨rfl, ?_⟩)
  with_unfolding_all exact congrArg (fun d => [Ent.var d [([0, 10], 1)], .row 1 (s.queue.map I)]) (run_begin s who)

set_option maxRecDepth 100000 in
theorem begin_ok' (s : Node) (who : Int) (h : beginE s who = 0) : Fn Try.prog 37 [.data (eNode s), .data (I who)] [] (.tuple [.ptr 0 [], .data (I 0)]) [.var (eRunnerD (eNode s) who .nil) []] := by
  have hb := beginE_ok h
  have hg := (goodN_iff s).2 hb.1
  have hql : s.queue.length ≤ 1000000 := by have := hb.1.len; omega
  refine spec_of ttok Try.func37 rfl (by kernel_rfl) (by exact Nat.le_of_ble_eq_true rfl) fun hin hie c0 hc0 he => ?_
  have hn0 : c0.es.length ≤ 0 := Nat.le_of_eq (by rw [he]; rfl)
  refine R [] ?_
  refine W.seq (R [.data (.bool (goodN s))] (ho := by exact ⟨goodN_spec s, trivial⟩) ?_)
  refine C (fun h1 => ?_) (fun h1 => ?_)
  · have h1 : (!goodN s) = true := h1
    rw [hg] at h1; cases h1
  refine W.skip ?_
  refine W.seq (R [] ?_)
  refine C (fun h2 => ?_) (fun h2 => ?_)
  · rw [bif_or] at h2
    simp only [Bool.or_eq_true, decide_eq_true_eq] at h2
    omega
  refine W.skip ?_
  refine R [Hint.on [] [.row 1 (s.queue.map I)] (.row 0 (s.queue.map I))] (ho := by exact ⟨cloneInts_row _ hql, trivial⟩) ?_
  refine R [] ?_
  refine W.ret (EndM [2] (fun i hi => by omega) ⟨rfl, ?_⟩)
  with_unfolding_all exact congrArg (fun d => [Ent.var d []]) (run_begin s who)

def turnAV (t : Turn) : AV := .tuple [.data (eNode t.s), .data (eWords t.out), .data (I t.err)]

theorem run_hear (s : Node) (who : Int) (w : Word) : (eRunnerD (eNode s) who .nil).set [0, 8, w.height.toNat] (eSheet (hearS (s.heard w.height.toNat) w)) = eRunnerD (eNode (hearN s w)) who .nil := by
  rw [runner_set0, node_set8 (sheets_set' _ _ _)]; rfl
theorem run_out (s : Node) (who : Int) : (eRunnerD (eNode s) who .nil).set [2] (.list []) = eRun ⟨s, who, []⟩ := by
  rw [runner_set2]; rfl

theorem hearT_1 {s : Node} {who : Int} {w : Word} (h : beginE s who ≠ 0) : hearT s who w = ⟨s, [], beginE s who⟩ := by unfold hearT; rw [if_pos h]
theorem hearT_2 {s : Node} {who : Int} {w : Word} (h : beginE s who = 0) (h2 : goodW w ≠ 0) : hearT s who w = ⟨s, [], goodW w⟩ := by unfold hearT; rw [if_neg (by omega), if_pos h2]
theorem hearT_3 {s : Node} {who : Int} {w : Word} (h : beginE s who = 0) (h2 : goodW w = 0) : hearT s who w = ⟨(flowR ⟨hearN s w, who, []⟩).s, (flowR ⟨hearN s w, who, []⟩).out, 0⟩ := by unfold hearT; rw [if_neg (by omega), if_neg (by omega)]
theorem meas_bd {s : Node} (h : GoodN s) : meas s ≤ 1000 := by
  have h1 := h.height
  have h2 := h.round
  have h3 := h.step
  have := meas_le s
  omega

set_option maxHeartbeats 4000000 in
set_option maxRecDepth 100000 in
theorem hearT_spec (s : Node) (who : Int) (w : Word) : Pure Try.prog 32 [.data (eNode s), .data (I who), .data (eWord w)] (turnAV (hearT s who w)) := by
  refine spec_of ttok Try.func32 rfl (by kernel_rfl) (by exact Nat.le_of_ble_eq_true rfl) fun hin hie c0 hc0 he => ?_
  have hn0 : c0.es.length ≤ 0 := Nat.le_of_eq (by rw [he]; rfl)
  refine R [] ?_
  by_cases hb : beginE s who = 0
  case neg =>
    refine R [.tuple [.nilptr, .data (I (beginE s who))]] (ho := by exact ⟨begin_err s who hb, trivial⟩) ?_
    refine W.seq (R [] ?_)
    refine C (fun h => ?_) (fun h => ?_)
    · refine R [] (ho := by exact ⟨sameNz _ _, trivial⟩) ?_
      refine W.le hc0 (Le.slotRow 7 6 (by with_unfolding_all rfl)) ?_
      refine W.ret (End 0 hn0 ⟨?_, rfl⟩)
      rw [hearT_1 hb]; rfl
    · have h : (!(beginE s who == 0)) = false := h
      simp at h; omega
  refine R [Hint.on [] (BE s who) (.tuple [.ptr 0 [], .data (I 0)])] (ho := by exact ⟨begin_ok s who hb, trivial⟩) ?_
  refine W.seq (R [] ?_)
  refine C (fun h => ?_) (fun h => ?_)
  · cases h
  refine W.skip ?_
  refine W.seq (R [.data (I (goodW w))] (ho := by exact ⟨good_spec w, trivial⟩) ?_)
  refine R [] ?_
  refine C (fun h => ?_) (fun h => ?_)
  · have h2 : goodW w ≠ 0 := by
      have h : (!(goodW w == 0)) = true := h
      simpa using h
    refine R [] (ho := by exact ⟨sameNz _ _, trivial⟩) ?_
    refine W.le hc0 (Le.slotRow 7 6 (by with_unfolding_all rfl)) ?_
    refine W.ret (End 0 hn0 ⟨?_, rfl⟩)
    rw [hearT_2 hb h2]; rfl
  have h2 : goodW w = 0 := by
    have h : (!(goodW w == 0)) = false := h
    simpa using h
  have hw := ((goodW_iff w).1 h2).height
  have hgs := (beginE_ok hb).1
  have hg : GoodR ⟨hearN s w, who, []⟩ := ⟨hgs.hear w, (beginE_ok hb).2⟩
  refine W.skip ?_
  refine RD [.data (eSheet (hearS (s.heard w.height.toNat) w))] (ho := by exact ⟨hw, hear_spec _ _, hw, sameSS _ _, trivial⟩) ?_
  refine W.ents (es' := [.var (eNode s) [], .var (eWord w) [], .var (eNodeN Node.zero) [], .var (eRunnerD (eNode (hearN s w)) who .nil) [([0, 10], 4)], .row 1 (s.queue.map I)]) ?_ ?_
  · with_unfolding_all exact congrArg (fun d => [Ent.var (eNode s) [], .var (eWord w) [], .var (eNodeN Node.zero) [], .var d [([0, 10], 4)], .row 1 (s.queue.map I)]) (run_hear s who w)
  refine W.le hc0 (Le.nilRow 3 [2] 6 (d := eRunnerD (eNode (hearN s w)) who .nil) (tok := [([0, 10], 4)]) (by with_unfolding_all rfl) ⟨by omega, trivial⟩ rfl) ?_
  refine W.ents (es' := [.var (eNode s) [], .var (eWord w) [], .var (eNodeN Node.zero) [], .var (eRun ⟨hearN s w, who, []⟩) [([2], 5), ([0, 10], 4)], .row 1 (s.queue.map I), .row 6 []]) ?_ ?_
  · with_unfolding_all exact congrArg (fun d => [Ent.var (eNode s) [], .var (eWord w) [], .var (eNodeN Node.zero) [], .var d [([2], 5), ([0, 10], 4)], .row 1 (s.queue.map I), .row 6 []]) (run_out (hearN s w) who)
  have hf := flow_spec ⟨hearN s w, who, []⟩ hg (by have : meas (hearN s w) ≤ 1000 := meas_bd hg.s; simp only [List.length_nil]; omega)
  have hO := hearT_3 (who := who) hb h2
  generalize flowR ⟨hearN s w, who, []⟩ = y at hf hO
  obtain ⟨sy, wy, oy⟩ := y
  refine R [Hint.on [3, 5] (RE ⟨sy, wy, oy⟩) (.tuple [])] (ho := by exact ⟨hf, trivial⟩) ?_
  refine RF [] 6 [(6, .rd (some 3)), (7, .rd (some 3)), (8, .wr 2)] (ho := by exact ⟨sameNz _ _, trivial⟩) ?_
  refine W.ret (End 0 hn0 ⟨?_, rfl⟩)
  rw [hO]; rfl

theorem submitT_1 {s : Node} {who v : Int} (h : beginE s who ≠ 0) : submitT s who v = ⟨s, [], beginE s who⟩ := by unfold submitT; rw [if_pos h]
theorem submitT_2 {s : Node} {who v : Int} (h : beginE s who = 0) (h2 : (decide (v < 1) || decide (9 < v)) = true) : submitT s who v = ⟨s, [], 2⟩ := by
  simp only [Bool.or_eq_true, decide_eq_true_eq] at h2
  unfold submitT; rw [if_neg (by omega), if_pos h2]
theorem submitT_3 {s : Node} {who v : Int} (h : beginE s who = 0) (h2 : (decide (v < 1) || decide (9 < v)) = false) (h3 : 6 ≤ s.queue.length) : submitT s who v = ⟨s, [], 5⟩ := by
  simp only [Bool.or_eq_false_iff, decide_eq_false_iff_not] at h2
  unfold submitT; rw [if_neg (by omega), if_neg (by omega), if_pos h3]
theorem submitT_4 {s : Node} {who v : Int} (h : beginE s who = 0) (h2 : (decide (v < 1) || decide (9 < v)) = false) (h3 : ¬ 6 ≤ s.queue.length) : submitT s who v = ⟨(submitR s who v).s, (submitR s who v).out, 0⟩ := by
  simp only [Bool.or_eq_false_iff, decide_eq_false_iff_not] at h2
  unfold submitT; rw [if_neg (by omega), if_neg (by omega), if_neg h3]

abbrev pushQ (s : Node) (v : Int) : Node := { s with queue := s.queue ++ [v] }
theorem run_push (s : Node) (who v : Int) : (eRunnerD (eNode s) who .nil).set [0, 10] (eQ (s.queue ++ [v])) = eRunnerD (eNode (pushQ s v)) who .nil := by
  rw [runner_set0, node_set10]
theorem sizes_q1 (q : List Int) (v : Int) : ∀ d ∈ q.map I ++ [I v], d.size = 1 := by
  intro d hd
  rcases List.mem_append.1 hd with h | h
  · exact sizes_q q d h
  · rw [List.mem_singleton.1 h]; rfl
theorem fits_q (q : List Int) (v : Int) (h : q.length ≤ 1000) : (q.map I ++ [I v]).length ≤ maxLen ∧ (q.map I ++ [I v]).length * 8 ≤ 140737488355328 := by
  rw [List.length_append, List.length_map]
  unfold maxLen
  simp only [List.length_cons, List.length_nil]
  omega

set_option maxHeartbeats 4000000 in
set_option maxRecDepth 100000 in
theorem submitT_spec (s : Node) (who v : Int) : Pure Try.prog 26 [.data (eNode s), .data (I who), .data (I v)] (turnAV (submitT s who v)) := by
  refine spec_of ttok Try.func26 rfl (by kernel_rfl) (by exact Nat.le_of_ble_eq_true rfl) fun hin hie c0 hc0 he => ?_
  have hn0 : c0.es.length ≤ 0 := Nat.le_of_eq (by rw [he]; rfl)
  refine R [] ?_
  by_cases hb : beginE s who = 0
  case neg =>
    refine R [.tuple [.nilptr, .data (I (beginE s who))]] (ho := by exact ⟨begin_err s who hb, trivial⟩) ?_
    refine W.seq (W.block (R [] ?_))
    refine C (fun h => ?_) (fun h => ?_)
    · refine R [] (ho := by exact ⟨sameNz _ _, trivial⟩) ?_
      refine W.le hc0 (Le.slotRow 7 6 (by with_unfolding_all rfl)) ?_
      refine W.ret (End 0 hn0 ⟨?_, rfl⟩)
      rw [submitT_1 hb]; rfl
    · have h : (!(beginE s who == 0)) = false := h
      simp at h; omega
  have hgs := (beginE_ok hb).1
  have hids := (beginE_ok hb).2
  refine R [Hint.on [] (BE s who) (.tuple [.ptr 0 [], .data (I 0)])] (ho := by exact ⟨begin_ok s who hb, trivial⟩) ?_
  refine W.seq (W.block (R [] ?_))
  refine C (fun h => ?_) (fun h => ?_)
  · cases h
  refine R [] ?_
  refine C (fun h => ?_) (fun h => ?_)
  · have h2 : (decide (v < 1) || decide (9 < v)) = true := by rw [bif_or] at h; exact h
    refine R [] (ho := by exact ⟨sameNz _ _, trivial⟩) ?_
    refine W.le hc0 (Le.slotRow 7 6 (by with_unfolding_all rfl)) ?_
    refine W.ret (End 0 hn0 ⟨?_, rfl⟩)
    rw [submitT_2 hb h2]; rfl
  have h2 : (decide (v < 1) || decide (9 < v)) = false := by rw [bif_or] at h; exact h
  clear h
  refine R [] ?_
  refine C (fun h => ?_) (fun h => ?_)
  · have h3 : 6 ≤ s.queue.length := by
      have h' : (6 : Int) ≤ (s.queue.map I).length := of_decide_eq_true h
      rw [List.length_map] at h'
      omega
    refine R [] (ho := by exact ⟨sameNz _ _, trivial⟩) ?_
    refine W.le hc0 (Le.slotRow 7 6 (by with_unfolding_all rfl)) ?_
    refine W.ret (End 0 hn0 ⟨?_, rfl⟩)
    rw [submitT_3 hb h2 h3]; rfl
  have h3 : ¬ 6 ≤ s.queue.length := by
    have h' : ¬ (6 : Int) ≤ (s.queue.map I).length := of_decide_eq_false h
    rw [List.length_map] at h'
    omega
  clear h
  have hO := submitT_4 hb h2 h3
  have hv : 1 ≤ v ∧ v ≤ 9 := by
    simp only [Bool.or_eq_false_iff, decide_eq_false_iff_not] at h2
    omega
  have hgx : GoodR ⟨pushQ s v, who, []⟩ := ⟨hgs.push hv.1 hv.2 (by omega), hids⟩
  refine W.skip ?_
  refine R [] (ho := by exact ⟨rfl, sizes_q1 _ _, fits_q _ _ (by omega), trivial⟩) ?_
  refine W.ents (es' := [.var (eNode s) [], .var (eNodeN Node.zero) [], .var (eRunnerD (eNode (pushQ s v)) who .nil) [([0, 10], 3)], .row 1 ((s.queue ++ [v]).map I)]) ?_ ?_
  · have := run_push s who v
    unfold eQ at this
    rw [List.map_append] at this ⊢
    with_unfolding_all exact congrArg (fun d => [Ent.var (eNode s) [], .var (eNodeN Node.zero) [], .var d [([0, 10], 3)], .row 1 (s.queue.map I ++ [I v])]) this
  refine W.le hc0 (Le.nilRow 2 [2] 6 (d := eRunnerD (eNode (pushQ s v)) who .nil) (tok := [([0, 10], 3)]) (by with_unfolding_all rfl) ⟨by omega, trivial⟩ rfl) ?_
  refine W.ents (es' := [.var (eNode s) [], .var (eNodeN Node.zero) [], .var (eRun ⟨pushQ s v, who, []⟩) [([2], 4), ([0, 10], 3)], .row 1 ((s.queue ++ [v]).map I), .row 6 []]) ?_ ?_
  · with_unfolding_all exact congrArg (fun d => [Ent.var (eNode s) [], .var (eNodeN Node.zero) [], .var d [([2], 4), ([0, 10], 3)], .row 1 ((s.queue ++ [v]).map I), .row 6 []]) (run_out (pushQ s v) who)
  refine W.seq (R [] ?_)
  refine C (fun h => ?_) (fun h => ?_)
  · have h4 : s.height < 4 ∧ s.step = 0 := by rw [bif_and] at h; simpa using h
    have hr := hgs.round
    have hss := start_spec ⟨pushQ s v, who, []⟩ s.round ⟨hgs.height.1, h4.1⟩ hr (by simp)
    have hgy : GoodR (startR ⟨pushQ s v, who, []⟩ s.round) := hgx.start (Int.le_refl _) hr.2
    have hf := flow_spec (startR ⟨pushQ s v, who, []⟩ s.round) hgy (by have := meas_bd hgy.s; have := startR_len ⟨pushQ s v, who, []⟩ s.round; simp only [List.length_nil] at this; omega)
    have hy : submitR s who v = flowR (startR ⟨pushQ s v, who, []⟩ s.round) := by unfold submitR; simp only []; rw [if_pos h4]
    rw [hy] at hO
    generalize flowR (startR ⟨pushQ s v, who, []⟩ s.round) = y at hf hO
    generalize startR ⟨pushQ s v, who, []⟩ s.round = x at hf hss
    obtain ⟨sy, wy, oy⟩ := y
    obtain ⟨sx, wx, ox⟩ := x
    refine R [Hint.on [2, 4] (RE ⟨sx, wx, ox⟩) (.tuple [])] (ho := by exact ⟨hss, trivial⟩) ?_
    refine R1 [Hint.on [2, 4] (RE ⟨sy, wy, oy⟩) (.tuple [])] (ho := by exact ⟨hf, trivial⟩) ?_
    refine RF [] 5 [(6, .rd (some 2)), (7, .rd (some 2)), (8, .wr 1)] (ho := by exact ⟨sameNz _ _, trivial⟩) ?_
    refine W.ret (End 0 hn0 ⟨?_, rfl⟩)
    rw [hO]; rfl
  · have h4 : ¬ (s.height < 4 ∧ s.step = 0) := by
      rintro ⟨a, b⟩
      rw [bif_and] at h
      simp [a, b] at h
    have hy : submitR s who v = ⟨pushQ s v, who, []⟩ := by unfold submitR; simp only []; rw [if_neg h4]
    rw [hy] at hO
    refine W.skip ?_
    refine W.le hc0 (Le.cut [(6, .ptr 1 []), (9, .ptr 2 [])] 3 (by omega) (es' := [.var (eNode s) [], .var (eNodeN Node.zero) [], .var (eRun ⟨pushQ s v, who, []⟩) []]) ⟨⟨by with_unfolding_all rfl, rfl⟩, ⟨by with_unfolding_all rfl, rfl⟩, trivial⟩ (by with_unfolding_all rfl)) ?_
    refine RF [] 3 [(6, .rd (some 2)), (7, .rd (some 2)), (8, .wr 1)] (ho := by exact ⟨sameNz _ _, trivial⟩) ?_
    refine W.ret (End 0 hn0 ⟨?_, rfl⟩)
    rw [hO]; rfl

end Go.W
