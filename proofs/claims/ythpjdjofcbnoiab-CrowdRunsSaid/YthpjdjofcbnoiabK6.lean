/-
  Texts for the law CrowdRuns: Gm Gl Gk.
-/
import Derived.Test.YthpjdjofcbnoiabK7

/-
  Nodes: what the laws ask besides (package yokefellowlaw, the reference).
-/
namespace Go.W
open Go.Proofs

theorem eqDr_votes (v : Nat → Int) : eqD (eVotes v) (eVotes v) = true := allTo_spec.2 fun _ _ => beq_self_eq_true _
theorem eqDr_votes6 (v : Nat → Nat → Int) : eqD (eVotes6 v) (eVotes6 v) = true := allTo_spec.2 fun _ _ => eqDr_votes _
theorem eqDr_call (c : Call) : eqD (eCall c) (eCall c) = true := allTo_spec.2 fun i hi => by
  match i, hi with
  | 0, _ => exact beq_self_eq_true _
  | 1, _ => exact beq_self_eq_true _
  | 2, _ => exact beq_self_eq_true _
theorem eqDr_calls (c : Nat → Call) : eqD (eCalls c) (eCalls c) = true := allTo_spec.2 fun _ _ => eqDr_call _
theorem eqDr_sheet (s : Sheet) : eqD (eSheet s) (eSheet s) = true := allTo_spec.2 fun i hi => by
  match i, hi with
  | 0, _ => exact eqDr_calls _
  | 1, _ => exact eqDr_votes6 _
  | 2, _ => exact eqDr_votes6 _
theorem eqDr_sheets (s : Nat → Sheet) : eqD (eSheets s) (eSheets s) = true := allTo_spec.2 fun _ _ => eqDr_sheet _
theorem eqDr_bools (s : Nat → Bool) : eqD (eBools6 s) (eBools6 s) = true := allTo_spec.2 fun _ _ => beq_self_eq_true _
theorem eqDr_word (w : Word) : eqD (eWord w) (eWord w) = true := allTo_spec.2 fun i hi => by
  match i, hi with
  | 0, _ => exact beq_self_eq_true _
  | 1, _ => exact beq_self_eq_true _
  | 2, _ => exact beq_self_eq_true _
  | 3, _ => exact beq_self_eq_true _
  | 4, _ => exact beq_self_eq_true _
  | 5, _ => exact beq_self_eq_true _
theorem bifr2 {a b : Bool} (h1 : a = true) (h2 : b = true) : (bif a then b else false) = true := by subst h1; exact h2
theorem beqr (a : Int) : (a == a) = true := beq_self_eq_true a
theorem cptr_wordsR (l : List Word) {k : Nat} (h : k < l.length) : AV.cptr ((l.map eWord).getD k default) = .cptr (eWord (l.getD k Word.zero)) := by
  simp [List.getElem?_eq_getElem h]

theorem nodes_factL : ∃ s w0 w1, submitT newN 0 7 = ⟨s, [w0, w1], 0⟩ ∧ s.step = 1 ∧ w0.kind = 1 ∧ w1.kind = 2 ∧ w1.value = 7 := by
  have h1 : (submitT newN 0 7).err = 0 := by decide +kernel
  have h2 : (submitT newN 0 7).s.step = 1 := by decide +kernel
  have h3 : (submitT newN 0 7).out.map (fun w => (w.kind, w.value)) = [(1, 7), (2, 7)] := by decide +kernel
  generalize submitT newN 0 7 = t at h1 h2 h3
  obtain ⟨s, out, e⟩ := t
  simp only at h1 h2 h3
  subst h1
  have hl : out.length = 2 := by have := congrArg List.length h3; simpa using this
  match out, hl, h3 with
  | [w0, w1], _, h3 =>
    simp only [List.map_cons, List.map_nil, List.cons.injEq, Prod.mk.injEq, and_true] at h3
    exact ⟨s, w0, w1, rfl, h2, h3.1.1, h3.2.1, h3.2.2⟩

set_option maxHeartbeats 4000000 in
set_option maxRecDepth 100000 in
theorem nodes_law : Pure Try.prog 25 [] (.data (.bool true)) := by
  refine spec_of ttok Try.func25 rfl (by kernel_rfl) (by exact Nat.le_of_ble_eq_true rfl) fun hin hie c0 hc0 he => ?_
  have hn0 : c0.es.length ≤ 0 := Nat.le_of_eq (by rw [he]; rfl)
  obtain ⟨s, w0, w1, ht, h1, h2, h3, h4⟩ := nodes_factL
  have hs := submitT_spec newN 0 7
  rw [ht] at hs
  refine R [] ?_
  refine R [.data (eNode newN), .tuple [.data (eNode s), .data (.list [eWord w0, eWord w1]), .data (I 0)]] (ho := by exact ⟨new_spec, hs, sameNz _ _, trivial⟩) ?_
  refine R [] (ho := by exact ⟨fun _ => ⟨by omega, by simp⟩, fun _ => sizes_words [w0, w1], fun _ => ⟨by omega, by simp⟩, fun _ => sizes_words [w0, w1], fun _ => ⟨by omega, by simp⟩, fun _ => sizes_words [w0, w1], trivial⟩) ?_
  refine W.ret (EndB 0 hn0 ?_)
  rw [h1, h2, h3, h4]; rfl

set_option maxHeartbeats 4000000 in
set_option maxRecDepth 100000 in
theorem sameNode_spec (a : Node) : Pure Try.prog 23 [.data (eNode a), .data (eNode a)] (.data (.bool true)) := by
  refine spec_of ttok Try.func23 rfl (by kernel_rfl) (by exact Nat.le_of_ble_eq_true rfl) fun hin hie c0 hc0 he => ?_
  have hn0 : c0.es.length ≤ 0 := Nat.le_of_eq (by rw [he]; rfl)
  have hlen : a.queue.length ≤ 9223372036854775807 := by
    have : InR (eNode a) := hin (.data (eNode a)) (by simp)
    cases this with
    | agg h =>
      have : InR (eQ a.queue) := h 10 (by omega)
      cases this with
      | list h _ => simpa [maxLen] using h
  refine R [] ?_
  refine W.seq (R [] ?_)
  refine C (fun h => ?_) (fun h => ?_)
  · have h : (!(((a.queue.map I).length : Int) == ((a.queue.map I).length : Int))) = true := h
    rw [beqr] at h; cases h
  refine W.skip ?_
  refine W.seq (R [] ?_)
  refine W.block (W.loop hc0 (ι := Nat) (fun k => ⟨99, frOf [(2, .ptr 0 []), (3, .ptr 1 []), (15, .data (I ((a.queue.map I).length : Int))), (16, .data (I k))], [.var (eNode a) [], .var (eNode a) []]⟩) (fun k => k ≤ a.queue.length) (fun k => a.queue.length - k) 0 (by omega) ?_ ?_)
  · exact Le.cut _ 2 (by omega) ⟨⟨by with_unfolding_all rfl, rfl⟩, ⟨by with_unfolding_all rfl, rfl⟩, ⟨by with_unfolding_all rfl, rfl⟩, ⟨by with_unfolding_all rfl, rfl⟩, trivial⟩ (by with_unfolding_all rfl)
  · intro k hk
    refine R [] ?_
    refine W.seq (C (fun h => ?_) (fun h => ?_))
    · have hk : k < a.queue.length := by have h : (k : Int) < (a.queue.map I).length := of_decide_eq_true h; rw [List.length_map] at h; omega
      have hki : (0 : Int) ≤ k ∧ (k : Int) < (a.queue.map I).length := ⟨by omega, by rw [List.length_map]; omega⟩
      refine W.skip (W.seq (W.block ?_))
      refine R [] ?_
      refine RD [.is 22 (.cptr (I (a.queue.getD k 0))), .is 27 (.cptr (I (a.queue.getD k 0)))] (ho := by exact ⟨cptr_q _ hk, hki, sizes_q _, cptr_q _ hk, hki, sizes_q _, trivial⟩) ?_
      refine C (fun h => ?_) (fun h => ?_)
      · have h : (!(a.queue.getD k 0 == a.queue.getD k 0)) = true := h
        rw [beqr] at h; cases h
      refine W.skip ?_
      refine R1 [] ?_
      exact ⟨k + 1, by omega, by omega, Le.cut _ 2 (by omega) ⟨⟨by with_unfolding_all rfl, rfl⟩, ⟨by with_unfolding_all rfl, rfl⟩, ⟨by with_unfolding_all rfl, rfl⟩, ⟨sl_int (wrap_up (by omega)), rfl⟩, trivial⟩ (by with_unfolding_all rfl)⟩
    · refine W.exit ?_
      refine R [] ?_
      refine W.ret (EndB 0 hn0 ?_)
      exact bifr2 (bifr2 (bifr2 (bifr2 (bifr2 (bifr2 (bifr2 (bifr2 (bifr2 (beqr _) (beqr _)) (beqr _)) (beqr _)) (beqr _)) (beqr _)) (beqr _)) (eqDr_bools _)) (eqDr_sheets _)) (eqDr_votes _)

set_option maxHeartbeats 4000000 in
set_option maxRecDepth 100000 in
theorem sameWords_spec (l : List Word) : Pure Try.prog 24 [.data (eWords l), .data (eWords l)] (.data (.bool true)) := by
  refine spec_of ttok Try.func24 rfl (by kernel_rfl) (by exact Nat.le_of_ble_eq_true rfl) fun hin hie c0 hc0 he => ?_
  have hn0 : c0.es.length ≤ 0 := Nat.le_of_eq (by rw [he]; rfl)
  have hlen : l.length ≤ 9223372036854775807 := by
    have : InR (eWords l) := hin (.data (eWords l)) (by simp)
    cases this with
    | list h _ => simpa [maxLen] using h
  refine R [] ?_
  refine W.seq (R [] ?_)
  refine C (fun h => ?_) (fun h => ?_)
  · have h : (!(((l.map eWord).length : Int) == ((l.map eWord).length : Int))) = true := h
    rw [beqr] at h; cases h
  refine W.skip ?_
  refine W.seq (R [] ?_)
  refine W.block (W.loop hc0 (ι := Nat) (fun k => ⟨26, frOf [(0, .data (eWords l)), (1, .data (eWords l)), (12, .data (I ((l.map eWord).length : Int))), (13, .data (I k))], []⟩) (fun k => k ≤ l.length) (fun k => l.length - k) 0 (by omega) ?_ ?_)
  · exact Le.cut _ 0 hn0 ⟨⟨by with_unfolding_all rfl, rfl⟩, ⟨by with_unfolding_all rfl, rfl⟩, ⟨by with_unfolding_all rfl, rfl⟩, ⟨by with_unfolding_all rfl, rfl⟩, trivial⟩ rfl
  · intro k hk
    refine R [] ?_
    refine W.seq (C (fun h => ?_) (fun h => ?_))
    · have hk : k < l.length := by have h : (k : Int) < (l.map eWord).length := of_decide_eq_true h; rw [List.length_map] at h; omega
      have hki : (0 : Int) ≤ k ∧ (k : Int) < (l.map eWord).length := ⟨by omega, by rw [List.length_map]; omega⟩
      refine W.skip (W.seq (W.block ?_))
      refine R [] ?_
      refine RD [.is 18 (.cptr (eWord (l.getD k Word.zero))), .is 22 (.cptr (eWord (l.getD k Word.zero)))] (ho := by exact ⟨cptr_wordsR _ hk, hki, sizes_words _, cptr_wordsR _ hk, hki, sizes_words _, trivial⟩) ?_
      refine C (fun h => ?_) (fun h => ?_)
      · have h : (!(eqD (eWord (l.getD k Word.zero)) (eWord (l.getD k Word.zero)))) = true := h
        rw [eqDr_word] at h; cases h
      refine W.skip ?_
      refine R1 [] ?_
      exact ⟨k + 1, by omega, by omega, Le.cut _ 0 hn0 ⟨⟨by with_unfolding_all rfl, rfl⟩, ⟨by with_unfolding_all rfl, rfl⟩, ⟨by with_unfolding_all rfl, rfl⟩, ⟨sl_int (wrap_up (by omega)), rfl⟩, trivial⟩ rfl⟩
    · refine W.exit ?_
      refine R [] ?_
      exact W.ret (EndB 0 hn0 rfl)

end Go.W

/-
  The reference's Submit and Time, walked; the law NodeTurns.
-/
namespace Go.W
open Go.Proofs

theorem submit_within (v : Int) : (!within v 1 9) = (decide (v < 1) || decide (9 < v)) := by
  rw [Bool.eq_iff_iff]
  simp only [within, Bool.not_eq_true', Bool.and_eq_false_iff, Bool.or_eq_true, decide_eq_true_eq, decide_eq_false_iff_not]
  omega

set_option maxHeartbeats 8000000 in
set_option maxRecDepth 100000 in
theorem submitValue_spec (s : Node) (who v : Int) : Pure Try.prog 20 [.data (eNode s), .data (I who), .data (I v)] (turnAV (submitT s who v)) := by
  refine spec_of ttok Try.func20 rfl (by kernel_rfl) (by exact Nat.le_of_ble_eq_true rfl) fun hin hie c0 hc0 he => ?_
  have hn0 : c0.es.length ≤ 0 := Nat.le_of_eq (by rw [he]; rfl)
  refine R [] ?_
  by_cases hb : beginE s who = 0
  case neg =>
    have hbb : (beginE s who == 0) = false := by simpa using hb
    refine R [.tuple [.nilptr, .data (I (beginE s who))]] (ho := by exact ⟨opened_err s who hb, trivial⟩) ?_
    refine W.seq (R [.data (.bool (within v 1 9))] (ho := by exact ⟨fun _ => within_spec _ _ _, trivial⟩) ?_)
    refine C (fun h => ?_) (fun h => ?_)
    · have h : (bif beginE s who == 0 then !within v 1 9 else false) = true := h
      rw [hbb] at h; cases h
    refine W.skip ?_
    refine W.seq (R [] ?_)
    refine C (fun h => ?_) (fun h => ?_)
    · have h : (bif beginE s who == 0 then ((s.queue.map I).length : Int) == 6 else false) = true := h
      rw [hbb] at h; cases h
    refine W.skip ?_
    refine W.seq (R [] ?_)
    refine C (fun h => ?_) (fun h => ?_)
    · refine R [] (ho := by exact ⟨sameNz _ _, trivial⟩) ?_
      refine W.le hc0 (Le.slotRow 7 6 (by with_unfolding_all rfl)) ?_
      refine W.ret (End 0 hn0 ⟨?_, rfl⟩)
      rw [submitT_1 hb]; rfl
    · have h : (!(beginE s who == 0)) = false := h
      rw [hbb] at h; cases h
  have hgs := (beginE_ok hb).1
  have hids := (beginE_ok hb).2
  refine R [Hint.on [] (BE s who) (.tuple [.ptr 0 [], .data (I 0)])] (ho := by exact ⟨opened_ok s who hb, trivial⟩) ?_
  refine W.seq (R [.data (.bool (within v 1 9))] (ho := by exact ⟨fun _ => within_spec _ _ _, trivial⟩) ?_)
  refine C (fun h => ?_) (fun h => ?_)
  · have h2 : (decide (v < 1) || decide (9 < v)) = true := by rw [← submit_within]; exact h
    refine R1 [] ?_
    refine W.seq (R [] ?_)
    refine C (fun h => ?_) (fun h => ?_)
    · cases h
    refine W.skip ?_
    refine W.seq (R [] ?_)
    refine C (fun h => ?_) (fun h => ?_)
    · refine R [] (ho := by exact ⟨sameNz _ _, trivial⟩) ?_
      refine W.le hc0 (Le.slotRow 7 6 (by with_unfolding_all rfl)) ?_
      refine W.ret (End 0 hn0 ⟨?_, rfl⟩)
      rw [submitT_2 hb h2]; rfl
    · cases h
  have h2 : (decide (v < 1) || decide (9 < v)) = false := by rw [← submit_within]; exact h
  clear h
  have hql := hgs.len
  refine W.skip ?_
  refine W.seq (R [] ?_)
  refine C (fun h => ?_) (fun h => ?_)
  · have h3 : 6 ≤ s.queue.length := by
      have h' : (((s.queue.map I).length : Int) == 6) = true := h
      simp at h'
      omega
    refine R1 [] ?_
    refine W.seq (R [] ?_)
    refine C (fun h => ?_) (fun h => ?_)
    · refine R [] (ho := by exact ⟨sameNz _ _, trivial⟩) ?_
      refine W.le hc0 (Le.slotRow 7 6 (by with_unfolding_all rfl)) ?_
      refine W.ret (End 0 hn0 ⟨?_, rfl⟩)
      rw [submitT_3 hb h2 h3]; rfl
    · cases h
  have h3 : ¬ 6 ≤ s.queue.length := by
    have h' : (((s.queue.map I).length : Int) == 6) = false := h
    simp at h'
    omega
  clear h
  have hO := submitT_4 hb h2 h3
  have hv : 1 ≤ v ∧ v ≤ 9 := by
    simp only [Bool.or_eq_false_iff, decide_eq_false_iff_not] at h2
    omega
  have hgx : GoodR ⟨pushQ s v, who, []⟩ := ⟨hgs.push hv.1 hv.2 (by omega), hids⟩
  refine W.skip ?_
  refine W.seq (R [] ?_)
  refine C (fun h => ?_) (fun h => ?_)
  · cases h
  refine W.skip ?_
  refine R [] (ho := by exact ⟨rfl, sizes_q1 _ _, fits_q _ _ (by omega), trivial⟩) ?_
  refine W.ents (es' := [.var (eNode s) [], .var (eNodeN Node.zero) [], .var (eRunnerD (eNode (pushQ s v)) who .nil) [([0, 10], 3)], .row 1 ((s.queue ++ [v]).map I)]) ?_ ?_
  · have := run_push s who v
    unfold eQ at this
    rw [List.map_append] at this ⊢
    with_unfolding_all exact congrArg (fun d => [Ent.var (eNode s) [], .var (eNodeN Node.zero) [], .var d [([0, 10], 3)], .row 1 (s.queue.map I ++ [I v])]) this
  refine W.le hc0 (Le.nilRow 2 [2] 6 (d := eRunnerD (eNode (pushQ s v)) who .nil) (tok := [([0, 10], 3)]) (by with_unfolding_all rfl) ⟨by omega, trivial⟩ rfl) ?_
  refine W.ents (es' := [.var (eNode s) [], .var (eNodeN Node.zero) [], .var (eRun ⟨pushQ s v, who, []⟩) [([2], 4), ([0, 10], 3)], .row 1 ((s.queue ++ [v]).map I), .row 6 []]) ?_ ?_
  · with_unfolding_all exact congrArg (fun d => [Ent.var (eNode s) [], .var (eNodeN Node.zero) [], .var d [([2], 4), ([0, 10], 3)], .row 1 ((s.queue ++ [v]).map I), .row 6 []]) (run_out (pushQ s v) who)
  refine W.seq (R [] ?_)
  refine C (fun h => ?_) (fun h => ?_)
  · have h4 : s.height < 4 ∧ s.step = 0 := by
      have h : (bif decide (s.height < 4) then s.step == 0 else false) = true := h
      rw [bif_and] at h; simpa using h
    have hr := hgs.round
    have hss := enter_spec ⟨pushQ s v, who, []⟩ s.round ⟨hgs.height.1, hgs.height.2⟩ hr (by simp)
    rw [enterR_s _ (show (pushQ s v).height ≠ 4 by show s.height ≠ 4; omega)] at hss
    have hgy : GoodR (startR ⟨pushQ s v, who, []⟩ s.round) := hgx.start (Int.le_refl _) hr.2
    have hf := all_flow_spec (startR ⟨pushQ s v, who, []⟩ s.round) hgy (by have := meas_bd hgy.s; have := startR_len ⟨pushQ s v, who, []⟩ s.round; simp only [List.length_nil] at this; omega)
    have hy : submitR s who v = flowR (startR ⟨pushQ s v, who, []⟩ s.round) := by unfold submitR; simp only []; rw [if_pos h4]
    rw [hy] at hO
    generalize flowR (startR ⟨pushQ s v, who, []⟩ s.round) = y at hf hO
    generalize startR ⟨pushQ s v, who, []⟩ s.round = x at hf hss
    obtain ⟨sy, wy, oy⟩ := y
    obtain ⟨sx, wx, ox⟩ := x
    refine R [Hint.on [2, 4] (RE ⟨sx, wx, ox⟩) (.tuple [])] (ho := by exact ⟨hss, trivial⟩) ?_
    refine R1 [Hint.on [2, 4] (RE ⟨sy, wy, oy⟩) (.tuple [])] (ho := by exact ⟨hf, trivial⟩) ?_
    refine RF [] 5 [(6, .rd (some 2)), (7, .rd (some 2)), (8, .wr 1)] (ho := by exact ⟨sameNz _ _, trivial⟩) ?_
    refine W.ret (End 0 hn0 ⟨?_, rfl⟩)
    rw [hO]; rfl
  · have h4 : ¬ (s.height < 4 ∧ s.step = 0) := by
      rintro ⟨a, b⟩
      have h : (bif decide (s.height < 4) then s.step == 0 else false) = false := h
      rw [bif_and] at h
      simp [a, b] at h
    have hy : submitR s who v = ⟨pushQ s v, who, []⟩ := by unfold submitR; simp only []; rw [if_neg h4]
    rw [hy] at hO
    refine W.skip ?_
    refine W.le hc0 (Le.cut [(6, .ptr 1 []), (9, .ptr 2 [])] 3 (by omega) (es' := [.var (eNode s) [], .var (eNodeN Node.zero) [], .var (eRun ⟨pushQ s v, who, []⟩) []]) ⟨⟨by with_unfolding_all rfl, rfl⟩, ⟨by with_unfolding_all rfl, rfl⟩, trivial⟩ (by with_unfolding_all rfl)) ?_
    refine RF [] 3 [(6, .rd (some 2)), (7, .rd (some 2)), (8, .wr 1)] (ho := by exact ⟨sameNz _ _, trivial⟩) ?_
    refine W.ret (End 0 hn0 ⟨?_, rfl⟩)
    rw [hO]; rfl

set_option maxHeartbeats 8000000 in
set_option maxRecDepth 100000 in
theorem timeOver_spec (s : Node) (who : Int) : Pure Try.prog 22 [.data (eNode s), .data (I who)] (turnAV (timeT s who)) := by
  refine spec_of ttok Try.func22 rfl (by kernel_rfl) (by exact Nat.le_of_ble_eq_true rfl) fun hin hie c0 hc0 he => ?_
  have hn0 : c0.es.length ≤ 0 := Nat.le_of_eq (by rw [he]; rfl)
  refine R [] ?_
  by_cases hb : beginE s who = 0
  case neg =>
    refine R [.tuple [.nilptr, .data (I (beginE s who))]] (ho := by exact ⟨opened_err s who hb, trivial⟩) ?_
    refine W.seq (R [] ?_)
    refine C (fun h => ?_) (fun h => ?_)
    · refine R [] (ho := by exact ⟨sameNz _ _, trivial⟩) ?_
      refine W.le hc0 (Le.slotRow 5 6 (by with_unfolding_all rfl)) ?_
      refine W.ret (End 0 hn0 ⟨?_, rfl⟩)
      rw [timeT_1 hb]; rfl
    · have h : (!(beginE s who == 0)) = false := h
      simp at h; omega
  have hgs := (beginE_ok hb).1
  have hids := (beginE_ok hb).2
  refine R [Hint.on [] [.var (eRunnerD (eNode s) who .nil) []] (.tuple [.ptr 0 [], .data (I 0)])] (ho := by exact ⟨opened_ok' s who hb, trivial⟩) ?_
  refine W.le hc0 (Le.nilRow 2 [2] 6 (d := eRunnerD (eNode s) who .nil) (tok := []) (by with_unfolding_all rfl) ⟨by omega, trivial⟩ rfl) ?_
  refine W.le hc0 (Le.cut [(2, .ptr 0 []), (4, .ptr 1 []), (7, .ptr 2 []), (8, .data (I 0))] 4 (by omega) (es' := [.var (eNode s) [], .var (eNodeN Node.zero) [], .var (eRun ⟨s, who, []⟩) [([2], 3)], .row 6 []])
    ⟨⟨by with_unfolding_all rfl, rfl⟩, ⟨by with_unfolding_all rfl, rfl⟩, ⟨by with_unfolding_all rfl, rfl⟩, ⟨by with_unfolding_all rfl, rfl⟩, trivial⟩ ?eq) ?_
  case eq => with_unfolding_all exact congrArg (fun d => [Ent.var (eNode s) [], .var (eNodeN Node.zero) [], .var d [([2], 3)], .row 6 []]) (run_out s who)
  refine W.seq (R [] ?_)
  refine C (fun h => ?_) (fun h => ?_)
  · cases h
  refine W.skip ?_
  refine W.seq (R [] ?_)
  refine C (fun h => ?_) (fun h => ?_)
  · have h2 : s.height = 4 := by simpa using h
    refine R [] (ho := by exact ⟨sameNz _ _, trivial⟩) ?_
    refine W.le hc0 (Le.slotRow 5 6 (by with_unfolding_all rfl)) ?_
    refine W.ret (End 0 hn0 ⟨?_, rfl⟩)
    rw [timeT_2 hb (by omega)]; rfl
  have h2 : s.height ≠ 4 := by simpa using h
  clear h
  have hh : 0 ≤ s.height ∧ s.height < 4 := by have := hgs.height; omega
  have hr := hgs.round
  have hst := hgs.step
  have hO := timeT_3 hb (show ¬ 4 ≤ s.height by omega)
  have hg0 : GoodR ⟨s, who, []⟩ := ⟨hgs, hids⟩
  have hgy := hg0.time hh.2
  have hf := all_flow_spec (timeR ⟨s, who, []⟩) hgy (by have := meas_bd hgy.s; have := timeR_len ⟨s, who, []⟩; simp only [List.length_nil] at this; omega)
  generalize flowR (timeR ⟨s, who, []⟩) = y at hf hO
  obtain ⟨sy, wy, oy⟩ := y
  refine W.skip ?_
  refine R [.data (eSheet s.cur)] (ho := by exact ⟨sheet_spec ⟨s, who, []⟩ hh, sameSS _ _, trivial⟩) ?_
  refine W.seq (R [] ?_)
  refine W.block (R [] ?_)
  refine C (fun h => ?z0a) (fun h => ?z0b)
  case' z0a =>
    have h0 : s.step = 0 := by simpa using h
    have hy := timeR_1 (x := ⟨s, who, []⟩) h0
    rw [hy] at hf
    refine R [] ?_
    refine W.ents (es' := [.var (eNode s) [], .var (eNodeN Node.zero) [], .var (eRun ⟨{ s with step := 1 }, who, []⟩) [([2], 3)], .row 6 [], .var (eSheet s.cur) []]) ?e1 ?_
    case' e1 => with_unfolding_all exact congrArg (fun d => [Ent.var (eNode s) [], .var (eNodeN Node.zero) [], .var d [([2], 3)], .row 6 [], .var (eSheet s.cur) []]) (run_step ⟨s, who, []⟩ 1)
    have hs := tell_spec ⟨{ s with step := 1 }, who, []⟩ 2 0 0 hh (by simp)
    generalize sayR ⟨{ s with step := 1 }, who, []⟩ 2 0 0 = x at hf hs
    obtain ⟨sx, wx, ox⟩ := x
    refine R1 [Hint.on [2, 3] (RE ⟨sx, wx, ox⟩) (.tuple [])] (ho := by exact ⟨hs, trivial⟩) ?_
    refine W.le hc0 (Le.cut [(4, .ptr 1 []), (7, .ptr 2 [])] 4 (by omega) (es' := [.var (eNode s) [], .var (eNodeN Node.zero) [], .var (eRun ⟨sx, wx, ox⟩) [([2], 3)], .row 6 (ox.map eWord)]) ⟨⟨by with_unfolding_all rfl, rfl⟩, ⟨by with_unfolding_all rfl, rfl⟩, trivial⟩ (by with_unfolding_all rfl)) ?_
  case' z0b =>
    have h0 : s.step ≠ 0 := by simpa using h
    clear h
    refine R [] ?_
    refine C (fun h => ?z1a) (fun h => ?z1b)
    case' z1a =>
      have hs1 : s.step = 1 := by simpa using h
      clear h
      refine R [.data (I (all4 (s.cur.wishes s.round.toNat)))] (ho := by exact ⟨hr, allOf_spec _, trivial⟩) ?_
      refine C (fun h => ?z2a) (fun h => ?z2b)
      case' z2a =>
        have h1 : 3 ≤ all4 (s.cur.wishes s.round.toNat) := of_decide_eq_true h
        have hy := timeR_2 (x := ⟨s, who, []⟩) hs1 h1
        rw [hy] at hf
        refine R [] ?_
        refine W.ents (es' := [.var (eNode s) [], .var (eNodeN Node.zero) [], .var (eRun ⟨{ s with step := 2 }, who, []⟩) [([2], 3)], .row 6 [], .var (eSheet s.cur) []]) ?e2 ?_
        case' e2 => with_unfolding_all exact congrArg (fun d => [Ent.var (eNode s) [], .var (eNodeN Node.zero) [], .var d [([2], 3)], .row 6 [], .var (eSheet s.cur) []]) (run_step ⟨s, who, []⟩ 2)
        have hs := tell_spec ⟨{ s with step := 2 }, who, []⟩ 3 0 0 hh (by simp)
        generalize sayR ⟨{ s with step := 2 }, who, []⟩ 3 0 0 = x at hf hs
        obtain ⟨sx, wx, ox⟩ := x
        refine R1 [Hint.on [2, 3] (RE ⟨sx, wx, ox⟩) (.tuple [])] (ho := by exact ⟨hs, trivial⟩) ?_
        refine W.le hc0 (Le.cut [(4, .ptr 1 []), (7, .ptr 2 [])] 4 (by omega) (es' := [.var (eNode s) [], .var (eNodeN Node.zero) [], .var (eRun ⟨sx, wx, ox⟩) [([2], 3)], .row 6 (ox.map eWord)]) ⟨⟨by with_unfolding_all rfl, rfl⟩, ⟨by with_unfolding_all rfl, rfl⟩, trivial⟩ (by with_unfolding_all rfl)) ?_
      case' z2b =>
        have h1 : ¬ 3 ≤ all4 (s.cur.wishes s.round.toNat) := of_decide_eq_false h
        have hy := timeR_4 (x := ⟨s, who, []⟩) h0 (fun h => h1 h.2) hst.2 hst.1 (fun h => by have := h.1; simp only at this; omega)
        rw [hy] at hf
        have hx : ∃ sx wx ox, sx = s ∧ wx = who ∧ ox = ([] : List Word) := ⟨s, who, [], rfl, rfl, rfl⟩
        obtain ⟨sx, wx, ox, e1, e2, e3⟩ := hx
        have hf : Fn Try.prog 56 [.ptr 0 []] (RE ⟨sx, wx, ox⟩) (.tuple []) (RE ⟨sy, wy, oy⟩) := by rw [e1, e2, e3]; exact hf
        refine W.skip ?_
        refine W.le hc0 (Le.cut [(4, .ptr 1 []), (7, .ptr 2 [])] 4 (by omega) (es' := [.var (eNode s) [], .var (eNodeN Node.zero) [], .var (eRun ⟨sx, wx, ox⟩) [([2], 3)], .row 6 (ox.map eWord)]) ⟨⟨by with_unfolding_all rfl, rfl⟩, ⟨by with_unfolding_all rfl, rfl⟩, trivial⟩ (by rw [e1, e2, e3]; with_unfolding_all rfl)) ?_
    case' z1b =>
      have hs1 : s.step ≠ 1 := by simpa using h
      clear h
      refine R [.data (I (all4 (s.cur.promises s.round.toNat)))] (ho := by exact ⟨hr, allOf_spec _, trivial⟩) ?_
      refine C (fun h => ?z3a) (fun h => ?z3b)
      case' z3a =>
        have h3 : 3 ≤ all4 (s.cur.promises s.round.toNat) ∧ s.round < 5 := by
          have h : (bif decide (3 ≤ all4 (s.cur.promises s.round.toNat)) then decide (s.round < 5) else false) = true := h
          rw [bif_and] at h; simpa using h
        have hy := timeR_3 (x := ⟨s, who, []⟩) (show s.step = 2 by omega) h3
        rw [hy] at hf
        have hs := enter_spec ⟨s, who, []⟩ (s.round + 1) ⟨hh.1, by show s.height ≤ 4; omega⟩ (by omega) (by simp)
        rw [enterR_s _ h2] at hs
        have hw : IntKind.i64.wrap (s.round + 1) = s.round + 1 := i64_wrap (by omega) (by omega)
        generalize startR ⟨s, who, []⟩ (s.round + 1) = x at hf hs
        obtain ⟨sx, wx, ox⟩ := x
        refine R1 [Hint.on [2, 3] (RE ⟨sx, wx, ox⟩) (.tuple [])] (ho := by with_unfolding_all exact ⟨(by rw [hw]; exact hs), trivial⟩) ?_
        refine W.le hc0 (Le.cut [(4, .ptr 1 []), (7, .ptr 2 [])] 4 (by omega) (es' := [.var (eNode s) [], .var (eNodeN Node.zero) [], .var (eRun ⟨sx, wx, ox⟩) [([2], 3)], .row 6 (ox.map eWord)]) ⟨⟨by with_unfolding_all rfl, rfl⟩, ⟨by with_unfolding_all rfl, rfl⟩, trivial⟩ (by with_unfolding_all rfl)) ?_
      case' z3b =>
        have h3 : ¬ (3 ≤ all4 (s.cur.promises s.round.toNat) ∧ s.round < 5) := by
          rintro ⟨b, c⟩
          have h : (bif decide (3 ≤ all4 (s.cur.promises s.round.toNat)) then decide (s.round < 5) else false) = false := h
          rw [bif_and, decide_eq_true b, decide_eq_true c] at h
          cases h
        have hy := timeR_4 (x := ⟨s, who, []⟩) h0 (fun h => hs1 h.1) hst.2 hst.1 (fun h => h3 h.2)
        rw [hy] at hf
        have hx : ∃ sx wx ox, sx = s ∧ wx = who ∧ ox = ([] : List Word) := ⟨s, who, [], rfl, rfl, rfl⟩
        obtain ⟨sx, wx, ox, e1, e2, e3⟩ := hx
        have hf : Fn Try.prog 56 [.ptr 0 []] (RE ⟨sx, wx, ox⟩) (.tuple []) (RE ⟨sy, wy, oy⟩) := by rw [e1, e2, e3]; exact hf
        refine W.skip ?_
        refine W.le hc0 (Le.cut [(4, .ptr 1 []), (7, .ptr 2 [])] 4 (by omega) (es' := [.var (eNode s) [], .var (eNodeN Node.zero) [], .var (eRun ⟨sx, wx, ox⟩) [([2], 3)], .row 6 (ox.map eWord)]) ⟨⟨by with_unfolding_all rfl, rfl⟩, ⟨by with_unfolding_all rfl, rfl⟩, trivial⟩ (by rw [e1, e2, e3]; with_unfolding_all rfl)) ?_
  all_goals
    refine R [Hint.on [2, 3] (RE ⟨sy, wy, oy⟩) (.tuple [])] (ho := by exact ⟨hf, trivial⟩) ?_
    refine RF [] 4 [(6, .rd (some 2)), (7, .rd (some 2)), (8, .wr 1)] (ho := by exact ⟨sameNz _ _, trivial⟩) ?_
    refine W.ret (End 0 hn0 ⟨?_, rfl⟩)
    rw [hO]; rfl

set_option maxHeartbeats 8000000 in
set_option maxRecDepth 100000 in
theorem nodeTurns_spec (s : Node) (who v : Int) (hq : s.queue.length ≤ 17592186044416) : Pure Try.prog 4 [.data (eNode s), .data (I who), .data (I v)] (.data (.bool true)) := by
  refine spec_of ttok Try.func4 rfl (by kernel_rfl) (by exact Nat.le_of_ble_eq_true rfl) fun hin hie c0 hc0 he => ?_
  have hn0 : c0.es.length ≤ 0 := Nat.le_of_eq (by rw [he]; rfl)
  have h1 := submitT_spec s who v
  have h2 := submitValue_spec s who v
  have h3 := timeT_spec s who
  have h4 := timeOver_spec s who
  generalize submitT s who v = t at h1 h2
  generalize timeT s who = u at h3 h4
  obtain ⟨x, l, e⟩ := t
  obtain ⟨y, m, f⟩ := u
  refine R [] ?_
  refine R [Hint.on [] [.row 1 (s.queue.map I)] (.rich (eNode s) [([10], 0)])] (ho := by exact ⟨copyNode_spec s hq, sameNz _ _, trivial⟩) ?_
  refine R [.tuple [.data (eNode x), .data (eWords l), .data (I e)]] (ho := by exact ⟨h1, sameNz _ _, trivial⟩) ?_
  refine R [.tuple [.data (eNode x), .data (eWords l), .data (I e)]] (ho := by exact ⟨h2, sameNz _ _, trivial⟩) ?_
  refine R [.tuple [.data (eNode y), .data (eWords m), .data (I f)]] (ho := by exact ⟨h3, sameNz _ _, trivial⟩) ?_
  refine R [.tuple [.data (eNode y), .data (eWords m), .data (I f)]] (ho := by exact ⟨h4, sameNz _ _, trivial⟩) ?_
  refine R [.data (.bool true), .data (.bool true), .data (.bool true), .data (.bool true), .data (.bool true), .data (.bool true)]
    (ho := by exact ⟨sameNode_spec _, fun _ => sameWords_spec _, fun _ => sameNode_spec _, fun _ => sameWords_spec _, fun _ => sameNode_spec _, fun _ => nodes_law, trivial⟩) ?_
  refine W.ret (EndB 0 hn0 ?_)
  exact bifr2 (bifr2 (bifr2 (bifr2 (bifr2 (bifr2 (bifr2 rfl rfl) (beqr _)) rfl) rfl) (beqr _)) rfl) rfl

end Go.W

/-
  The reference hears a word; the law NodeHears.
-/
namespace Go.W
open Go.Proofs

set_option maxHeartbeats 4000000 in
set_option maxRecDepth 100000 in
theorem hearWord_spec (s : Node) (who : Int) (w : Word) : Pure Try.prog 78 [.data (eNode s), .data (I who), .data (eWord w)] (turnAV (hearT s who w)) := by
  refine spec_of ttok Try.func78 rfl (by kernel_rfl) (by exact Nat.le_of_ble_eq_true rfl) fun hin hie c0 hc0 he => ?_
  have hn0 : c0.es.length ≤ 0 := Nat.le_of_eq (by rw [he]; rfl)
  refine R [] ?_
  by_cases hb : beginE s who = 0
  case neg =>
    refine R [.tuple [.nilptr, .data (I (beginE s who))]] (ho := by exact ⟨opened_err s who hb, trivial⟩) ?_
    refine W.seq (R [] ?_)
    refine C (fun h => ?_) (fun h => ?_)
    · have h : (beginE s who == 0) = true := h
      simp at h; omega
    refine W.skip ?_
    refine W.seq (R [] ?_)
    refine C (fun h => ?_) (fun h => ?_)
    · refine R [] (ho := by exact ⟨sameNz _ _, trivial⟩) ?_
      refine W.le hc0 (Le.slotRow 7 6 (by with_unfolding_all rfl)) ?_
      refine W.ret (End 0 hn0 ⟨?_, rfl⟩)
      rw [hearT_1 hb]; rfl
    · have h : (!(beginE s who == 0)) = false := h
      simp at h; omega
  refine R [Hint.on [] (BE s who) (.tuple [.ptr 0 [], .data (I 0)])] (ho := by exact ⟨opened_ok s who hb, trivial⟩) ?_
  refine W.seq (R [] ?_)
  refine C (fun h => ?_) (fun h => ?_)
  rotate_left
  · cases h
  refine R1 [.data (I (goodW w))] (ho := by exact ⟨wordError_spec w, trivial⟩) ?_
  refine W.seq (R [] ?_)
  refine C (fun h => ?_) (fun h => ?_)
  · have h2 : goodW w ≠ 0 := by
      have h : (!(goodW w == 0)) = true := h
      simpa using h
    refine R [] (ho := by exact ⟨sameNz _ _, trivial⟩) ?_
    refine W.le hc0 (Le.slotRow 7 6 (by with_unfolding_all rfl)) ?_
    refine W.ret (End 0 hn0 ⟨?_, rfl⟩)
    rw [hearT_2 hb h2]; rfl
  have h2 : goodW w = 0 := by
    have h : (!(goodW w == 0)) = false := h
    simpa using h
  have hw := ((goodW_iff w).1 h2).height
  have hgs := (beginE_ok hb).1
  have hg : GoodR ⟨hearN s w, who, []⟩ := ⟨hgs.hear w, (beginE_ok hb).2⟩
  refine W.skip ?_
  refine RD [.data (eSheet (hearS (s.heard w.height.toNat) w))] (ho := by exact ⟨hw, hearSheet_spec _ _, hw, sameSS _ _, trivial⟩) ?_
  refine W.ents (es' := [.var (eNode s) [], .var (eWord w) [], .var (eNodeN Node.zero) [], .var (eRunnerD (eNode (hearN s w)) who .nil) [([0, 10], 4)], .row 1 (s.queue.map I)]) ?_ ?_
  · with_unfolding_all exact congrArg (fun d => [Ent.var (eNode s) [], .var (eWord w) [], .var (eNodeN Node.zero) [], .var d [([0, 10], 4)], .row 1 (s.queue.map I)]) (run_hear s who w)
  refine W.le hc0 (Le.nilRow 3 [2] 6 (d := eRunnerD (eNode (hearN s w)) who .nil) (tok := [([0, 10], 4)]) (by with_unfolding_all rfl) ⟨by omega, trivial⟩ rfl) ?_
  refine W.ents (es' := [.var (eNode s) [], .var (eWord w) [], .var (eNodeN Node.zero) [], .var (eRun ⟨hearN s w, who, []⟩) [([2], 5), ([0, 10], 4)], .row 1 (s.queue.map I), .row 6 []]) ?_ ?_
  · with_unfolding_all exact congrArg (fun d => [Ent.var (eNode s) [], .var (eWord w) [], .var (eNodeN Node.zero) [], .var d [([2], 5), ([0, 10], 4)], .row 1 (s.queue.map I), .row 6 []]) (run_out (hearN s w) who)
  have hf := all_flow_spec ⟨hearN s w, who, []⟩ hg (by have : meas (hearN s w) ≤ 1000 := meas_bd hg.s; simp only [List.length_nil]; omega)
  have hO := hearT_3 (who := who) hb h2
  generalize flowR ⟨hearN s w, who, []⟩ = y at hf hO
  obtain ⟨sy, wy, oy⟩ := y
  refine R [Hint.on [3, 5] (RE ⟨sy, wy, oy⟩) (.tuple [])] (ho := by exact ⟨hf, trivial⟩) ?_
  refine RF [] 6 [(6, .rd (some 3)), (7, .rd (some 3)), (8, .wr 2)] (ho := by exact ⟨sameNz _ _, trivial⟩) ?_
  refine W.ret (End 0 hn0 ⟨?_, rfl⟩)
  rw [hO]; rfl

end Go.W
