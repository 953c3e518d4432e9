/-
  Nodes: what the laws ask besides (package yokefellowlaw, the reference).
-/
import Derived.Test.YthpjdjofcbnoiabQFz
namespace Go.W
open Go.Proofs

theorem eqDr_votes (v : Nat → Int) : eqD (eVotes v) (eVotes v) = true := allTo_spec.2 fun _ _ => beq_self_eq_true _
theorem eqDr_votes6 (v : Nat → Nat → Int) : eqD (eVotes6 v) (eVotes6 v) = true := allTo_spec.2 fun _ _ => eqDr_votes _
theorem eqDr_call (c : Call) : eqD (eCall c) (eCall c) = true := allTo_spec.2 fun i hi => by
  match i, hi with
  | 0, _ => exact beq_self_eq_true _
  | 1, _ => exact beq_self_eq_true _
  | 2, _ => exact beq_self_eq_true _
theorem eqDr_calls (c : Nat → Call) : eqD (eCalls c) (eCalls c) = true := allTo_spec.2 fun _ _ => eqDr_call _
theorem eqDr_sheet (s : Sheet) : eqD (eSheet s) (eSheet s) = true := allTo_spec.2 fun i hi => by
  match i, hi with
  | 0, _ => exact eqDr_calls _
  | 1, _ => exact eqDr_votes6 _
  | 2, _ => exact eqDr_votes6 _
theorem eqDr_sheets (s : Nat → Sheet) : eqD (eSheets s) (eSheets s) = true := allTo_spec.2 fun _ _ => eqDr_sheet _
theorem eqDr_bools (s : Nat → Bool) : eqD (eBools6 s) (eBools6 s) = true := allTo_spec.2 fun _ _ => beq_self_eq_true _
theorem eqDr_word (w : Word) : eqD (eWord w) (eWord w) = true := allTo_spec.2 fun i hi => by
  match i, hi with
  | 0, _ => exact beq_self_eq_true _
  | 1, _ => exact beq_self_eq_true _
  | 2, _ => exact beq_self_eq_true _
  | 3, _ => exact beq_self_eq_true _
  | 4, _ => exact beq_self_eq_true _
  | 5, _ => exact beq_self_eq_true _
theorem bifr2 {a b : Bool} (h1 : a = true) (h2 : b = true) : (bif a then b else false) = true := by subst h1; exact h2
theorem beqr (a : Int) : (a == a) = true := beq_self_eq_true a
theorem cptr_wordsR (l : List Word) {k : Nat} (h : k < l.length) : AV.cptr ((l.map eWord).getD k default) = .cptr (eWord (l.getD k Word.zero)) := by
  simp [List.getElem?_eq_getElem h]

theorem nodes_factL : ∃ s w0 w1, submitT newN 0 7 = ⟨s, [w0, w1], 0⟩ ∧ s.step = 1 ∧ w0.kind = 1 ∧ w1.kind = 2 ∧ w1.value = 7 := by
  have h1 : (submitT newN 0 7).err = 0 := by decide +kernel
  have h2 : (submitT newN 0 7).s.step = 1 := by decide +kernel
  have h3 : (submitT newN 0 7).out.map (fun w => (w.kind, w.value)) = [(1, 7), (2, 7)] := by decide +kernel
  generalize submitT newN 0 7 = t at h1 h2 h3
  obtain ⟨s, out, e⟩ := t
  simp only at h1 h2 h3
  subst h1
  have hl : out.length = 2 := by have := congrArg List.length h3; simpa using this
  match out, hl, h3 with
  | [w0, w1], _, h3 =>
    simp only [List.map_cons, List.map_nil, List.cons.injEq, Prod.mk.injEq, and_true] at h3
    exact ⟨s, w0, w1, rfl, h2, h3.1.1, h3.2.1, h3.2.2⟩

set_option maxHeartbeats 4000000 in
set_option maxRecDepth 100000 in
theorem nodes_law : Pure Try.prog 25 [] (.data (.bool true)) := by
  refine spec_of ttok Try.func25 rfl (by kernel_rfl) (by exact Nat.le_of_ble_eq_true rfl) fun hin hie c0 hc0 he => ?_
  have hn0 : c0.es.length ≤ 0 := Nat.le_of_eq (by rw [he]; rfl)
  obtain ⟨s, w0, w1, ht, h1, h2, h3, h4⟩ := nodes_factL
  have hs := submitT_spec newN 0 7
  rw [ht] at hs
  refine R [] ?_
  refine R [.data (eNode newN), .tuple [.data (eNode s), .data (.list [eWord w0, eWord w1]), .data (I 0)]] (ho := by exact ⟨new_spec, hs, sameNz _ _, trivial⟩) ?_
  refine R [] (ho := by exact ⟨fun _ => ⟨by omega, by simp⟩, fun _ => sizes_words [w0, w1], fun _ => ⟨by omega, by simp⟩, fun _ => sizes_words [w0, w1], fun _ => ⟨by omega, by simp⟩, fun _ => sizes_words [w0, w1], trivial⟩) ?_
  refine W.ret (EndB 0 hn0 ?_)
  rw [h1, h2, h3, h4]; rfl

set_option maxHeartbeats 4000000 in
set_option maxRecDepth 100000 in
theorem sameNode_spec (a : Node) : Pure Try.prog 23 [.data (eNode a), .data (eNode a)] (.data (.bool true)) := by
  refine spec_of ttok Try.func23 rfl (by kernel_rfl) (by exact Nat.le_of_ble_eq_true rfl) fun hin hie c0 hc0 he => ?_
  have hn0 : c0.es.length ≤ 0 := Nat.le_of_eq (by rw [he]; rfl)
  have hlen : a.queue.length ≤ 9223372036854775807 := by
    have : InR (eNode a) := hin (.data (eNode a)) (by simp)
    cases this with
    | agg h =>
      have : InR (eQ a.queue) := h 10 (by omega)
      cases this with
      | list h _ => simpa [maxLen] using h
  refine R [] ?_
  refine W.seq (R [] ?_)
  refine C (fun h => ?_) (fun h => ?_)
  · have h : (!(((a.queue.map I).length : Int) == ((a.queue.map I).length : Int))) = true := h
    rw [beqr] at h; cases h
  refine W.skip ?_
  refine W.seq (R [] ?_)
  refine W.block (W.loop hc0 (ι := Nat) (fun k => ⟨99, frOf [(2, .ptr 0 []), (3, .ptr 1 []), (15, .data (I ((a.queue.map I).length : Int))), (16, .data (I k))], [.var (eNode a) [], .var (eNode a) []]⟩) (fun k => k ≤ a.queue.length) (fun k => a.queue.length - k) 0 (by omega) ?_ ?_)
  · exact Le.cut _ 2 (by omega) ⟨⟨by with_unfolding_all rfl, rfl⟩, ⟨by with_unfolding_all rfl, rfl⟩, ⟨by with_unfolding_all rfl, rfl⟩, ⟨by with_unfolding_all rfl, rfl⟩, trivial⟩ (by with_unfolding_all rfl)
  · intro k hk
    refine R [] ?_
    refine W.seq (C (fun h => ?_) (fun h => ?_))
    · have hk : k < a.queue.length := by have h : (k : Int) < (a.queue.map I).length := of_decide_eq_true h; rw [List.length_map] at h; omega
      have hki : (0 : Int) ≤ k ∧ (k : Int) < (a.queue.map I).length := ⟨by omega, by rw [List.length_map]; omega⟩
      refine W.skip (W.seq (W.block ?_))
      refine R [] ?_
      refine RD [.is 22 (.cptr (I (a.queue.getD k 0))), .is 27 (.cptr (I (a.queue.getD k 0)))] (ho := by exact ⟨cptr_q _ hk, hki, sizes_q _, cptr_q _ hk, hki, sizes_q _, trivial⟩) ?_
      refine C (fun h => ?_) (fun h => ?_)
      · have h : (!(a.queue.getD k 0 == a.queue.getD k 0)) = true := h
        rw [beqr] at h; cases h
      refine W.skip ?_
      refine R1 [] ?_
      exact ⟨k + 1, by omega, by omega, Le.cut _ 2 (by omega) ⟨⟨by with_unfolding_all rfl, rfl⟩, ⟨by with_unfolding_all rfl, rfl⟩, ⟨by with_unfolding_all rfl, rfl⟩, ⟨sl_int (wrap_up (by omega)), rfl⟩, trivial⟩ (by with_unfolding_all rfl)⟩
    · refine W.exit ?_
      refine R [] ?_
      refine W.ret (EndB 0 hn0 ?_)
      exact bifr2 (bifr2 (bifr2 (bifr2 (bifr2 (bifr2 (bifr2 (bifr2 (bifr2 (beqr _) (beqr _)) (beqr _)) (beqr _)) (beqr _)) (beqr _)) (beqr _)) (eqDr_bools _)) (eqDr_sheets _)) (eqDr_votes _)

set_option maxHeartbeats 4000000 in
set_option maxRecDepth 100000 in
theorem sameWords_spec (l : List Word) : Pure Try.prog 24 [.data (eWords l), .data (eWords l)] (.data (.bool true)) := by
  refine spec_of ttok Try.func24 rfl (by kernel_rfl) (by exact Nat.le_of_ble_eq_true rfl) fun hin hie c0 hc0 he => ?_
  have hn0 : c0.es.length ≤ 0 := Nat.le_of_eq (by rw [he]; rfl)
  have hlen : l.length ≤ 9223372036854775807 := by
    have : InR (eWords l) := hin (.data (eWords l)) (by simp)
    cases this with
    | list h _ => simpa [maxLen] using h
  refine R [] ?_
  refine W.seq (R [] ?_)
  refine C (fun h => ?_) (fun h => ?_)
  · have h : (!(((l.map eWord).length : Int) == ((l.map eWord).length : Int))) = true := h
    rw [beqr] at h; cases h
  refine W.skip ?_
  refine W.seq (R [] ?_)
  refine W.block (W.loop hc0 (ι := Nat) (fun k => ⟨26, frOf [(0, .data (eWords l)), (1, .data (eWords l)), (12, .data (I ((l.map eWord).length : Int))), (13, .data (I k))], []⟩) (fun k => k ≤ l.length) (fun k => l.length - k) 0 (by omega) ?_ ?_)
  · exact Le.cut _ 0 hn0 ⟨⟨by with_unfolding_all rfl, rfl⟩, ⟨by with_unfolding_all rfl, rfl⟩, ⟨by with_unfolding_all rfl, rfl⟩, ⟨by with_unfolding_all rfl, rfl⟩, trivial⟩ rfl
  · intro k hk
    refine R [] ?_
    refine W.seq (C (fun h => ?_) (fun h => ?_))
    · have hk : k < l.length := by have h : (k : Int) < (l.map eWord).length := of_decide_eq_true h; rw [List.length_map] at h; omega
      have hki : (0 : Int) ≤ k ∧ (k : Int) < (l.map eWord).length := ⟨by omega, by rw [List.length_map]; omega⟩
      refine W.skip (W.seq (W.block ?_))
      refine R [] ?_
      refine RD [.is 18 (.cptr (eWord (l.getD k Word.zero))), .is 22 (.cptr (eWord (l.getD k Word.zero)))] (ho := by exact ⟨cptr_wordsR _ hk, hki, sizes_words _, cptr_wordsR _ hk, hki, sizes_words _, trivial⟩) ?_
      refine C (fun h => ?_) (fun h => ?_)
      · have h : (!(eqD (eWord (l.getD k Word.zero)) (eWord (l.getD k Word.zero)))) = true := h
        rw [eqDr_word] at h; cases h
      refine W.skip ?_
      refine R1 [] ?_
      exact ⟨k + 1, by omega, by omega, Le.cut _ 0 hn0 ⟨⟨by with_unfolding_all rfl, rfl⟩, ⟨by with_unfolding_all rfl, rfl⟩, ⟨by with_unfolding_all rfl, rfl⟩, ⟨sl_int (wrap_up (by omega)), rfl⟩, trivial⟩ rfl⟩
    · refine W.exit ?_
      refine R [] ?_
      exact W.ret (EndB 0 hn0 rfl)

end Go.W
