/-
  Nodes: what the laws ask besides (package yokefellowkeep).
-/
import Derived.Test.YthpjdjofcbnoiabFw
namespace Go.W
open Go.Proofs

theorem eqDk_votes (v : Nat → Int) : eqD (eVotes v) (eVotes v) = true := allTo_spec.2 fun _ _ => beq_self_eq_true _
theorem eqDk_votes6 (v : Nat → Nat → Int) : eqD (eVotes6 v) (eVotes6 v) = true := allTo_spec.2 fun _ _ => eqDk_votes _
theorem eqDk_call (c : Call) : eqD (eCall c) (eCall c) = true := allTo_spec.2 fun i hi => by
  match i, hi with
  | 0, _ => exact beq_self_eq_true _
  | 1, _ => exact beq_self_eq_true _
  | 2, _ => exact beq_self_eq_true _
theorem eqDk_calls (c : Nat → Call) : eqD (eCalls c) (eCalls c) = true := allTo_spec.2 fun _ _ => eqDk_call _
theorem eqDk_sheet (s : Sheet) : eqD (eSheet s) (eSheet s) = true := allTo_spec.2 fun i hi => by
  match i, hi with
  | 0, _ => exact eqDk_calls _
  | 1, _ => exact eqDk_votes6 _
  | 2, _ => exact eqDk_votes6 _
theorem eqDk_sheets (s : Nat → Sheet) : eqD (eSheets s) (eSheets s) = true := allTo_spec.2 fun _ _ => eqDk_sheet _
theorem eqDk_bools (s : Nat → Bool) : eqD (eBools6 s) (eBools6 s) = true := allTo_spec.2 fun _ _ => beq_self_eq_true _
theorem eqDk_word (w : Word) : eqD (eWord w) (eWord w) = true := allTo_spec.2 fun i hi => by
  match i, hi with
  | 0, _ => exact beq_self_eq_true _
  | 1, _ => exact beq_self_eq_true _
  | 2, _ => exact beq_self_eq_true _
  | 3, _ => exact beq_self_eq_true _
  | 4, _ => exact beq_self_eq_true _
  | 5, _ => exact beq_self_eq_true _
theorem bifk2 {a b : Bool} (h1 : a = true) (h2 : b = true) : (bif a then b else false) = true := by subst h1; exact h2
theorem beqk (a : Int) : (a == a) = true := beq_self_eq_true a

theorem nodes_fact : ∃ s w0 w1, submitT newN 0 7 = ⟨s, [w0, w1], 0⟩ ∧ s.step = 1 ∧ w0.kind = 1 ∧ w1.kind = 2 ∧ w1.value = 7 := by
  have h1 : (submitT newN 0 7).err = 0 := by decide +kernel
  have h2 : (submitT newN 0 7).s.step = 1 := by decide +kernel
  have h3 : (submitT newN 0 7).out.map (fun w => (w.kind, w.value)) = [(1, 7), (2, 7)] := by decide +kernel
  generalize submitT newN 0 7 = t at h1 h2 h3
  obtain ⟨s, out, e⟩ := t
  simp only at h1 h2 h3
  subst h1
  have hl : out.length = 2 := by have := congrArg List.length h3; simpa using this
  match out, hl, h3 with
  | [w0, w1], _, h3 =>
    simp only [List.map_cons, List.map_nil, List.cons.injEq, Prod.mk.injEq, and_true] at h3
    exact ⟨s, w0, w1, rfl, h2, h3.1.1, h3.2.1, h3.2.2⟩

set_option maxHeartbeats 4000000 in
set_option maxRecDepth 100000 in
theorem nodes_keep : Pure Try.prog 16 [] (.data (.bool true)) := by
  refine spec_of ttok Try.func16 rfl (by kernel_rfl) (by exact Nat.le_of_ble_eq_true rfl) fun hin hie c0 hc0 he => ?_
  have hn0 : c0.es.length ≤ 0 := Nat.le_of_eq (by rw [he]; rfl)
  obtain ⟨s, w0, w1, ht, h1, h2, h3, h4⟩ := nodes_fact
  have hs := submitT_spec newN 0 7
  rw [ht] at hs
  refine R [] ?_
  refine R [.data (eNode newN), .tuple [.data (eNode s), .data (.list [eWord w0, eWord w1]), .data (I 0)]] (ho := by exact ⟨new_spec, hs, sameNz _ _, trivial⟩) ?_
  refine R [] (ho := by exact ⟨fun _ => ⟨by omega, by simp⟩, fun _ => sizes_words [w0, w1], fun _ => ⟨by omega, by simp⟩, fun _ => sizes_words [w0, w1], fun _ => ⟨by omega, by simp⟩, fun _ => sizes_words [w0, w1], trivial⟩) ?_
  refine W.ret (EndB 0 hn0 ?_)
  rw [h1, h2, h3, h4]; rfl

set_option maxHeartbeats 4000000 in
set_option maxRecDepth 100000 in
theorem same_keep (a : Node) : Pure Try.prog 32 [.data (eNode a), .data (eNode a)] (.data (.bool true)) := by
  refine spec_of ttok Try.func32 rfl (by kernel_rfl) (by exact Nat.le_of_ble_eq_true rfl) fun hin hie c0 hc0 he => ?_
  have hn0 : c0.es.length ≤ 0 := Nat.le_of_eq (by rw [he]; rfl)
  have hlen : a.queue.length ≤ 9223372036854775807 := by
    have : InR (eNode a) := hin (.data (eNode a)) (by simp)
    cases this with
    | agg h =>
      have : InR (eQ a.queue) := h 10 (by omega)
      cases this with
      | list h _ => simpa [maxLen] using h
  refine R [] ?_
  refine W.seq (R [] ?_)
  refine C (fun h => ?_) (fun h => ?_)
  · have h : (!(((a.queue.map I).length : Int) == ((a.queue.map I).length : Int))) = true := h
    rw [beqk] at h; cases h
  refine W.skip ?_
  refine W.seq (R [] ?_)
  refine W.block (W.loop hc0 (ι := Nat) (fun k => ⟨99, frOf [(2, .ptr 0 []), (3, .ptr 1 []), (15, .data (I ((a.queue.map I).length : Int))), (16, .data (I k))], [.var (eNode a) [], .var (eNode a) []]⟩) (fun k => k ≤ a.queue.length) (fun k => a.queue.length - k) 0 (by omega) ?_ ?_)
  · exact Le.cut _ 2 (by omega) ⟨⟨by with_unfolding_all rfl, rfl⟩, ⟨by with_unfolding_all rfl, rfl⟩, ⟨by with_unfolding_all rfl, rfl⟩, ⟨by with_unfolding_all rfl, rfl⟩, trivial⟩ (by with_unfolding_all rfl)
  · intro k hk
    refine R [] ?_
    refine W.seq (C (fun h => ?_) (fun h => ?_))
    · have hk : k < a.queue.length := by have h : (k : Int) < (a.queue.map I).length := of_decide_eq_true h; rw [List.length_map] at h; omega
      have hki : (0 : Int) ≤ k ∧ (k : Int) < (a.queue.map I).length := ⟨by omega, by rw [List.length_map]; omega⟩
      refine W.skip (W.seq (W.block ?_))
      refine R [] ?_
      refine RD [.is 22 (.cptr (I (a.queue.getD k 0))), .is 27 (.cptr (I (a.queue.getD k 0)))] (ho := by exact ⟨cptr_q _ hk, hki, sizes_q _, cptr_q _ hk, hki, sizes_q _, trivial⟩) ?_
      refine C (fun h => ?_) (fun h => ?_)
      · have h : (!(a.queue.getD k 0 == a.queue.getD k 0)) = true := h
        rw [beqk] at h; cases h
      refine W.skip ?_
      refine R1 [] ?_
      exact ⟨k + 1, by omega, by omega, Le.cut _ 2 (by omega) ⟨⟨by with_unfolding_all rfl, rfl⟩, ⟨by with_unfolding_all rfl, rfl⟩, ⟨by with_unfolding_all rfl, rfl⟩, ⟨sl_int (wrap_up (by omega)), rfl⟩, trivial⟩ (by with_unfolding_all rfl)⟩
    · refine W.exit ?_
      refine R [] ?_
      refine W.ret (EndB 0 hn0 ?_)
      exact bifk2 (bifk2 (bifk2 (bifk2 (bifk2 (bifk2 (bifk2 (bifk2 (bifk2 (beqk _) (beqk _)) (beqk _)) (beqk _)) (beqk _)) (beqk _)) (beqk _)) (eqDk_bools _)) (eqDk_sheets _)) (eqDk_votes _)

def afterT (s : Node) (who kind value : Int) (w : Word) : Turn := if kind = 0 then hearT s who w else if kind = 1 then submitT s who value else timeT s who

set_option maxHeartbeats 4000000 in
set_option maxRecDepth 100000 in
theorem after_spec (s : Node) (who kind value : Int) (w : Word) : Pure Try.prog 31 [.data (eNode s), .data (I who), .data (I kind), .data (I value), .data (eWord w)] (turnAV (afterT s who kind value w)) := by
  refine spec_of ttok Try.func31 rfl (by kernel_rfl) (by exact Nat.le_of_ble_eq_true rfl) fun hin hie c0 hc0 he => ?_
  have hn0 : c0.es.length ≤ 0 := Nat.le_of_eq (by rw [he]; rfl)
  refine R [] ?_
  refine W.seq (R [] ?_)
  refine W.block (R [] ?_)
  refine C (fun h => ?_) (fun h => ?_)
  · have hk : kind = 0 := by simpa using h
    have e : afterT s who kind value w = hearT s who w := by unfold afterT; rw [if_pos hk]
    refine R [turnAV (hearT s who w) |> fun v => { r := v }] (ho := by exact ⟨hearT_spec s who w, sameNz _ _, trivial⟩) ?_
    refine W.ret (End 0 hn0 ⟨?_, rfl⟩)
    rw [e]; rfl
  have hk : kind ≠ 0 := by simpa using h
  clear h
  refine R [] ?_
  refine C (fun h => ?_) (fun h => ?_)
  · have hk1 : kind = 1 := by simpa using h
    have e : afterT s who kind value w = submitT s who value := by unfold afterT; rw [if_neg hk, if_pos hk1]
    refine R [turnAV (submitT s who value) |> fun v => { r := v }] (ho := by exact ⟨submitT_spec s who value, sameNz _ _, trivial⟩) ?_
    refine W.ret (End 0 hn0 ⟨?_, rfl⟩)
    rw [e]; rfl
  have hk1 : kind ≠ 1 := by simpa using h
  have e : afterT s who kind value w = timeT s who := by unfold afterT; rw [if_neg hk, if_neg hk1]
  refine W.skip ?_
  refine R [turnAV (timeT s who) |> fun v => { r := v }] (ho := by exact ⟨timeT_spec s who, sameNz _ _, trivial⟩) ?_
  refine W.ret (End 0 hn0 ⟨?_, rfl⟩)
  rw [e]; rfl

/-! ### How much is said -/

theorem flow_len {x : Run} (h : GoodR x) : (flowR x).out.length ≤ x.out.length + meas x.s := by
  have := (flow_ind (p := fun y => y.out.length + meas y.s ≤ x.out.length + meas x.s) (fun y z hg hp ho => by
    have := meas_one hg ho
    have := oneR_len ho
    omega) h (Nat.le_refl _)).1
  omega
theorem hearT_len (s : Node) (who : Int) (w : Word) : (hearT s who w).out.length ≤ 2000 := by
  by_cases h : (hearT s who w).err = 0
  · obtain ⟨h0, h1, h2, e⟩ := hearT_goes h
    have hg : GoodR ⟨hearN s w, who, []⟩ := ⟨h2.good.hear w, h2.ids⟩
    have := flow_len hg
    have := meas_bd hg.s
    rw [e]
    simp only [List.length_nil] at *
    omega
  · rw [(hearT_err h).2]; simp
theorem submitT_len (s : Node) (who v : Int) : (submitT s who v).out.length ≤ 2000 := by
  by_cases h : (submitT s who v).err = 0
  · obtain ⟨h0, h1, h2, h3, h4, e⟩ := submitT_goes h
    have hg : GoodR ⟨pushQ s v, who, []⟩ := ⟨h4.good.push h1 h2 h3, h4.ids⟩
    rw [e]
    unfold submitR
    simp only []
    split
    · have hg' := hg.start (k := s.round) (Int.le_refl _) h4.good.round.2
      have := flow_len hg'
      have := meas_bd hg'.s
      have := startR_len ⟨pushQ s v, who, []⟩ s.round
      simp only [List.length_nil] at *
      show (flowR (startR ⟨pushQ s v, who, []⟩ s.round)).out.length ≤ 2000
      omega
    · simp
  · rw [(submitT_err h).2]; simp
theorem timeT_len (s : Node) (who : Int) : (timeT s who).out.length ≤ 2000 := by
  by_cases h : (timeT s who).err = 0
  · obtain ⟨h0, h4⟩ := timeT_goes h
    by_cases h2 : 4 ≤ s.height
    · rw [timeT_2 h0 h2]; simp
    · rw [timeT_3 h0 h2]
      have hg : GoodR ⟨s, who, []⟩ := ⟨h4.good, h4.ids⟩
      have hg' := hg.time (show s.height < 4 by omega)
      have := flow_len hg'
      have := meas_bd hg'.s
      have := timeR_len ⟨s, who, []⟩
      simp only [List.length_nil] at *
      omega
  · rw [(timeT_err h).2]; simp

end Go.W
