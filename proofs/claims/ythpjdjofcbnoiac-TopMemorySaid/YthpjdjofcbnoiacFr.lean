/-
  Package node, walked: what a runner says, how it starts a round.
-/
import Derived.Test.YthpjdjofcbnoiacFq
namespace Go.W
open Go.Proofs

/-- A runner: what it has said is a row. -/
abbrev RE (x : Run) : List Ent := [.var (eRun x) [([2], 1)], .row 6 (x.out.map eWord)]

theorem wordD {f : Nat → D} {w : Word} (h0 : f 0 = I w.kind) (h1 : f 1 = I w.frm) (h2 : f 2 = I w.height) (h3 : f 3 = I w.round) (h4 : f 4 = I w.value) (h5 : f 5 = I w.valid) (h6 : ∀ i, f (i + 6) = .nil) : D.agg 6 f = eWord w := by
  have := eWord_of h0 h1 h2 h3 h4 h5 h6
  simpa using this
theorem sizes_words (l : List Word) : ∀ d ∈ l.map eWord, d.size = 6 := by
  intro d hd
  obtain ⟨v, _, rfl⟩ := List.mem_map.1 hd
  rfl
theorem sizes_words1 (l : List Word) (w : Word) : ∀ d ∈ l.map eWord ++ [eWord w], d.size = 6 := by
  intro d hd
  rcases List.mem_append.1 hd with h | h
  · exact sizes_words l d h
  · rw [List.mem_singleton.1 h]; rfl
theorem fits_words (l : List Word) (w : Word) (h : l.length ≤ 2000) : (l.map eWord ++ [eWord w]).length ≤ maxLen ∧ (l.map eWord ++ [eWord w]).length * 48 ≤ 140737488355328 := by
  rw [List.length_append, List.length_map]
  unfold maxLen
  simp only [List.length_cons, List.length_nil]
  omega

theorem run_say (x : Run) (k v u : Int) : ((eRunnerD (eNode x.s) x.who (eWords (x.out ++ [wordOf x k v u]))).set [0, 8, x.s.height.toNat] (eSheet (hearS x.s.cur (wordOf x k v u)))) = eRun (sayR x k v u) := by
  rw [runner_set0, node_set8 (sheets_set' _ _ _)]; rfl

set_option maxRecDepth 100000 in
theorem say_spec (x : Run) (k v u : Int) (hh : 0 ≤ x.s.height ∧ x.s.height < 4) (hl : x.out.length ≤ 2000) : Fn Try.prog 40 [.ptr 0 [], .data (I k), .data (I v), .data (I u)] (RE x) (.tuple []) (RE (sayR x k v u)) := by
  refine spec_of ttok Try.func40 rfl (by kernel_rfl) (by exact Nat.le_of_ble_eq_true rfl) fun hin hie c0 hc0 he => ?_
  have hn0 : c0.es.length ≤ 2 := Nat.le_of_eq (by rw [he]; rfl)
  refine RD [] (ho := by with_unfolding_all exact ⟨sameW (w := wordOf x k v u) rfl rfl rfl rfl rfl rfl (fun _ => rfl), trivial⟩) ?_
  refine W.ents (es' := RE x ++ [.var (eWord (wordOf x k v u)) []]) ?_ ?_
  · with_unfolding_all exact congrArg (fun d => RE x ++ [Ent.var d []]) (wordD (w := wordOf x k v u) rfl rfl rfl rfl rfl rfl (fun _ => rfl))
  refine RF [] 3 [(7, .wr 1), (9, .rd (some 0))] (ho := by exact ⟨rfl, sizes_words1 _ _, fits_words _ _ hl, trivial⟩) ?_
  refine W.ents (es' := [.var (eRunnerD (eNode x.s) x.who (eWords (x.out ++ [wordOf x k v u]))) [([2], 1)], .row 6 ((x.out ++ [wordOf x k v u]).map eWord), .var (eWord (wordOf x k v u)) []]) ?_ ?_
  · simp only [eWords, List.map_append, List.map_cons, List.map_nil]
    with_unfolding_all exact congrArg (fun d => [Ent.var d [([2], 1)], .row 6 (x.out.map eWord ++ [eWord (wordOf x k v u)]), .var (eWord (wordOf x k v u)) []]) (runner_set2 (eNode x.s) x.who (eWords x.out) [] (.list (x.out.map eWord ++ [eWord (wordOf x k v u)])))
  refine RD [] (ho := by exact ⟨hh, trivial⟩) ?_
  refine RD1 [.data (eSheet (hearS x.s.cur (wordOf x k v u)))] (ho := by exact ⟨hear_spec _ _, sameSS _ _, trivial⟩) ?_
  refine End 2 hn0 ⟨rfl, ?_⟩
  with_unfolding_all exact congrArg (fun d => [Ent.var d [([2], 1)], .row 6 ((x.out ++ [wordOf x k v u]).map eWord)]) (run_say x k v u)

theorem run_round (x : Run) (k : Int) : ((eRun x).set [0, 1] (I k)).set [0, 2] (I 0) = eRun ⟨atRound x.s k, x.who, x.out⟩ := by
  unfold eRun
  rw [runner_set0, runner_set0, node_set1, node_set2]; rfl
theorem startR_mute {x : Run} {k : Int} (h : mute x.s x.who k = true) : startR x k = ⟨atRound x.s k, x.who, x.out⟩ := by
  unfold startR; rw [if_pos h]
theorem startR_none {x : Run} {k : Int} (h : mute x.s x.who k = false) (hp : proposal x.s = none) : startR x k = ⟨atRound x.s k, x.who, x.out⟩ := by
  unfold startR; rw [h, hp]; rfl
theorem startR_some {x : Run} {k : Int} {p : Int × Int} (h : mute x.s x.who k = false) (hp : proposal x.s = some p) : startR x k = sayR ⟨atRound x.s k, x.who, x.out⟩ 1 p.1 p.2 := by
  unfold startR; rw [h, hp]; rfl

set_option maxRecDepth 100000 in
theorem start_spec (x : Run) (k : Int) (hh : 0 ≤ x.s.height ∧ x.s.height < 4) (hk : 0 ≤ k ∧ k < 6) (hl : x.out.length ≤ 2000) : Fn Try.prog 38 [.ptr 0 [], .data (I k)] (RE x) (.tuple []) (RE (startR x k)) := by
  refine spec_of ttok Try.func38 rfl (by kernel_rfl) (by exact Nat.le_of_ble_eq_true rfl) fun hin hie c0 hc0 he => ?_
  have hn0 : c0.es.length ≤ 2 := Nat.le_of_eq (by rw [he]; rfl)
  refine R [] ?_
  refine W.ents (es' := RE ⟨atRound x.s k, x.who, x.out⟩) ?_ ?_
  · with_unfolding_all exact congrArg (fun d => [Ent.var d [([2], 1)], .row 6 (x.out.map eWord)]) (run_round x k)
  refine W.seq (RD [.data (I (leader x.s.height k))] (ho := by exact ⟨leader_spec _ _, fun _ => hh, fun _ => hk, trivial⟩) ?_)
  refine C (fun h => ?_) (fun h => ?_)
  · have hm : mute x.s x.who k = true := by rw [bif_or] at h; exact h
    refine W.ret (End 2 hn0 ⟨rfl, ?_⟩)
    rw [startR_mute hm]; rfl
  have hm : mute x.s x.who k = false := by rw [bif_or] at h; exact h
  clear h
  refine W.skip (W.block (R [] ?_))
  refine C (fun h => ?_) (fun h => ?_)
  · have hp : proposal x.s = some (x.s.valid, x.s.validIn) := by
      have h : 0 ≤ x.s.validIn := of_decide_eq_true h
      simp only [proposal, if_pos h]
    refine RD1 [Hint.on [0, 1] (RE (sayR ⟨atRound x.s k, x.who, x.out⟩ 1 x.s.valid x.s.validIn)) (.tuple [])] (ho := by exact ⟨say_spec ⟨atRound x.s k, x.who, x.out⟩ 1 x.s.valid x.s.validIn hh hl, trivial⟩) ?_
    refine End 2 hn0 ⟨rfl, ?_⟩
    rw [startR_some hm hp]; rfl
  · have h0 : ¬ 0 ≤ x.s.validIn := of_decide_eq_false h
    refine R [] ?_
    refine C (fun h => ?_) (fun h => ?_)
    · have hq : 0 < x.s.queue.length := by
        have h' : (0 : Int) < (x.s.queue.map I).length := of_decide_eq_true h
        rw [List.length_map] at h'
        omega
      have hp : proposal x.s = some (x.s.queue.getD 0 0, -1) := by
        simp only [proposal, if_neg h0]
        cases hqq : x.s.queue with
        | nil => simp [hqq] at hq
        | cons a l => rfl
      refine R1 [.is 75 (.cptr (I (x.s.queue.getD 0 0))), Hint.on [0, 1] (RE (sayR ⟨atRound x.s k, x.who, x.out⟩ 1 (x.s.queue.getD 0 0) (-1))) (.tuple [])]
        (ho := by exact ⟨cptr_q _ hq, ⟨by omega, by rw [List.length_map]; exact Int.ofNat_lt.2 hq⟩, sizes_q _, say_spec ⟨atRound x.s k, x.who, x.out⟩ 1 (x.s.queue.getD 0 0) (-1) hh hl, trivial⟩) ?_
      refine End 2 hn0 ⟨rfl, ?_⟩
      rw [startR_some hm hp]; rfl
    · have hp : proposal x.s = none := by
        have h' : ¬ (0 : Int) < (x.s.queue.map I).length := of_decide_eq_false h
        rw [List.length_map] at h'
        simp only [proposal, if_neg h0]
        cases hqq : x.s.queue with
        | nil => rfl
        | cons a l => simp [hqq] at h'
      refine W.skip ?_
      refine End 2 hn0 ⟨rfl, ?_⟩
      rw [startR_none hm hp]; rfl

end Go.W
