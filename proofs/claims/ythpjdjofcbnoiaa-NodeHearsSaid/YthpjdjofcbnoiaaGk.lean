/-
  The reference hears a word; the law NodeHears.
-/
import Derived.Test.YthpjdjofcbnoiaaFz
namespace Go.W
open Go.Proofs

set_option maxHeartbeats 4000000 in
set_option maxRecDepth 100000 in
theorem hearWord_spec (s : Node) (who : Int) (w : Word) : Pure Try.prog 48 [.data (eNode s), .data (I who), .data (eWord w)] (turnAV (hearT s who w)) := by
  refine spec_of ttok Try.func48 rfl (by kernel_rfl) (by exact Nat.le_of_ble_eq_true rfl) fun hin hie c0 hc0 he => ?_
  have hn0 : c0.es.length ≤ 0 := Nat.le_of_eq (by rw [he]; rfl)
  refine R [] ?_
  by_cases hb : beginE s who = 0
  case neg =>
    refine R [.tuple [.nilptr, .data (I (beginE s who))]] (ho := by exact ⟨opened_err s who hb, trivial⟩) ?_
    refine W.seq (R [] ?_)
    refine C (fun h => ?_) (fun h => ?_)
    · have h : (beginE s who == 0) = true := h
      simp at h; omega
    refine W.skip ?_
    refine W.seq (R [] ?_)
    refine C (fun h => ?_) (fun h => ?_)
    · refine R [] (ho := by exact ⟨sameNz _ _, trivial⟩) ?_
      refine W.le hc0 (Le.slotRow 7 6 (by with_unfolding_all rfl)) ?_
      refine W.ret (End 0 hn0 ⟨?_, rfl⟩)
      rw [hearT_1 hb]; rfl
    · have h : (!(beginE s who == 0)) = false := h
      simp at h; omega
  refine R [Hint.on [] (BE s who) (.tuple [.ptr 0 [], .data (I 0)])] (ho := by exact ⟨opened_ok s who hb, trivial⟩) ?_
  refine W.seq (R [] ?_)
  refine C (fun h => ?_) (fun h => ?_)
  rotate_left
  · cases h
  refine R1 [.data (I (goodW w))] (ho := by exact ⟨wordError_spec w, trivial⟩) ?_
  refine W.seq (R [] ?_)
  refine C (fun h => ?_) (fun h => ?_)
  · have h2 : goodW w ≠ 0 := by
      have h : (!(goodW w == 0)) = true := h
      simpa using h
    refine R [] (ho := by exact ⟨sameNz _ _, trivial⟩) ?_
    refine W.le hc0 (Le.slotRow 7 6 (by with_unfolding_all rfl)) ?_
    refine W.ret (End 0 hn0 ⟨?_, rfl⟩)
    rw [hearT_2 hb h2]; rfl
  have h2 : goodW w = 0 := by
    have h : (!(goodW w == 0)) = false := h
    simpa using h
  have hw := ((goodW_iff w).1 h2).height
  have hgs := (beginE_ok hb).1
  have hg : GoodR ⟨hearN s w, who, []⟩ := ⟨hgs.hear w, (beginE_ok hb).2⟩
  refine W.skip ?_
  refine RD [.data (eSheet (hearS (s.heard w.height.toNat) w))] (ho := by exact ⟨hw, hearSheet_spec _ _, hw, sameSS _ _, trivial⟩) ?_
  refine W.ents (es' := [.var (eNode s) [], .var (eWord w) [], .var (eNodeN Node.zero) [], .var (eRunnerD (eNode (hearN s w)) who .nil) [([0, 10], 4)], .row 1 (s.queue.map I)]) ?_ ?_
  · with_unfolding_all exact congrArg (fun d => [Ent.var (eNode s) [], .var (eWord w) [], .var (eNodeN Node.zero) [], .var d [([0, 10], 4)], .row 1 (s.queue.map I)]) (run_hear s who w)
  refine W.le hc0 (Le.nilRow 3 [2] 6 (d := eRunnerD (eNode (hearN s w)) who .nil) (tok := [([0, 10], 4)]) (by with_unfolding_all rfl) ⟨by omega, trivial⟩ rfl) ?_
  refine W.ents (es' := [.var (eNode s) [], .var (eWord w) [], .var (eNodeN Node.zero) [], .var (eRun ⟨hearN s w, who, []⟩) [([2], 5), ([0, 10], 4)], .row 1 (s.queue.map I), .row 6 []]) ?_ ?_
  · with_unfolding_all exact congrArg (fun d => [Ent.var (eNode s) [], .var (eWord w) [], .var (eNodeN Node.zero) [], .var d [([2], 5), ([0, 10], 4)], .row 1 (s.queue.map I), .row 6 []]) (run_out (hearN s w) who)
  have hf := all_flow_spec ⟨hearN s w, who, []⟩ hg (by have : meas (hearN s w) ≤ 1000 := meas_bd hg.s; simp only [List.length_nil]; omega)
  have hO := hearT_3 (who := who) hb h2
  generalize flowR ⟨hearN s w, who, []⟩ = y at hf hO
  obtain ⟨sy, wy, oy⟩ := y
  refine R [Hint.on [3, 5] (RE ⟨sy, wy, oy⟩) (.tuple [])] (ho := by exact ⟨hf, trivial⟩) ?_
  refine RF [] 6 [(6, .rd (some 3)), (7, .rd (some 3)), (8, .wr 2)] (ho := by exact ⟨sameNz _ _, trivial⟩) ?_
  refine W.ret (End 0 hn0 ⟨?_, rfl⟩)
  rw [hO]; rfl

end Go.W
