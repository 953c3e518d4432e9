/-
  Package node, walked: Time.
-/
import Derived.Test.YthpjdjofcbnoiacFv
namespace Go.W
open Go.Proofs

theorem timeT_1 {s : Node} {who : Int} (h : beginE s who ≠ 0) : timeT s who = ⟨s, [], beginE s who⟩ := by unfold timeT; rw [if_pos h]
theorem timeT_2 {s : Node} {who : Int} (h : beginE s who = 0) (h2 : 4 ≤ s.height) : timeT s who = ⟨s, [], 0⟩ := by unfold timeT; rw [if_neg (by omega), if_pos h2]
theorem timeT_3 {s : Node} {who : Int} (h : beginE s who = 0) (h2 : ¬ 4 ≤ s.height) : timeT s who = ⟨(flowR (timeR ⟨s, who, []⟩)).s, (flowR (timeR ⟨s, who, []⟩)).out, 0⟩ := by unfold timeT; rw [if_neg (by omega), if_neg h2]
theorem timeR_len (x : Run) : (timeR x).out.length ≤ x.out.length + 1 := by
  unfold timeR
  split
  · simp [sayR]
  · split
    · split
      · simp [sayR]
      · exact Nat.le_succ _
    · split
      · exact startR_len _ _
      · exact Nat.le_succ _
theorem timeR_1 {x : Run} (h : x.s.step = 0) : timeR x = sayR ⟨{ x.s with step := 1 }, x.who, x.out⟩ 2 0 0 := by unfold timeR; rw [if_pos h]
theorem timeR_2 {x : Run} (h : x.s.step = 1) (h2 : 3 ≤ all4 (x.s.cur.wishes x.s.round.toNat)) : timeR x = sayR ⟨{ x.s with step := 2 }, x.who, x.out⟩ 3 0 0 := by unfold timeR; rw [if_neg (by omega), if_pos h, if_pos h2]
theorem timeR_3 {x : Run} (h : x.s.step = 2) (h2 : 3 ≤ all4 (x.s.cur.promises x.s.round.toNat) ∧ x.s.round < 5) : timeR x = startR x (x.s.round + 1) := by unfold timeR; rw [if_neg (by omega), if_neg (by omega), if_pos h2]
theorem timeR_4 {x : Run} (h0 : x.s.step ≠ 0) (h1 : ¬ (x.s.step = 1 ∧ 3 ≤ all4 (x.s.cur.wishes x.s.round.toNat))) (h2 : x.s.step ≤ 2) (h3 : 0 ≤ x.s.step) (h4 : ¬ (x.s.step = 2 ∧ 3 ≤ all4 (x.s.cur.promises x.s.round.toNat) ∧ x.s.round < 5)) : timeR x = x := by
  unfold timeR
  rw [if_neg h0]
  split
  · rename_i h; rw [if_neg fun h' => h1 ⟨h, h'⟩]
  · rename_i h; rw [if_neg fun h' => h4 ⟨by omega, h'⟩]

set_option maxHeartbeats 4000000 in
set_option maxRecDepth 100000 in
theorem timeT_spec (s : Node) (who : Int) : Pure Try.prog 28 [.data (eNode s), .data (I who)] (turnAV (timeT s who)) := by
  refine spec_of ttok Try.func28 rfl (by kernel_rfl) (by exact Nat.le_of_ble_eq_true rfl) fun hin hie c0 hc0 he => ?_
  have hn0 : c0.es.length ≤ 0 := Nat.le_of_eq (by rw [he]; rfl)
  refine R [] ?_
  by_cases hb : beginE s who = 0
  case neg =>
    refine R [.tuple [.nilptr, .data (I (beginE s who))]] (ho := by exact ⟨begin_err s who hb, trivial⟩) ?_
    refine W.seq (R [] ?_)
    refine C (fun h => ?_) (fun h => ?_)
    · refine R [] (ho := by exact ⟨sameNz _ _, trivial⟩) ?_
      refine W.le hc0 (Le.slotRow 5 6 (by with_unfolding_all rfl)) ?_
      refine W.ret (End 0 hn0 ⟨?_, rfl⟩)
      rw [timeT_1 hb]; rfl
    · have h : (!(beginE s who == 0)) = false := h
      simp at h; omega
  have hgs := (beginE_ok hb).1
  have hids := (beginE_ok hb).2
  refine R [Hint.on [] [.var (eRunnerD (eNode s) who .nil) []] (.tuple [.ptr 0 [], .data (I 0)])] (ho := by exact ⟨begin_ok' s who hb, trivial⟩) ?_
  refine W.seq (R [] ?_)
  refine C (fun h => ?_) (fun h => ?_)
  · cases h
  refine W.skip ?_
  refine W.seq (R [] ?_)
  refine C (fun h => ?_) (fun h => ?_)
  · have h2 : 4 ≤ s.height := of_decide_eq_true h
    refine R [] (ho := by exact ⟨sameNz _ _, trivial⟩) ?_
    refine W.le hc0 (Le.slotRow 5 6 (by with_unfolding_all rfl)) ?_
    refine W.ret (End 0 hn0 ⟨?_, rfl⟩)
    rw [timeT_2 hb h2]; rfl
  have h2 : ¬ 4 ≤ s.height := of_decide_eq_false h
  clear h
  have hh : 0 ≤ s.height ∧ s.height < 4 := by have := hgs.height; omega
  have hr := hgs.round
  have hst := hgs.step
  have hO := timeT_3 hb h2
  have hg0 : GoodR ⟨s, who, []⟩ := ⟨hgs, hids⟩
  have hgy := hg0.time hh.2
  have hf := flow_spec (timeR ⟨s, who, []⟩) hgy (by have := meas_bd hgy.s; have := timeR_len ⟨s, who, []⟩; simp only [List.length_nil] at this; omega)
  generalize flowR (timeR ⟨s, who, []⟩) = y at hf hO
  obtain ⟨sy, wy, oy⟩ := y
  refine W.skip ?_
  refine R [] (ho := by exact ⟨hh, sameSS _ _, trivial⟩) ?_
  refine W.le hc0 (Le.nilRow 2 [2] 6 (d := eRunnerD (eNode s) who .nil) (tok := []) (by with_unfolding_all rfl) ⟨by omega, trivial⟩ rfl) ?_
  refine W.le hc0 (Le.cut [(2, .ptr 0 []), (4, .ptr 1 []), (7, .ptr 2 []), (9, .ptr 3 [])] 5 (by omega) (es' := [.var (eNode s) [], .var (eNodeN Node.zero) [], .var (eRun ⟨s, who, []⟩) [([2], 4)], .var (eSheet s.cur) [], .row 6 []])
    ⟨⟨by with_unfolding_all rfl, rfl⟩, ⟨by with_unfolding_all rfl, rfl⟩, ⟨by with_unfolding_all rfl, rfl⟩, ⟨by with_unfolding_all rfl, rfl⟩, trivial⟩ ?eq) ?_
  case eq => with_unfolding_all exact congrArg (fun d => [Ent.var (eNode s) [], .var (eNodeN Node.zero) [], .var d [([2], 4)], .var (eSheet s.cur) [], .row 6 []]) (run_out s who)
  refine W.seq (W.block (R [] ?_))
  refine C (fun h => ?_) (fun h => ?_)
  case' refine_1 =>
    have h0 : s.step = 0 := by simpa using h
    have hy := timeR_1 (x := ⟨s, who, []⟩) h0
    rw [hy] at hf
    refine R [] ?_
    refine W.ents (es' := [.var (eNode s) [], .var (eNodeN Node.zero) [], .var (eRun ⟨{ s with step := 1 }, who, []⟩) [([2], 4)], .var (eSheet s.cur) [], .row 6 []]) ?e1 ?_
    case' e1 => with_unfolding_all exact congrArg (fun d => [Ent.var (eNode s) [], .var (eNodeN Node.zero) [], .var d [([2], 4)], .var (eSheet s.cur) [], .row 6 []]) (run_step ⟨s, who, []⟩ 1)
    have hs := say_spec ⟨{ s with step := 1 }, who, []⟩ 2 0 0 hh (by simp)
    generalize sayR ⟨{ s with step := 1 }, who, []⟩ 2 0 0 = x at hf hs
    obtain ⟨sx, wx, ox⟩ := x
    refine R1 [Hint.on [2, 4] (RE ⟨sx, wx, ox⟩) (.tuple [])] (ho := by exact ⟨hs, trivial⟩) ?_
    refine W.le hc0 (Le.cut [(4, .ptr 1 []), (7, .ptr 2 [])] 5 (by omega) (es' := [.var (eNode s) [], .var (eNodeN Node.zero) [], .var (eRun ⟨sx, wx, ox⟩) [([2], 4)], .var (eSheet s.cur) [], .row 6 (ox.map eWord)]) ⟨⟨by with_unfolding_all rfl, rfl⟩, ⟨by with_unfolding_all rfl, rfl⟩, trivial⟩ (by with_unfolding_all rfl)) ?_
  case' refine_2 =>
    have h0 : s.step ≠ 0 := by simpa using h
    clear h
    refine R [.data (I (all4 (s.cur.wishes s.round.toNat)))] (ho := by exact ⟨fun _ => hr, fun _ => all_spec _, trivial⟩) ?_
    refine C (fun h => ?_) (fun h => ?_)
    case' refine_1 =>
      have h1 : s.step = 1 ∧ 3 ≤ all4 (s.cur.wishes s.round.toNat) := by rw [bif_and] at h; simpa using h
      have hy := timeR_2 (x := ⟨s, who, []⟩) h1.1 h1.2
      rw [hy] at hf
      refine R [] ?_
      refine W.ents (es' := [.var (eNode s) [], .var (eNodeN Node.zero) [], .var (eRun ⟨{ s with step := 2 }, who, []⟩) [([2], 4)], .var (eSheet s.cur) [], .row 6 []]) ?e2 ?_
      case' e2 => with_unfolding_all exact congrArg (fun d => [Ent.var (eNode s) [], .var (eNodeN Node.zero) [], .var d [([2], 4)], .var (eSheet s.cur) [], .row 6 []]) (run_step ⟨s, who, []⟩ 2)
      have hs := say_spec ⟨{ s with step := 2 }, who, []⟩ 3 0 0 hh (by simp)
      generalize sayR ⟨{ s with step := 2 }, who, []⟩ 3 0 0 = x at hf hs
      obtain ⟨sx, wx, ox⟩ := x
      refine R1 [Hint.on [2, 4] (RE ⟨sx, wx, ox⟩) (.tuple [])] (ho := by exact ⟨hs, trivial⟩) ?_
      refine W.le hc0 (Le.cut [(4, .ptr 1 []), (7, .ptr 2 [])] 5 (by omega) (es' := [.var (eNode s) [], .var (eNodeN Node.zero) [], .var (eRun ⟨sx, wx, ox⟩) [([2], 4)], .var (eSheet s.cur) [], .row 6 (ox.map eWord)]) ⟨⟨by with_unfolding_all rfl, rfl⟩, ⟨by with_unfolding_all rfl, rfl⟩, trivial⟩ (by with_unfolding_all rfl)) ?_
    case' refine_2 =>
      have h1 : ¬ (s.step = 1 ∧ 3 ≤ all4 (s.cur.wishes s.round.toNat)) := by
        rintro ⟨a, b⟩
        rw [bif_and] at h
        have : (s.step == 1 && decide (3 ≤ all4 (s.cur.wishes s.round.toNat))) = false := h
        rw [a, decide_eq_true b] at this
        cases this
      clear h
      refine R [.data (I (all4 (s.cur.promises s.round.toNat)))] (ho := by exact ⟨fun _ => hr, fun _ => all_spec _, trivial⟩) ?_
      refine C (fun h => ?_) (fun h => ?_)
      case' refine_1 =>
        have h3 : s.step = 2 ∧ 3 ≤ all4 (s.cur.promises s.round.toNat) ∧ s.round < 5 := by rw [bif_and, bif_and] at h; simpa [and_assoc] using h
        have hy := timeR_3 (x := ⟨s, who, []⟩) h3.1 h3.2
        rw [hy] at hf
        have hs := start_spec ⟨s, who, []⟩ (s.round + 1) hh (by omega) (by simp)
        have hw : IntKind.i64.wrap (s.round + 1) = s.round + 1 := i64_wrap (by omega) (by omega)
        generalize startR ⟨s, who, []⟩ (s.round + 1) = x at hf hs
        obtain ⟨sx, wx, ox⟩ := x
        refine R1 [Hint.on [2, 4] (RE ⟨sx, wx, ox⟩) (.tuple [])] (ho := by with_unfolding_all exact ⟨(by rw [hw]; exact hs), trivial⟩) ?_
        refine W.le hc0 (Le.cut [(4, .ptr 1 []), (7, .ptr 2 [])] 5 (by omega) (es' := [.var (eNode s) [], .var (eNodeN Node.zero) [], .var (eRun ⟨sx, wx, ox⟩) [([2], 4)], .var (eSheet s.cur) [], .row 6 (ox.map eWord)]) ⟨⟨by with_unfolding_all rfl, rfl⟩, ⟨by with_unfolding_all rfl, rfl⟩, trivial⟩ (by with_unfolding_all rfl)) ?_
      case' refine_2 =>
        have h3 : ¬ (s.step = 2 ∧ 3 ≤ all4 (s.cur.promises s.round.toNat) ∧ s.round < 5) := by
          rintro ⟨a, b, c⟩
          rw [bif_and, bif_and] at h
          have : (s.step == 2 && decide (3 ≤ all4 (s.cur.promises s.round.toNat)) && decide (s.round < 5)) = false := h
          rw [a, decide_eq_true b, decide_eq_true c] at this
          cases this
        have hy := timeR_4 (x := ⟨s, who, []⟩) h0 h1 hst.2 hst.1 h3
        rw [hy] at hf
        have hx : ∃ sx wx ox, sx = s ∧ wx = who ∧ ox = ([] : List Word) := ⟨s, who, [], rfl, rfl, rfl⟩
        obtain ⟨sx, wx, ox, e1, e2, e3⟩ := hx
        have hf : Fn Try.prog 39 [.ptr 0 []] (RE ⟨sx, wx, ox⟩) (.tuple []) (RE ⟨sy, wy, oy⟩) := by rw [e1, e2, e3]; exact hf
        refine W.skip ?_
        refine W.le hc0 (Le.cut [(4, .ptr 1 []), (7, .ptr 2 [])] 5 (by omega) (es' := [.var (eNode s) [], .var (eNodeN Node.zero) [], .var (eRun ⟨sx, wx, ox⟩) [([2], 4)], .var (eSheet s.cur) [], .row 6 (ox.map eWord)]) ⟨⟨by with_unfolding_all rfl, rfl⟩, ⟨by with_unfolding_all rfl, rfl⟩, trivial⟩ (by rw [e1, e2, e3]; with_unfolding_all rfl)) ?_
  all_goals
    refine R [Hint.on [2, 4] (RE ⟨sy, wy, oy⟩) (.tuple [])] (ho := by exact ⟨hf, trivial⟩) ?_
    refine RF [] 5 [(6, .rd (some 2)), (7, .rd (some 2)), (8, .wr 1)] (ho := by exact ⟨sameNz _ _, trivial⟩) ?_
    refine W.ret (End 0 hn0 ⟨?_, rfl⟩)
    rw [hO]; rfl

end Go.W
