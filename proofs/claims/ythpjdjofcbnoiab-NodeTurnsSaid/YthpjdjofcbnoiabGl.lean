/-
  The reference's Submit and Time, walked; the law NodeTurns.
-/
import Derived.Test.YthpjdjofcbnoiabGm
namespace Go.W
open Go.Proofs

theorem submit_within (v : Int) : (!within v 1 9) = (decide (v < 1) || decide (9 < v)) := by
  rw [Bool.eq_iff_iff]
  simp only [within, Bool.not_eq_true', Bool.and_eq_false_iff, Bool.or_eq_true, decide_eq_true_eq, decide_eq_false_iff_not]
  omega

set_option maxHeartbeats 8000000 in
set_option maxRecDepth 100000 in
theorem submitValue_spec (s : Node) (who v : Int) : Pure Try.prog 20 [.data (eNode s), .data (I who), .data (I v)] (turnAV (submitT s who v)) := by
  refine spec_of ttok Try.func20 rfl (by kernel_rfl) (by exact Nat.le_of_ble_eq_true rfl) fun hin hie c0 hc0 he => ?_
  have hn0 : c0.es.length ≤ 0 := Nat.le_of_eq (by rw [he]; rfl)
  refine R [] ?_
  by_cases hb : beginE s who = 0
  case neg =>
    have hbb : (beginE s who == 0) = false := by simpa using hb
    refine R [.tuple [.nilptr, .data (I (beginE s who))]] (ho := by exact ⟨opened_err s who hb, trivial⟩) ?_
    refine W.seq (R [.data (.bool (within v 1 9))] (ho := by exact ⟨fun _ => within_spec _ _ _, trivial⟩) ?_)
    refine C (fun h => ?_) (fun h => ?_)
    · have h : (bif beginE s who == 0 then !within v 1 9 else false) = true := h
      rw [hbb] at h; cases h
    refine W.skip ?_
    refine W.seq (R [] ?_)
    refine C (fun h => ?_) (fun h => ?_)
    · have h : (bif beginE s who == 0 then ((s.queue.map I).length : Int) == 6 else false) = true := h
      rw [hbb] at h; cases h
    refine W.skip ?_
    refine W.seq (R [] ?_)
    refine C (fun h => ?_) (fun h => ?_)
    · refine R [] (ho := by exact ⟨sameNz _ _, trivial⟩) ?_
      refine W.le hc0 (Le.slotRow 7 6 (by with_unfolding_all rfl)) ?_
      refine W.ret (End 0 hn0 ⟨?_, rfl⟩)
      rw [submitT_1 hb]; rfl
    · have h : (!(beginE s who == 0)) = false := h
      rw [hbb] at h; cases h
  have hgs := (beginE_ok hb).1
  have hids := (beginE_ok hb).2
  refine R [Hint.on [] (BE s who) (.tuple [.ptr 0 [], .data (I 0)])] (ho := by exact ⟨opened_ok s who hb, trivial⟩) ?_
  refine W.seq (R [.data (.bool (within v 1 9))] (ho := by exact ⟨fun _ => within_spec _ _ _, trivial⟩) ?_)
  refine C (fun h => ?_) (fun h => ?_)
  · have h2 : (decide (v < 1) || decide (9 < v)) = true := by rw [← submit_within]; exact h
    refine R1 [] ?_
    refine W.seq (R [] ?_)
    refine C (fun h => ?_) (fun h => ?_)
    · cases h
    refine W.skip ?_
    refine W.seq (R [] ?_)
    refine C (fun h => ?_) (fun h => ?_)
    · refine R [] (ho := by exact ⟨sameNz _ _, trivial⟩) ?_
      refine W.le hc0 (Le.slotRow 7 6 (by with_unfolding_all rfl)) ?_
      refine W.ret (End 0 hn0 ⟨?_, rfl⟩)
      rw [submitT_2 hb h2]; rfl
    · cases h
  have h2 : (decide (v < 1) || decide (9 < v)) = false := by rw [← submit_within]; exact h
  clear h
  have hql := hgs.len
  refine W.skip ?_
  refine W.seq (R [] ?_)
  refine C (fun h => ?_) (fun h => ?_)
  · have h3 : 6 ≤ s.queue.length := by
      have h' : (((s.queue.map I).length : Int) == 6) = true := h
      simp at h'
      omega
    refine R1 [] ?_
    refine W.seq (R [] ?_)
    refine C (fun h => ?_) (fun h => ?_)
    · refine R [] (ho := by exact ⟨sameNz _ _, trivial⟩) ?_
      refine W.le hc0 (Le.slotRow 7 6 (by with_unfolding_all rfl)) ?_
      refine W.ret (End 0 hn0 ⟨?_, rfl⟩)
      rw [submitT_3 hb h2 h3]; rfl
    · cases h
  have h3 : ¬ 6 ≤ s.queue.length := by
    have h' : (((s.queue.map I).length : Int) == 6) = false := h
    simp at h'
    omega
  clear h
  have hO := submitT_4 hb h2 h3
  have hv : 1 ≤ v ∧ v ≤ 9 := by
    simp only [Bool.or_eq_false_iff, decide_eq_false_iff_not] at h2
    omega
  have hgx : GoodR ⟨pushQ s v, who, []⟩ := ⟨hgs.push hv.1 hv.2 (by omega), hids⟩
  refine W.skip ?_
  refine W.seq (R [] ?_)
  refine C (fun h => ?_) (fun h => ?_)
  · cases h
  refine W.skip ?_
  refine R [] (ho := by exact ⟨rfl, sizes_q1 _ _, fits_q _ _ (by omega), trivial⟩) ?_
  refine W.ents (es' := [.var (eNode s) [], .var (eNodeN Node.zero) [], .var (eRunnerD (eNode (pushQ s v)) who .nil) [([0, 10], 3)], .row 1 ((s.queue ++ [v]).map I)]) ?_ ?_
  · have := run_push s who v
    unfold eQ at this
    rw [List.map_append] at this ⊢
    with_unfolding_all exact congrArg (fun d => [Ent.var (eNode s) [], .var (eNodeN Node.zero) [], .var d [([0, 10], 3)], .row 1 (s.queue.map I ++ [I v])]) this
  refine W.le hc0 (Le.nilRow 2 [2] 6 (d := eRunnerD (eNode (pushQ s v)) who .nil) (tok := [([0, 10], 3)]) (by with_unfolding_all rfl) ⟨by omega, trivial⟩ rfl) ?_
  refine W.ents (es' := [.var (eNode s) [], .var (eNodeN Node.zero) [], .var (eRun ⟨pushQ s v, who, []⟩) [([2], 4), ([0, 10], 3)], .row 1 ((s.queue ++ [v]).map I), .row 6 []]) ?_ ?_
  · with_unfolding_all exact congrArg (fun d => [Ent.var (eNode s) [], .var (eNodeN Node.zero) [], .var d [([2], 4), ([0, 10], 3)], .row 1 ((s.queue ++ [v]).map I), .row 6 []]) (run_out (pushQ s v) who)
  refine W.seq (R [] ?_)
  refine C (fun h => ?_) (fun h => ?_)
  · have h4 : s.height < 4 ∧ s.step = 0 := by
      have h : (bif decide (s.height < 4) then s.step == 0 else false) = true := h
      rw [bif_and] at h; simpa using h
    have hr := hgs.round
    have hss := enter_spec ⟨pushQ s v, who, []⟩ s.round ⟨hgs.height.1, hgs.height.2⟩ hr (by simp)
    rw [enterR_s _ (show (pushQ s v).height ≠ 4 by show s.height ≠ 4; omega)] at hss
    have hgy : GoodR (startR ⟨pushQ s v, who, []⟩ s.round) := hgx.start (Int.le_refl _) hr.2
    have hf := all_flow_spec (startR ⟨pushQ s v, who, []⟩ s.round) hgy (by have := meas_bd hgy.s; have := startR_len ⟨pushQ s v, who, []⟩ s.round; simp only [List.length_nil] at this; omega)
    have hy : submitR s who v = flowR (startR ⟨pushQ s v, who, []⟩ s.round) := by unfold submitR; simp only []; rw [if_pos h4]
    rw [hy] at hO
    generalize flowR (startR ⟨pushQ s v, who, []⟩ s.round) = y at hf hO
    generalize startR ⟨pushQ s v, who, []⟩ s.round = x at hf hss
    obtain ⟨sy, wy, oy⟩ := y
    obtain ⟨sx, wx, ox⟩ := x
    refine R [Hint.on [2, 4] (RE ⟨sx, wx, ox⟩) (.tuple [])] (ho := by exact ⟨hss, trivial⟩) ?_
    refine R1 [Hint.on [2, 4] (RE ⟨sy, wy, oy⟩) (.tuple [])] (ho := by exact ⟨hf, trivial⟩) ?_
    refine RF [] 5 [(6, .rd (some 2)), (7, .rd (some 2)), (8, .wr 1)] (ho := by exact ⟨sameNz _ _, trivial⟩) ?_
    refine W.ret (End 0 hn0 ⟨?_, rfl⟩)
    rw [hO]; rfl
  · have h4 : ¬ (s.height < 4 ∧ s.step = 0) := by
      rintro ⟨a, b⟩
      have h : (bif decide (s.height < 4) then s.step == 0 else false) = false := h
      rw [bif_and] at h
      simp [a, b] at h
    have hy : submitR s who v = ⟨pushQ s v, who, []⟩ := by unfold submitR; simp only []; rw [if_neg h4]
    rw [hy] at hO
    refine W.skip ?_
    refine W.le hc0 (Le.cut [(6, .ptr 1 []), (9, .ptr 2 [])] 3 (by omega) (es' := [.var (eNode s) [], .var (eNodeN Node.zero) [], .var (eRun ⟨pushQ s v, who, []⟩) []]) ⟨⟨by with_unfolding_all rfl, rfl⟩, ⟨by with_unfolding_all rfl, rfl⟩, trivial⟩ (by with_unfolding_all rfl)) ?_
    refine RF [] 3 [(6, .rd (some 2)), (7, .rd (some 2)), (8, .wr 1)] (ho := by exact ⟨sameNz _ _, trivial⟩) ?_
    refine W.ret (End 0 hn0 ⟨?_, rfl⟩)
    rw [hO]; rfl

set_option maxHeartbeats 8000000 in
set_option maxRecDepth 100000 in
theorem timeOver_spec (s : Node) (who : Int) : Pure Try.prog 22 [.data (eNode s), .data (I who)] (turnAV (timeT s who)) := by
  refine spec_of ttok Try.func22 rfl (by kernel_rfl) (by exact Nat.le_of_ble_eq_true rfl) fun hin hie c0 hc0 he => ?_
  have hn0 : c0.es.length ≤ 0 := Nat.le_of_eq (by rw [he]; rfl)
  refine R [] ?_
  by_cases hb : beginE s who = 0
  case neg =>
    refine R [.tuple [.nilptr, .data (I (beginE s who))]] (ho := by exact ⟨opened_err s who hb, trivial⟩) ?_
    refine W.seq (R [] ?_)
    refine C (fun h => ?_) (fun h => ?_)
    · refine R [] (ho := by exact ⟨sameNz _ _, trivial⟩) ?_
      refine W.le hc0 (Le.slotRow 5 6 (by with_unfolding_all rfl)) ?_
      refine W.ret (End 0 hn0 ⟨?_, rfl⟩)
      rw [timeT_1 hb]; rfl
    · have h : (!(beginE s who == 0)) = false := h
      simp at h; omega
  have hgs := (beginE_ok hb).1
  have hids := (beginE_ok hb).2
  refine R [Hint.on [] [.var (eRunnerD (eNode s) who .nil) []] (.tuple [.ptr 0 [], .data (I 0)])] (ho := by exact ⟨opened_ok' s who hb, trivial⟩) ?_
  refine W.le hc0 (Le.nilRow 2 [2] 6 (d := eRunnerD (eNode s) who .nil) (tok := []) (by with_unfolding_all rfl) ⟨by omega, trivial⟩ rfl) ?_
  refine W.le hc0 (Le.cut [(2, .ptr 0 []), (4, .ptr 1 []), (7, .ptr 2 []), (8, .data (I 0))] 4 (by omega) (es' := [.var (eNode s) [], .var (eNodeN Node.zero) [], .var (eRun ⟨s, who, []⟩) [([2], 3)], .row 6 []])
    ⟨⟨by with_unfolding_all rfl, rfl⟩, ⟨by with_unfolding_all rfl, rfl⟩, ⟨by with_unfolding_all rfl, rfl⟩, ⟨by with_unfolding_all rfl, rfl⟩, trivial⟩ ?eq) ?_
  case eq => with_unfolding_all exact congrArg (fun d => [Ent.var (eNode s) [], .var (eNodeN Node.zero) [], .var d [([2], 3)], .row 6 []]) (run_out s who)
  refine W.seq (R [] ?_)
  refine C (fun h => ?_) (fun h => ?_)
  · cases h
  refine W.skip ?_
  refine W.seq (R [] ?_)
  refine C (fun h => ?_) (fun h => ?_)
  · have h2 : s.height = 4 := by simpa using h
    refine R [] (ho := by exact ⟨sameNz _ _, trivial⟩) ?_
    refine W.le hc0 (Le.slotRow 5 6 (by with_unfolding_all rfl)) ?_
    refine W.ret (End 0 hn0 ⟨?_, rfl⟩)
    rw [timeT_2 hb (by omega)]; rfl
  have h2 : s.height ≠ 4 := by simpa using h
  clear h
  have hh : 0 ≤ s.height ∧ s.height < 4 := by have := hgs.height; omega
  have hr := hgs.round
  have hst := hgs.step
  have hO := timeT_3 hb (show ¬ 4 ≤ s.height by omega)
  have hg0 : GoodR ⟨s, who, []⟩ := ⟨hgs, hids⟩
  have hgy := hg0.time hh.2
  have hf := all_flow_spec (timeR ⟨s, who, []⟩) hgy (by have := meas_bd hgy.s; have := timeR_len ⟨s, who, []⟩; simp only [List.length_nil] at this; omega)
  generalize flowR (timeR ⟨s, who, []⟩) = y at hf hO
  obtain ⟨sy, wy, oy⟩ := y
  refine W.skip ?_
  refine R [.data (eSheet s.cur)] (ho := by exact ⟨sheet_spec ⟨s, who, []⟩ hh, sameSS _ _, trivial⟩) ?_
  refine W.seq (R [] ?_)
  refine W.block (R [] ?_)
  refine C (fun h => ?z0a) (fun h => ?z0b)
  case' z0a =>
    have h0 : s.step = 0 := by simpa using h
    have hy := timeR_1 (x := ⟨s, who, []⟩) h0
    rw [hy] at hf
    refine R [] ?_
    refine W.ents (es' := [.var (eNode s) [], .var (eNodeN Node.zero) [], .var (eRun ⟨{ s with step := 1 }, who, []⟩) [([2], 3)], .row 6 [], .var (eSheet s.cur) []]) ?e1 ?_
    case' e1 => with_unfolding_all exact congrArg (fun d => [Ent.var (eNode s) [], .var (eNodeN Node.zero) [], .var d [([2], 3)], .row 6 [], .var (eSheet s.cur) []]) (run_step ⟨s, who, []⟩ 1)
    have hs := tell_spec ⟨{ s with step := 1 }, who, []⟩ 2 0 0 hh (by simp)
    generalize sayR ⟨{ s with step := 1 }, who, []⟩ 2 0 0 = x at hf hs
    obtain ⟨sx, wx, ox⟩ := x
    refine R1 [Hint.on [2, 3] (RE ⟨sx, wx, ox⟩) (.tuple [])] (ho := by exact ⟨hs, trivial⟩) ?_
    refine W.le hc0 (Le.cut [(4, .ptr 1 []), (7, .ptr 2 [])] 4 (by omega) (es' := [.var (eNode s) [], .var (eNodeN Node.zero) [], .var (eRun ⟨sx, wx, ox⟩) [([2], 3)], .row 6 (ox.map eWord)]) ⟨⟨by with_unfolding_all rfl, rfl⟩, ⟨by with_unfolding_all rfl, rfl⟩, trivial⟩ (by with_unfolding_all rfl)) ?_
  case' z0b =>
    have h0 : s.step ≠ 0 := by simpa using h
    clear h
    refine R [] ?_
    refine C (fun h => ?z1a) (fun h => ?z1b)
    case' z1a =>
      have hs1 : s.step = 1 := by simpa using h
      clear h
      refine R [.data (I (all4 (s.cur.wishes s.round.toNat)))] (ho := by exact ⟨hr, allOf_spec _, trivial⟩) ?_
      refine C (fun h => ?z2a) (fun h => ?z2b)
      case' z2a =>
        have h1 : 3 ≤ all4 (s.cur.wishes s.round.toNat) := of_decide_eq_true h
        have hy := timeR_2 (x := ⟨s, who, []⟩) hs1 h1
        rw [hy] at hf
        refine R [] ?_
        refine W.ents (es' := [.var (eNode s) [], .var (eNodeN Node.zero) [], .var (eRun ⟨{ s with step := 2 }, who, []⟩) [([2], 3)], .row 6 [], .var (eSheet s.cur) []]) ?e2 ?_
        case' e2 => with_unfolding_all exact congrArg (fun d => [Ent.var (eNode s) [], .var (eNodeN Node.zero) [], .var d [([2], 3)], .row 6 [], .var (eSheet s.cur) []]) (run_step ⟨s, who, []⟩ 2)
        have hs := tell_spec ⟨{ s with step := 2 }, who, []⟩ 3 0 0 hh (by simp)
        generalize sayR ⟨{ s with step := 2 }, who, []⟩ 3 0 0 = x at hf hs
        obtain ⟨sx, wx, ox⟩ := x
        refine R1 [Hint.on [2, 3] (RE ⟨sx, wx, ox⟩) (.tuple [])] (ho := by exact ⟨hs, trivial⟩) ?_
        refine W.le hc0 (Le.cut [(4, .ptr 1 []), (7, .ptr 2 [])] 4 (by omega) (es' := [.var (eNode s) [], .var (eNodeN Node.zero) [], .var (eRun ⟨sx, wx, ox⟩) [([2], 3)], .row 6 (ox.map eWord)]) ⟨⟨by with_unfolding_all rfl, rfl⟩, ⟨by with_unfolding_all rfl, rfl⟩, trivial⟩ (by with_unfolding_all rfl)) ?_
      case' z2b =>
        have h1 : ¬ 3 ≤ all4 (s.cur.wishes s.round.toNat) := of_decide_eq_false h
        have hy := timeR_4 (x := ⟨s, who, []⟩) h0 (fun h => h1 h.2) hst.2 hst.1 (fun h => by have := h.1; simp only at this; omega)
        rw [hy] at hf
        have hx : ∃ sx wx ox, sx = s ∧ wx = who ∧ ox = ([] : List Word) := ⟨s, who, [], rfl, rfl, rfl⟩
        obtain ⟨sx, wx, ox, e1, e2, e3⟩ := hx
        have hf : Fn Try.prog 56 [.ptr 0 []] (RE ⟨sx, wx, ox⟩) (.tuple []) (RE ⟨sy, wy, oy⟩) := by rw [e1, e2, e3]; exact hf
        refine W.skip ?_
        refine W.le hc0 (Le.cut [(4, .ptr 1 []), (7, .ptr 2 [])] 4 (by omega) (es' := [.var (eNode s) [], .var (eNodeN Node.zero) [], .var (eRun ⟨sx, wx, ox⟩) [([2], 3)], .row 6 (ox.map eWord)]) ⟨⟨by with_unfolding_all rfl, rfl⟩, ⟨by with_unfolding_all rfl, rfl⟩, trivial⟩ (by rw [e1, e2, e3]; with_unfolding_all rfl)) ?_
    case' z1b =>
      have hs1 : s.step ≠ 1 := by simpa using h
      clear h
      refine R [.data (I (all4 (s.cur.promises s.round.toNat)))] (ho := by exact ⟨hr, allOf_spec _, trivial⟩) ?_
      refine C (fun h => ?z3a) (fun h => ?z3b)
      case' z3a =>
        have h3 : 3 ≤ all4 (s.cur.promises s.round.toNat) ∧ s.round < 5 := by
          have h : (bif decide (3 ≤ all4 (s.cur.promises s.round.toNat)) then decide (s.round < 5) else false) = true := h
          rw [bif_and] at h; simpa using h
        have hy := timeR_3 (x := ⟨s, who, []⟩) (show s.step = 2 by omega) h3
        rw [hy] at hf
        have hs := enter_spec ⟨s, who, []⟩ (s.round + 1) ⟨hh.1, by show s.height ≤ 4; omega⟩ (by omega) (by simp)
        rw [enterR_s _ h2] at hs
        have hw : IntKind.i64.wrap (s.round + 1) = s.round + 1 := i64_wrap (by omega) (by omega)
        generalize startR ⟨s, who, []⟩ (s.round + 1) = x at hf hs
        obtain ⟨sx, wx, ox⟩ := x
        refine R1 [Hint.on [2, 3] (RE ⟨sx, wx, ox⟩) (.tuple [])] (ho := by with_unfolding_all exact ⟨(by rw [hw]; exact hs), trivial⟩) ?_
        refine W.le hc0 (Le.cut [(4, .ptr 1 []), (7, .ptr 2 [])] 4 (by omega) (es' := [.var (eNode s) [], .var (eNodeN Node.zero) [], .var (eRun ⟨sx, wx, ox⟩) [([2], 3)], .row 6 (ox.map eWord)]) ⟨⟨by with_unfolding_all rfl, rfl⟩, ⟨by with_unfolding_all rfl, rfl⟩, trivial⟩ (by with_unfolding_all rfl)) ?_
      case' z3b =>
        have h3 : ¬ (3 ≤ all4 (s.cur.promises s.round.toNat) ∧ s.round < 5) := by
          rintro ⟨b, c⟩
          have h : (bif decide (3 ≤ all4 (s.cur.promises s.round.toNat)) then decide (s.round < 5) else false) = false := h
          rw [bif_and, decide_eq_true b, decide_eq_true c] at h
          cases h
        have hy := timeR_4 (x := ⟨s, who, []⟩) h0 (fun h => hs1 h.1) hst.2 hst.1 (fun h => h3 h.2)
        rw [hy] at hf
        have hx : ∃ sx wx ox, sx = s ∧ wx = who ∧ ox = ([] : List Word) := ⟨s, who, [], rfl, rfl, rfl⟩
        obtain ⟨sx, wx, ox, e1, e2, e3⟩ := hx
        have hf : Fn Try.prog 56 [.ptr 0 []] (RE ⟨sx, wx, ox⟩) (.tuple []) (RE ⟨sy, wy, oy⟩) := by rw [e1, e2, e3]; exact hf
        refine W.skip ?_
        refine W.le hc0 (Le.cut [(4, .ptr 1 []), (7, .ptr 2 [])] 4 (by omega) (es' := [.var (eNode s) [], .var (eNodeN Node.zero) [], .var (eRun ⟨sx, wx, ox⟩) [([2], 3)], .row 6 (ox.map eWord)]) ⟨⟨by with_unfolding_all rfl, rfl⟩, ⟨by with_unfolding_all rfl, rfl⟩, trivial⟩ (by rw [e1, e2, e3]; with_unfolding_all rfl)) ?_
  all_goals
    refine R [Hint.on [2, 3] (RE ⟨sy, wy, oy⟩) (.tuple [])] (ho := by exact ⟨hf, trivial⟩) ?_
    refine RF [] 4 [(6, .rd (some 2)), (7, .rd (some 2)), (8, .wr 1)] (ho := by exact ⟨sameNz _ _, trivial⟩) ?_
    refine W.ret (End 0 hn0 ⟨?_, rfl⟩)
    rw [hO]; rfl

set_option maxHeartbeats 8000000 in
set_option maxRecDepth 100000 in
theorem nodeTurns_spec (s : Node) (who v : Int) (hq : s.queue.length ≤ 17592186044416) : Pure Try.prog 4 [.data (eNode s), .data (I who), .data (I v)] (.data (.bool true)) := by
  refine spec_of ttok Try.func4 rfl (by kernel_rfl) (by exact Nat.le_of_ble_eq_true rfl) fun hin hie c0 hc0 he => ?_
  have hn0 : c0.es.length ≤ 0 := Nat.le_of_eq (by rw [he]; rfl)
  have h1 := submitT_spec s who v
  have h2 := submitValue_spec s who v
  have h3 := timeT_spec s who
  have h4 := timeOver_spec s who
  generalize submitT s who v = t at h1 h2
  generalize timeT s who = u at h3 h4
  obtain ⟨x, l, e⟩ := t
  obtain ⟨y, m, f⟩ := u
  refine R [] ?_
  refine R [Hint.on [] [.row 1 (s.queue.map I)] (.rich (eNode s) [([10], 0)])] (ho := by exact ⟨copyNode_spec s hq, sameNz _ _, trivial⟩) ?_
  refine R [.tuple [.data (eNode x), .data (eWords l), .data (I e)]] (ho := by exact ⟨h1, sameNz _ _, trivial⟩) ?_
  refine R [.tuple [.data (eNode x), .data (eWords l), .data (I e)]] (ho := by exact ⟨h2, sameNz _ _, trivial⟩) ?_
  refine R [.tuple [.data (eNode y), .data (eWords m), .data (I f)]] (ho := by exact ⟨h3, sameNz _ _, trivial⟩) ?_
  refine R [.tuple [.data (eNode y), .data (eWords m), .data (I f)]] (ho := by exact ⟨h4, sameNz _ _, trivial⟩) ?_
  refine R [.data (.bool true), .data (.bool true), .data (.bool true), .data (.bool true), .data (.bool true), .data (.bool true)]
    (ho := by exact ⟨sameNode_spec _, fun _ => sameWords_spec _, fun _ => sameNode_spec _, fun _ => sameWords_spec _, fun _ => sameNode_spec _, fun _ => nodes_law, trivial⟩) ?_
  refine W.ret (EndB 0 hn0 ?_)
  exact bifr2 (bifr2 (bifr2 (bifr2 (bifr2 (bifr2 (bifr2 rfl rfl) (beqr _)) rfl) rfl) (beqr _)) rfl) rfl

end Go.W
