/-
  Package node, walked: skipping, wishing, promising.
-/
import Derived.Test.YthpjdjofcbnoiacFs
namespace Go.W
open Go.Proofs

def skipO (x : Run) : Bool × Run := match skipK x.s with
  | some k => (true, startR x k)
  | none => (false, x)
theorem skipO_some {x : Run} {k : Nat} (hp : (decide (x.s.round < k) && decide (2 ≤ heard x.s.cur k)) = true) (hm : ∀ j : Nat, k < j → j < 6 → (decide (x.s.round < j) && decide (2 ≤ heard x.s.cur j)) = false) (hk : k < 6) : skipO x = (true, startR x k) := by
  unfold skipO skipK
  rw [lastN_at (p := fun k : Nat => decide (x.s.round < k) && decide (2 ≤ heard x.s.cur k)) hp hm hk]
theorem skipO_none {x : Run} (hm : ∀ j : Nat, j < 6 → (decide (x.s.round < j) && decide (2 ≤ heard x.s.cur j)) = false) : skipO x = (false, x) := by
  unfold skipO skipK
  rw [lastN_none.2 hm]

set_option maxHeartbeats 4000000 in
set_option maxRecDepth 100000 in
theorem skip_spec (x : Run) (hg : GoodR x) (hh : x.s.height < 4) (hl : x.out.length ≤ 2000) : Fn Try.prog 46 [.ptr 0 []] (RE x) (.data (.bool (skipO x).1)) (RE (skipO x).2) := by
  have hh : 0 ≤ x.s.height ∧ x.s.height < 4 := ⟨hg.s.height.1, hh⟩
  have hr := hg.s.round
  refine spec_of ttok Try.func46 rfl (by kernel_rfl) (by exact Nat.le_of_ble_eq_true rfl) fun hin hie c0 hc0 he => ?_
  have hn0 : c0.es.length ≤ 2 := Nat.le_of_eq (by rw [he]; rfl)
  refine R [] ?_
  refine W.seq (R [] ?_)
  refine W.block (W.loop hc0 (ι := Nat) (fun k => ⟨30, frOf [(0, .ptr 0 []), (3, .data (I k))], RE x⟩) (fun k => k ≤ 5 ∧ x.s.round ≤ k ∧ ∀ j : Nat, k < j → j < 6 → (decide (x.s.round < j) && decide (2 ≤ heard x.s.cur j)) = false) (fun k => k) 5 ⟨by omega, by omega, fun i hi => by omega⟩ ?_ ?_)
  · exact Le.cut _ 2 hn0 ⟨⟨by with_unfolding_all rfl, rfl⟩, ⟨by with_unfolding_all rfl, rfl⟩, trivial⟩ (by with_unfolding_all rfl)
  · intro k ⟨hk, hrk, hm⟩
    refine W.seq (R [] ?_)
    refine C (fun h => ?_) (fun h => ?_)
    · have hlt : x.s.round < k := of_decide_eq_true h
      refine W.skip (W.seq (W.block ?_))
      refine RD [.data (I (heard x.s.cur k))] (ho := by exact ⟨hh, heard_spec _ _, trivial⟩) ?_
      refine C (fun h => ?_) (fun h => ?_)
      · have hd : 2 ≤ heard x.s.cur k := of_decide_eq_true h
        have hO := skipO_some (by simp [hlt, hd]) hm (by omega)
        refine R [Hint.on [0, 1] (RE (startR x k)) (.tuple [])] (ho := by exact ⟨start_spec x k hh (by omega) hl, trivial⟩) ?_
        refine R [] ?_
        refine W.ret (End 2 hn0 ⟨?_, ?_⟩)
        · rw [hO]; rfl
        · rw [hO]; rfl
      · have hd : ¬ 2 ≤ heard x.s.cur k := of_decide_eq_false h
        refine W.skip ?_
        refine R1 [] ?_
        refine ⟨k - 1, ⟨by omega, by omega, fun j h1 h2 => ?_⟩, by omega, Le.cut _ 2 hn0 ⟨⟨by with_unfolding_all rfl, rfl⟩, ⟨sl_int (a := IntKind.i64.wrap ((k : Int) - 1)) ?_, rfl⟩, trivial⟩ (by with_unfolding_all rfl)⟩
        · rcases Nat.lt_or_ge k j with h3 | h3
          · exact hm j h3 h2
          · have : j = k := by omega
            subst this; simp only [Bool.and_eq_false_iff, decide_eq_false_iff_not]; exact .inr hd
        · have := i64_wrap (n := (k : Int) - 1) (by omega) (by omega); omega
    · have hlt : ¬ x.s.round < k := of_decide_eq_false h
      have hO : skipO x = (false, x) := skipO_none fun j hj => by
        rcases Nat.lt_or_ge k j with h3 | h3
        · exact hm j h3 hj
        · simp only [Bool.and_eq_false_iff, decide_eq_false_iff_not]; exact .inl (by omega)
      refine W.exit ?_
      refine R [] ?_
      refine W.ret (End 2 hn0 ⟨?_, ?_⟩)
      · rw [hO]; rfl
      · rw [hO]; rfl

def wishO (x : Run) : Bool × Run := match wishV x.s with
  | some v => (true, wishR x v)
  | none => (false, x)
abbrev callOf (s : Node) : Call := s.cur.calls s.round.toNat
theorem wishO_1 {x : Run} (h : (!(x.s.step == 0) || !(callOf x.s).is) = true) : wishO x = (false, x) := by
  unfold wishO wishV
  simp only [h, if_true]
theorem wishO_2 {x : Run} (h : (!(x.s.step == 0) || !(callOf x.s).is) = false) (h2 : 0 ≤ (callOf x.s).valid) (h3 : count (x.s.cur.wishes (callOf x.s).valid.toNat) (callOf x.s).value < 3) : wishO x = (false, x) := by
  unfold wishO wishV
  simp only [h, h2, h3, decide_true, Bool.and_self, if_true, Bool.false_eq_true, if_false]
theorem wishO_3 {x : Run} (h : (!(x.s.step == 0) || !(callOf x.s).is) = false) (h2 : ¬ (0 ≤ (callOf x.s).valid ∧ count (x.s.cur.wishes (callOf x.s).valid.toNat) (callOf x.s).value < 3)) :
    wishO x = (true, wishR x (if freeB x.s (callOf x.s) then (callOf x.s).value else 0)) := by
  have h3 : (decide (0 ≤ (callOf x.s).valid) && decide (count (x.s.cur.wishes (callOf x.s).valid.toNat) (callOf x.s).value < 3)) = false := by
    rw [← Bool.decide_and]; exact decide_eq_false h2
  unfold wishO wishV
  simp only [h, h3, Bool.false_eq_true, if_false]

theorem run_step (x : Run) (k : Int) : (eRun x).set [0, 2] (I k) = eRun ⟨{ x.s with step := k }, x.who, x.out⟩ := by
  unfold eRun
  rw [runner_set0, node_set2]

set_option maxHeartbeats 4000000 in
set_option maxRecDepth 100000 in
theorem wish_spec (x : Run) (hg : GoodR x) (hh : x.s.height < 4) (hl : x.out.length ≤ 2000) : Fn Try.prog 47 [.ptr 0 []] (RE x) (.data (.bool (wishO x).1)) (RE (wishO x).2) := by
  have hh : 0 ≤ x.s.height ∧ x.s.height < 4 := ⟨hg.s.height.1, hh⟩
  have hr := hg.s.round
  refine spec_of ttok Try.func47 rfl (by kernel_rfl) (by exact Nat.le_of_ble_eq_true rfl) fun hin hie c0 hc0 he => ?_
  have hn0 : c0.es.length ≤ 2 := Nat.le_of_eq (by rw [he]; rfl)
  refine R [] ?_
  refine RD [] (ho := by exact ⟨hh, sameSS _ _, trivial⟩) ?_
  refine R [] (ho := by exact ⟨hr, sameCC _ _, trivial⟩) ?_
  refine W.le hc0 (Le.cut [(0, .ptr 0 []), (3, .ptr 2 []), (4, .ptr 3 [])] 4 (by omega) (es' := RE x ++ [.var (eSheet x.s.cur) [], .var (eCall (callOf x.s)) []]) ⟨⟨by with_unfolding_all rfl, rfl⟩, ⟨by with_unfolding_all rfl, rfl⟩, ⟨by with_unfolding_all rfl, rfl⟩, trivial⟩ (by with_unfolding_all rfl)) ?_
  refine W.seq (R [] ?_)
  refine C (fun h => ?_) (fun h => ?_)
  · have h1 : (!(x.s.step == 0) || !(callOf x.s).is) = true := by rw [bif_or] at h; exact h
    refine R [] ?_
    refine W.ret (End 2 hn0 ⟨?_, ?_⟩)
    · rw [wishO_1 h1]; rfl
    · rw [wishO_1 h1]; rfl
  have h1 : (!(x.s.step == 0) || !(callOf x.s).is) = false := by rw [bif_or] at h; exact h
  clear h
  have his : (callOf x.s).is = true := by
    simp only [Bool.or_eq_false_iff, Bool.not_eq_false'] at h1; exact h1.2
  have hc : 1 ≤ (callOf x.s).value ∧ (callOf x.s).value ≤ 9 ∧ -1 ≤ (callOf x.s).valid ∧ (callOf x.s).valid < ((x.s.round.toNat : Nat) : Int) := goodC_is (goodS_calls (hg.s.heard x.s.height.toNat (by omega)) (r := x.s.round.toNat) (by omega)) his
  refine W.skip ?_
  refine RD [] ?_
  refine W.seq (R [] ?_)
  refine C (fun h => ?_) (fun h => ?_)
  case' refine_1 =>
    have h2 : 0 ≤ (callOf x.s).valid := of_decide_eq_true h
    refine W.seq (RD [.data (I (count (x.s.cur.wishes (callOf x.s).valid.toNat) (callOf x.s).value))] (ho := by exact ⟨⟨h2, by omega⟩, count_spec _ _, trivial⟩) ?_)
    refine C (fun h => ?_) (fun h => ?_)
    · have h3 : count (x.s.cur.wishes (callOf x.s).valid.toNat) (callOf x.s).value < 3 := of_decide_eq_true h
      refine R [] ?_
      refine W.ret (End 2 hn0 ⟨?_, ?_⟩)
      · rw [wishO_2 h1 h2 h3]; rfl
      · rw [wishO_2 h1 h2 h3]; rfl
    have h3 : ¬ count (x.s.cur.wishes (callOf x.s).valid.toNat) (callOf x.s).value < 3 := of_decide_eq_false h
    have hO := wishO_3 h1 (fun h => h3 h.2)
    have hf : freeB x.s (callOf x.s) = (decide (x.s.boundIn ≤ (callOf x.s).valid) || x.s.bound == (callOf x.s).value) := by unfold freeB; rw [if_pos h2]
    refine W.skip ?_
    refine RD1 [] ?_
    refine W.le hc0 (Le.cut [(0, .ptr 0 []), (4, .ptr 3 []), (5, .data (.bool (freeB x.s (callOf x.s))))] 4 (by omega) (es' := RE x ++ [.var (eSheet x.s.cur) [], .var (eCall (callOf x.s)) []]) ⟨⟨by with_unfolding_all rfl, rfl⟩, ⟨by with_unfolding_all rfl, rfl⟩, ⟨sl_bool (by rw [hf, ← bif_or]), rfl⟩, trivial⟩ (by with_unfolding_all rfl)) ?_
  case' refine_2 =>
    have h2 : ¬ 0 ≤ (callOf x.s).valid := of_decide_eq_false h
    have hO := wishO_3 h1 (fun h => h2 h.1)
    have hf : freeB x.s (callOf x.s) = (decide (x.s.boundIn < 0) || x.s.bound == (callOf x.s).value) := by unfold freeB; rw [if_neg h2]
    refine W.skip ?_
    refine W.le hc0 (Le.cut [(0, .ptr 0 []), (4, .ptr 3 []), (5, .data (.bool (freeB x.s (callOf x.s))))] 4 (by omega) (es' := RE x ++ [.var (eSheet x.s.cur) [], .var (eCall (callOf x.s)) []]) ⟨⟨by with_unfolding_all rfl, rfl⟩, ⟨by with_unfolding_all rfl, rfl⟩, ⟨sl_bool (by rw [hf, ← bif_or]), rfl⟩, trivial⟩ (by with_unfolding_all rfl)) ?_
  all_goals
    clear h
    refine R [] ?_
    refine W.seq (R [] ?_)
    refine C (fun h => ?_) (fun h => ?_)
    case' refine_1 =>
      have h : freeB x.s (callOf x.s) = true := h
      refine R1 [] ?_
      refine W.le hc0 (Le.cut [(0, .ptr 0 []), (6, .data (I (if freeB x.s (callOf x.s) then (callOf x.s).value else 0)))] 2 hn0 (es' := RE x) ⟨⟨by with_unfolding_all rfl, rfl⟩, ⟨sl_int (by rw [if_pos h]), rfl⟩, trivial⟩ (by with_unfolding_all rfl)) ?_
    case' refine_2 =>
      have h : freeB x.s (callOf x.s) = false := h
      refine W.skip ?_
      refine W.le hc0 (Le.cut [(0, .ptr 0 []), (6, .data (I (if freeB x.s (callOf x.s) then (callOf x.s).value else 0)))] 2 hn0 (es' := RE x) ⟨⟨by with_unfolding_all rfl, rfl⟩, ⟨sl_int (by rw [h]), rfl⟩, trivial⟩ (by with_unfolding_all rfl)) ?_
    all_goals
      clear h
      generalize (if freeB x.s (callOf x.s) then (callOf x.s).value else 0) = v at hO ⊢
      refine R [] ?_
      refine W.ents (es' := RE ⟨{ x.s with step := 1 }, x.who, x.out⟩) ?_ ?_
      · with_unfolding_all exact congrArg (fun d => [Ent.var d [([2], 1)], .row 6 (x.out.map eWord)]) (run_step x 1)
      refine R [Hint.on [0, 1] (RE (wishR x v)) (.tuple [])] (ho := by exact ⟨say_spec ⟨{ x.s with step := 1 }, x.who, x.out⟩ 2 v 0 hh hl, trivial⟩) ?_
      refine R [] ?_
      refine W.ret (End 2 hn0 ⟨?_, ?_⟩)
      · rw [hO]; rfl
      · rw [hO]; rfl

end Go.W
