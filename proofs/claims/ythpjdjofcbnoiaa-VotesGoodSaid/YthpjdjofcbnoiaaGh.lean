/-
  The laws of the sheets.
-/
import Derived.Test.YthpjdjofcbnoiaaFk
import Derived.Test.YthpjdjofcbnoiaaPa
import Derived.Test.YthpjdjofcbnoiaaGc
import Derived.Test.YthpjdjofcbnoiaaGb
namespace Go.W
open Go.Proofs

theorem eqD_votes (v : Nat → Int) : eqD (eVotes v) (eVotes v) = true := allTo_spec.2 fun _ _ => beq_self_eq_true _
theorem eqD_votes6 (v : Nat → Nat → Int) : eqD (eVotes6 v) (eVotes6 v) = true := allTo_spec.2 fun _ _ => eqD_votes _
theorem eqD_call (c : Call) : eqD (eCall c) (eCall c) = true := allTo_spec.2 fun i hi => by
  match i, hi with
  | 0, _ => exact beq_self_eq_true _
  | 1, _ => exact beq_self_eq_true _
  | 2, _ => exact beq_self_eq_true _
theorem eqD_calls (c : Nat → Call) : eqD (eCalls c) (eCalls c) = true := allTo_spec.2 fun _ _ => eqD_call _
theorem eqD_sheet (s : Sheet) : eqD (eSheet s) (eSheet s) = true := allTo_spec.2 fun i hi => by
  match i, hi with
  | 0, _ => exact eqD_calls _
  | 1, _ => exact eqD_votes6 _
  | 2, _ => exact eqD_votes6 _

theorem bif2 {a b : Bool} (h1 : a = true) (h2 : b = true) : (bif a then b else false) = true := by subst h1; exact h2

set_option maxRecDepth 100000 in
theorem votesHear_spec (s : Sheet) (w : Word) (r : Int) : Pure Try.prog 11 [.data (eSheet s), .data (eWord w), .data (I r)] (.data (.bool true)) := by
  refine spec_of ttok Try.func11 rfl (by kernel_rfl) (by exact Nat.le_of_ble_eq_true rfl) fun hin hie c0 hc0 he => ?_
  have hn0 : c0.es.length ≤ 0 := Nat.le_of_eq (by rw [he]; rfl)
  refine R [] ?_
  refine RD [.data (eSheet (hearS s w)), .data (eSheet (hearS s w)), .data (I (heard s r)), .data (I (heard s r)), .data (.bool (goodS s)), .data (.bool (goodS s)), .data (.bool true)]
    (ho := by exact ⟨hear_spec s w, hearSheet_spec s w, fun _ => heard_spec s r, fun _ => heardIn_spec s r, fun _ => goodS_spec s, fun _ => isSheet_spec s, fun _ => counts_law, trivial⟩) ?_
  refine W.ret (EndB 0 hn0 ?_)
  exact bif2 (bif2 (bif2 (eqD_sheet (hearS s w)) (beq_self_eq_true _)) (beq_self_eq_true _)) rfl

set_option maxRecDepth 100000 in
theorem votesOnce_spec (s : Sheet) (a b : Word) : Pure Try.prog 9 [.data (eSheet s), .data (eWord a), .data (eWord b)] (.data (.bool true)) := by
  refine spec_of ttok Try.func9 rfl (by kernel_rfl) (by exact Nat.le_of_ble_eq_true rfl) fun hin hie c0 hc0 he => ?_
  have hn0 : c0.es.length ≤ 0 := Nat.le_of_eq (by rw [he]; rfl)
  refine R [] ?_
  refine R [.data (eSheet (hearS s a))] (ho := by exact ⟨hear_spec s a, sameSS .zero _, trivial⟩) ?_
  refine W.seq (R [] ?_)
  refine C (fun h => ?_) (fun h => ?_)
  · have hS : SameP a b := by
      simp only [bif_and, Bool.and_eq_true, beq_iff_eq] at h
      exact ⟨h.1.1.1, h.1.1.2, h.1.2, h.2⟩
    refine RD [.data (I (goodW a)), .data (eSheet (hearS (hearS s a) b)), .data (.bool true)] (ho := by exact ⟨good_spec a, fun _ => hear_spec _ b, fun _ => counts_keep, trivial⟩) ?_
    refine W.ret (EndB 0 hn0 ?_)
    refine bif2 ?_ rfl
    by_cases hg : goodW a = 0
    · have he : eqD (eSheet (hearS (hearS s a) b)) (eSheet (hearS s a)) = true := by
        rw [hear_once s hS ((goodW_iff a).1 hg)]
        exact eqD_sheet _
      have hb : (!(goodW a == 0)) = false := by simp [hg]
      show (bif (!(goodW a == 0)) then true else eqD (eSheet (hearS (hearS s a) b)) (eSheet (hearS s a))) = true
      rw [hb, he]; rfl
    · have hb : (!(goodW a == 0)) = true := by simp [hg]
      show (bif (!(goodW a == 0)) then true else eqD (eSheet (hearS (hearS s a) b)) (eSheet (hearS s a))) = true
      rw [hb]; rfl
  have hS : ¬ SameP a b := by
    intro hS
    simp [hS.kind, hS.frm, hS.height, hS.round] at h
  refine W.skip ?_
  refine W.seq (R [] ?_)
  refine C (fun h => ?_) (fun h => ?_)
  · refine R [.data (.bool true)] (ho := by exact ⟨counts_keep, trivial⟩) ?_
    exact W.ret (EndB 0 hn0 rfl)
  have hh : a.height = b.height := by simpa using h
  refine W.skip ?_
  refine RD [.data (eSheet (hearS (hearS s a) b)), .data (eSheet (hearS s b)), .data (eSheet (hearS (hearS s b) a)), .data (.bool true)] (ho := by exact ⟨hear_spec _ b, hear_spec s b, hear_spec _ a, fun _ => counts_keep, trivial⟩) ?_
  refine W.ret (EndB 0 hn0 ?_)
  refine bif2 ?_ rfl
  show eqD (eSheet (hearS (hearS s a) b)) (eSheet (hearS (hearS s b) a)) = true
  rw [hear_comm s hS hh]
  exact eqD_sheet _

set_option maxRecDepth 100000 in
theorem votesGood_spec (s : Sheet) (w : Word) : Pure Try.prog 12 [.data (eSheet s), .data (eWord w)] (.data (.bool true)) := by
  refine spec_of ttok Try.func12 rfl (by kernel_rfl) (by exact Nat.le_of_ble_eq_true rfl) fun hin hie c0 hc0 he => ?_
  have hn0 : c0.es.length ≤ 0 := Nat.le_of_eq (by rw [he]; rfl)
  refine R [] ?_
  refine R [.data (eSheet (hearS s w))] (ho := by exact ⟨hear_spec s w, sameSS .zero _, trivial⟩) ?_
  refine W.seq (R [] ?_)
  refine W.block (W.loop hc0 (ι := Nat) (fun k => ⟨44, frOf [(2, .ptr 0 []), (5, .ptr 2 []), (10, .data (I k))], [.var (eSheet s) [], .var (eWord w) [], .var (eSheet (hearS s w)) []]⟩) (fun k => k ≤ 6) (fun k => 6 - k) 0 (by omega) ?_ ?_)
  · exact Le.cut _ 3 (by omega) ⟨⟨by with_unfolding_all rfl, rfl⟩, ⟨by with_unfolding_all rfl, rfl⟩, ⟨by with_unfolding_all rfl, rfl⟩, trivial⟩ (by with_unfolding_all rfl)
  · intro k hk
    refine R [] ?_
    refine W.seq (C (fun h => ?_) (fun h => ?_))
    · have hk : k < 6 := by have := of_decide_eq_true h; omega
      refine W.skip (W.seq (W.block ?_))
      refine R [] ?_
      refine RD [.data (I (heard (hearS s w) k)), .data (I (heard s k)), .data (I (all4 ((hearS s w).wishes k))), .data (I (all4 (s.wishes k)))] (ho := by exact ⟨heard_spec _ _, heard_spec _ _, fun _ => ⟨by omega, by omega⟩, fun _ => all_spec _, fun _ => ⟨by omega, by omega⟩, fun _ => all_spec _, trivial⟩) ?_
      refine C (fun h => ?_) (fun h => ?_)
      · exfalso
        simp only [bif_or, Bool.or_eq_true, decide_eq_true_eq] at h
        have h1 := heard_mono s w k
        have h2 := all4_mono s w k
        omega
      · refine W.skip ?_
        refine R1 [] ?_
        exact ⟨k + 1, by omega, by omega, Le.cut _ 3 (by omega) ⟨⟨by with_unfolding_all rfl, rfl⟩, ⟨by with_unfolding_all rfl, rfl⟩, ⟨sl_int (wrap_cast hk (by omega)), rfl⟩, trivial⟩ (by with_unfolding_all rfl)⟩
    · have hk : k = 6 := by have := of_decide_eq_false h; omega
      subst hk
      refine W.exit ?_
      refine R [.data (.bool (goodS s)), .data (.bool (goodS (hearS s w))), .data (.bool true)] (ho := by exact ⟨goodS_spec s, fun _ => goodS_spec _, fun _ => counts_keep, trivial⟩) ?_
      refine W.ret (EndB 0 hn0 ?_)
      refine bif2 ?_ rfl
      cases hg : goodS s with
      | true => rw [goodS_hear w hg]; rfl
      | false => rfl

end Go.W
