/-
  Package node, walked: new nodes, good nodes.
-/
import Derived.Test.YthpjdjofcbnoiacPd
namespace Go.W
open Go.Proofs

theorem eNode_of {f : Nat → D} {s : Node} {q : D} (h0 : f 0 = I s.height) (h1 : f 1 = I s.round) (h2 : f 2 = I s.step) (h3 : f 3 = I s.bound) (h4 : f 4 = I s.boundIn) (h5 : f 5 = I s.valid) (h6 : f 6 = I s.validIn)
    (h7 : f 7 = eBools6 s.seen) (h8 : f 8 = eSheets s.heard) (h9 : f 9 = eVotes s.settled) (h10 : f 10 = q) (h11 : ∀ i, f (i + 11) = .nil) : D.agg 11 f = eNodeQ s q := by
  unfold eNodeQ
  congr 1
  funext i
  match i with
  | 0 => exact h0
  | 1 => exact h1
  | 2 => exact h2
  | 3 => exact h3
  | 4 => exact h4
  | 5 => exact h5
  | 6 => exact h6
  | 7 => exact h7
  | 8 => exact h8
  | 9 => exact h9
  | 10 => exact h10
  | i + 11 => exact h11 i

def newN : Node := ⟨0, 0, 0, 0, -1, 0, -1, fun _ => false, fun _ => .zero, fun _ => 0, []⟩

theorem nodeQ_set10 (s : Node) (q u : D) : (eNodeQ s q).set [10] u = eNodeQ s u := by
  simp only [eNodeQ, D.set, set_nil]
  exact eNode_of rfl rfl rfl rfl rfl rfl rfl rfl rfl rfl rfl fun _ => rfl

theorem wrap_up {k : Nat} (h : k < 9223372036854775807) : IntKind.i64.wrap ((k : Int) + 1) = ((k + 1 : Nat) : Int) := by rw [i64_wrap (by omega) (by omega)]; omega
theorem cptr_q (q : List Int) {k : Nat} (h : k < q.length) : AV.cptr ((q.map I).getD k default) = .cptr (I (q.getD k 0)) := by
  simp [List.getElem?_eq_getElem h]
theorem sizes_q (q : List Int) : ∀ d ∈ q.map I, d.size = 1 := by
  intro d hd
  obtain ⟨v, _, rfl⟩ := List.mem_map.1 hd
  rfl

set_option maxRecDepth 100000 in
theorem new_spec : Pure Try.prog 22 [] (.data (eNode newN)) := by
  refine spec_of ttok Try.func22 rfl (by kernel_rfl) (by exact Nat.le_of_ble_eq_true rfl) fun hin hie c0 hc0 he => ?_
  have hn0 : c0.es.length ≤ 0 := Nat.le_of_eq (by rw [he]; rfl)
  refine R [] ?_
  have e : ∀ f : Nat → D, f 0 = I 0 → f 1 = I 0 → f 2 = I 0 → f 3 = I 0 → f 4 = I (-1) → f 5 = I 0 → f 6 = I (-1) → f 7 = eBools6 (fun _ => false) → f 8 = eSheets (fun _ => .zero) → f 9 = eVotes (fun _ => 0) → f 10 = .nil → (∀ i, f (i + 11) = .nil) → D.agg 11 f = eNodeN newN :=
    fun f h0 h1 h2 h3 h4 h5 h6 h7 h8 h9 h10 h11 => eNode_of (s := newN) h0 h1 h2 h3 h4 h5 h6 h7 h8 h9 h10 h11
  refine R [] (ho := ?ob) ?_
  case ob =>
    refine ⟨?_, trivial⟩
    with_unfolding_all rw [e _ rfl rfl rfl rfl rfl rfl rfl rfl rfl rfl rfl fun _ => rfl]
    exact sameNQ _ _ trivial
  refine W.ents (es' := [.var (eNodeN newN) []]) ?_ ?_
  · with_unfolding_all exact congrArg (fun d => [Ent.var d []]) (e _ rfl rfl rfl rfl rfl rfl rfl rfl rfl rfl rfl fun _ => rfl)
  refine W.le hc0 (Le.nilList 0 [10] (d := eNodeN newN) (tok := []) rfl ⟨by omega, trivial⟩ rfl) ?_
  refine W.ret (End 0 hn0 ⟨?_, rfl⟩)
  with_unfolding_all exact congrArg AV.data (nodeQ_set10 newN .nil (.list []))

set_option maxRecDepth 100000 in
theorem bound_spec (v i r : Int) : Pure Try.prog 49 [.data (I v), .data (I i), .data (I r)] (.data (.bool (boundB v i r))) := by
  refine spec_of ttok Try.func49 rfl (by kernel_rfl) (by exact Nat.le_of_ble_eq_true rfl) fun hin hie c0 hc0 he => ?_
  have hn0 : c0.es.length ≤ 0 := Nat.le_of_eq (by rw [he]; rfl)
  refine R [] ?_
  refine W.seq (R [] ?_)
  refine C (fun h => ?_) (fun h => ?_)
  · have h : i < 0 := of_decide_eq_true h
    refine R [] ?_
    refine W.ret (EndB 0 hn0 ?_)
    simp only [boundB, if_pos h, bif_and]
  have h : ¬ i < 0 := of_decide_eq_false h
  refine W.skip ?_
  refine R [] ?_
  refine W.ret (EndB 0 hn0 ?_)
  simp only [boundB, if_neg h, bif_and, ge_iff_le]

def badQ (v : Int) : Bool := decide (v < 1) || decide (9 < v)
set_option maxRecDepth 100000 in
theorem good1_spec (v : Int) : Pure Try.prog 52 [.data (I v)] (.data (.bool (badQ v))) := by
  refine spec_of ttok Try.func52 rfl (by kernel_rfl) (by exact Nat.le_of_ble_eq_true rfl) fun hin hie c0 hc0 he => ?_
  have hn0 : c0.es.length ≤ 0 := Nat.le_of_eq (by rw [he]; rfl)
  refine R [] ?_
  refine R [] ?_
  refine W.ret (EndB 0 hn0 ?_)
  simp only [badQ, bif_or]

/-- The first of the list for which it is so. -/
def idxF (p : Int → Bool) (q : List Int) : Int := match firstN (fun k => p (q.getD k 0)) q.length with
  | some k => k
  | none => -1

set_option maxRecDepth 100000 in
theorem indexFunc_spec0 (q : List Int) {h : FuncId} {p : Int → Bool} (hp : ∀ x, Pure Try.prog h [.data (I x)] (.data (.bool (p x)))) :
    Pure Try.prog 58 [.data (eQ q), .func h []] (.data (I (idxF p q))) := by
  refine spec_of ttok Try.func58 rfl (by kernel_rfl) (by exact Nat.le_of_ble_eq_true rfl) fun hin hie c0 hc0 he => ?_
  have hn0 : c0.es.length ≤ 0 := Nat.le_of_eq (by rw [he]; rfl)
  have hlen : q.length ≤ 9223372036854775807 := by
    have : InR (eQ q) := hin (.data (eQ q)) (by simp)
    cases this with
    | list h _ => simpa [maxLen] using h
  refine R [] ?_
  refine W.seq (R [] ?_)
  refine W.block (W.loop hc0 (ι := Nat) (fun k => ⟨19, frOf [(0, .data (eQ q)), (1, .func h []), (7, .data (I ((q.map I).length : Int))), (8, .data (I k))], []⟩) (fun k => k ≤ q.length ∧ ∀ j, j < k → p (q.getD j 0) = false) (fun k => q.length - k) 0 ⟨by omega, fun i hi => by omega⟩ ?_ ?_)
  · exact Le.cut _ 0 hn0 ⟨⟨by with_unfolding_all rfl, rfl⟩, ⟨by with_unfolding_all rfl, rfl⟩, ⟨by with_unfolding_all rfl, rfl⟩, ⟨by with_unfolding_all rfl, rfl⟩, trivial⟩ rfl
  · intro k ⟨hk, hm⟩
    refine R [] ?_
    refine W.seq (C (fun h => ?_) (fun h => ?_))
    · have hk : k < q.length := by have := of_decide_eq_true h; simp at this; omega
      refine W.skip (W.seq (W.block ?_))
      refine R [] ?_
      refine R [.is 14 (.cptr (I (q.getD k 0))), .data (.bool (p (q.getD k 0)))] (ho := by exact ⟨cptr_q q hk, ⟨by omega, by simp; omega⟩, sizes_q q, hp _, trivial⟩) ?_
      refine C (fun h => ?_) (fun h => ?_)
      · refine R [] ?_
        refine W.ret (EndI 0 hn0 ?_)
        simp only [idxF, firstN_at h hm hk]
      · refine W.skip ?_
        refine R1 [] ?_
        refine ⟨k + 1, ⟨by omega, fun j hj => ?_⟩, by omega, Le.cut _ 0 hn0 ⟨⟨by with_unfolding_all rfl, rfl⟩, ⟨by with_unfolding_all rfl, rfl⟩, ⟨by with_unfolding_all rfl, rfl⟩, ⟨sl_int (wrap_up (by omega)), rfl⟩, trivial⟩ rfl⟩
        rcases Nat.lt_or_ge j k with h2 | h2
        · exact hm j h2
        · have : j = k := by omega
          subst this; exact h
    · have hk : k = q.length := by have := of_decide_eq_false h; simp at this; omega
      subst hk
      refine W.exit ?_
      refine R [] ?_
      refine W.ret (EndI 0 hn0 ?_)
      simp only [idxF, firstN_none.2 hm]

theorem idxF_bad (q : List Int) : decide (0 ≤ idxF badQ q) = !q.all (fun v => within v 1 9) := by
  have hb : ∀ v, badQ v = !within v 1 9 := by
    intro v
    rw [Bool.eq_iff_iff]
    simp only [badQ, within, Bool.or_eq_true, Bool.not_eq_true', Bool.and_eq_false_iff, decide_eq_true_eq, decide_eq_false_iff_not]
    omega
  unfold idxF
  cases hf : firstN (fun k => badQ (q.getD k 0)) q.length with
  | some k =>
    have h := firstN_some hf
    have h1 : (q.all fun v => within v 1 9) = false := by
      rw [List.all_eq_false]
      refine ⟨q[k], List.getElem_mem h.1, ?_⟩
      have h2 := h.2.1
      simp only [List.getD_eq_getElem?_getD, List.getElem?_eq_getElem h.1, Option.getD_some, hb] at h2
      simpa using h2
    rw [h1]
    simp
  | none =>
    have h := firstN_none.1 hf
    have h1 : (q.all fun v => within v 1 9) = true := by
      rw [List.all_eq_true]
      intro v hv
      obtain ⟨k, hk, rfl⟩ := List.getElem_of_mem hv
      have h2 := h k hk
      simp only [List.getD_eq_getElem?_getD, List.getElem?_eq_getElem hk, Option.getD_some, hb] at h2
      simpa using h2
    rw [h1]
    decide

set_option maxRecDepth 100000 in
theorem containsFunc_spec (q : List Int) {h : FuncId} {p : Int → Bool} (hp : ∀ x, Pure Try.prog h [.data (I x)] (.data (.bool (p x)))) :
    Pure Try.prog 51 [.data (eQ q), .func h []] (.data (.bool (decide (0 ≤ idxF p q)))) := by
  refine spec_of ttok Try.func51 rfl (by kernel_rfl) (by exact Nat.le_of_ble_eq_true rfl) fun hin hie c0 hc0 he => ?_
  have hn0 : c0.es.length ≤ 0 := Nat.le_of_eq (by rw [he]; rfl)
  refine R [] ?_
  refine R [.data (I (idxF p q))] (ho := by exact ⟨indexFunc_spec0 q hp, trivial⟩) ?_
  exact W.ret (EndB 0 hn0 rfl)

def badN (s : Node) : Bool := decide (s.height < 0) || decide (4 < s.height) || decide (s.round < 0) || decide (6 ≤ s.round) || decide (s.step < 0) || decide (2 < s.step) || decide (6 < ((s.queue.map I).length : Int))
theorem badN_eq (s : Node) : placeB s = !badN s := by
  rw [Bool.eq_iff_iff]
  simp only [placeB, badN, within, Bool.not_eq_true', Bool.and_eq_true, Bool.or_eq_false_iff, decide_eq_true_eq, decide_eq_false_iff_not, List.length_map]
  omega
def badSet (s : Node) (h : Nat) : Bool := decide (s.settled h < 0) || decide (9 < s.settled h) || !(decide (0 < s.settled h) == decide ((h : Int) < s.height)) || !goodS (s.heard h)
theorem badSet_eq (s : Node) (h : Nat) : setB s h = !badSet s h := by
  rw [Bool.eq_iff_iff]
  simp only [setB, badSet, within, Bool.not_eq_true', Bool.and_eq_true, Bool.or_eq_false_iff, decide_eq_true_eq, decide_eq_false_iff_not, Bool.not_eq_false', beq_iff_eq]
  constructor
  · rintro ⟨⟨⟨a, b⟩, c⟩, d⟩; exact ⟨⟨⟨by omega, by omega⟩, c⟩, d⟩
  · rintro ⟨⟨⟨a, b⟩, c⟩, d⟩; exact ⟨⟨⟨by omega, by omega⟩, c⟩, d⟩

set_option maxRecDepth 100000 in
theorem goodN_spec (s : Node) : Pure Try.prog 43 [.data (eNode s)] (.data (.bool (goodN s))) := by
  refine spec_of ttok Try.func43 rfl (by kernel_rfl) (by exact Nat.le_of_ble_eq_true rfl) fun hin hie c0 hc0 he => ?_
  have hn0 : c0.es.length ≤ 0 := Nat.le_of_eq (by rw [he]; rfl)
  refine R [] ?_
  refine W.seq (R [] ?_)
  refine C (fun h => ?_) (fun h => ?_)
  · have h1 : placeB s = false := by rw [badN_eq]; simpa only [bif_or, badN, gt_iff_lt, ge_iff_le, Bool.not_eq_false'] using h
    refine R [] ?_
    refine W.ret (EndB 0 hn0 ?_)
    simp only [goodN, h1, Bool.false_and]
  have h1 : placeB s = true := by rw [badN_eq]; simpa only [bif_or, badN, gt_iff_lt, ge_iff_le, Bool.not_eq_true'] using h
  clear h
  refine W.skip ?_
  refine W.seq (R [.data (.bool (boundB s.bound s.boundIn s.round)), .data (.bool (boundB s.valid s.validIn s.round))] (ho := by exact ⟨bound_spec _ _ _, fun _ => bound_spec _ _ _, trivial⟩) ?_)
  refine C (fun h => ?_) (fun h => ?_)
  · have h2 : (boundB s.bound s.boundIn s.round && boundB s.valid s.validIn s.round) = false := by
      have h : (bif !boundB s.bound s.boundIn s.round then true else !boundB s.valid s.validIn s.round) = true := h
      rw [bif_or] at h
      cases h3 : boundB s.bound s.boundIn s.round <;> simp_all
    refine R [] ?_
    refine W.ret (EndB 0 hn0 ?_)
    simp only [goodN, h2, Bool.and_false, Bool.false_and]
  have h2 : (boundB s.bound s.boundIn s.round && boundB s.valid s.validIn s.round) = true := by
    have h : (bif !boundB s.bound s.boundIn s.round then true else !boundB s.valid s.validIn s.round) = false := h
    rw [bif_or] at h
    cases h3 : boundB s.bound s.boundIn s.round <;> simp_all
  clear h
  refine W.skip ?_
  refine W.seq (R [] ?_)
  refine W.block (W.loop hc0 (ι := Nat) (fun k => ⟨91, frOf [(1, .ptr 0 []), (58, .data (eVotes s.settled)), (59, .data (I k))], [.var (eNode s) []]⟩) (fun k => k ≤ 4 ∧ setK s k = true) (fun k => 4 - k) 0 ⟨by omega, rfl⟩ ?_ ?_)
  · exact Le.cut _ 1 (by omega) ⟨⟨by with_unfolding_all rfl, rfl⟩, ⟨by with_unfolding_all rfl, rfl⟩, ⟨by with_unfolding_all rfl, rfl⟩, trivial⟩ (by with_unfolding_all rfl)
  · intro k ⟨hk, hm⟩
    refine R [] ?_
    refine W.seq (C (fun h => ?_) (fun h => ?_))
    · have hk : k < 4 := by have := of_decide_eq_true h; omega
      refine W.skip (W.seq (W.block ?_))
      refine R [] (ho := by exact ⟨⟨by omega, by omega⟩, trivial⟩) ?_
      refine R [.data (.bool (goodS (s.heard k)))] (ho := by exact ⟨fun _ => ⟨by omega, by omega⟩, fun _ => goodS_spec _, trivial⟩) ?_
      refine C (fun h => ?_) (fun h => ?_)
      · have hb : setB s k = false := by rw [badSet_eq]; simpa only [bif_or, badSet, gt_iff_lt, Int.toNat_natCast, Bool.not_eq_false'] using h
        refine R [] ?_
        refine W.ret (EndB 0 hn0 ?_)
        simp only [goodN, setK_of hb hk, Bool.and_false, Bool.false_and]
      · have hb : setB s k = true := by rw [badSet_eq]; simpa only [bif_or, badSet, gt_iff_lt, Int.toNat_natCast, Bool.not_eq_true'] using h
        refine W.skip ?_
        refine R1 [] ?_
        exact ⟨k + 1, ⟨by omega, by simp [setK, hm, hb]⟩, by omega, Le.cut _ 1 (by omega) ⟨⟨by with_unfolding_all rfl, rfl⟩, ⟨by with_unfolding_all rfl, rfl⟩, ⟨sl_int (wrap_up (by omega)), rfl⟩, trivial⟩ (by with_unfolding_all rfl)⟩
    · have hk : k = 4 := by have := of_decide_eq_false h; omega
      subst hk
      refine W.exit ?_
      refine R [.data (.bool (decide (0 ≤ idxF badQ s.queue)))] (ho := by exact ⟨containsFunc_spec _ good1_spec, trivial⟩) ?_
      refine W.ret (EndB 0 hn0 ?_)
      rw [idxF_bad]
      simp only [goodN, h1, h2, hm, Bool.true_and, Bool.not_not]

end Go.W
