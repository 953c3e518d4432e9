/-
  Texts for the law CrowdNil: Te.
-/
import Derived.Test.YthpjdjofcbnoiabK2
import Derived.Test.YthpjdjofcbnoiabQGm

/-
  A crowd that is nil; the law CrowdNil.
-/
namespace Go.W
open Go.Proofs

theorem VD.nodeN {w : World} {fz : Nat → Nat} {s : Node} {v : Value} (h : VD w fz (eNodeQ s .nil) v) : VD w fz (eNodeQ s (eQ [])) v := by
  obtain ⟨cs, h1, h2, h3⟩ := h
  exact ⟨cs, h1, h2, (DRle.nodeN s).dr _ _ _ h3⟩
theorem VR.nodeN {c : Cx} {s : Node} {v : Value} (h : VR c (.data (eNodeQ s .nil)) v) : VR c (.data (eNodeQ s (eQ []))) v := by
  cases h with
  | data h => exact .data h.nodeN
/-- Nodes whose queue is nil are as such whose queue is empty. -/
theorem pure_nodeN {P : Program} {f : FuncId} {s t : Node} {r : AV} (h : Pure P f [.data (eNodeQ s (eQ [])), .data (eNodeQ t (eQ []))] r) : Pure P f [.data (eNodeQ s .nil), .data (eNodeQ t .nil)] r := by
  refine ⟨h.1, fun c hc he vals hsz hv => h.2 c hc he vals hsz fun i hi => ?_⟩
  match i, hi with
  | 0, _ => exact (hv 0 (by simp)).nodeN
  | 1, _ => exact (hv 1 (by simp)).nodeN

set_option maxRecDepth 100000 in
theorem do_nil (a : Act) : Pure Try.prog 29 [.nilptr, .data (eAct a)] (.data (eReply (errR 4))) := by
  refine spec_of ttok Try.func29 rfl (by kernel_rfl) (by exact Nat.le_of_ble_eq_true rfl) fun hin hie c0 hc0 he => ?_
  have hn0 : c0.es.length ≤ 0 := Nat.le_of_eq (by rw [he]; rfl)
  refine R [] ?_
  refine R [] ?_
  refine W.seq (W.block (R [] ?_))
  refine CT ?_
  refine R [.data (eReply (errR 4))] (ho := by exact ⟨do1_spec _, sameRR _ _, trivial⟩) ?_
  exact W.ret (End 0 hn0 ⟨rfl, rfl⟩)

set_option maxRecDepth 100000 in
theorem node_nil (i : Int) : Pure Try.prog 30 [.nilptr, .data (I i)] (.data (eNodeN Node.zero)) := by
  refine spec_of ttok Try.func30 rfl (by kernel_rfl) (by exact Nat.le_of_ble_eq_true rfl) fun hin hie c0 hc0 he => ?_
  have hn0 : c0.es.length ≤ 0 := Nat.le_of_eq (by rw [he]; rfl)
  refine R [] ?_
  refine W.seq (R [] ?_)
  refine CT ?_
  refine R [] (ho := by exact ⟨Same.refl _, trivial⟩) ?_
  exact W.ret (End 0 hn0 ⟨rfl, rfl⟩)

set_option maxRecDepth 100000 in
theorem net_nil : Pure Try.prog 35 [.nilptr] (.data .nil) := by
  refine spec_of ttok Try.func35 rfl (by kernel_rfl) (by exact Nat.le_of_ble_eq_true rfl) fun hin hie c0 hc0 he => ?_
  have hn0 : c0.es.length ≤ 0 := Nat.le_of_eq (by rw [he]; rfl)
  refine R [] ?_
  refine W.seq (R [] ?_)
  refine CT ?_
  refine R [] ?_
  exact W.ret (End 0 hn0 ⟨rfl, rfl⟩)

set_option maxRecDepth 100000 in
theorem crowdNil_spec (a : Act) (i : Int) : Pure Try.prog 8 [.data (eAct a), .data (I i)] (.data (.bool true)) := by
  refine spec_of ttok Try.func8 rfl (by kernel_rfl) (by exact Nat.le_of_ble_eq_true rfl) fun hin hie c0 hc0 he => ?_
  have hn0 : c0.es.length ≤ 0 := Nat.le_of_eq (by rw [he]; rfl)
  refine R [] ?_
  refine R [] ?_
  refine R [.data (eReply (errR 4)), .data (eNodeN Node.zero), .data (.bool true), .data .nil] (ho := ?ob) ?_
  case ob =>
    refine ⟨do_nil a, fun _ => node_nil i, fun _ => pure_nodeN (sameNode_spec Node.zero), fun _ => net_nil, trivial⟩
  refine W.ret (EndB 0 hn0 ?_)
  with_unfolding_all rfl

end Go.W
