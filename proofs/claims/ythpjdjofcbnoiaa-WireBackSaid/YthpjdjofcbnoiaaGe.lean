/-
  The check that wire answers; who leads in four rounds.
-/
import Derived.Test.YthpjdjofcbnoiaaGa
import Derived.Test.YthpjdjofcbnoiaaFf
namespace Go.W
open Go.Proofs

def litW : Word := ⟨1, 1, 1, 0, 7, -1⟩
theorem litW_good : goodW litW = 0 := by decide
theorem litW_text : encS litW = ⟨#[49, 49, 49, 48, 55, 45]⟩ := by
  rw [encS, if_pos litW_good]; rfl

set_option maxRecDepth 100000 in
theorem wires_keep : Pure Try.prog 24 [] (.data (.bool true)) := by
  refine spec_of ttok Try.func24 rfl (by kernel_rfl) (by exact Nat.le_of_ble_eq_true rfl) fun hin hie c0 hc0 he => ?_
  have hn0 : c0.es.length ≤ 0 := Nat.le_of_eq (by rw [he]; rfl)
  refine R [] ?_
  refine R [.tuple [.data (.str ⟨#[49, 49, 49, 48, 55, 45]⟩), .data (I 0)]] (ho := ?ob) ?_
  case ob =>
    refine ⟨pure1 (encode_spec litW) ?_ (by rw [litW_good, litW_text]), trivial⟩
    with_unfolding_all refine data_agg fun i => ?_
    match i with
    | 0 => rfl
    | 1 => rfl
    | 2 => rfl
    | 3 => rfl
    | 4 => rfl
    | 5 => rfl
    | _ + 6 => rfl
  refine R [.data (I 3)] (ho := ?ob) ?_
  case ob => exact ⟨fun _ => leader_spec 1 2, trivial⟩
  refine W.ret (EndB 0 hn0 ?_)
  simp

theorem var_arr {n es : Nat} {f g : Nat → D} (h : ∀ i, f i = g i) : [Ent.var (.arr n es f) []] = [Ent.var (.arr n es g) []] := by rw [funext h]

/-- How often each has led in the first k rounds. -/
def led (h r : Int) : Nat → Nat → Int
  | 0, _ => 0
  | k + 1, j => led h r k j + if leader h (r + k) = j then 1 else 0

theorem leader_bd (h r : Int) : 0 ≤ leader h r ∧ leader h r < 4 := by unfold leader; omega
theorem led_bd (h r : Int) (j : Nat) : ∀ k, 0 ≤ led h r k j ∧ led h r k j ≤ k
  | 0 => by simp [led]
  | k + 1 => by
    have := led_bd h r j k
    simp only [led]
    split <;> omega
theorem led_one (h r : Int) (j : Nat) (hj : j < 4) : led h r 4 j = 1 := by
  simp only [led, leader]
  repeat' split
  all_goals omega

set_option maxRecDepth 100000 in
theorem wireLeads_spec (h r : Int) : Pure Try.prog 6 [.data (I h), .data (I r)] (.data (.bool true)) := by
  refine spec_of ttok Try.func6 rfl (by kernel_rfl) (by exact Nat.le_of_ble_eq_true rfl) fun hin hie c0 hc0 he => ?_
  have hr := (show InR (I r) from hin (.data (I r)) (by simp)).i64
  have hn0 : c0.es.length ≤ 0 := Nat.le_of_eq (by rw [he]; rfl)
  refine R [] ?_
  refine W.seq (R [] ?_)
  refine C (fun hb => ?_) (fun hb => ?_)
  · refine R [.data (.bool true)] (ho := by exact ⟨wires_keep, trivial⟩) ?_
    exact W.ret (End 0 hn0 ⟨rfl, rfl⟩)
  have hb : r ≤ 4611686018427387904 := by have := of_decide_eq_false hb; omega
  refine W.skip ?_
  refine R [] ?_
  refine W.seq (R [] ?_)
  refine W.block (W.loop hc0 (ι := Nat) (fun k => ⟨37, frOf [(0, .data (I h)), (1, .data (I r)), (5, .ptr 0 []), (11, .data (I k))], [.var (eVotes (led h r k)) []]⟩) (fun k => k ≤ 4) (fun k => 4 - k) 0 (by omega) ?_ ?_)
  · exact Le.cut _ 1 (by omega) ⟨⟨by with_unfolding_all rfl, rfl⟩, ⟨by with_unfolding_all rfl, rfl⟩, ⟨by with_unfolding_all rfl, rfl⟩, ⟨by with_unfolding_all rfl, rfl⟩, trivial⟩ rfl
  · intro k hk
    refine R [] ?_
    refine W.seq (C (fun hc => ?_) (fun hc => ?_))
    · have hk : k < 4 := by have := of_decide_eq_true hc; omega
      have hw : IntKind.i64.wrap (r + k) = r + k := i64_wrap (by omega) (by omega)
      have hl := leader_bd h (r + k)
      refine W.skip (W.seq (W.block ?_))
      refine R [] ?_
      refine R [.data (I (leader h (IntKind.i64.wrap (r + k))))] (ho := by exact ⟨leader_spec _ _, trivial⟩) ?_
      refine W.seq (R [] ?_)
      refine C (fun hd => ?_) (fun hd => ?_)
      · exfalso
        simp only [bif_or, hw, Bool.or_eq_true, decide_eq_true_eq] at hd
        omega
      refine W.skip ?_
      have hlt : (leader h (r + k)).toNat < 4 := by omega
      have hbd := led_bd h r (leader h (r + k)).toNat k
      refine R1 [] (ho := ?ob) ?_
      case ob =>
        rw [hw]
        exact ⟨⟨by omega, by omega⟩, ⟨by omega, by omega⟩, trivial⟩
      refine R1 [] ?_
      refine ⟨k + 1, by omega, by omega, Le.cut _ 1 (by omega) ⟨⟨by with_unfolding_all rfl, rfl⟩, ⟨by with_unfolding_all rfl, rfl⟩, ⟨by with_unfolding_all rfl, rfl⟩, ⟨sl_int (wrap_cast hk (by omega)), rfl⟩, trivial⟩ ?_⟩
      · with_unfolding_all refine var_arr fun j => ?_
        rw [hw, i64_wrap (n := led h r k _ + 1) (by omega) (by omega)]
        simp only [set_nil, led]
        cases hj : Nat.beq j (leader h (r + k)).toNat with
        | true =>
          have := Nat.eq_of_beq_eq_true hj
          rw [if_pos (by omega), this]; rfl
        | false =>
          have : j ≠ (leader h (r + k)).toNat := fun e => by rw [e, Nat.beq_refl] at hj; cases hj
          rw [if_neg (by omega), Int.add_zero]; rfl
    · have hk : k = 4 := by have := of_decide_eq_false hc; omega
      subst hk
      refine W.exit ?_
      refine R [.data (.bool true)] (ho := by exact ⟨fun _ => wires_keep, trivial⟩) ?_
      refine W.ret (EndB 0 hn0 ?_)
      rw [bif_and, Bool.and_true]
      refine allTo_spec.2 fun j hj => ?_
      have h1 := led_one h r j hj
      match j, hj with
      | 0, _ => exact (congrArg (fun n => eqD (I n) (I 1)) h1)
      | 1, _ => exact (congrArg (fun n => eqD (I n) (I 1)) h1)
      | 2, _ => exact (congrArg (fun n => eqD (I n) (I 1)) h1)
      | 3, _ => exact (congrArg (fun n => eqD (I n) (I 1)) h1)

end Go.W
