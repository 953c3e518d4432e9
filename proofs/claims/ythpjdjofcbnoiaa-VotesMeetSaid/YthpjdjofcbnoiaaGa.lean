/-
  Quorums: the check that votes answers, and two quorums meet.
-/
import Derived.Test.YthpjdjofcbnoiaaFc
namespace Go.W
open Go.Proofs

def lit4 (a b c d : Int) : Nat → Int
  | 0 => a
  | 1 => b
  | 2 => c
  | 3 => d
  | _ => 0

theorem pure1 {P : Program} {f : FuncId} {a a' r r' : AV} (h : Pure P f [a'] r') (e : a = a') (e' : r' = r) : Pure P f [a] r := by subst e; subst e'; exact h

theorem data_arr {n es : Nat} {f g : Nat → D} (h : ∀ i, f i = g i) : AV.data (.arr n es f) = AV.data (.arr n es g) := by rw [funext h]
theorem data_agg {n : Nat} {f g : Nat → D} (h : ∀ i, f i = g i) : AV.data (.agg n f) = AV.data (.agg n g) := by rw [funext h]

theorem mostN_lit : mostN (lit4 3 0 3 3) 10 = some 2 := by decide
theorem all4_lit : all4 (lit4 3 0 3 3) = 3 := by decide

set_option maxRecDepth 100000 in
theorem counts_keep : Pure Try.prog 23 [] (.data (.bool true)) := by
  refine spec_of ttok Try.func23 rfl (by kernel_rfl) (by exact Nat.le_of_ble_eq_true rfl) fun hin hie c0 hc0 he => ?_
  have hn0 : c0.es.length ≤ 0 := Nat.le_of_eq (by rw [he]; rfl)
  refine R [] ?_
  refine R [.tuple [.data (I 2), .data (.bool true)]] (ho := ?ob) ?_
  case ob =>
    refine ⟨pure1 (most_spec (lit4 3 0 3 3)) ?_ (most_some mostN_lit).symm, trivial⟩
    with_unfolding_all refine data_arr fun i => ?_
    match i with
    | 0 => rfl
    | 1 => rfl
    | 2 => rfl
    | 3 => rfl
    | _ + 4 => rfl
  refine R [.data (I 3)] (ho := ?ob) ?_
  case ob =>
    refine ⟨fun _ => pure1 (all_spec (lit4 3 0 3 3)) ?_ (by rw [all4_lit]), trivial⟩
    with_unfolding_all refine data_arr fun i => ?_
    match i with
    | 0 => rfl
    | 1 => rfl
    | 2 => rfl
    | 3 => rfl
    | _ + 4 => rfl
  exact W.ret (End 0 hn0 ⟨rfl, rfl⟩)

set_option maxRecDepth 100000 in
theorem counts_law : Pure Try.prog 22 [] (.data (.bool true)) := by
  refine spec_of ttok Try.func22 rfl (by kernel_rfl) (by exact Nat.le_of_ble_eq_true rfl) fun hin hie c0 hc0 he => ?_
  have hn0 : c0.es.length ≤ 0 := Nat.le_of_eq (by rw [he]; rfl)
  refine R [] ?_
  refine R [.tuple [.data (I 2), .data (.bool true)]] (ho := ?ob) ?_
  case ob =>
    refine ⟨pure1 (most_spec (lit4 3 0 3 3)) ?_ (most_some mostN_lit).symm, trivial⟩
    with_unfolding_all refine data_arr fun i => ?_
    match i with
    | 0 => rfl
    | 1 => rfl
    | 2 => rfl
    | 3 => rfl
    | _ + 4 => rfl
  refine R [.data (I 3)] (ho := ?ob) ?_
  case ob =>
    refine ⟨fun _ => pure1 (all_spec (lit4 3 0 3 3)) ?_ (by rw [all4_lit]), trivial⟩
    with_unfolding_all refine data_arr fun i => ?_
    match i with
    | 0 => rfl
    | 1 => rfl
    | 2 => rfl
    | 3 => rfl
    | _ + 4 => rfl
  exact W.ret (End 0 hn0 ⟨rfl, rfl⟩)

theorem mostN_count {v : Nat → Int} {k : Nat} : ∀ {n : Nat}, mostN v n = some k → 3 ≤ count v k
  | n + 1, h => by
    simp only [mostN] at h
    split at h
    · rename_i j hj
      simp only [Option.some.injEq] at h
      subst h
      exact mostN_count hj
    · split at h
      · simp only [Option.some.injEq] at h
        subst h; assumption
      · cases h

/-- Who says what is counted. -/
def tick (v : Nat → Int) (x : Int) (i : Nat) : Int := if 0 < v i ∧ v i - 1 = x then 1 else 0
theorem count_tick (v : Nat → Int) (x : Int) : count v x = tick v x 0 + tick v x 1 + tick v x 2 + tick v x 3 := by
  simp only [count, cnt, tick]; omega
theorem tick_bd (v : Nat → Int) (x : Int) (i : Nat) : 0 ≤ tick v x i ∧ tick v x i ≤ 1 := by
  unfold tick; split <;> omega

theorem meet {a b : Nat → Int} {l : Int} (h : ∀ i : Nat, i < 4 → (i : Int) = l ∨ a i ≤ 0 ∨ b i ≤ 0 ∨ a i = b i) {x y : Int} (hx : 3 ≤ count a x) (hy : 3 ≤ count b y) : x = y := by
  apply Classical.byContradiction
  intro hne
  rw [count_tick] at hx hy
  have key : ∀ i : Nat, i < 4 → (i : Int) ≠ l → tick a x i + tick b y i ≤ 1 := by
    intro i hi hl
    have := h i hi
    unfold tick
    split <;> split <;> omega
  have b0 := tick_bd a x 0; have b1 := tick_bd a x 1; have b2 := tick_bd a x 2; have b3 := tick_bd a x 3
  have d0 := tick_bd b y 0; have d1 := tick_bd b y 1; have d2 := tick_bd b y 2; have d3 := tick_bd b y 3
  have k0 := key 0 (by omega); have k1 := key 1 (by omega); have k2 := key 2 (by omega); have k3 := key 3 (by omega)
  by_cases e0 : ((0 : Nat) : Int) = l
  · have := k1 (by omega); have := k2 (by omega); have := k3 (by omega); omega
  · by_cases e1 : ((1 : Nat) : Int) = l
    · have := k0 (by omega); have := k2 (by omega); have := k3 (by omega); omega
    · by_cases e2 : ((2 : Nat) : Int) = l
      · have := k0 (by omega); have := k1 (by omega); have := k3 (by omega); omega
      · have := k0 (by omega); have := k1 (by omega); have := k2 (by omega); omega

end Go.W
