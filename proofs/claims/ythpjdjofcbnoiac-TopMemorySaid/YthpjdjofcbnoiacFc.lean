/-
  Package votes, walked: all, most.
-/
import Derived.Test.YthpjdjofcbnoiacFb
namespace Go.W
open Go.Proofs

def allK (v : Nat → Int) : Nat → Int
  | 0 => 0
  | k + 1 => allK v k + if 0 < v k then 1 else 0
def all4 (v : Nat → Int) : Int := allK v 4

theorem allK_bd (v : Nat → Int) : ∀ k, 0 ≤ allK v k ∧ allK v k ≤ k
  | 0 => by simp [allK]
  | k + 1 => by
    have := allK_bd v k
    simp only [allK]
    split <;> omega

set_option maxRecDepth 100000 in
theorem all_spec (v : Nat → Int) : Pure Try.prog 41 [.data (eVotes v)] (.data (I (all4 v))) := by
  refine spec_of ttok Try.func41 rfl (by kernel_rfl) (by exact Nat.le_of_ble_eq_true rfl) fun hin hie c0 hc0 he => ?_
  have hv := (show InR (eVotes v) from hin (.data (eVotes v)) (by simp)).votes
  have hn0 : c0.es.length ≤ 0 := Nat.le_of_eq (by rw [he]; rfl)
  refine R [] ?_
  refine R [] ?_
  refine W.seq (R [] ?_)
  refine W.block (W.loop hc0 (ι := Nat) (fun k => ⟨16, frOf [(3, .data (I (allK v k))), (6, .data (eVotes v)), (7, .data (I k))], []⟩) (fun k => k ≤ 4) (fun k => 4 - k) 0 (by omega) ?_ ?_)
  · exact Le.cut _ 0 hn0 ⟨⟨by with_unfolding_all rfl, rfl⟩, ⟨by with_unfolding_all rfl, rfl⟩, ⟨by with_unfolding_all rfl, rfl⟩, trivial⟩ rfl
  · intro k hk
    have hb := allK_bd v k
    refine R [] ?_
    refine W.seq (C (fun h => ?_) (fun h => ?_))
    · have hk : k < 4 := by have := of_decide_eq_true h; omega
      refine W.skip (W.seq (W.block ?_))
      refine R [] (ho := by exact ⟨⟨by omega, by omega⟩, trivial⟩) ?_
      refine R [] ?_
      refine C (fun h => ?_) (fun h => ?_)
      · have hd : 0 < v k := of_decide_eq_true h
        refine R1 [] ?_
        refine R1 [] ?_
        refine ⟨k + 1, by omega, by omega, Le.cut _ 0 hn0 ⟨⟨sl_int ?_, rfl⟩, ⟨by with_unfolding_all rfl, rfl⟩, ⟨sl_int (wrap_cast hk (by omega)), rfl⟩, trivial⟩ rfl⟩
        rw [i64_wrap (by omega) (by omega), allK, if_pos hd]
      · have hd : ¬ 0 < v k := of_decide_eq_false h
        refine W.skip ?_
        refine R1 [] ?_
        refine ⟨k + 1, by omega, by omega, Le.cut _ 0 hn0 ⟨⟨sl_int ?_, rfl⟩, ⟨by with_unfolding_all rfl, rfl⟩, ⟨sl_int (wrap_cast hk (by omega)), rfl⟩, trivial⟩ rfl⟩
        rw [allK, if_neg hd]; omega
    · have hk : k = 4 := by have := of_decide_eq_false h; omega
      subst hk
      refine W.exit ?_
      refine R [] ?_
      exact W.ret (End 0 hn0 ⟨rfl, rfl⟩)

/-- The least number below n that a quorum has said. -/
def mostN (v : Nat → Int) : Nat → Option Nat
  | 0 => none
  | n + 1 => match mostN v n with
    | some k => some k
    | none => if 3 ≤ count v n then some n else none
def optV : Option Nat → Int
  | some k => k
  | none => 0
def mostV (v : Nat → Int) : Int := optV (mostN v 10)
def mostOk (v : Nat → Int) : Bool := (mostN v 10).isSome

theorem mostN_some {v : Nat → Int} {k : Nat} : ∀ {n : Nat}, mostN v n = some k → ∀ m, n ≤ m → mostN v m = some k := by
  intro n h m hm
  induction m with
  | zero => have : n = 0 := by omega
            subst this; exact h
  | succ m ih =>
    rcases Nat.lt_or_ge n (m + 1) with hl | hl
    · simp [mostN, ih (by omega)]
    · have : n = m + 1 := by omega
      subst this; exact h

theorem most_some {v : Nat → Int} {k : Nat} (h : mostN v 10 = some k) : AV.tuple [.data (I k), .data (.bool true)] = AV.tuple [.data (I (mostV v)), .data (.bool (mostOk v))] := by
  simp only [mostV, mostOk, h, optV, Option.isSome]
theorem most_none {v : Nat → Int} (h : mostN v 10 = none) : AV.tuple [.data (I 0), .data (.bool false)] = AV.tuple [.data (I (mostV v)), .data (.bool (mostOk v))] := by
  simp only [mostV, mostOk, h, optV, Option.isSome]

set_option maxRecDepth 100000 in
theorem most_spec (v : Nat → Int) : Pure Try.prog 53 [.data (eVotes v)] (.tuple [.data (I (mostV v)), .data (.bool (mostOk v))]) := by
  refine spec_of ttok Try.func53 rfl (by kernel_rfl) (by exact Nat.le_of_ble_eq_true rfl) fun hin hie c0 hc0 he => ?_
  have hv := (show InR (eVotes v) from hin (.data (eVotes v)) (by simp)).votes
  have hn0 : c0.es.length ≤ 0 := Nat.le_of_eq (by rw [he]; rfl)
  refine R [] ?_
  refine W.seq (R [] ?_)
  refine W.block (W.loop hc0 (ι := Nat) (fun k => ⟨14, frOf [(1, .ptr 0 []), (5, .data (I k))], [.var (eVotes v) []]⟩) (fun k => k ≤ 10 ∧ mostN v k = none) (fun k => 10 - k) 0 ⟨by omega, rfl⟩ ?_ ?_)
  · exact Le.cut _ 1 (by omega) ⟨⟨by with_unfolding_all rfl, rfl⟩, ⟨by with_unfolding_all rfl, rfl⟩, trivial⟩ rfl
  · intro k ⟨hk, hm⟩
    refine R [] ?_
    refine W.seq (C (fun h => ?_) (fun h => ?_))
    · have hk : k < 10 := by have := of_decide_eq_true h; omega
      refine W.skip (W.seq (W.block ?_))
      refine R [] ?_
      refine R [.data (I (count v k))] (ho := by exact ⟨count_spec _ _, trivial⟩) ?_
      refine C (fun h => ?_) (fun h => ?_)
      · have hd : 3 ≤ count v k := of_decide_eq_true h
        have hN : mostN v 10 = some k := mostN_some (n := k + 1) (by simp [mostN, hm, hd]) 10 (by omega)
        refine R [] ?_
        refine W.ret (End 0 hn0 ⟨?_, rfl⟩)
        exact most_some hN
      · have hd : ¬ 3 ≤ count v k := of_decide_eq_false h
        refine W.skip ?_
        refine R1 [] ?_
        refine ⟨k + 1, ⟨by omega, by simp [mostN, hm, hd]⟩, by omega, Le.cut _ 1 (by omega) ⟨⟨by with_unfolding_all rfl, rfl⟩, ⟨sl_int (wrap_cast hk (by omega)), rfl⟩, trivial⟩ rfl⟩
    · have hk : k = 10 := by have := of_decide_eq_false h; omega
      subst hk
      refine W.exit ?_
      refine R [] ?_
      refine W.ret (End 0 hn0 ⟨?_, rfl⟩)
      exact most_none hm

theorem mostN_count {v : Nat → Int} {k : Nat} : ∀ {n : Nat}, mostN v n = some k → 3 ≤ count v k
  | n + 1, h => by
    simp only [mostN] at h
    split at h
    · rename_i j hj
      simp only [Option.some.injEq] at h
      subst h
      exact mostN_count hj
    · split at h
      · simp only [Option.some.injEq] at h
        subst h; assumption
      · cases h

/-- Who says what is counted. -/
def tick (v : Nat → Int) (x : Int) (i : Nat) : Int := if 0 < v i ∧ v i - 1 = x then 1 else 0
theorem count_tick (v : Nat → Int) (x : Int) : count v x = tick v x 0 + tick v x 1 + tick v x 2 + tick v x 3 := by
  simp only [count, cnt, tick]; omega
theorem tick_bd (v : Nat → Int) (x : Int) (i : Nat) : 0 ≤ tick v x i ∧ tick v x i ≤ 1 := by
  unfold tick; split <;> omega

theorem meet {a b : Nat → Int} {l : Int} (h : ∀ i : Nat, i < 4 → (i : Int) = l ∨ a i ≤ 0 ∨ b i ≤ 0 ∨ a i = b i) {x y : Int} (hx : 3 ≤ count a x) (hy : 3 ≤ count b y) : x = y := by
  apply Classical.byContradiction
  intro hne
  rw [count_tick] at hx hy
  have key : ∀ i : Nat, i < 4 → (i : Int) ≠ l → tick a x i + tick b y i ≤ 1 := by
    intro i hi hl
    have := h i hi
    unfold tick
    split <;> split <;> omega
  have b0 := tick_bd a x 0; have b1 := tick_bd a x 1; have b2 := tick_bd a x 2; have b3 := tick_bd a x 3
  have d0 := tick_bd b y 0; have d1 := tick_bd b y 1; have d2 := tick_bd b y 2; have d3 := tick_bd b y 3
  have k0 := key 0 (by omega); have k1 := key 1 (by omega); have k2 := key 2 (by omega); have k3 := key 3 (by omega)
  by_cases e0 : ((0 : Nat) : Int) = l
  · have := k1 (by omega); have := k2 (by omega); have := k3 (by omega); omega
  · by_cases e1 : ((1 : Nat) : Int) = l
    · have := k0 (by omega); have := k2 (by omega); have := k3 (by omega); omega
    · by_cases e2 : ((2 : Nat) : Int) = l
      · have := k0 (by omega); have := k1 (by omega); have := k3 (by omega); omega
      · have := k0 (by omega); have := k1 (by omega); have := k2 (by omega); omega

end Go.W
