/-
  Texts for the law CrowdRuns: Fa Fb Fc.
-/
import Derived.Test.YthpjdjofcbnoiabWu

/-
  Package wire, walked.
-/
namespace Go.W
open Go.Proofs

/-! ### The rules at this seat, in short -/
section
variable {c0 : Cx} {Q : Exit → St → Prop} {s : St}
/-- A region, then the rest. -/
theorem R {id : Nat} {l : List Oper} {y : Code} (rs : List Hint) {s' : St} {obs : List Prop} (hQ : AWP Try.prog c0 y Q s') (h : run Try.prog tt l.toArray (zipR l rs) s = some (s', obs) := by with_unfolding_all rfl) (ho : AllP obs := by exact trivial) :
    AWP Try.prog c0 (.seq (.region id l.toArray false) y) Q s := W.seq (W.region ttok rs h ho hQ)
/-- A last region. -/
theorem R1 {id : Nat} {l : List Oper} (rs : List Hint) {s' : St} {obs : List Prop} (hQ : Q .normal s') (h : run Try.prog tt l.toArray (zipR l rs) s = some (s', obs) := by with_unfolding_all rfl) (ho : AllP obs := by exact trivial) :
    AWP Try.prog c0 (.region id l.toArray false) Q s := W.region ttok rs h ho hQ
def noFp : Nat → Fp := fun _ => .any
def fpOf : List (Nat × Fp) → Nat → Fp
  | [], _ => .any
  | (i, f) :: r, k => match Nat.beq i k with
    | true => f
    | false => fpOf r k
/-- A region that draws, then the rest. -/
theorem RD {id : Nat} {l : List Oper} {y : Code} (rs : List Hint) {s' : St} {obs : List Prop} (hQ : AWP Try.prog c0 y Q s') (h : runD Try.prog tt l.toArray noFp 0 0 (zipR l rs) s = some (s', obs) := by with_unfolding_all rfl) (ho : AllP obs := by exact trivial)
    (hB : drawB l.toArray (hintAt (zipR l rs)) noFp = true := by kernel_rfl) : AWP Try.prog c0 (.seq (.region id l.toArray true) y) Q s := W.seq (W.draw ttok mixed rs noFp 0 hB h ho hQ)
theorem RD1 {id : Nat} {l : List Oper} (rs : List Hint) {s' : St} {obs : List Prop} (hQ : Q .normal s') (h : runD Try.prog tt l.toArray noFp 0 0 (zipR l rs) s = some (s', obs) := by with_unfolding_all rfl) (ho : AllP obs := by exact trivial)
    (hB : drawB l.toArray (hintAt (zipR l rs)) noFp = true := by kernel_rfl) : AWP Try.prog c0 (.region id l.toArray true) Q s := W.draw ttok mixed rs noFp 0 hB h ho hQ
/-- The same, where it is told what some operations touch (of the first n entries). -/
theorem RF {id : Nat} {l : List Oper} {y : Code} (rs : List Hint) (n : Nat) (fl : List (Nat × Fp)) {s' : St} {obs : List Prop} (hQ : AWP Try.prog c0 y Q s') (h : runD Try.prog tt l.toArray (fpOf fl) n 0 (zipR l rs) s = some (s', obs) := by with_unfolding_all rfl) (ho : AllP obs := by exact trivial)
    (hB : drawB l.toArray (hintAt (zipR l rs)) (fpOf fl) = true := by kernel_rfl) : AWP Try.prog c0 (.seq (.region id l.toArray true) y) Q s := W.seq (W.draw ttok mixed rs (fpOf fl) n hB h ho hQ)
theorem RF1 {id : Nat} {l : List Oper} (rs : List Hint) (n : Nat) (fl : List (Nat × Fp)) {s' : St} {obs : List Prop} (hQ : Q .normal s') (h : runD Try.prog tt l.toArray (fpOf fl) n 0 (zipR l rs) s = some (s', obs) := by with_unfolding_all rfl) (ho : AllP obs := by exact trivial)
    (hB : drawB l.toArray (hintAt (zipR l rs)) (fpOf fl) = true := by kernel_rfl) : AWP Try.prog c0 (.region id l.toArray true) Q s := W.draw ttok mixed rs (fpOf fl) n hB h ho hQ
/-- A test. -/
theorem C {x : Operand} {t e : Code} {b : Bool} (ht : b = true → AWP Try.prog c0 t Q s) (hf : b = false → AWP Try.prog c0 e Q s) (hx : s.look [] x = .data (.bool b) := by with_unfolding_all rfl) : AWP Try.prog c0 (.cond x t e) Q s := W.cond hx ht hf
/-- A test whose answer is known. -/
theorem CT {x : Operand} {t e : Code} (ht : AWP Try.prog c0 t Q s) (hx : s.look [] x = .data (.bool true) := by with_unfolding_all rfl) : AWP Try.prog c0 (.cond x t e) Q s := W.cond hx (fun _ => ht) (fun h => by cases h)
theorem CF {x : Operand} {t e : Code} (hf : AWP Try.prog c0 e Q s) (hx : s.look [] x = .data (.bool false) := by with_unfolding_all rfl) : AWP Try.prog c0 (.cond x t e) Q s := W.cond hx (fun h => by cases h) (fun _ => hf)
/-- The end: the slots hold the results; nothing of the entries is kept but the first k. -/
theorem End {n0 : Nat} {rs : List ResultVar} {R : AV → List Ent → Prop} {e : Exit} (k : Nat) {vs : List AV} {es' : List Ent} (hk : n0 ≤ k) (hR : R (resT (trims k vs)) es') (hv : resL tt s rs = some vs := by with_unfolding_all rfl)
    (he : (match e with | .normal => True | .ret => True | _ => False) := by exact trivial) (h2 : trimEs k k s.es = es' := by with_unfolding_all rfl) : Fin tt n0 rs R e s :=
  ⟨⟨he, .inl ⟨k, vs, es', hk, hv, h2, hR⟩⟩⟩
/-- The same, where some of the entries are kept, in the order told. -/
theorem EndM {n0 : Nat} {rs : List ResultVar} {R : AV → List Ent → Prop} {e : Exit} (m : List Nat) {vs : List AV} {es' : List Ent} (hk : ∀ i : Nat, i < n0 → m[i]? = some i) (hR : R (resT (pullL m vs)) es') (hv : resL tt s rs = some vs := by with_unfolding_all rfl)
    (he : (match e with | .normal => True | .ret => True | _ => False) := by exact trivial) (h1 : nodupB m = true := by with_unfolding_all rfl) (h2 : handed m s.es m = some es' := by with_unfolding_all rfl) : Fin tt n0 rs R e s :=
  ⟨⟨he, .inr ⟨m, vs, es', hk, h1, h2, hv, hR⟩⟩⟩
/-- The end, where the result is a bool, or a number. -/
theorem EndB {n0 : Nat} {rs : List ResultVar} {e : Exit} (k : Nat) {b b' : Bool} {es es' : List Ent} (hk : n0 ≤ k) (hR : b' = b) (hv : resL tt s rs = some [.data (.bool b')] := by with_unfolding_all rfl)
    (he : (match e with | .normal => True | .ret => True | _ => False) := by exact trivial) (h2 : trimEs k k s.es = es' := by with_unfolding_all rfl) (h4 : es' = es := by rfl) :
    Fin tt n0 rs (fun v es1 => v = .data (.bool b) ∧ es1 = es) e s :=
  ⟨⟨he, .inl ⟨k, _, es', hk, hv, h2, by subst hR; rfl, h4⟩⟩⟩
theorem EndI {n0 : Nat} {rs : List ResultVar} {e : Exit} (k : Nat) {b b' : Int} {es es' : List Ent} (hk : n0 ≤ k) (hR : b' = b) (hv : resL tt s rs = some [.data (.int .i64 b')] := by with_unfolding_all rfl)
    (he : (match e with | .normal => True | .ret => True | _ => False) := by exact trivial) (h2 : trimEs k k s.es = es' := by with_unfolding_all rfl) (h4 : es' = es := by rfl) :
    Fin tt n0 rs (fun v es1 => v = .data (.int .i64 b) ∧ es1 = es) e s :=
  ⟨⟨he, .inl ⟨k, _, es', hk, hv, h2, by subst hR; rfl, h4⟩⟩⟩
theorem sl {t : Nat} {x y : AV} (e : x = y) (h : s.fr t = .v x := by with_unfolding_all rfl) : s.fr t = .v y := by rw [← e]; exact h
theorem sl_int {t : Nat} {a b : Int} (e : a = b) (h : s.fr t = .v (.data (.int .i64 a)) := by with_unfolding_all rfl) : s.fr t = .v (.data (.int .i64 b)) := by rw [← e]; exact h
theorem sl_bool {t : Nat} {a b : Bool} (e : a = b) (h : s.fr t = .v (.data (.bool a)) := by with_unfolding_all rfl) : s.fr t = .v (.data (.bool b)) := by rw [← e]; exact h
end

theorem pure1 {P : Program} {f : FuncId} {a a' r r' : AV} (h : Pure P f [a'] r') (e : a = a') (e' : r' = r) : Pure P f [a] r := by subst e; subst e'; exact h
theorem data_arr {n es : Nat} {f g : Nat → D} (h : ∀ i, f i = g i) : AV.data (.arr n es f) = AV.data (.arr n es g) := by rw [funext h]
theorem data_agg {n : Nat} {f g : Nat → D} (h : ∀ i, f i = g i) : AV.data (.agg n f) = AV.data (.agg n g) := by rw [funext h]

def leader (h r : Int) : Int := (h % 4 + r % 4) % 4

theorem and3 (x : Int) : bitsOf .and .i64 x 3 = x % 4 := by
  have h : (BitVec.ofInt 64 x &&& BitVec.ofInt 64 3).toNat = (x % 4).toNat := by
    have h3 : (BitVec.ofInt 64 3).toNat = 2 ^ 2 - 1 := by decide
    rw [BitVec.toNat_and, h3, Nat.and_two_pow_sub_one_eq_mod]
    simp only [BitVec.toNat_ofInt]
    omega
  have h2 : bitsOf .and .i64 x 3 = IntKind.i64.wrap ((BitVec.ofInt 64 x &&& BitVec.ofInt 64 3).toNat : Int) := rfl
  rw [h2, h]
  simp [IntKind.wrap, IntKind.bits, IntKind.signed]
  omega

set_option maxRecDepth 100000 in
theorem leader_spec (h r : Int) : Pure Try.prog 79 [.data (I h), .data (I r)] (.data (I (leader h r))) := by
  refine spec_of ttok Try.func79 rfl (by kernel_rfl) (by exact Nat.le_of_ble_eq_true rfl) fun hin hie c0 hc0 he => ?_
  have hn0 : c0.es.length ≤ 0 := Nat.le_of_eq (by rw [he]; rfl)
  refine R [] ?_
  refine R [] ?_
  refine W.ret (End 0 hn0 ⟨?_, rfl⟩)
  show AV.data (I (bitsOf .and .i64 (IntKind.i64.wrap (bitsOf .and .i64 h 3 + bitsOf .and .i64 r 3)) 3)) = _
  simp only [and3, leader]
  congr 2
  simp [IntKind.wrap, IntKind.bits, IntKind.signed]
  omega

end Go.W

/-
  Package votes, walked: counting.
-/
namespace Go.W
open Go.Proofs

theorem i64_range {n : Int} (h : IntKind.i64.wrap n = n) : -9223372036854775808 ≤ n ∧ n < 9223372036854775808 := by
  simp [IntKind.wrap, IntKind.bits, IntKind.signed] at h
  split at h <;> omega
theorem i64_wrap {n : Int} (h1 : -9223372036854775808 ≤ n) (h2 : n < 9223372036854775808) : IntKind.i64.wrap n = n := by
  simp [IntKind.wrap, IntKind.bits, IntKind.signed]
  split <;> omega

theorem InR.i64 {n : Int} (h : InR (I n)) : -9223372036854775808 ≤ n ∧ n < 9223372036854775808 := by
  cases h with
  | int h => exact i64_range h

theorem InR.votes {v : Nat → Int} (h : InR (eVotes v)) : ∀ k, k < 4 → -9223372036854775808 ≤ v k ∧ v k < 9223372036854775808 := by
  cases h with
  | arr h => exact fun k hk => (h k hk).i64

/-- Of the first k, how many have said x. -/
def cnt (v : Nat → Int) (x : Int) : Nat → Int
  | 0 => 0
  | k + 1 => cnt v x k + if 0 < v k ∧ v k - 1 = x then 1 else 0
def count (v : Nat → Int) (x : Int) : Int := cnt v x 4

theorem cnt_bd (v : Nat → Int) (x : Int) : ∀ k, 0 ≤ cnt v x k ∧ cnt v x k ≤ k
  | 0 => by simp [cnt]
  | k + 1 => by
    have := cnt_bd v x k
    simp only [cnt]
    split <;> omega

theorem wrap_cast {k n : Nat} (h : k < n) (hn : n ≤ 1000000) : IntKind.i64.wrap ((k : Int) + 1) = ((k + 1 : Nat) : Int) := by rw [i64_wrap (by omega) (by omega)]; omega

set_option maxRecDepth 100000 in
theorem count_spec (v : Nat → Int) (x : Int) : Pure Try.prog 51 [.data (eVotes v), .data (I x)] (.data (I (count v x))) := by
  refine spec_of ttok Try.func51 rfl (by kernel_rfl) (by exact Nat.le_of_ble_eq_true rfl) fun hin hie c0 hc0 he => ?_
  have hv := (show InR (eVotes v) from hin (.data (eVotes v)) (by simp)).votes
  have hn0 : c0.es.length ≤ 0 := Nat.le_of_eq (by rw [he]; rfl)
  refine R [] ?_
  refine R [] ?_
  refine W.seq (R [] ?_)
  refine W.block (W.loop hc0 (ι := Nat) (fun k => ⟨24, frOf [(1, .data (I x)), (5, .data (I (cnt v x k))), (8, .data (eVotes v)), (9, .data (I k))], []⟩) (fun k => k ≤ 4) (fun k => 4 - k) 0 (by omega) ?_ ?_)
  · exact Le.cut _ 0 hn0 ⟨⟨by with_unfolding_all rfl, rfl⟩, ⟨by with_unfolding_all rfl, rfl⟩, ⟨by with_unfolding_all rfl, rfl⟩, ⟨by with_unfolding_all rfl, rfl⟩, trivial⟩ rfl
  · intro k hk
    have hb := cnt_bd v x k
    refine R [] ?_
    refine W.seq (C (fun h => ?_) (fun h => ?_))
    · have hk : k < 4 := by have := of_decide_eq_true h; omega
      have hvk := hv k hk
      refine W.skip (W.seq (W.block ?_))
      refine R [] (ho := by exact ⟨⟨by omega, by omega⟩, trivial⟩) ?_
      refine R [] ?_
      refine C (fun h => ?_) (fun h => ?_)
      · have hd : 0 < v k ∧ v k - 1 = x := by
          simp only [Int.toNat_natCast] at h
          by_cases h0 : 0 < v k
          · rw [decide_eq_true h0, cond_true, i64_wrap (by omega) (by omega)] at h; exact ⟨h0, by simpa using h⟩
          · rw [decide_eq_false h0] at h; cases h
        refine R1 [] ?_
        refine R1 [] ?_
        refine ⟨k + 1, by omega, by omega, Le.cut _ 0 hn0 ⟨⟨by with_unfolding_all rfl, rfl⟩, ⟨sl_int ?_, rfl⟩, ⟨by with_unfolding_all rfl, rfl⟩, ⟨sl_int (wrap_cast hk (by omega)), rfl⟩, trivial⟩ rfl⟩
        rw [i64_wrap (by omega) (by omega), cnt, if_pos hd]
      · have hd : ¬ (0 < v k ∧ v k - 1 = x) := by
          simp only [Int.toNat_natCast] at h
          rintro ⟨h0, h1⟩
          rw [decide_eq_true h0, cond_true, i64_wrap (by omega) (by omega)] at h
          simp [h1] at h
        refine W.skip ?_
        refine R1 [] ?_
        refine ⟨k + 1, by omega, by omega, Le.cut _ 0 hn0 ⟨⟨by with_unfolding_all rfl, rfl⟩, ⟨sl_int ?_, rfl⟩, ⟨by with_unfolding_all rfl, rfl⟩, ⟨sl_int (wrap_cast hk (by omega)), rfl⟩, trivial⟩ rfl⟩
        rw [cnt, if_neg hd]; omega
    · have hk : k = 4 := by have := of_decide_eq_false h; omega
      subst hk
      refine W.exit ?_
      refine R [] ?_
      exact W.ret (End 0 hn0 ⟨rfl, rfl⟩)

end Go.W

/-
  Package votes, walked: all, most.
-/
namespace Go.W
open Go.Proofs

def allK (v : Nat → Int) : Nat → Int
  | 0 => 0
  | k + 1 => allK v k + if 0 < v k then 1 else 0
def all4 (v : Nat → Int) : Int := allK v 4

theorem allK_bd (v : Nat → Int) : ∀ k, 0 ≤ allK v k ∧ allK v k ≤ k
  | 0 => by simp [allK]
  | k + 1 => by
    have := allK_bd v k
    simp only [allK]
    split <;> omega

set_option maxRecDepth 100000 in
theorem all_spec (v : Nat → Int) : Pure Try.prog 58 [.data (eVotes v)] (.data (I (all4 v))) := by
  refine spec_of ttok Try.func58 rfl (by kernel_rfl) (by exact Nat.le_of_ble_eq_true rfl) fun hin hie c0 hc0 he => ?_
  have hv := (show InR (eVotes v) from hin (.data (eVotes v)) (by simp)).votes
  have hn0 : c0.es.length ≤ 0 := Nat.le_of_eq (by rw [he]; rfl)
  refine R [] ?_
  refine R [] ?_
  refine W.seq (R [] ?_)
  refine W.block (W.loop hc0 (ι := Nat) (fun k => ⟨16, frOf [(3, .data (I (allK v k))), (6, .data (eVotes v)), (7, .data (I k))], []⟩) (fun k => k ≤ 4) (fun k => 4 - k) 0 (by omega) ?_ ?_)
  · exact Le.cut _ 0 hn0 ⟨⟨by with_unfolding_all rfl, rfl⟩, ⟨by with_unfolding_all rfl, rfl⟩, ⟨by with_unfolding_all rfl, rfl⟩, trivial⟩ rfl
  · intro k hk
    have hb := allK_bd v k
    refine R [] ?_
    refine W.seq (C (fun h => ?_) (fun h => ?_))
    · have hk : k < 4 := by have := of_decide_eq_true h; omega
      refine W.skip (W.seq (W.block ?_))
      refine R [] (ho := by exact ⟨⟨by omega, by omega⟩, trivial⟩) ?_
      refine R [] ?_
      refine C (fun h => ?_) (fun h => ?_)
      · have hd : 0 < v k := of_decide_eq_true h
        refine R1 [] ?_
        refine R1 [] ?_
        refine ⟨k + 1, by omega, by omega, Le.cut _ 0 hn0 ⟨⟨sl_int ?_, rfl⟩, ⟨by with_unfolding_all rfl, rfl⟩, ⟨sl_int (wrap_cast hk (by omega)), rfl⟩, trivial⟩ rfl⟩
        rw [i64_wrap (by omega) (by omega), allK, if_pos hd]
      · have hd : ¬ 0 < v k := of_decide_eq_false h
        refine W.skip ?_
        refine R1 [] ?_
        refine ⟨k + 1, by omega, by omega, Le.cut _ 0 hn0 ⟨⟨sl_int ?_, rfl⟩, ⟨by with_unfolding_all rfl, rfl⟩, ⟨sl_int (wrap_cast hk (by omega)), rfl⟩, trivial⟩ rfl⟩
        rw [allK, if_neg hd]; omega
    · have hk : k = 4 := by have := of_decide_eq_false h; omega
      subst hk
      refine W.exit ?_
      refine R [] ?_
      exact W.ret (End 0 hn0 ⟨rfl, rfl⟩)

/-- The least number below n that a quorum has said. -/
def mostN (v : Nat → Int) : Nat → Option Nat
  | 0 => none
  | n + 1 => match mostN v n with
    | some k => some k
    | none => if 3 ≤ count v n then some n else none
def optV : Option Nat → Int
  | some k => k
  | none => 0
def mostV (v : Nat → Int) : Int := optV (mostN v 10)
def mostOk (v : Nat → Int) : Bool := (mostN v 10).isSome

theorem mostN_some {v : Nat → Int} {k : Nat} : ∀ {n : Nat}, mostN v n = some k → ∀ m, n ≤ m → mostN v m = some k := by
  intro n h m hm
  induction m with
  | zero => have : n = 0 := by omega
            subst this; exact h
  | succ m ih =>
    rcases Nat.lt_or_ge n (m + 1) with hl | hl
    · simp [mostN, ih (by omega)]
    · have : n = m + 1 := by omega
      subst this; exact h

theorem most_some {v : Nat → Int} {k : Nat} (h : mostN v 10 = some k) : AV.tuple [.data (I k), .data (.bool true)] = AV.tuple [.data (I (mostV v)), .data (.bool (mostOk v))] := by
  simp only [mostV, mostOk, h, optV, Option.isSome]
theorem most_none {v : Nat → Int} (h : mostN v 10 = none) : AV.tuple [.data (I 0), .data (.bool false)] = AV.tuple [.data (I (mostV v)), .data (.bool (mostOk v))] := by
  simp only [mostV, mostOk, h, optV, Option.isSome]

set_option maxRecDepth 100000 in
theorem most_spec (v : Nat → Int) : Pure Try.prog 17 [.data (eVotes v)] (.tuple [.data (I (mostV v)), .data (.bool (mostOk v))]) := by
  refine spec_of ttok Try.func17 rfl (by kernel_rfl) (by exact Nat.le_of_ble_eq_true rfl) fun hin hie c0 hc0 he => ?_
  have hv := (show InR (eVotes v) from hin (.data (eVotes v)) (by simp)).votes
  have hn0 : c0.es.length ≤ 0 := Nat.le_of_eq (by rw [he]; rfl)
  refine R [] ?_
  refine W.seq (R [] ?_)
  refine W.block (W.loop hc0 (ι := Nat) (fun k => ⟨14, frOf [(1, .ptr 0 []), (5, .data (I k))], [.var (eVotes v) []]⟩) (fun k => k ≤ 10 ∧ mostN v k = none) (fun k => 10 - k) 0 ⟨by omega, rfl⟩ ?_ ?_)
  · exact Le.cut _ 1 (by omega) ⟨⟨by with_unfolding_all rfl, rfl⟩, ⟨by with_unfolding_all rfl, rfl⟩, trivial⟩ rfl
  · intro k ⟨hk, hm⟩
    refine R [] ?_
    refine W.seq (C (fun h => ?_) (fun h => ?_))
    · have hk : k < 10 := by have := of_decide_eq_true h; omega
      refine W.skip (W.seq (W.block ?_))
      refine R [] ?_
      refine R [.data (I (count v k))] (ho := by exact ⟨count_spec _ _, trivial⟩) ?_
      refine C (fun h => ?_) (fun h => ?_)
      · have hd : 3 ≤ count v k := of_decide_eq_true h
        have hN : mostN v 10 = some k := mostN_some (n := k + 1) (by simp [mostN, hm, hd]) 10 (by omega)
        refine R [] ?_
        refine W.ret (End 0 hn0 ⟨?_, rfl⟩)
        exact most_some hN
      · have hd : ¬ 3 ≤ count v k := of_decide_eq_false h
        refine W.skip ?_
        refine R1 [] ?_
        refine ⟨k + 1, ⟨by omega, by simp [mostN, hm, hd]⟩, by omega, Le.cut _ 1 (by omega) ⟨⟨by with_unfolding_all rfl, rfl⟩, ⟨sl_int (wrap_cast hk (by omega)), rfl⟩, trivial⟩ rfl⟩
    · have hk : k = 10 := by have := of_decide_eq_false h; omega
      subst hk
      refine W.exit ?_
      refine R [] ?_
      refine W.ret (End 0 hn0 ⟨?_, rfl⟩)
      exact most_none hm

theorem mostN_count {v : Nat → Int} {k : Nat} : ∀ {n : Nat}, mostN v n = some k → 3 ≤ count v k
  | n + 1, h => by
    simp only [mostN] at h
    split at h
    · rename_i j hj
      simp only [Option.some.injEq] at h
      subst h
      exact mostN_count hj
    · split at h
      · simp only [Option.some.injEq] at h
        subst h; assumption
      · cases h

/-- Who says what is counted. -/
def tick (v : Nat → Int) (x : Int) (i : Nat) : Int := if 0 < v i ∧ v i - 1 = x then 1 else 0
theorem count_tick (v : Nat → Int) (x : Int) : count v x = tick v x 0 + tick v x 1 + tick v x 2 + tick v x 3 := by
  simp only [count, cnt, tick]; omega
theorem tick_bd (v : Nat → Int) (x : Int) (i : Nat) : 0 ≤ tick v x i ∧ tick v x i ≤ 1 := by
  unfold tick; split <;> omega

theorem meet {a b : Nat → Int} {l : Int} (h : ∀ i : Nat, i < 4 → (i : Int) = l ∨ a i ≤ 0 ∨ b i ≤ 0 ∨ a i = b i) {x y : Int} (hx : 3 ≤ count a x) (hy : 3 ≤ count b y) : x = y := by
  apply Classical.byContradiction
  intro hne
  rw [count_tick] at hx hy
  have key : ∀ i : Nat, i < 4 → (i : Int) ≠ l → tick a x i + tick b y i ≤ 1 := by
    intro i hi hl
    have := h i hi
    unfold tick
    split <;> split <;> omega
  have b0 := tick_bd a x 0; have b1 := tick_bd a x 1; have b2 := tick_bd a x 2; have b3 := tick_bd a x 3
  have d0 := tick_bd b y 0; have d1 := tick_bd b y 1; have d2 := tick_bd b y 2; have d3 := tick_bd b y 3
  have k0 := key 0 (by omega); have k1 := key 1 (by omega); have k2 := key 2 (by omega); have k3 := key 3 (by omega)
  by_cases e0 : ((0 : Nat) : Int) = l
  · have := k1 (by omega); have := k2 (by omega); have := k3 (by omega); omega
  · by_cases e1 : ((1 : Nat) : Int) = l
    · have := k0 (by omega); have := k2 (by omega); have := k3 (by omega); omega
    · by_cases e2 : ((2 : Nat) : Int) = l
      · have := k0 (by omega); have := k1 (by omega); have := k3 (by omega); omega
      · have := k0 (by omega); have := k1 (by omega); have := k2 (by omega); omega

end Go.W
