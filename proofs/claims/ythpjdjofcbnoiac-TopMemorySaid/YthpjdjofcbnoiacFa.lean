/-
  Package wire, walked.
-/
import Derived.Test.YthpjdjofcbnoiacWu
namespace Go.W
open Go.Proofs

/-! ### The rules at this seat, in short -/
section
variable {c0 : Cx} {Q : Exit → St → Prop} {s : St}
/-- A region, then the rest. -/
theorem R {id : Nat} {l : List Oper} {y : Code} (rs : List Hint) {s' : St} {obs : List Prop} (hQ : AWP Try.prog c0 y Q s') (h : run Try.prog tt l.toArray (zipR l rs) s = some (s', obs) := by with_unfolding_all rfl) (ho : AllP obs := by exact trivial) :
    AWP Try.prog c0 (.seq (.region id l.toArray false) y) Q s := W.seq (W.region ttok rs h ho hQ)
/-- A last region. -/
theorem R1 {id : Nat} {l : List Oper} (rs : List Hint) {s' : St} {obs : List Prop} (hQ : Q .normal s') (h : run Try.prog tt l.toArray (zipR l rs) s = some (s', obs) := by with_unfolding_all rfl) (ho : AllP obs := by exact trivial) :
    AWP Try.prog c0 (.region id l.toArray false) Q s := W.region ttok rs h ho hQ
def noFp : Nat → Fp := fun _ => .any
def fpOf : List (Nat × Fp) → Nat → Fp
  | [], _ => .any
  | (i, f) :: r, k => match Nat.beq i k with
    | true => f
    | false => fpOf r k
/-- A region that draws, then the rest. -/
theorem RD {id : Nat} {l : List Oper} {y : Code} (rs : List Hint) {s' : St} {obs : List Prop} (hQ : AWP Try.prog c0 y Q s') (h : runD Try.prog tt l.toArray noFp 0 0 (zipR l rs) s = some (s', obs) := by with_unfolding_all rfl) (ho : AllP obs := by exact trivial)
    (hB : drawB l.toArray (hintAt (zipR l rs)) noFp = true := by kernel_rfl) : AWP Try.prog c0 (.seq (.region id l.toArray true) y) Q s := W.seq (W.draw ttok mixed rs noFp 0 hB h ho hQ)
theorem RD1 {id : Nat} {l : List Oper} (rs : List Hint) {s' : St} {obs : List Prop} (hQ : Q .normal s') (h : runD Try.prog tt l.toArray noFp 0 0 (zipR l rs) s = some (s', obs) := by with_unfolding_all rfl) (ho : AllP obs := by exact trivial)
    (hB : drawB l.toArray (hintAt (zipR l rs)) noFp = true := by kernel_rfl) : AWP Try.prog c0 (.region id l.toArray true) Q s := W.draw ttok mixed rs noFp 0 hB h ho hQ
/-- The same, where it is told what some operations touch (of the first n entries). -/
theorem RF {id : Nat} {l : List Oper} {y : Code} (rs : List Hint) (n : Nat) (fl : List (Nat × Fp)) {s' : St} {obs : List Prop} (hQ : AWP Try.prog c0 y Q s') (h : runD Try.prog tt l.toArray (fpOf fl) n 0 (zipR l rs) s = some (s', obs) := by with_unfolding_all rfl) (ho : AllP obs := by exact trivial)
    (hB : drawB l.toArray (hintAt (zipR l rs)) (fpOf fl) = true := by kernel_rfl) : AWP Try.prog c0 (.seq (.region id l.toArray true) y) Q s := W.seq (W.draw ttok mixed rs (fpOf fl) n hB h ho hQ)
theorem RF1 {id : Nat} {l : List Oper} (rs : List Hint) (n : Nat) (fl : List (Nat × Fp)) {s' : St} {obs : List Prop} (hQ : Q .normal s') (h : runD Try.prog tt l.toArray (fpOf fl) n 0 (zipR l rs) s = some (s', obs) := by with_unfolding_all rfl) (ho : AllP obs := by exact trivial)
    (hB : drawB l.toArray (hintAt (zipR l rs)) (fpOf fl) = true := by kernel_rfl) : AWP Try.prog c0 (.region id l.toArray true) Q s := W.draw ttok mixed rs (fpOf fl) n hB h ho hQ
/-- A test. -/
theorem C {x : Operand} {t e : Code} {b : Bool} (ht : b = true → AWP Try.prog c0 t Q s) (hf : b = false → AWP Try.prog c0 e Q s) (hx : s.look [] x = .data (.bool b) := by with_unfolding_all rfl) : AWP Try.prog c0 (.cond x t e) Q s := W.cond hx ht hf
/-- A test whose answer is known. -/
theorem CT {x : Operand} {t e : Code} (ht : AWP Try.prog c0 t Q s) (hx : s.look [] x = .data (.bool true) := by with_unfolding_all rfl) : AWP Try.prog c0 (.cond x t e) Q s := W.cond hx (fun _ => ht) (fun h => by cases h)
theorem CF {x : Operand} {t e : Code} (hf : AWP Try.prog c0 e Q s) (hx : s.look [] x = .data (.bool false) := by with_unfolding_all rfl) : AWP Try.prog c0 (.cond x t e) Q s := W.cond hx (fun h => by cases h) (fun _ => hf)
/-- The end: the slots hold the results; nothing of the entries is kept but the first k. -/
theorem End {n0 : Nat} {rs : List ResultVar} {R : AV → List Ent → Prop} {e : Exit} (k : Nat) {vs : List AV} {es' : List Ent} (hk : n0 ≤ k) (hR : R (resT (trims k vs)) es') (hv : resL tt s rs = some vs := by with_unfolding_all rfl)
    (he : (match e with | .normal => True | .ret => True | _ => False) := by exact trivial) (h2 : trimEs k k s.es = es' := by with_unfolding_all rfl) : Fin tt n0 rs R e s :=
  ⟨⟨he, .inl ⟨k, vs, es', hk, hv, h2, hR⟩⟩⟩
/-- The same, where some of the entries are kept, in the order told. -/
theorem EndM {n0 : Nat} {rs : List ResultVar} {R : AV → List Ent → Prop} {e : Exit} (m : List Nat) {vs : List AV} {es' : List Ent} (hk : ∀ i : Nat, i < n0 → m[i]? = some i) (hR : R (resT (pullL m vs)) es') (hv : resL tt s rs = some vs := by with_unfolding_all rfl)
    (he : (match e with | .normal => True | .ret => True | _ => False) := by exact trivial) (h1 : nodupB m = true := by with_unfolding_all rfl) (h2 : handed m s.es m = some es' := by with_unfolding_all rfl) : Fin tt n0 rs R e s :=
  ⟨⟨he, .inr ⟨m, vs, es', hk, h1, h2, hv, hR⟩⟩⟩
/-- The end, where the result is a bool, or a number. -/
theorem EndB {n0 : Nat} {rs : List ResultVar} {e : Exit} (k : Nat) {b b' : Bool} {es es' : List Ent} (hk : n0 ≤ k) (hR : b' = b) (hv : resL tt s rs = some [.data (.bool b')] := by with_unfolding_all rfl)
    (he : (match e with | .normal => True | .ret => True | _ => False) := by exact trivial) (h2 : trimEs k k s.es = es' := by with_unfolding_all rfl) (h4 : es' = es := by rfl) :
    Fin tt n0 rs (fun v es1 => v = .data (.bool b) ∧ es1 = es) e s :=
  ⟨⟨he, .inl ⟨k, _, es', hk, hv, h2, by subst hR; rfl, h4⟩⟩⟩
theorem EndI {n0 : Nat} {rs : List ResultVar} {e : Exit} (k : Nat) {b b' : Int} {es es' : List Ent} (hk : n0 ≤ k) (hR : b' = b) (hv : resL tt s rs = some [.data (.int .i64 b')] := by with_unfolding_all rfl)
    (he : (match e with | .normal => True | .ret => True | _ => False) := by exact trivial) (h2 : trimEs k k s.es = es' := by with_unfolding_all rfl) (h4 : es' = es := by rfl) :
    Fin tt n0 rs (fun v es1 => v = .data (.int .i64 b) ∧ es1 = es) e s :=
  ⟨⟨he, .inl ⟨k, _, es', hk, hv, h2, by subst hR; rfl, h4⟩⟩⟩
theorem sl {t : Nat} {x y : AV} (e : x = y) (h : s.fr t = .v x := by with_unfolding_all rfl) : s.fr t = .v y := by rw [← e]; exact h
theorem sl_int {t : Nat} {a b : Int} (e : a = b) (h : s.fr t = .v (.data (.int .i64 a)) := by with_unfolding_all rfl) : s.fr t = .v (.data (.int .i64 b)) := by rw [← e]; exact h
theorem sl_bool {t : Nat} {a b : Bool} (e : a = b) (h : s.fr t = .v (.data (.bool a)) := by with_unfolding_all rfl) : s.fr t = .v (.data (.bool b)) := by rw [← e]; exact h
end

theorem pure1 {P : Program} {f : FuncId} {a a' r r' : AV} (h : Pure P f [a'] r') (e : a = a') (e' : r' = r) : Pure P f [a] r := by subst e; subst e'; exact h
theorem data_arr {n es : Nat} {f g : Nat → D} (h : ∀ i, f i = g i) : AV.data (.arr n es f) = AV.data (.arr n es g) := by rw [funext h]
theorem data_agg {n : Nat} {f g : Nat → D} (h : ∀ i, f i = g i) : AV.data (.agg n f) = AV.data (.agg n g) := by rw [funext h]

def leader (h r : Int) : Int := (h % 4 + r % 4) % 4

theorem and3 (x : Int) : bitsOf .and .i64 x 3 = x % 4 := by
  have h : (BitVec.ofInt 64 x &&& BitVec.ofInt 64 3).toNat = (x % 4).toNat := by
    have h3 : (BitVec.ofInt 64 3).toNat = 2 ^ 2 - 1 := by decide
    rw [BitVec.toNat_and, h3, Nat.and_two_pow_sub_one_eq_mod]
    simp only [BitVec.toNat_ofInt]
    omega
  have h2 : bitsOf .and .i64 x 3 = IntKind.i64.wrap ((BitVec.ofInt 64 x &&& BitVec.ofInt 64 3).toNat : Int) := rfl
  rw [h2, h]
  simp [IntKind.wrap, IntKind.bits, IntKind.signed]
  omega

set_option maxRecDepth 100000 in
theorem leader_spec (h r : Int) : Pure Try.prog 44 [.data (I h), .data (I r)] (.data (I (leader h r))) := by
  refine spec_of ttok Try.func44 rfl (by kernel_rfl) (by exact Nat.le_of_ble_eq_true rfl) fun hin hie c0 hc0 he => ?_
  have hn0 : c0.es.length ≤ 0 := Nat.le_of_eq (by rw [he]; rfl)
  refine R [] ?_
  refine R [] ?_
  refine W.ret (End 0 hn0 ⟨?_, rfl⟩)
  show AV.data (I (bitsOf .and .i64 (IntKind.i64.wrap (bitsOf .and .i64 h 3 + bitsOf .and .i64 r 3)) 3)) = _
  simp only [and3, leader]
  congr 2
  simp [IntKind.wrap, IntKind.bits, IntKind.signed]
  omega

end Go.W
