/-
  Package wire, walked: what is wrong with a word.
-/
import Derived.Test.YthpjdjofcbnoiacFb
namespace Go.W
open Go.Proofs

def badKind (w : Word) : Bool := decide (w.kind < 1) || decide (3 < w.kind)
def badPlace (w : Word) : Bool := decide (w.frm < 0) || decide (4 ≤ w.frm) || decide (w.height < 0) || decide (4 ≤ w.height) || decide (w.round < 0) || decide (6 ≤ w.round)
def badValue (w : Word) : Bool := decide (w.value < 0) || decide (9 < w.value) || (w.kind == 1 && w.value == 0)
def badValid (w : Word) : Bool := w.kind == 1 && (decide (w.valid < -1) || decide (w.round ≤ w.valid))
def badForm (w : Word) : Bool := !(w.kind == 1) && !(w.valid == 0)
def goodW (w : Word) : Int := if badKind w then 3 else if badPlace w then 2 else if badValue w then 2 else if badValid w then 2 else if badForm w then 1 else 0

theorem bif_or (a b : Bool) : (bif a then true else b) = (a || b) := by cases a <;> rfl
theorem bif_and (a b : Bool) : (bif a then b else false) = (a && b) := by cases a <;> rfl

set_option maxRecDepth 100000 in
theorem good_spec (w : Word) : Pure Try.prog 33 [.data (eWord w)] (.data (I (goodW w))) := by
  refine spec_of ttok Try.func33 rfl (by kernel_rfl) (by exact Nat.le_of_ble_eq_true rfl) fun hin hie c0 hc0 he => ?_
  have hn0 : c0.es.length ≤ 0 := Nat.le_of_eq (by rw [he]; rfl)
  refine R [] ?_
  refine W.seq (W.block ?_)
  refine R [] ?_
  refine C (fun h => ?_) (fun h => ?_)
  · have h1 : badKind w = true := by simpa only [bif_or, badKind, gt_iff_lt] using h
    refine R [] ?_
    refine W.ret (EndI 0 hn0 ?_)
    simp only [goodW, h1, if_true]
  have h1 : badKind w = false := by simpa only [bif_or, badKind, gt_iff_lt] using h
  clear h
  refine R [] ?_
  refine C (fun h => ?_) (fun h => ?_)
  · have h2 : badPlace w = true := by simpa only [bif_or, badPlace, ge_iff_le] using h
    refine R [] ?_
    refine W.ret (EndI 0 hn0 ?_)
    simp only [goodW, h1, h2, if_true, Bool.false_eq_true, if_false]
  have h2 : badPlace w = false := by simpa only [bif_or, badPlace, ge_iff_le] using h
  clear h
  refine R [] ?_
  refine C (fun h => ?_) (fun h => ?_)
  · have h3 : badValue w = true := by simpa only [bif_or, bif_and, badValue, gt_iff_lt] using h
    refine R [] ?_
    refine W.ret (EndI 0 hn0 ?_)
    simp only [goodW, h1, h2, h3, if_true, Bool.false_eq_true, if_false]
  have h3 : badValue w = false := by simpa only [bif_or, bif_and, badValue, gt_iff_lt] using h
  clear h
  refine R [] ?_
  refine C (fun h => ?_) (fun h => ?_)
  · have h4 : badValid w = true := by simpa only [bif_or, bif_and, badValid, ge_iff_le] using h
    refine R [] ?_
    refine W.ret (EndI 0 hn0 ?_)
    simp only [goodW, h1, h2, h3, h4, if_true, Bool.false_eq_true, if_false]
  have h4 : badValid w = false := by simpa only [bif_or, bif_and, badValid, ge_iff_le] using h
  clear h
  refine R [] ?_
  refine C (fun h => ?_) (fun h => ?_)
  · have h5 : badForm w = true := by simpa only [bif_or, bif_and, badForm] using h
    refine R [] ?_
    refine W.ret (EndI 0 hn0 ?_)
    simp only [goodW, h1, h2, h3, h4, h5, if_true, Bool.false_eq_true, if_false]
  have h5 : badForm w = false := by simpa only [bif_or, bif_and, badForm] using h
  refine W.skip ?_
  refine R [] ?_
  refine W.ret (EndI 0 hn0 ?_)
  simp only [goodW, h1, h2, h3, h4, h5, Bool.false_eq_true, if_false]

end Go.W
