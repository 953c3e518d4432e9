/-
  Nodes: parts of them, written.
-/
import Derived.Test.YthpjdjofcbnoiacFj
namespace Go.W
open Go.Proofs

structure Run where
  s : Node
  who : Int
  out : List Word

def eRun (x : Run) : D := eRunnerD (eNode x.s) x.who (eWords x.out)

theorem runner_set0 (n : D) (who : Int) (o : D) (p : List Nat) (u : D) : (eRunnerD n who o).set (0 :: p) u = eRunnerD (n.set p u) who o := by
  simp only [eRunnerD, D.set]
  congr 1
  funext j
  match j with
  | 0 => rfl
  | 1 => rfl
  | 2 => rfl
  | _ + 3 => rfl
theorem runner_set2 (n : D) (who : Int) (o : D) (p : List Nat) (u : D) : (eRunnerD n who o).set (2 :: p) u = eRunnerD n who (o.set p u) := by
  simp only [eRunnerD, D.set]
  congr 1
  funext j
  match j with
  | 0 => rfl
  | 1 => rfl
  | 2 => rfl
  | _ + 3 => rfl

theorem node_set0 (s : Node) (x : Int) : (eNode s).set [0] (I x) = eNode { s with height := x } := by
  simp only [eNode, eNodeQ, D.set, set_nil]
  congr 1
  funext j
  match j with
  | 0 => rfl
  | 1 => rfl
  | 2 => rfl
  | 3 => rfl
  | 4 => rfl
  | 5 => rfl
  | 6 => rfl
  | 7 => rfl
  | 8 => rfl
  | 9 => rfl
  | 10 => rfl
  | _ + 11 => rfl
theorem node_set1 (s : Node) (x : Int) : (eNode s).set [1] (I x) = eNode { s with round := x } := by
  simp only [eNode, eNodeQ, D.set, set_nil]
  congr 1
  funext j
  match j with
  | 0 => rfl
  | 1 => rfl
  | 2 => rfl
  | 3 => rfl
  | 4 => rfl
  | 5 => rfl
  | 6 => rfl
  | 7 => rfl
  | 8 => rfl
  | 9 => rfl
  | 10 => rfl
  | _ + 11 => rfl
theorem node_set2 (s : Node) (x : Int) : (eNode s).set [2] (I x) = eNode { s with step := x } := by
  simp only [eNode, eNodeQ, D.set, set_nil]
  congr 1
  funext j
  match j with
  | 0 => rfl
  | 1 => rfl
  | 2 => rfl
  | 3 => rfl
  | 4 => rfl
  | 5 => rfl
  | 6 => rfl
  | 7 => rfl
  | 8 => rfl
  | 9 => rfl
  | 10 => rfl
  | _ + 11 => rfl
theorem node_set3 (s : Node) (x : Int) : (eNode s).set [3] (I x) = eNode { s with bound := x } := by
  simp only [eNode, eNodeQ, D.set, set_nil]
  congr 1
  funext j
  match j with
  | 0 => rfl
  | 1 => rfl
  | 2 => rfl
  | 3 => rfl
  | 4 => rfl
  | 5 => rfl
  | 6 => rfl
  | 7 => rfl
  | 8 => rfl
  | 9 => rfl
  | 10 => rfl
  | _ + 11 => rfl
theorem node_set4 (s : Node) (x : Int) : (eNode s).set [4] (I x) = eNode { s with boundIn := x } := by
  simp only [eNode, eNodeQ, D.set, set_nil]
  congr 1
  funext j
  match j with
  | 0 => rfl
  | 1 => rfl
  | 2 => rfl
  | 3 => rfl
  | 4 => rfl
  | 5 => rfl
  | 6 => rfl
  | 7 => rfl
  | 8 => rfl
  | 9 => rfl
  | 10 => rfl
  | _ + 11 => rfl
theorem node_set5 (s : Node) (x : Int) : (eNode s).set [5] (I x) = eNode { s with valid := x } := by
  simp only [eNode, eNodeQ, D.set, set_nil]
  congr 1
  funext j
  match j with
  | 0 => rfl
  | 1 => rfl
  | 2 => rfl
  | 3 => rfl
  | 4 => rfl
  | 5 => rfl
  | 6 => rfl
  | 7 => rfl
  | 8 => rfl
  | 9 => rfl
  | 10 => rfl
  | _ + 11 => rfl
theorem node_set6 (s : Node) (x : Int) : (eNode s).set [6] (I x) = eNode { s with validIn := x } := by
  simp only [eNode, eNodeQ, D.set, set_nil]
  congr 1
  funext j
  match j with
  | 0 => rfl
  | 1 => rfl
  | 2 => rfl
  | 3 => rfl
  | 4 => rfl
  | 5 => rfl
  | 6 => rfl
  | 7 => rfl
  | 8 => rfl
  | 9 => rfl
  | 10 => rfl
  | _ + 11 => rfl
theorem node_set7 {s : Node} {p : List Nat} {u : D} {x : Nat → Bool} (e : (eBools6 s.seen).set p u = eBools6 x) : (eNode s).set (7 :: p) u = eNode { s with seen := x } := by
  simp only [eNode, eNodeQ, D.set, e]
  congr 1
  funext j
  match j with
  | 0 => rfl
  | 1 => rfl
  | 2 => rfl
  | 3 => rfl
  | 4 => rfl
  | 5 => rfl
  | 6 => rfl
  | 7 => rfl
  | 8 => rfl
  | 9 => rfl
  | 10 => rfl
  | _ + 11 => rfl
theorem node_set8 {s : Node} {p : List Nat} {u : D} {x : Nat → Sheet} (e : (eSheets s.heard).set p u = eSheets x) : (eNode s).set (8 :: p) u = eNode { s with heard := x } := by
  simp only [eNode, eNodeQ, D.set, e]
  congr 1
  funext j
  match j with
  | 0 => rfl
  | 1 => rfl
  | 2 => rfl
  | 3 => rfl
  | 4 => rfl
  | 5 => rfl
  | 6 => rfl
  | 7 => rfl
  | 8 => rfl
  | 9 => rfl
  | 10 => rfl
  | _ + 11 => rfl
theorem node_set9 {s : Node} {p : List Nat} {u : D} {x : Nat → Int} (e : (eVotes s.settled).set p u = eVotes x) : (eNode s).set (9 :: p) u = eNode { s with settled := x } := by
  simp only [eNode, eNodeQ, D.set, e]
  congr 1
  funext j
  match j with
  | 0 => rfl
  | 1 => rfl
  | 2 => rfl
  | 3 => rfl
  | 4 => rfl
  | 5 => rfl
  | 6 => rfl
  | 7 => rfl
  | 8 => rfl
  | 9 => rfl
  | 10 => rfl
  | _ + 11 => rfl
theorem node_set10 (s : Node) (q : List Int) : (eNode s).set [10] (eQ q) = eNode { s with queue := q } := by
  simp only [eNode, eNodeQ, D.set, set_nil]
  congr 1
  funext j
  match j with
  | 0 => rfl
  | 1 => rfl
  | 2 => rfl
  | 3 => rfl
  | 4 => rfl
  | 5 => rfl
  | 6 => rfl
  | 7 => rfl
  | 8 => rfl
  | 9 => rfl
  | 10 => rfl
  | _ + 11 => rfl


theorem bools_set (v : Nat → Bool) (k : Nat) (x : Bool) : (eBools6 v).set [k] (.bool x) = eBools6 (upd v k x) := by
  simp only [eBools6, D.set, set_nil, upd]
  congr 1
  funext j
  exact bif_map D.bool _ _ _
theorem sheets_set {v : Nat → Sheet} {h : Nat} {p : List Nat} {u : D} {x : Sheet} (e : (eSheet (v h)).set p u = eSheet x) : (eSheets v).set (h :: p) u = eSheets (upd v h x) := by
  simp only [eSheets, D.set, e, upd]
  congr 1
  funext j
  exact bif_map eSheet _ _ _
theorem sheets_set' (v : Nat → Sheet) (h : Nat) (x : Sheet) : (eSheets v).set [h] (eSheet x) = eSheets (upd v h x) := sheets_set (set_nil _ _)
theorem nodes_set {v : Nat → Node} {h : Nat} {p : List Nat} {u : D} {x : Node} (e : (eNode (v h)).set p u = eNode x) : (eNodes v).set (h :: p) u = eNodes (upd v h x) := by
  simp only [eNodes, D.set, e, upd]
  congr 1
  funext j
  exact bif_map eNode _ _ _

theorem sameB6 (a b : Nat → Bool) : Same (eBools6 a) (eBools6 b) := ⟨rfl, rfl, fun _ _ => trivial⟩
theorem sameS4 (a b : Nat → Sheet) : Same (eSheets a) (eSheets b) := ⟨rfl, rfl, fun _ _ => sameSS _ _⟩
theorem sameNQ (a b : Node) {p q : D} (h : Same p q) : Same (eNodeQ a p) (eNodeQ b q) := ⟨rfl, fun i hi => by
  match i, hi with
  | 0, _ => trivial
  | 1, _ => trivial
  | 2, _ => trivial
  | 3, _ => trivial
  | 4, _ => trivial
  | 5, _ => trivial
  | 6, _ => trivial
  | 7, _ => exact sameB6 _ _
  | 8, _ => exact sameS4 _ _
  | 9, _ => exact sameVV _ _
  | 10, _ => exact h⟩
theorem sameNN (a b : Node) : Same (eNode a) (eNode b) := sameNQ a b trivial
theorem sameNz (a b : Node) : Same (eNodeN a) (eNode b) := sameNQ a b trivial
theorem sameRun {n m : D} (w w' : Int) {o o' : D} (h : Same n m) (h' : Same o o') : Same (eRunnerD n w o) (eRunnerD m w' o') := ⟨rfl, fun i hi => by
  match i, hi with
  | 0, _ => exact h
  | 1, _ => trivial
  | 2, _ => exact h'⟩

end Go.W
