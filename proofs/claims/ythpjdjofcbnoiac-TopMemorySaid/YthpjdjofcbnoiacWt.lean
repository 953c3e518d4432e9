/-
  The program's data in plain Lean, and how the machine sees them; tables of types.
-/
import Derived.Test.YthpjdjofcbnoiacWl
namespace Go.W

def look1 {α : Type} : List (Nat × α) → Nat → Option α
  | [], _ => none
  | (k, v) :: r, t => match Nat.beq t k with
    | true => some v
    | false => look1 r t

theorem look1_mem {α : Type} : ∀ {l : List (Nat × α)} {t : Nat} {v : α}, look1 l t = some v → (t, v) ∈ l
  | (k, u) :: r, t, v, h => by
    simp only [look1] at h
    split at h
    · rename_i hb
      simp only [Option.some.injEq] at h
      subst h
      rw [Nat.eq_of_beq_eq_true hb]
      exact List.mem_cons_self ..
    · exact List.mem_cons_of_mem _ (look1_mem h)

def tabB (P : Program) : List (Nat × TI) → Bool
  | [] => true
  | (t, x) :: r => tokB P t x && tabB P r

theorem tabB_spec {P : Program} : ∀ {l : List (Nat × TI)}, tabB P l = true → ∀ t x, (t, x) ∈ l → tokB P t x = true
  | (t', x') :: r, h, t, x, hm => by
    simp only [tabB, Bool.and_eq_true] at h
    rcases List.mem_cons.1 hm with hm | hm
    · simp only [Prod.mk.injEq] at hm; obtain ⟨rfl, rfl⟩ := hm; exact h.1
    · exact tabB_spec h.2 t x hm

def FlatB : D → Bool
  | .bool _ => true
  | .int k n => inRange k n
  | .str s => Nat.ble s.size 1000000
  | .nil => true
  | .list xs => xs.isEmpty
  | .agg n f => allTo n fun i => FlatB (f i)
  | .arr n es f => allTo n fun i => Nat.beq (f i).size es && FlatB (f i)

theorem FlatB_spec {d : D} : FlatB d = true → FlatOK d := by
  refine D.ind (m := fun d => FlatB d = true → FlatOK d) ?_ ?_ ?_ ?_ ?_ ?_ ?_ d
  case _ => intro b _; trivial
  case _ => intro k n h; exact inRange_wrap h
  case _ => intro s h; have := Nat.le_of_ble_eq_true h; show s.size ≤ maxLen; unfold maxLen; omega
  case _ => intro _; trivial
  case _ => intro xs h; simpa [FlatB, FlatOK] using h
  case _ => intro n f ih h; simp only [FlatB, allTo_spec] at h; exact fun i hi => ih i (h i hi)
  case _ =>
    intro n es f ih h
    simp only [FlatB, allTo_spec, Bool.and_eq_true] at h
    exact fun i hi => ⟨Nat.eq_of_beq_eq_true (h i hi).1, ih i (h i hi).2⟩

def ZTab (P : Program) (tt : TT) : List (Nat × D) → Prop
  | [] => True
  | (t, d) :: r => (P.info? t).bind (·.zero) = some (flatV d) ∧ FlatB d = true ∧ (∃ ti, tt.ti t = some ti ∧ zB ti d = true) ∧ ZTab P tt r

theorem ZTab_spec {P : Program} {tt : TT} : ∀ {l : List (Nat × D)}, ZTab P tt l → ∀ t d, (t, d) ∈ l → (P.info? t).bind (·.zero) = some (flatV d) ∧ FlatOK d ∧ ∃ ti, tt.ti t = some ti ∧ zB ti d = true
  | (t', d') :: r, h, t, d, hm => by
    rcases List.mem_cons.1 hm with hm | hm
    · simp only [Prod.mk.injEq] at hm; obtain ⟨rfl, rfl⟩ := hm; exact ⟨h.1, FlatB_spec h.2.1, h.2.2.1⟩
    · exact ZTab_spec h.2.2.2 t d hm

theorem ttok_of {P : Program} {tyTab : List (Nat × TI)} {zeroTab : List (Nat × D)} (h1 : tabB P tyTab = true) (h2 : ZTab P ⟨look1 tyTab, look1 zeroTab⟩ zeroTab) : TTok P ⟨look1 tyTab, look1 zeroTab⟩ :=
  ⟨fun t x h => tabB_spec h1 t x (look1_mem h), fun t d h => ZTab_spec h2 t d (look1_mem h)⟩

/-! ### The program's data -/

structure Word where
  kind : Int
  frm : Int
  height : Int
  round : Int
  value : Int
  valid : Int

structure Letter where
  to : Int
  word : Word

structure Call where
  is : Bool
  value : Int
  valid : Int

structure Sheet where
  calls : Nat → Call
  wishes : Nat → Nat → Int
  promises : Nat → Nat → Int

structure Node where
  height : Int
  round : Int
  step : Int
  bound : Int
  boundIn : Int
  valid : Int
  validIn : Int
  seen : Nat → Bool
  heard : Nat → Sheet
  settled : Nat → Int
  queue : List Int

structure Act where
  kind : Int
  node : Int
  n : Int
  value : Int
  word : Word
  tell : Nat → Int

structure Reply where
  code : Int
  n : Int
  settled : Nat → Int

def Word.zero : Word := ⟨0, 0, 0, 0, 0, 0⟩
def Letter.zero : Letter := ⟨0, .zero⟩
def Call.zero : Call := ⟨false, 0, 0⟩
def Sheet.zero : Sheet := ⟨fun _ => .zero, fun _ _ => 0, fun _ _ => 0⟩
def Node.zero : Node := ⟨0, 0, 0, 0, 0, 0, 0, fun _ => false, fun _ => .zero, fun _ => 0, []⟩
def Act.zero : Act := ⟨0, 0, 0, 0, .zero, fun _ => 0⟩
def Reply.zero : Reply := ⟨0, 0, fun _ => 0⟩

abbrev I (n : Int) : D := .int .i64 n

def eVotes (v : Nat → Int) : D := .arr 4 1 fun i => I (v i)
def eInts6 (v : Nat → Int) : D := .arr 6 1 fun i => I (v i)
def eInts2 (v : Nat → Int) : D := .arr 2 1 fun i => I (v i)
def eInts22 (v : Nat → Nat → Int) : D := .arr 2 2 fun i => eInts2 (v i)
def eInts44 (v : Nat → Nat → Int) : D := .arr 4 4 fun i => eVotes (v i)
def eBools6 (v : Nat → Bool) : D := .arr 6 1 fun i => .bool (v i)
def eBools10 (v : Nat → Bool) : D := .arr 10 1 fun i => .bool (v i)
def eVotes6 (v : Nat → Nat → Int) : D := .arr 6 4 fun r => eVotes (v r)
def eWord (w : Word) : D := .agg 6 fun | 0 => I w.kind | 1 => I w.frm | 2 => I w.height | 3 => I w.round | 4 => I w.value | 5 => I w.valid | _ => .nil
def eLetter (l : Letter) : D := .agg 2 fun | 0 => I l.to | 1 => eWord l.word | _ => .nil
def eCall (c : Call) : D := .agg 3 fun | 0 => .bool c.is | 1 => I c.value | 2 => I c.valid | _ => .nil
def eCalls (c : Nat → Call) : D := .arr 6 3 fun r => eCall (c r)
def eSheet (s : Sheet) : D := .agg 3 fun | 0 => eCalls s.calls | 1 => eVotes6 s.wishes | 2 => eVotes6 s.promises | _ => .nil
def eSheets (s : Nat → Sheet) : D := .arr 4 66 fun h => eSheet (s h)
def eQ (q : List Int) : D := .list (q.map I)
def eNodeQ (s : Node) (q : D) : D := .agg 11 fun
  | 0 => I s.height | 1 => I s.round | 2 => I s.step | 3 => I s.bound | 4 => I s.boundIn | 5 => I s.valid | 6 => I s.validIn
  | 7 => eBools6 s.seen | 8 => eSheets s.heard | 9 => eVotes s.settled | 10 => q | _ => .nil
def eNode (s : Node) : D := eNodeQ s (eQ s.queue)
def eNodeN (s : Node) : D := eNodeQ s .nil
def eNodes (s : Nat → Node) : D := .arr 4 282 fun i => eNode (s i)
def eNodesN (s : Nat → Node) : D := .arr 4 282 fun i => eNodeN (s i)
def eAct (a : Act) : D := .agg 6 fun | 0 => I a.kind | 1 => I a.node | 2 => I a.n | 3 => I a.value | 4 => eWord a.word | 5 => eVotes a.tell | _ => .nil
def eReply (r : Reply) : D := .agg 3 fun | 0 => I r.code | 1 => I r.n | 2 => eVotes r.settled | _ => .nil
def eWords (l : List Word) : D := .list (l.map eWord)
def eLetters (l : List Letter) : D := .list (l.map eLetter)
def eActs (l : List Act) : D := .list (l.map eAct)
def eReplies (l : List Reply) : D := .list (l.map eReply)
def eRunnerD (n : D) (who : Int) (out : D) : D := .agg 3 fun | 0 => n | 1 => I who | 2 => out | _ => .nil
def eRunnerN (s : Node) : D := eRunnerD (eNodeN s) 0 .nil
def eCrowdD (nodes : D) (net : D) (liar acts : Int) : D := .agg 4 fun | 0 => nodes | 1 => net | 2 => I liar | 3 => I acts | _ => .nil
def eCrowdN (s : Nat → Node) : D := eCrowdD (eNodesN s) .nil 0 0
def eRCrowdN (s : Nat → Node) : D := eCrowdD (eNodesN s) .nil 0 0

end Go.W
