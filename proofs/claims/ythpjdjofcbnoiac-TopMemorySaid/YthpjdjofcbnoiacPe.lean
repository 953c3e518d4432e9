/-
  What a crowd does, in plain Lean.
-/
import Derived.Test.YthpjdjofcbnoiacPd
namespace Go.W

structure CrowdS where
  nodes : Nat → Node
  net : List Letter
  liar : Int
  acts : Int

def eCrowd (c : CrowdS) : D := eCrowdD (eNodes c.nodes) (eLetters c.net) c.liar c.acts

/-- A word to all others, of the first k. -/
def sendW (frm : Int) (w : Word) (net : List Letter) : Nat → List Letter
  | 0 => net
  | k + 1 => if !((k : Int) == frm) && decide ((sendW frm w net k).length < 2000) then sendW frm w net k ++ [⟨k, w⟩] else sendW frm w net k
def sendL (frm : Int) (l : List Word) (net : List Letter) : List Letter := l.foldl (fun m w => sendW frm w m 4) net

def errR (e : Int) : Reply := ⟨e, 0, fun _ => 0⟩
def sentR (n : Int) : Reply := ⟨0, n, fun _ => 0⟩
def turnC (c : CrowdS) (i : Int) (t : Turn) : CrowdS × Reply :=
  if i < 0 ∨ 4 ≤ i then (c, errR 2) else if t.err ≠ 0 then (c, errR t.err)
  else ({ c with nodes := upd c.nodes i.toNat t.s, net := sendL i t.out c.net }, sentR ((sendL i t.out c.net).length - c.net.length))

/-! ### What a client takes -/

def cntH (l : Nat → Nat → Int) (h : Nat) (v : Int) : Nat → Int
  | 0 => 0
  | k + 1 => cntH l h v k + if l k h = v then 1 else 0
/-- The least of the first k that two tell; 0: none. -/
def leastH (l : Nat → Nat → Int) (h : Nat) : Nat → Int
  | 0 => 0
  | k + 1 => if leastH l h k = 0 then (if 2 ≤ cntH l h ((k : Int) + 1) 4 then (k : Int) + 1 else 0) else leastH l h k
def pickH (l : Nat → Nat → Int) (h : Nat) : Int := leastH l h 9
def pickAll (l : Nat → Nat → Int) : Nat → Bool
  | 0 => true
  | h + 1 => pickAll l h && !(pickH l h == 0)
def takeV (l : Nat → Nat → Int) (h : Nat) : Int := if decide (h < 4) && pickAll l (h + 1) then pickH l h else 0

def toldC (c : CrowdS) (a : Act) (i : Nat) : Nat → Int := if (i : Int) == c.liar && !(a.n == 0) then a.tell else (c.nodes i).settled

/-! ### An act -/

def Act.submit (c : CrowdS) (a : Act) : CrowdS × Reply := turnC c a.node (submitT (c.nodes a.node.toNat) a.node a.value)
def Act.time (c : CrowdS) (a : Act) : CrowdS × Reply := turnC c a.node (timeT (c.nodes a.node.toNat) a.node)
def Act.deliver (c : CrowdS) (x : Letter) : CrowdS × Reply := turnC c x.to (hearT (c.nodes x.to.toNat) x.to x.word)
def Act.lie (c : CrowdS) (a : Act) : CrowdS × Reply := turnC c a.node (hearT (c.nodes a.node.toNat) a.node a.word)
def Act.read (c : CrowdS) (a : Act) : Reply := ⟨0, 0, takeV (toldC c a)⟩
def actC (c : CrowdS) (a : Act) : CrowdS × Reply :=
  if a.kind = 1 then Act.submit c a
  else if a.kind = 4 then Act.time c a
  else if a.kind = 2 ∨ a.kind = 3 then
    (if a.n < 0 ∨ (c.net.length : Int) ≤ a.n then (c, errR 4)
     else if a.kind = 3 then ({ c with net := c.net.eraseIdx a.n.toNat }, errR 0)
     else Act.deliver c (c.net.getD a.n.toNat Letter.zero))
  else if a.kind = 5 then (if goodW a.word ≠ 0 then (c, errR (goodW a.word)) else if a.word.frm ≠ c.liar then (c, errR 6) else Act.lie c a)
  else if a.kind = 6 then (c, Act.read c a)
  else (c, errR 3)
def CrowdS.tick (c : CrowdS) : CrowdS := { c with acts := c.acts + 1 }
def doC (c : CrowdS) (a : Act) : CrowdS × Reply := if 600 ≤ c.acts then (c, errR 5) else actC c.tick a

def newN' : Node := ⟨0, 0, 0, 0, -1, 0, -1, fun _ => false, fun _ => .zero, fun _ => 0, []⟩
def newC (liar : Int) : CrowdS := ⟨fun _ => newN', [], liar, 0⟩

/-! ### Good crowds -/

structure GoodC (c : CrowdS) : Prop where
  nodes : ∀ i, i < 4 → GoodN (c.nodes i)
  net : c.net.length ≤ 2000
  letters : ∀ x ∈ c.net, 0 ≤ x.to ∧ x.to < 4 ∧ GoodW x.word
  acts : 0 ≤ c.acts ∧ c.acts ≤ 600

theorem sendW_len (frm : Int) (w : Word) (net : List Letter) (h : net.length ≤ 2000) : ∀ k, net.length ≤ (sendW frm w net k).length ∧ (sendW frm w net k).length ≤ 2000
  | 0 => ⟨Nat.le_refl _, h⟩
  | k + 1 => by
    have ih := sendW_len frm w net h k
    simp only [sendW]
    split
    · rename_i hc
      simp only [Bool.and_eq_true, decide_eq_true_eq] at hc
      simp only [List.length_append, List.length_cons, List.length_nil]
      omega
    · exact ih
theorem sendL_len (frm : Int) : ∀ (l : List Word) (net : List Letter), net.length ≤ 2000 → net.length ≤ (sendL frm l net).length ∧ (sendL frm l net).length ≤ 2000
  | [], net, h => ⟨Nat.le_refl _, h⟩
  | w :: l, net, h => by
    have h1 := sendW_len frm w net h 4
    have h2 := sendL_len frm l (sendW frm w net 4) h1.2
    simp only [sendL, List.foldl_cons] at h2 ⊢
    exact ⟨Nat.le_trans h1.1 h2.1, h2.2⟩
theorem sendL_take (frm : Int) (l : List Word) (net : List Letter) {j : Nat} (hj : j < l.length) : sendL frm (l.take (j + 1)) net = sendW frm (l.getD j Word.zero) (sendL frm (l.take j) net) 4 := by
  have e : l.getD j Word.zero = l[j] := by simp [List.getElem?_eq_getElem hj]
  rw [e]
  unfold sendL
  rw [List.take_add_one, List.getElem?_eq_getElem hj]
  simp only [Option.toList_some, List.foldl_append, List.foldl_cons, List.foldl_nil]

/-- Each letter that is sent is one of those words, to another one. -/
theorem sendW_mem {frm : Int} {w : Word} {net : List Letter} {x : Letter} : ∀ {k : Nat}, x ∈ sendW frm w net k → x ∈ net ∨ (x.word = w ∧ 0 ≤ x.to ∧ x.to < k ∧ x.to ≠ frm)
  | 0, h => .inl h
  | k + 1, h => by
    simp only [sendW] at h
    split at h
    · rename_i hc
      simp only [Bool.and_eq_true, Bool.not_eq_true', beq_eq_false_iff_ne] at hc
      rcases List.mem_append.1 h with h | h
      · rcases sendW_mem h with h | h
        · exact .inl h
        · exact .inr ⟨h.1, h.2.1, by omega, h.2.2.2⟩
      · have := List.mem_singleton.1 h
        subst this
        exact .inr ⟨rfl, by simp, by simp; omega, hc.1⟩
    · rcases sendW_mem h with h | h
      · exact .inl h
      · exact .inr ⟨h.1, h.2.1, by omega, h.2.2.2⟩
theorem sendL_mem {frm : Int} {x : Letter} : ∀ {l : List Word} {net : List Letter}, x ∈ sendL frm l net → x ∈ net ∨ (x.word ∈ l ∧ 0 ≤ x.to ∧ x.to < 4 ∧ x.to ≠ frm)
  | [], net, h => .inl h
  | w :: l, net, h => by
    simp only [sendL, List.foldl_cons] at h
    rcases sendL_mem (l := l) h with h | h
    · rcases sendW_mem h with h | h
      · exact .inl h
      · exact .inr ⟨by rw [h.1]; exact List.mem_cons_self .., h.2.1, by omega, h.2.2.2⟩
    · exact .inr ⟨List.mem_cons_of_mem _ h.1, h.2⟩

theorem leastH_stop {l : Nat → Nat → Int} {h k : Nat} (hk : leastH l h k ≠ 0) : ∀ m, k ≤ m → leastH l h m = leastH l h k := by
  intro m hm
  induction m with
  | zero => have : k = 0 := by omega
            subst this; rfl
  | succ m ih =>
    rcases Nat.lt_or_ge k (m + 1) with h1 | h1
    · have := ih (by omega)
      simp only [leastH]
      rw [if_neg (by rw [this]; exact hk), this]
    · have : k = m + 1 := by omega
      subst this; rfl

end Go.W
