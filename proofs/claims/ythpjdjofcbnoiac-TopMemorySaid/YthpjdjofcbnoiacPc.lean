/-
  What a node does, in plain Lean.
-/
import Derived.Test.YthpjdjofcbnoiacFo
import Derived.Test.YthpjdjofcbnoiacPa
import Derived.Test.YthpjdjofcbnoiacPb
namespace Go.W

/-! ### Good nodes -/

def boundB (v i r : Int) : Bool := if i < 0 then v == 0 && i == -1 else decide (1 ≤ v) && decide (v ≤ 9) && decide (i ≤ r)
def setB (s : Node) (h : Nat) : Bool := within (s.settled h) 0 9 && (decide (0 < s.settled h) == decide ((h : Int) < s.height)) && goodS (s.heard h)
def setK (s : Node) : Nat → Bool
  | 0 => true
  | k + 1 => setK s k && setB s k
def placeB (s : Node) : Bool := within s.height 0 4 && within s.round 0 5 && within s.step 0 2 && decide (s.queue.length ≤ 6)
def goodN (s : Node) : Bool := placeB s && (boundB s.bound s.boundIn s.round && boundB s.valid s.validIn s.round) && setK s 4 && s.queue.all (fun v => within v 1 9)

structure GoodN (s : Node) : Prop where
  height : 0 ≤ s.height ∧ s.height ≤ 4
  round : 0 ≤ s.round ∧ s.round < 6
  step : 0 ≤ s.step ∧ s.step ≤ 2
  len : s.queue.length ≤ 6
  queue : ∀ v ∈ s.queue, 1 ≤ v ∧ v ≤ 9
  bound : boundB s.bound s.boundIn s.round = true
  valid : boundB s.valid s.validIn s.round = true
  settled : ∀ h : Nat, h < 4 → 0 ≤ s.settled h ∧ s.settled h ≤ 9 ∧ (0 < s.settled h ↔ (h : Int) < s.height)
  heard : ∀ h, h < 4 → goodS (s.heard h) = true

theorem setK_iff {s : Node} : ∀ {k : Nat}, setK s k = true ↔ ∀ h, h < k → setB s h = true
  | 0 => by simp [setK]
  | k + 1 => by
    simp only [setK, Bool.and_eq_true, setK_iff (k := k)]
    constructor
    · rintro ⟨h1, h2⟩ i hi
      rcases Nat.lt_or_ge i k with h | h
      · exact h1 i h
      · have : i = k := by omega
        subst this; exact h2
    · intro h
      exact ⟨fun i hi => h i (by omega), h k (by omega)⟩
theorem setK_of {s : Node} {h k : Nat} (hh : setB s h = false) (hk : h < k) : setK s k = false := by
  cases hb : setK s k with
  | false => rfl
  | true => rw [setK_iff.1 hb h hk] at hh; cases hh
theorem setB_iff {s : Node} {h : Nat} : setB s h = true ↔ (0 ≤ s.settled h ∧ s.settled h ≤ 9 ∧ (0 < s.settled h ↔ (h : Int) < s.height)) ∧ goodS (s.heard h) = true := by
  simp only [setB, within, Bool.and_eq_true, decide_eq_true_eq, beq_iff_eq, decide_eq_decide]
  constructor
  · rintro ⟨⟨⟨a, b⟩, c⟩, d⟩; exact ⟨⟨a, b, c⟩, d⟩
  · rintro ⟨⟨a, b, c⟩, d⟩; exact ⟨⟨⟨a, b⟩, c⟩, d⟩

theorem goodN_iff (s : Node) : goodN s = true ↔ GoodN s := by
  simp only [goodN, placeB, Bool.and_eq_true, setK_iff, setB_iff, List.all_eq_true, within, decide_eq_true_eq]
  constructor
  · rintro ⟨⟨⟨⟨⟨⟨h1, h2⟩, h3⟩, h4⟩, h5, h6⟩, h7⟩, h8⟩
    exact ⟨h1, by omega, h3, h4, h8, h5, h6, fun h hh => (h7 h hh).1, fun h hh => (h7 h hh).2⟩
  · rintro ⟨h1, h2, h3, h4, h8, h5, h6, h7, h9⟩
    exact ⟨⟨⟨⟨⟨⟨h1, by omega⟩, h3⟩, h4⟩, h5, h6⟩, fun h hh => ⟨h7 h hh, h9 h hh⟩⟩, h8⟩

theorem boundB_iff {v i r : Int} : boundB v i r = true ↔ (i = -1 ∧ v = 0) ∨ (0 ≤ i ∧ i ≤ r ∧ 1 ≤ v ∧ v ≤ 9) := by
  unfold boundB
  split
  · simp only [Bool.and_eq_true, beq_iff_eq]; omega
  · simp only [Bool.and_eq_true, decide_eq_true_eq]; omega
theorem boundB_mono {v i r r' : Int} (h : boundB v i r = true) (hr : r ≤ r') : boundB v i r' = true := by
  rw [boundB_iff] at h ⊢; omega
theorem boundB_none (r : Int) : boundB 0 (-1) r = true := by rw [boundB_iff]; omega

/-! ### What a node does -/

abbrev Node.cur (s : Node) : Sheet := s.heard s.height.toNat
def wordOf (x : Run) (k v u : Int) : Word := ⟨k, x.who, x.s.height, x.s.round, v, u⟩
def hearN (s : Node) (w : Word) : Node := { s with heard := upd s.heard w.height.toNat (hearS (s.heard w.height.toNat) w) }
def sayR (x : Run) (k v u : Int) : Run := ⟨hearN x.s (wordOf x k v u), x.who, x.out ++ [wordOf x k v u]⟩

/-- What the leader proposes. -/
def proposal (s : Node) : Option (Int × Int) :=
  if 0 ≤ s.validIn then some (s.valid, s.validIn) else match s.queue with
    | [] => none
    | q :: _ => some (q, -1)
def mute (s : Node) (who k : Int) : Bool := !(leader s.height k == who) || (s.cur.calls k.toNat).is
def atRound (s : Node) (k : Int) : Node := { s with round := k, step := 0 }
def startR (x : Run) (k : Int) : Run :=
  if mute x.s x.who k then ⟨atRound x.s k, x.who, x.out⟩ else match proposal x.s with
    | none => ⟨atRound x.s k, x.who, x.out⟩
    | some p => sayR ⟨atRound x.s k, x.who, x.out⟩ 1 p.1 p.2

def firstN (p : Nat → Bool) : Nat → Option Nat
  | 0 => none
  | n + 1 => match firstN p n with
    | some k => some k
    | none => if p n then some n else none
def lastN (p : Nat → Bool) : Nat → Option Nat
  | 0 => none
  | n + 1 => if p n then some n else lastN p n

/-- A quorum has promised what was proposed. -/
def promised (s : Sheet) (k : Nat) : Bool := mostOk (s.promises k) && !(mostV (s.promises k) == 0) && (s.calls k).is && (s.calls k).value == mostV (s.promises k)
def settleK (s : Node) : Option Nat := firstN (promised s.cur) 6
def settleS (s : Node) (v : Int) : Node :=
  { s with settled := upd s.settled s.height.toNat v, queue := s.queue.filter (fun q => !(q == v)), height := s.height + 1, bound := 0, boundIn := -1, valid := 0, validIn := -1, seen := fun _ => false, round := 0, step := 0 }
def settleR (x : Run) (v : Int) : Run :=
  if x.s.height + 1 < 4 then startR ⟨settleS x.s v, x.who, x.out⟩ 0 else ⟨settleS x.s v, x.who, x.out⟩

def skipK (s : Node) : Option Nat := lastN (fun k => decide (s.round < k) && decide (2 ≤ heard s.cur k)) 6

/-- What it wishes for, if it may. -/
def freeB (s : Node) (c : Call) : Bool := (if 0 ≤ c.valid then decide (s.boundIn ≤ c.valid) else decide (s.boundIn < 0)) || s.bound == c.value
def wishV (s : Node) : Option Int :=
  let c := s.cur.calls s.round.toNat
  if !(s.step == 0) || !c.is then none
  else if decide (0 ≤ c.valid) && decide (count (s.cur.wishes c.valid.toNat) c.value < 3) then none
  else some (if freeB s c then c.value else 0)
def wishR (x : Run) (v : Int) : Run := sayR ⟨{ x.s with step := 1 }, x.who, x.out⟩ 2 v 0

def seeS (s : Node) (v : Int) : Node := { s with seen := upd s.seen s.round.toNat true, valid := v, validIn := s.round }
def bindS (s : Node) (v : Int) : Node := { s with bound := v, boundIn := s.round, step := 2 }
def promR (x : Run) : Option Run :=
  let c := x.s.cur.calls x.s.round.toNat
  let v := mostV (x.s.cur.wishes x.s.round.toNat)
  if !mostOk (x.s.cur.wishes x.s.round.toNat) || x.s.step == 0 then none
  else if v == 0 && x.s.step == 1 then some (sayR ⟨{ x.s with step := 2 }, x.who, x.out⟩ 3 0 0)
  else if v == 0 || !c.is || !(c.value == v) || x.s.seen x.s.round.toNat then none
  else if x.s.step == 1 then some (sayR ⟨bindS (seeS x.s v) v, x.who, x.out⟩ 3 v 0)
  else some ⟨seeS x.s v, x.who, x.out⟩

def actR (x : Run) : Option Run :=
  match settleK x.s with
  | some k => some (settleR x (mostV (x.s.cur.promises k)))
  | none => match skipK x.s with
    | some k => some (startR x k)
    | none => match wishV x.s with
      | some v => some (wishR x v)
      | none => promR x
def oneR (x : Run) : Option Run := if x.s.height < 4 then actR x else none

def meas (s : Node) : Nat := (4 - s.height).toNat * 200 + (5 - s.round).toNat * 10 + (2 - s.step).toNat * 2 + (if s.seen s.round.toNat then 0 else 1)
def flowN : Nat → Run → Run
  | 0, x => x
  | n + 1, x => match oneR x with
    | some y => flowN n y
    | none => x
def flowR (x : Run) : Run := flowN (meas x.s) x

/-! ### What each step keeps -/

structure GoodR (x : Run) : Prop where
  s : GoodN x.s
  who : 0 ≤ x.who ∧ x.who < 4

theorem firstN_some {p : Nat → Bool} {k : Nat} : ∀ {n : Nat}, firstN p n = some k → k < n ∧ p k = true ∧ ∀ j, j < k → p j = false
  | n + 1, h => by
    simp only [firstN] at h
    split at h
    · rename_i j hj
      simp only [Option.some.injEq] at h
      subst h
      have := firstN_some hj
      exact ⟨by omega, this.2⟩
    · rename_i hn
      split at h
      · simp only [Option.some.injEq] at h
        subst h
        rename_i hp
        refine ⟨by omega, hp, fun j hj => ?_⟩
        clear hp
        have : ∀ m, m ≤ n → j < m → firstN p m = none → p j = false := by
          intro m hm hj h
          induction m with
          | zero => omega
          | succ m ih =>
            simp only [firstN] at h
            split at h
            · cases h
            · rename_i h0
              split at h
              · cases h
              · rename_i h1
                rcases Nat.lt_or_ge j m with h2 | h2
                · exact ih (by omega) h2 h0
                · have : j = m := by omega
                  subst this; simpa using h1
        exact this n (Nat.le_refl _) hj hn
      · cases h
theorem firstN_none {p : Nat → Bool} : ∀ {n : Nat}, firstN p n = none ↔ ∀ j, j < n → p j = false
  | 0 => by simp [firstN]
  | n + 1 => by
    simp only [firstN]
    constructor
    · intro h j hj
      split at h
      · cases h
      · rename_i h0
        split at h
        · cases h
        · rename_i h1
          rcases Nat.lt_or_ge j n with h2 | h2
          · exact firstN_none.1 h0 j h2
          · have : j = n := by omega
            subst this; simpa using h1
    · intro h
      rw [firstN_none.2 fun j hj => h j (by omega)]
      simp [h n (by omega)]
theorem firstN_mono {p : Nat → Bool} {k n m : Nat} (h : firstN p n = some k) (hm : n ≤ m) : firstN p m = some k := by
  induction m with
  | zero => have : n = 0 := by omega
            subst this; exact h
  | succ m ih =>
    rcases Nat.lt_or_ge n (m + 1) with hl | hl
    · simp only [firstN, ih (by omega)]
    · have : n = m + 1 := by omega
      subst this; exact h
theorem firstN_at {p : Nat → Bool} {k n : Nat} (hp : p k = true) (h : ∀ j, j < k → p j = false) (hk : k < n) : firstN p n = some k := by
  refine firstN_mono (n := k + 1) ?_ hk
  simp only [firstN, firstN_none.2 h, hp, if_true]

theorem lastN_some {p : Nat → Bool} {k : Nat} : ∀ {n : Nat}, lastN p n = some k → k < n ∧ p k = true ∧ ∀ j, k < j → j < n → p j = false
  | n + 1, h => by
    simp only [lastN] at h
    split at h
    · simp only [Option.some.injEq] at h
      subst h
      rename_i hp
      exact ⟨by omega, hp, fun j h1 h2 => by omega⟩
    · rename_i hp
      obtain ⟨h1, h2, h3⟩ := lastN_some h
      refine ⟨by omega, h2, fun j h4 h5 => ?_⟩
      rcases Nat.lt_or_ge j n with h6 | h6
      · exact h3 j h4 h6
      · have : j = n := by omega
        subst this; simpa using hp
theorem lastN_none {p : Nat → Bool} : ∀ {n : Nat}, lastN p n = none ↔ ∀ j, j < n → p j = false
  | 0 => by simp [lastN]
  | n + 1 => by
    simp only [lastN]
    constructor
    · intro h j hj
      split at h
      · cases h
      · rename_i hp
        rcases Nat.lt_or_ge j n with h2 | h2
        · exact lastN_none.1 h j h2
        · have : j = n := by omega
          subst this; simpa using hp
    · intro h
      rw [if_neg (by simp [h n (by omega)]), lastN_none.2 fun j hj => h j (by omega)]
theorem lastN_at {p : Nat → Bool} {k : Nat} (hp : p k = true) : ∀ {n : Nat}, (∀ j, k < j → j < n → p j = false) → k < n → lastN p n = some k
  | n + 1, h, hk => by
    simp only [lastN]
    rcases Nat.lt_or_ge k n with h1 | h1
    · rw [if_neg (by simp [h n h1 (by omega)])]
      exact lastN_at hp (fun j h2 h3 => h j h2 (by omega)) h1
    · have : k = n := by omega
      subst this; simp [hp]

theorem mostV_of {v : Nat → Int} (h : mostOk v = true) : 3 ≤ count v (mostV v) ∧ 0 ≤ mostV v ∧ mostV v ≤ 9 := by
  unfold mostOk at h
  cases hm : mostN v 10 with
  | none => simp [hm] at h
  | some k =>
    simp only [mostV, hm, optV]
    have hk : ∀ n, mostN v n = some k → k < n := by
      intro n
      induction n with
      | zero => intro h; cases h
      | succ n ih =>
        intro h
        simp only [mostN] at h
        split at h
        · simp only [Option.some.injEq] at h
          subst h
          have := ih (by assumption)
          omega
        · split at h
          · simp only [Option.some.injEq] at h; omega
          · cases h
    have := hk 10 hm
    exact ⟨mostN_count hm, by omega, by omega⟩
theorem mostV_eq {v : Nat → Int} {x : Int} (h : 3 ≤ count v x) (h0 : 0 ≤ x) (h9 : x ≤ 9) : mostOk v = true ∧ mostV v = x := by
  have hx : x = ((x.toNat : Nat) : Int) := by omega
  rw [hx] at h
  have := mostN_of h 10 (by omega)
  simp only [mostOk, mostV, this, optV, Option.isSome]
  exact ⟨by trivial, by omega⟩

theorem goodS_calls {s : Sheet} (h : goodS s = true) {r : Nat} (hr : r < 6) : goodC (s.calls r) r = true := (goodK_iff.1 h r hr).1
theorem goodC_is {c : Call} {r : Int} (h : goodC c r = true) (hi : c.is = true) : 1 ≤ c.value ∧ c.value ≤ 9 ∧ -1 ≤ c.valid ∧ c.valid < r := by
  simp only [goodC, hi, if_true, within, Bool.and_eq_true, decide_eq_true_eq] at h
  omega

theorem GoodN.hear {s : Node} (h : GoodN s) (w : Word) : GoodN (hearN s w) where
  height := h.height
  round := h.round
  step := h.step
  len := h.len
  queue := h.queue
  bound := h.bound
  valid := h.valid
  settled := h.settled
  heard := fun k hk => by
    show goodS (upd s.heard w.height.toNat (hearS (s.heard w.height.toNat) w) k) = true
    by_cases e : k = w.height.toNat
    · subst e; rw [upd_same]; exact goodS_hear w (h.heard _ hk)
    · rw [upd_other _ _ e]; exact h.heard k hk
theorem GoodR.say {x : Run} (h : GoodR x) (k v u : Int) : GoodR (sayR x k v u) := ⟨h.s.hear _, h.who⟩

theorem GoodN.at {s : Node} (h : GoodN s) {k : Int} (h0 : s.round ≤ k) (h6 : k < 6) : GoodN (atRound s k) where
  height := h.height
  round := ⟨by have := h.round; show 0 ≤ k; omega, h6⟩
  step := ⟨Int.le_refl 0, by show (0 : Int) ≤ 2; omega⟩
  len := h.len
  queue := h.queue
  bound := boundB_mono h.bound h0
  valid := boundB_mono h.valid h0
  settled := h.settled
  heard := h.heard

theorem startR_cases (x : Run) (k : Int) : startR x k = ⟨atRound x.s k, x.who, x.out⟩ ∨ ∃ v u, mute x.s x.who k = false ∧ proposal x.s = some (v, u) ∧ startR x k = sayR ⟨atRound x.s k, x.who, x.out⟩ 1 v u := by
  unfold startR
  split
  · exact .inl rfl
  · rename_i hm
    split
    · exact .inl rfl
    · rename_i p hp
      exact .inr ⟨p.1, p.2, by simpa using hm, hp, rfl⟩
theorem GoodR.start {x : Run} (h : GoodR x) {k : Int} (h0 : x.s.round ≤ k) (h6 : k < 6) : GoodR (startR x k) := by
  have h1 : GoodR ⟨atRound x.s k, x.who, x.out⟩ := ⟨h.s.at h0 h6, h.who⟩
  rcases startR_cases x k with e | ⟨v, u, _, _, e⟩
  · rw [e]; exact h1
  · rw [e]; exact h1.say _ _ _

theorem promised_iff {s : Sheet} {k : Nat} (h : promised s k = true) : mostOk (s.promises k) = true ∧ 1 ≤ mostV (s.promises k) ∧ mostV (s.promises k) ≤ 9 ∧ (s.calls k).is = true ∧ (s.calls k).value = mostV (s.promises k) := by
  simp only [promised, Bool.and_eq_true, Bool.not_eq_true', beq_iff_eq, beq_eq_false_iff_ne] at h
  have := mostV_of h.1.1.1
  exact ⟨h.1.1.1, by omega, by omega, h.1.2, h.2⟩

theorem GoodN.settle {s : Node} (h : GoodN s) (hh : s.height < 4) {v : Int} (h1 : 1 ≤ v) (h9 : v ≤ 9) : GoodN (settleS s v) where
  height := by have := h.height; show 0 ≤ s.height + 1 ∧ s.height + 1 ≤ 4; omega
  round := by show (0 : Int) ≤ 0 ∧ (0 : Int) < 6; omega
  step := by show (0 : Int) ≤ 0 ∧ (0 : Int) ≤ 2; omega
  len := Nat.le_trans (List.length_filter_le _ _) h.len
  queue := fun v hv => h.queue v (List.mem_filter.1 hv).1
  bound := boundB_none _
  valid := boundB_none _
  settled := fun k hk => by
    have h0 := h.height
    have hs := h.settled k hk
    show 0 ≤ upd s.settled s.height.toNat v k ∧ upd s.settled s.height.toNat v k ≤ 9 ∧ (0 < upd s.settled s.height.toNat v k ↔ (k : Int) < s.height + 1)
    by_cases e : k = s.height.toNat
    · subst e; rw [upd_same]; omega
    · rw [upd_other _ _ e]; omega
  heard := h.heard

theorem GoodR.settle {x : Run} (h : GoodR x) (hh : x.s.height < 4) {v : Int} (h1 : 1 ≤ v) (h9 : v ≤ 9) : GoodR (settleR x v) := by
  have h1 : GoodR ⟨settleS x.s v, x.who, x.out⟩ := ⟨h.s.settle hh h1 h9, h.who⟩
  unfold settleR
  split
  · exact h1.start (Int.le_refl 0) (by omega)
  · exact h1

theorem GoodN.step1 {s : Node} (h : GoodN s) {k : Int} (h0 : 0 ≤ k) (h2 : k ≤ 2) : GoodN { s with step := k } where
  height := h.height
  round := h.round
  step := ⟨h0, h2⟩
  len := h.len
  queue := h.queue
  bound := h.bound
  valid := h.valid
  settled := h.settled
  heard := h.heard
theorem GoodN.see {s : Node} (h : GoodN s) {v : Int} (h1 : 1 ≤ v) (h9 : v ≤ 9) : GoodN (seeS s v) where
  height := h.height
  round := h.round
  step := h.step
  len := h.len
  queue := h.queue
  bound := h.bound
  valid := by have := h.round; show boundB v s.round s.round = true; rw [boundB_iff]; omega
  settled := h.settled
  heard := h.heard
theorem GoodN.bind {s : Node} (h : GoodN s) {v : Int} (h1 : 1 ≤ v) (h9 : v ≤ 9) : GoodN (bindS s v) where
  height := h.height
  round := h.round
  step := by show (0 : Int) ≤ 2 ∧ (2 : Int) ≤ 2; omega
  len := h.len
  queue := h.queue
  bound := by have := h.round; show boundB v s.round s.round = true; rw [boundB_iff]; omega
  valid := h.valid
  settled := h.settled
  heard := h.heard

/-- What a promise may be. -/
theorem promR_cases {x y : Run} (h : promR x = some y) : ∃ v, mostOk (x.s.cur.wishes x.s.round.toNat) = true ∧ mostV (x.s.cur.wishes x.s.round.toNat) = v ∧ x.s.step ≠ 0 ∧
    ((v = 0 ∧ x.s.step = 1 ∧ y = sayR ⟨{ x.s with step := 2 }, x.who, x.out⟩ 3 0 0) ∨
     (v ≠ 0 ∧ (x.s.cur.calls x.s.round.toNat).is = true ∧ (x.s.cur.calls x.s.round.toNat).value = v ∧ x.s.seen x.s.round.toNat = false ∧
      ((x.s.step = 1 ∧ y = sayR ⟨bindS (seeS x.s v) v, x.who, x.out⟩ 3 v 0) ∨ (x.s.step ≠ 1 ∧ y = ⟨seeS x.s v, x.who, x.out⟩)))) := by
  unfold promR at h
  simp only [] at h
  split at h
  · cases h
  rename_i h1
  simp only [Bool.or_eq_true, Bool.not_eq_true', beq_iff_eq, not_or, Bool.not_eq_false] at h1
  refine ⟨_, h1.1, rfl, h1.2, ?_⟩
  split at h
  · rename_i h2
    simp only [Bool.and_eq_true, beq_iff_eq] at h2
    simp only [Option.some.injEq] at h
    exact .inl ⟨h2.1, h2.2, h.symm⟩
  rename_i h2
  split at h
  · cases h
  rename_i h3
  simp only [Bool.or_eq_true, Bool.not_eq_true', beq_iff_eq, beq_eq_false_iff_ne, not_or, Bool.not_eq_false, ne_eq, Decidable.not_not, Bool.not_eq_true] at h3
  refine .inr ⟨h3.1.1.1, h3.1.1.2, h3.1.2, h3.2, ?_⟩
  split at h
  · rename_i h4
    simp only [beq_iff_eq] at h4
    simp only [Option.some.injEq] at h
    exact .inl ⟨h4, h.symm⟩
  · rename_i h4
    simp only [beq_iff_eq] at h4
    simp only [Option.some.injEq] at h
    exact .inr ⟨h4, h.symm⟩

/-- What a wish may be. -/
theorem wishV_cases {s : Node} {v : Int} (h : wishV s = some v) : s.step = 0 ∧ (s.cur.calls s.round.toNat).is = true ∧
    (0 ≤ (s.cur.calls s.round.toNat).valid → 3 ≤ count (s.cur.wishes (s.cur.calls s.round.toNat).valid.toNat) (s.cur.calls s.round.toNat).value) ∧
    v = if freeB s (s.cur.calls s.round.toNat) then (s.cur.calls s.round.toNat).value else 0 := by
  unfold wishV at h
  simp only [] at h
  split at h
  · cases h
  rename_i h1
  simp only [Bool.or_eq_true, Bool.not_eq_true', beq_eq_false_iff_ne, not_or, ne_eq, Decidable.not_not, Bool.not_eq_false] at h1
  split at h
  · cases h
  rename_i h2
  simp only [Bool.and_eq_true, decide_eq_true_eq, not_and] at h2
  simp only [Option.some.injEq] at h
  exact ⟨h1.1, h1.2, fun h0 => by have := h2 h0; omega, h.symm⟩

/-- One thing that comes of what was heard. -/
theorem oneR_cases {x y : Run} (h : oneR x = some y) : x.s.height < 4 ∧
    ((∃ k, settleK x.s = some k ∧ y = settleR x (mostV (x.s.cur.promises k))) ∨
     (∃ k, settleK x.s = none ∧ skipK x.s = some k ∧ y = startR x k) ∨
     (∃ v, settleK x.s = none ∧ skipK x.s = none ∧ wishV x.s = some v ∧ y = wishR x v) ∨
     (settleK x.s = none ∧ skipK x.s = none ∧ wishV x.s = none ∧ promR x = some y)) := by
  unfold oneR at h
  split at h
  · rename_i hh
    refine ⟨hh, ?_⟩
    unfold actR at h
    split at h
    · rename_i k hk
      simp only [Option.some.injEq] at h
      exact .inl ⟨k, hk, h.symm⟩
    · rename_i h1
      split at h
      · rename_i k hk
        simp only [Option.some.injEq] at h
        exact .inr (.inl ⟨k, h1, hk, h.symm⟩)
      · rename_i h2
        split at h
        · rename_i v hv
          simp only [Option.some.injEq] at h
          exact .inr (.inr (.inl ⟨v, h1, h2, hv, h.symm⟩))
        · rename_i h3
          exact .inr (.inr (.inr ⟨h1, h2, h3, h⟩))
  · cases h

theorem skipK_some {s : Node} {k : Nat} (h : skipK s = some k) : k < 6 ∧ s.round < k ∧ 2 ≤ heard s.cur k := by
  have := lastN_some h
  simp only [Bool.and_eq_true, decide_eq_true_eq] at this
  exact ⟨this.1, this.2.1.1, this.2.1.2⟩
theorem settleK_some {s : Node} {k : Nat} (h : settleK s = some k) : k < 6 ∧ promised s.cur k = true := by
  have := firstN_some h
  exact ⟨this.1, this.2.1⟩

theorem GoodR.one {x y : Run} (h : GoodR x) (hy : oneR x = some y) : GoodR y := by
  obtain ⟨hh, hc⟩ := oneR_cases hy
  rcases hc with ⟨k, hk, rfl⟩ | ⟨k, _, hk, rfl⟩ | ⟨v, _, _, hv, rfl⟩ | ⟨_, _, _, hp⟩
  · have := promised_iff (settleK_some hk).2
    exact h.settle hh this.2.1 this.2.2.1
  · have := skipK_some hk
    exact h.start (by omega) (by omega)
  · exact GoodR.say (x := ⟨{ x.s with step := 1 }, x.who, x.out⟩) ⟨h.s.step1 (by omega) (by omega), h.who⟩ _ _ _
  · obtain ⟨v, hm, rfl, _, hc⟩ := promR_cases hp
    have hv := mostV_of hm
    rcases hc with ⟨_, _, rfl⟩ | ⟨h0, _, _, _, ⟨_, rfl⟩ | ⟨_, rfl⟩⟩
    · exact GoodR.say (x := ⟨{ x.s with step := 2 }, x.who, x.out⟩) ⟨h.s.step1 (by omega) (by omega), h.who⟩ _ _ _
    · exact GoodR.say (x := ⟨bindS (seeS x.s (mostV (x.s.cur.wishes x.s.round.toNat))) (mostV (x.s.cur.wishes x.s.round.toNat)), x.who, x.out⟩) ⟨(h.s.see (by omega) (by omega)).bind (by omega) (by omega), h.who⟩ _ _ _
    · exact ⟨h.s.see (by omega) (by omega), h.who⟩

theorem startR_at (x : Run) (k : Int) : (startR x k).s.height = x.s.height ∧ (startR x k).s.round = k ∧ (startR x k).s.step = 0 ∧ (startR x k).who = x.who := by
  rcases startR_cases x k with e | ⟨v, u, _, _, e⟩ <;> rw [e] <;> exact ⟨rfl, rfl, rfl, rfl⟩
theorem meas_le (s : Node) : meas s ≤ (4 - s.height).toNat * 200 + (5 - s.round).toNat * 10 + (2 - s.step).toNat * 2 + 1 := by
  unfold meas; split <;> omega
theorem meas_ge (s : Node) : (4 - s.height).toNat * 200 + (5 - s.round).toNat * 10 + (2 - s.step).toNat * 2 ≤ meas s := by
  unfold meas; omega

theorem meas_one {x y : Run} (h : GoodR x) (hy : oneR x = some y) : meas y.s < meas x.s := by
  have h1 := h.s.height
  have h2 := h.s.round
  have h3 := h.s.step
  have hx := meas_ge x.s
  obtain ⟨hh, hc⟩ := oneR_cases hy
  rcases hc with ⟨k, hk, rfl⟩ | ⟨k, _, hk, rfl⟩ | ⟨v, _, _, hv, rfl⟩ | ⟨_, _, _, hp⟩
  · have : (settleR x (mostV (x.s.cur.promises k))).s.height = x.s.height + 1 ∧ (settleR x (mostV (x.s.cur.promises k))).s.round = 0 ∧ (settleR x (mostV (x.s.cur.promises k))).s.step = 0 := by
      unfold settleR
      split
      · exact ⟨(startR_at _ _).1, (startR_at _ _).2.1, (startR_at _ _).2.2.1⟩
      · exact ⟨rfl, rfl, rfl⟩
    have hl := meas_le (settleR x (mostV (x.s.cur.promises k))).s
    rw [this.1, this.2.1, this.2.2] at hl
    omega
  · have hs := skipK_some hk
    have := startR_at x k
    have hl := meas_le (startR x k).s
    rw [this.1, this.2.1, this.2.2.1] at hl
    omega
  · have hs := (wishV_cases hv).1
    have hl := meas_le (wishR x v).s
    have e1 : (wishR x v).s.height = x.s.height := rfl
    have e2 : (wishR x v).s.round = x.s.round := rfl
    have e3 : (wishR x v).s.step = 1 := rfl
    rw [e1, e2, e3] at hl
    omega
  · obtain ⟨v, hm, rfl, hst, hc⟩ := promR_cases hp
    rcases hc with ⟨_, hs, rfl⟩ | ⟨h0, _, _, hseen, ⟨hs, rfl⟩ | ⟨hs, rfl⟩⟩
    · have hl := meas_le (sayR ⟨{ x.s with step := 2 }, x.who, x.out⟩ 3 0 0).s
      have e1 : (sayR ⟨{ x.s with step := 2 }, x.who, x.out⟩ 3 0 0).s.height = x.s.height := rfl
      have e2 : (sayR ⟨{ x.s with step := 2 }, x.who, x.out⟩ 3 0 0).s.round = x.s.round := rfl
      have e3 : (sayR ⟨{ x.s with step := 2 }, x.who, x.out⟩ 3 0 0).s.step = 2 := rfl
      rw [e1, e2, e3] at hl
      omega
    · generalize mostV (x.s.cur.wishes x.s.round.toNat) = v
      have hl := meas_le (sayR ⟨bindS (seeS x.s v) v, x.who, x.out⟩ 3 v 0).s
      have e1 : (sayR ⟨bindS (seeS x.s v) v, x.who, x.out⟩ 3 v 0).s.height = x.s.height := rfl
      have e2 : (sayR ⟨bindS (seeS x.s v) v, x.who, x.out⟩ 3 v 0).s.round = x.s.round := rfl
      have e3 : (sayR ⟨bindS (seeS x.s v) v, x.who, x.out⟩ 3 v 0).s.step = 2 := rfl
      rw [e1, e2, e3] at hl
      omega
    · unfold meas
      simp only [seeS, upd_same, hseen, if_true]
      simp

theorem flowN_ge {x : Run} (h : GoodR x) : ∀ {n : Nat}, meas x.s ≤ n → flowN n x = flowR x := by
  have key : ∀ (m : Nat) (x : Run), GoodR x → meas x.s ≤ m → ∀ n, meas x.s ≤ n → flowN n x = flowN m x := by
    intro m
    induction m with
    | zero =>
      intro x h hm n hn
      cases n with
      | zero => rfl
      | succ n =>
        simp only [flowN]
        cases ho : oneR x with
        | none => rfl
        | some y => have := meas_one h ho; omega
    | succ m ih =>
      intro x h hm n hn
      cases n with
      | zero =>
        simp only [flowN]
        cases ho : oneR x with
        | none => rfl
        | some y => have := meas_one h ho; omega
      | succ n =>
        simp only [flowN]
        cases ho : oneR x with
        | none => rfl
        | some y =>
          have := meas_one h ho
          exact ih y (h.one ho) (by omega) n (by omega)
  intro n hn
  exact key (meas x.s) x h (Nat.le_refl _) n hn
theorem flowR_some {x y : Run} (h : GoodR x) (hy : oneR x = some y) : flowR x = flowR y := by
  have hm := meas_one h hy
  rw [← flowN_ge h (n := meas x.s + 1) (by omega)]
  simp only [flowN, hy]
  exact flowN_ge (h.one hy) (by omega)
theorem flowR_none {x : Run} (hy : oneR x = none) : flowR x = x := by
  unfold flowR
  cases meas x.s with
  | zero => rfl
  | succ n => simp only [flowN, hy]

/-- What is kept by each thing is kept by all. -/
theorem flow_ind {p : Run → Prop} (hp : ∀ x y, GoodR x → p x → oneR x = some y → p y) {x : Run} (h : GoodR x) (h0 : p x) : p (flowR x) ∧ GoodR (flowR x) ∧ oneR (flowR x) = none := by
  have key : ∀ (m : Nat) (x : Run), meas x.s ≤ m → GoodR x → p x → p (flowR x) ∧ GoodR (flowR x) ∧ oneR (flowR x) = none := by
    intro m
    induction m with
    | zero =>
      intro x hm h h0
      cases ho : oneR x with
      | none => rw [flowR_none ho]; exact ⟨h0, h, ho⟩
      | some y => have := meas_one h ho; omega
    | succ m ih =>
      intro x hm h h0
      cases ho : oneR x with
      | none => rw [flowR_none ho]; exact ⟨h0, h, ho⟩
      | some y =>
        rw [flowR_some h ho]
        have := meas_one h ho
        exact ih y (by omega) (h.one ho) (hp x y h h0 ho)
  exact key _ x (Nat.le_refl _) h h0

/-! ### The three things that may come -/

structure Turn where
  s : Node
  out : List Word
  err : Int

def beginE (s : Node) (who : Int) : Int := if goodN s then (if who < 0 ∨ 4 ≤ who then 2 else 0) else 1
def hearT (s : Node) (who : Int) (w : Word) : Turn :=
  if beginE s who ≠ 0 then ⟨s, [], beginE s who⟩ else if goodW w ≠ 0 then ⟨s, [], goodW w⟩
  else let y := flowR ⟨hearN s w, who, []⟩; ⟨y.s, y.out, 0⟩
def submitR (s : Node) (who v : Int) : Run :=
  let x : Run := ⟨{ s with queue := s.queue ++ [v] }, who, []⟩
  if s.height < 4 ∧ s.step = 0 then flowR (startR x s.round) else x
def submitT (s : Node) (who v : Int) : Turn :=
  if beginE s who ≠ 0 then ⟨s, [], beginE s who⟩ else if v < 1 ∨ 9 < v then ⟨s, [], 2⟩ else if 6 ≤ s.queue.length then ⟨s, [], 5⟩
  else let y := submitR s who v; ⟨y.s, y.out, 0⟩
/-- What comes of time first. -/
def timeR (x : Run) : Run :=
  if x.s.step = 0 then sayR ⟨{ x.s with step := 1 }, x.who, x.out⟩ 2 0 0
  else if x.s.step = 1 then (if 3 ≤ all4 (x.s.cur.wishes x.s.round.toNat) then sayR ⟨{ x.s with step := 2 }, x.who, x.out⟩ 3 0 0 else x)
  else if 3 ≤ all4 (x.s.cur.promises x.s.round.toNat) ∧ x.s.round < 5 then startR x (x.s.round + 1) else x
def timeT (s : Node) (who : Int) : Turn :=
  if beginE s who ≠ 0 then ⟨s, [], beginE s who⟩ else if 4 ≤ s.height then ⟨s, [], 0⟩
  else let y := flowR (timeR ⟨s, who, []⟩); ⟨y.s, y.out, 0⟩

theorem beginE_ok {s : Node} {who : Int} (h : beginE s who = 0) : GoodN s ∧ 0 ≤ who ∧ who < 4 := by
  unfold beginE at h
  split at h
  · rename_i hg
    split at h
    · omega
    · exact ⟨(goodN_iff s).1 hg, by omega, by omega⟩
  · omega

theorem GoodR.time {x : Run} (h : GoodR x) (hh : x.s.height < 4) : GoodR (timeR x) := by
  have hr := h.s.round
  unfold timeR
  split
  · exact GoodR.say (x := ⟨{ x.s with step := 1 }, x.who, x.out⟩) ⟨h.s.step1 (by omega) (by omega), h.who⟩ _ _ _
  · split
    · split
      · exact GoodR.say (x := ⟨{ x.s with step := 2 }, x.who, x.out⟩) ⟨h.s.step1 (by omega) (by omega), h.who⟩ _ _ _
      · exact h
    · split
      · exact h.start (by omega) (by omega)
      · exact h
theorem GoodN.push {s : Node} (h : GoodN s) {v : Int} (h1 : 1 ≤ v) (h9 : v ≤ 9) (hl : s.queue.length < 6) : GoodN { s with queue := s.queue ++ [v] } where
  height := h.height
  round := h.round
  step := h.step
  len := by simp; omega
  queue := fun u hu => by
    rcases List.mem_append.1 hu with hu | hu
    · exact h.queue u hu
    · simp at hu; omega
  bound := h.bound
  valid := h.valid
  settled := h.settled
  heard := h.heard

end Go.W
