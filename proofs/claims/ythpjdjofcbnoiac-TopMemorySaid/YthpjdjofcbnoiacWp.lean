/-
  A call that is handed some of the entries.
-/
import Derived.Test.YthpjdjofcbnoiacWo
namespace Go.W

def posOf : List Nat → Nat → Option Nat
  | [], _ => none
  | a :: m, x => match Nat.beq a x with
    | true => some 0
    | false => match posOf m x with
      | some i => some (i + 1)
      | none => none

theorem posOf_some : ∀ {m : List Nat} {x i : Nat}, posOf m x = some i → m[i]? = some x
  | a :: m, x, i, h => by
    simp only [posOf] at h
    split at h
    · rename_i hb
      simp only [Option.some.injEq] at h
      subst h
      rw [Nat.eq_of_beq_eq_true hb]; rfl
    · split at h
      · rename_i j hj
        simp only [Option.some.injEq] at h
        subst h
        simpa using posOf_some hj
      · cases h

def pullTok (m : List Nat) : List (List Nat × Nat) → List (List Nat × Nat)
  | [] => []
  | (p, y) :: r => match posOf m y with
    | some i => (p, i) :: pullTok m r
    | none => pullTok m r
/-- As the call sees it. -/
def pull0 (m : List Nat) : AV → AV
  | .ptr x p => match posOf m x with
    | some i => .ptr i p
    | none => .undef
  | .sl x lo n k => match posOf m x with
    | some i => .sl i lo n k
    | none => .undef
  | .row y xs => match posOf m y with
    | some i => .row i xs
    | none => .data (.list xs)
  | .rich d tok => Go.W.rich d (pullTok m tok)
  | .data d => .data d
  | .cptr d => .cptr d
  | .nilptr => .nilptr
  | .nilfunc => .nilfunc
  | .mp x => match posOf m x with
    | some i => .mp i
    | none => .undef
  | _ => .undef
def pulls (m : List Nat) : List AV → List AV
  | [] => []
  | a :: r => pull0 m a :: pulls m r
def pull (m : List Nat) : AV → AV
  | .func f caps => .func f (pulls m caps)
  | a => pull0 m a
def pullL (m : List Nat) : List AV → List AV
  | [] => []
  | a :: r => pull m a :: pullL m r
def pullE (m : List Nat) : Ent → Ent
  | .var d tok => .var d (pullTok m tok)
  | .ref a => .ref (pull m a)
  | .row sz xs => .row sz xs
  | .map l => .map l
  | .dead => .dead
/-- The entries that are handed. -/
def handed (m0 : List Nat) (es : List Ent) : List Nat → Option (List Ent)
  | [] => some []
  | x :: m => match es[x]? with
    | none => none
    | some e => match handed m0 es m with
      | none => none
      | some r => some (pullE m0 e :: r)
def nodupB : List Nat → Bool
  | [] => true
  | a :: m => match posOf m a with
    | none => nodupB m
    | some _ => false

/-- As the caller sees what the call has. -/
def pushX (L : Nat) : List Nat → Nat → Nat
  | [], i => L + i
  | x :: _, 0 => x
  | _ :: m, i + 1 => pushX L m i
def pushTok (L : Nat) (m : List Nat) : List (List Nat × Nat) → List (List Nat × Nat)
  | [] => []
  | (p, y) :: r => (p, pushX L m y) :: pushTok L m r
def push0 (L : Nat) (m : List Nat) : AV → AV
  | .ptr x p => .ptr (pushX L m x) p
  | .sl x lo n k => .sl (pushX L m x) lo n k
  | .row y xs => .row (pushX L m y) xs
  | .rich d tok => .rich d (pushTok L m tok)
  | .data d => .data d
  | .cptr d => .cptr d
  | .nilptr => .nilptr
  | .nilfunc => .nilfunc
  | .mp x => .mp (pushX L m x)
  | _ => .undef
def pushs (L : Nat) (m : List Nat) : List AV → List AV
  | [] => []
  | a :: r => push0 L m a :: pushs L m r
def push (L : Nat) (m : List Nat) : AV → AV
  | .func f caps => .func f (pushs L m caps)
  | .tuple vs => .tuple (pushs L m vs)
  | a => push0 L m a
def pushE (L : Nat) (m : List Nat) : Ent → Ent
  | .var d tok => .var d (pushTok L m tok)
  | .ref a => .ref (push L m a)
  | .row sz xs => .row sz xs
  | .map l => .map l
  | .dead => .dead
def pushEs (L : Nat) (m : List Nat) : List Ent → List Ent
  | [] => []
  | e :: r => pushE L m e :: pushEs L m r
def setAll {α : Type} : List α → List Nat → List α → List α
  | l, [], r => l ++ r
  | l, x :: m, e :: r => setAll (l.set x e) m r
  | l, _ :: _, [] => l

theorem posOf_none : ∀ {m : List Nat} {x : Nat}, posOf m x = none → ∀ i : Nat, m[i]? ≠ some x
  | [], x, _, i, h => by simp at h
  | a :: m, x, h, i, hi => by
    simp only [posOf] at h
    split at h
    · cases h
    rename_i hb
    split at h
    · cases h
    rename_i hj
    cases i with
    | zero => simp at hi; subst hi; rw [Nat.beq_refl] at hb; cases hb
    | succ i => exact posOf_none hj i (by simpa using hi)

theorem nodupB_inj : ∀ {m : List Nat}, nodupB m = true → ∀ {i j x : Nat}, m[i]? = some x → m[j]? = some x → i = j
  | [], _, i, j, x, h, _ => by simp at h
  | a :: m, h, i, j, x, hi, hj => by
    simp only [nodupB] at h
    split at h
    case h_2 => cases h
    rename_i hp
    cases i with
    | zero =>
      cases j with
      | zero => rfl
      | succ j => simp at hi; subst hi; exact absurd (by simpa using hj) (posOf_none hp j)
    | succ i =>
      cases j with
      | zero => simp at hj; subst hj; exact absurd (by simpa using hi) (posOf_none hp i)
      | succ j =>
        have := nodupB_inj (i := i) (j := j) (x := x) h (by simpa using hi) (by simpa using hj)
        omega

theorem setAll_length {α : Type} : ∀ {l : List α} {m : List Nat} {r : List α}, m.length ≤ r.length → (setAll l m r).length = l.length + (r.length - m.length)
  | l, [], r, _ => by simp [setAll]
  | l, x :: m, e :: r, h => by
    simp only [setAll]
    rw [setAll_length (by simpa using h)]
    simp
  | l, _ :: _, [], h => by simp at h

theorem setAll_push {α : Type} : ∀ {l : List α} {m : List Nat} {r : List α}, nodupB m = true → (∀ i x : Nat, m[i]? = some x → x < l.length) → m.length ≤ r.length → ∀ i, i < r.length → (setAll l m r)[pushX l.length m i]? = r[i]?
  | l, [], r, _, _, _, i, hi => by
    simp only [setAll, pushX]
    rw [List.getElem?_append_right (by omega)]
    congr 1; omega
  | l, x :: m, e :: r, hd, hm, hl, i, hi => by
    have hd' : nodupB m = true ∧ posOf m x = none := by
      simp only [nodupB] at hd
      split at hd
      · rename_i h; exact ⟨hd, h⟩
      · cases hd
    have hx := hm 0 x rfl
    have ih := fun i hi => setAll_push (l := l.set x e) (m := m) (r := r) hd'.1 (fun i y hy => by simpa using hm (i + 1) y (by simpa using hy)) (by simpa using hl) i hi
    simp only [List.length_set] at ih
    simp only [setAll]
    cases i with
    | succ i => simpa only [pushX, List.getElem?_cons_succ] using ih i (by simpa using hi)
    | zero =>
      simp only [pushX, List.getElem?_cons_zero]
      have key : ∀ (m : List Nat) (r : List α) (l : List α), posOf m x = none → m.length ≤ r.length → x < l.length → (setAll l m r)[x]? = l[x]? := by
        intro m
        induction m with
        | nil => intro r l _ _ hx; simp only [setAll]; exact List.getElem?_append_left hx
        | cons a m ihm =>
          intro r l hp hl hx
          cases r with
          | nil => simp at hl
          | cons e' r =>
            simp only [setAll]
            have ha : a ≠ x := fun h => by
              subst h
              simp only [posOf, Nat.beq_refl] at hp
              cases hp
            have hp' : posOf m x = none := by
              simp only [posOf, nbeq_ne ha] at hp
              split at hp
              · cases hp
              · rename_i h; exact h
            rw [ihm r _ hp' (by simpa using hl) (by simpa using hx)]
            exact List.getElem?_set_ne ha
      rw [key m r _ hd'.2 (by simpa using hl) (by simpa using hx)]
      simp [hx]
  | l, _ :: _, [], _, _, h, _, _ => by simp at h

theorem setAll_other {α : Type} {x : Nat} : ∀ {m : List Nat} {r l : List α}, (∀ i : Nat, m[i]? ≠ some x) → m.length ≤ r.length → x < l.length → (setAll l m r)[x]? = l[x]?
  | [], r, l, _, _, hx => by simp only [setAll]; exact List.getElem?_append_left hx
  | a :: m, [], l, _, hl, _ => by simp at hl
  | a :: m, e :: r, l, hp, hl, hx => by
    simp only [setAll]
    have ha : a ≠ x := fun h => hp 0 (by simp [h])
    rw [setAll_other (fun i => by simpa using hp (i + 1)) (by simpa using hl) (by simpa using hx)]
    exact List.getElem?_set_ne ha

theorem pushX_some {L : Nat} : ∀ {m : List Nat} {i x : Nat}, m[i]? = some x → pushX L m i = x
  | a :: m, 0, x, h => by simp at h; simp [pushX, h]
  | a :: m, i + 1, x, h => by simp only [pushX]; exact pushX_some (by simpa using h)
theorem pushX_ge {L : Nat} : ∀ {m : List Nat} {i : Nat}, m.length ≤ i → pushX L m i = L + (i - m.length)
  | [], i, _ => by simp [pushX]
  | a :: m, 0, h => by simp at h
  | a :: m, i + 1, h => by
    simp only [pushX]
    rw [pushX_ge (by simpa using h)]
    simp

/-- Each place of the new list is one of the call's, or one that was not handed. -/
theorem setAll_cases {α : Type} {l : List α} {m : List Nat} {r : List α} (hd : nodupB m = true) (hm : ∀ i x : Nat, m[i]? = some x → x < l.length) (hl : m.length ≤ r.length) {x : Nat} (hx : x < (setAll l m r).length) :
    (∃ i, i < r.length ∧ x = pushX l.length m i) ∨ (x < l.length ∧ ∀ i : Nat, m[i]? ≠ some x) := by
  rw [setAll_length hl] at hx
  rcases Nat.lt_or_ge x l.length with h | h
  · cases hp : posOf m x with
    | none => exact .inr ⟨h, posOf_none hp⟩
    | some i =>
      have := posOf_some hp
      have hi := (List.getElem?_eq_some_iff.1 this).1
      exact .inl ⟨i, by omega, (pushX_some this).symm⟩
  · refine .inl ⟨m.length + (x - l.length), by omega, ?_⟩
    rw [pushX_ge (by omega)]
    omega

theorem pushX_inj {L : Nat} {m : List Nat} (hd : nodupB m = true) (hm : ∀ i x : Nat, m[i]? = some x → x < L) {i j : Nat} (h : pushX L m i = pushX L m j) : i = j := by
  rcases Nat.lt_or_ge i m.length with hi | hi
  · have h1 := List.getElem?_eq_getElem hi
    rw [pushX_some h1] at h
    rcases Nat.lt_or_ge j m.length with hj | hj
    · have h2 := List.getElem?_eq_getElem hj
      rw [pushX_some h2] at h
      rw [← h] at h2
      exact nodupB_inj hd h1 h2
    · rw [pushX_ge hj] at h
      have := hm i _ h1
      omega
  · rw [pushX_ge hi] at h
    rcases Nat.lt_or_ge j m.length with hj | hj
    · have h2 := List.getElem?_eq_getElem hj
      rw [pushX_some h2] at h
      have := hm j _ h2
      omega
    · rw [pushX_ge hj] at h
      omega

/-! ### Into the call -/

theorem handed_spec {m0 : List Nat} {es : List Ent} : ∀ {m : List Nat} {es0 : List Ent}, handed m0 es m = some es0 → es0.length = m.length ∧ ∀ i x : Nat, m[i]? = some x → ∃ e, es[x]? = some e ∧ es0[i]? = some (pullE m0 e)
  | [], es0, h => by simp only [handed, Option.some.injEq] at h; subst h; exact ⟨rfl, fun i x h => by simp at h⟩
  | x :: m, es0, h => by
    simp only [handed] at h
    split at h
    · cases h
    rename_i e he
    split at h
    · cases h
    rename_i r hr
    simp only [Option.some.injEq] at h
    subst h
    obtain ⟨h1, h2⟩ := handed_spec hr
    refine ⟨by simp [h1], fun i y hy => ?_⟩
    cases i with
    | zero => simp at hy; subst hy; exact ⟨e, he, rfl⟩
    | succ i => simpa using h2 i y (by simpa using hy)

def lamsOf (lam : List (Option Nat)) (m : List Nat) : List (Option Nat) := m.map fun x => lam.getD x none

/-- The call's own context. -/
def Cx.sub (c : Cx) (m : List Nat) (es0 : List Ent) : Cx := ⟨c.w, c.fz, lamsOf c.lam m, es0⟩

theorem sub_lam {c : Cx} (hc : CxOK c) {m : List Nat} {es0 : List Ent} (hh : handed m c.es m = some es0) {i x : Nat} (hx : m[i]? = some x) : (c.sub m es0).lam[i]? = c.lam[x]? := by
  obtain ⟨e, he, _⟩ := (handed_spec hh).2 i x hx
  have hl := (List.getElem?_eq_some_iff.1 he).1
  rw [← hc.len] at hl
  simp only [Cx.sub, lamsOf, List.getElem?_map, hx, Option.map_some, List.getD_eq_getElem?_getD, List.getElem?_eq_getElem hl, Option.getD_some]

theorem RowC.pull {c : Cx} (hc : CxOK c) {m : List Nat} {es0 : List Ent} (hh : handed m c.es m = some es0) {i y : Nat} (hi : m[i]? = some y) {xs : List D} {v : Value} (h : RowC c y xs v) : RowC (c.sub m es0) i xs v := by
  intro sz xs' he
  obtain ⟨e, h1, h2⟩ := (handed_spec hh).2 i y hi
  have he : es0[i]? = some (.row sz xs') := he
  rw [h2] at he
  cases e with
  | row sz0 xs0 =>
    simp only [pullE, Option.some.injEq, Ent.row.injEq] at he
    obtain ⟨rfl, rfl⟩ := he
    obtain ⟨h3, h4⟩ := h _ _ h1
    refine ⟨h3, fun hl => ⟨(h4 hl).1, ?_⟩⟩
    have hlam := sub_lam hc hh hi
    rcases (h4 hl).2 with ⟨h8, h9, h10⟩ | ⟨b, cap, cs, T, h8, h9⟩
    · exact .inl ⟨h8, h9, hlam.trans h10⟩
    · exact .inr ⟨b, cap, cs, T, hlam.trans h8, h9⟩
  | _ => simp [pullE] at he

theorem pullE_gone {m : List Nat} {e : Ent} (h : e.gone = true) : (pullE m e).gone = true := by cases e <;> simp_all [Ent.gone, pullE]
theorem pullE_isVar {m : List Nat} {e : Ent} (h : e.isVar = false) : (pullE m e).isVar = false := by cases e <;> simp_all [Ent.isVar, pullE]

theorem pullTok_mem {m : List Nat} : ∀ {tok : List (List Nat × Nat)} {p : List Nat} {i : Nat}, (p, i) ∈ pullTok m tok → ∃ y : Nat, m[i]? = some y ∧ (p, y) ∈ tok
  | [], p, i, h => by simp [pullTok] at h
  | (q, y) :: r, p, i, h => by
    simp only [pullTok] at h
    split at h
    · rename_i j hj
      rcases List.mem_cons.1 h with h | h
      · simp only [Prod.mk.injEq] at h
        obtain ⟨rfl, rfl⟩ := h
        exact ⟨y, posOf_some hj, List.mem_cons_self ..⟩
      · obtain ⟨y', h1, h2⟩ := pullTok_mem h
        exact ⟨y', h1, List.mem_cons_of_mem _ h2⟩
    · obtain ⟨y', h1, h2⟩ := pullTok_mem h
      exact ⟨y', h1, List.mem_cons_of_mem _ h2⟩

theorem TokOK.pull {c : Cx} (hc : CxOK c) {m : List Nat} {es0 : List Ent} (hh : handed m c.es m = some es0) {d : D} {tok : List (List Nat × Nat)} {f : Nat → Value} (h : TokOK c d tok f) : TokOK (c.sub m es0) d (pullTok m tok) f := fun p j hp => by
  obtain ⟨y, hy1, hy2⟩ := pullTok_mem hp
  obtain ⟨g1, ⟨ez, g2, g2'⟩, xs, g3, g4⟩ := h p y hy2
  obtain ⟨ey, k1, k2⟩ := (handed_spec hh).2 j y hy1
  rw [g2] at k1
  simp only [Option.some.injEq] at k1
  subst k1
  exact ⟨g1, ⟨_, k2, pullE_isVar g2'⟩, xs, g3, g4.pull hc hh hy1⟩

theorem VR.pull0 {c : Cx} (hc : CxOK c) {m : List Nat} {es0 : List Ent} (hh : handed m c.es m = some es0) {a : AV} {v : Value} (h : VR c a v) : VR (c.sub m es0) (pull0 m a) v := by
  cases h with
  | undef v => exact .undef v
  | data h => exact .data h
  | nilptr => exact .nilptr
  | cptr h1 h2 => exact .cptr h1 h2
  | nilfunc => exact .nilfunc
  | func h1 h2 => exact .undef _
  | tuple h1 h2 => exact .undef _
  | mp h1 h2 =>
    simp only [Go.W.pull0]
    split
    · rename_i i hi
      have hi' := posOf_some hi
      obtain ⟨ey, k1, k2⟩ := (handed_spec hh).2 i _ hi'
      rw [h1] at k1
      simp only [Option.some.injEq] at k1
      subst k1
      exact .mp k2 ((sub_lam hc hh hi').trans h2)
    · exact .undef _
  | ptr h1 h2 h3 =>
    simp only [Go.W.pull0]
    split
    · rename_i i hi
      have hm := posOf_some hi
      obtain ⟨e, g1, g2⟩ := (handed_spec hh).2 i _ hm
      rw [h1] at g1
      simp only [Option.some.injEq] at g1
      subst g1
      exact .ptr (c := c.sub m es0) g2 h2 ((sub_lam hc hh hm).trans h3)
    · exact .undef _
  | refp h1 h2 =>
    simp only [Go.W.pull0]
    split
    · rename_i i hi
      have hm := posOf_some hi
      obtain ⟨e, g1, g2⟩ := (handed_spec hh).2 i _ hm
      rw [h1] at g1
      simp only [Option.some.injEq] at g1
      subst g1
      exact .refp (c := c.sub m es0) g2 ((sub_lam hc hh hm).trans h2)
    · exact .undef _
  | ptrgone h1 h2 =>
    simp only [Go.W.pull0]
    split
    · rename_i i hi
      have hm := posOf_some hi
      obtain ⟨e, g1, g2⟩ := (handed_spec hh).2 i _ hm
      rw [h1] at g1
      simp only [Option.some.injEq] at g1
      subst g1
      exact .ptrgone (c := c.sub m es0) g2 (pullE_gone h2)
    · exact .undef _
  | slgone h1 h2 =>
    simp only [Go.W.pull0]
    split
    · rename_i i hi
      have hm := posOf_some hi
      obtain ⟨e, g1, g2⟩ := (handed_spec hh).2 i _ hm
      rw [h1] at g1
      simp only [Option.some.injEq] at g1
      subst g1
      exact .slgone (c := c.sub m es0) g2 (pullE_gone h2)
    · exact .undef _
  | sl h1 h2 h3 h4 h5 h6 h7 =>
    simp only [Go.W.pull0]
    split
    · rename_i i hi
      have hm := posOf_some hi
      obtain ⟨e, g1, g2⟩ := (handed_spec hh).2 i _ hm
      rw [h1] at g1
      simp only [Option.some.injEq] at g1
      subst g1
      exact .sl (c := c.sub m es0) g2 h2 ((sub_lam hc hh hm).trans h3) h4 h5 h6 h7
    · exact .undef _
  | row h1 h2 hv h3 =>
    simp only [Go.W.pull0]
    split
    · rename_i i hi
      have hm := posOf_some hi
      obtain ⟨e, g1, g2⟩ := (handed_spec hh).2 i _ hm
      rw [h2] at g1
      simp only [Option.some.injEq] at g1
      subst g1
      exact .row (c := c.sub m es0) h1 g2 (pullE_isVar hv) (h3.pull hc hh hm)
    · exact .data h1
  | rich h1 h2 => exact VR.mkRich h1 (h2.pull hc hh)

theorem pulls_map (m : List Nat) : ∀ l : List AV, pulls m l = l.map (pull0 m)
  | [] => rfl
  | a :: r => by simp [pulls, pulls_map m r]
theorem pullL_map (m : List Nat) : ∀ l : List AV, pullL m l = l.map (pull m)
  | [] => rfl
  | a :: r => by simp [pullL, pullL_map m r]
theorem pushs_map (L : Nat) (m : List Nat) : ∀ l : List AV, pushs L m l = l.map (push0 L m)
  | [] => rfl
  | a :: r => by simp [pushs, pushs_map L m r]
theorem pushEs_map (L : Nat) (m : List Nat) : ∀ l : List Ent, pushEs L m l = l.map (pushE L m)
  | [] => rfl
  | a :: r => by simp [pushEs, pushEs_map L m r]

theorem VR.pull {c : Cx} (hc : CxOK c) {m : List Nat} {es0 : List Ent} (hh : handed m c.es m = some es0) {a : AV} {v : Value} (h : VR c a v) : VR (c.sub m es0) (pull m a) v := by
  cases h with
  | func h1 h2 =>
    simp only [Go.W.pull, pulls_map]
    refine .func (by simpa using h1) fun i hi => ?_
    simp only [List.getElem_map]
    exact (h2 i (by simpa using hi)).pull0 hc hh
  | undef v => exact VR.pull0 hc hh (.undef v)
  | data h => exact VR.pull0 hc hh (.data h)
  | nilptr => exact VR.pull0 hc hh .nilptr
  | cptr h1 h2 => exact VR.pull0 hc hh (.cptr h1 h2)
  | nilfunc => exact VR.pull0 hc hh .nilfunc
  | mp h1 h2 => exact VR.pull0 hc hh (.mp h1 h2)
  | tuple h1 h2 => exact VR.pull0 hc hh (.tuple h1 h2)
  | ptr h1 h2 h3 => exact VR.pull0 hc hh (.ptr h1 h2 h3)
  | refp h1 h2 => exact VR.pull0 hc hh (.refp h1 h2)
  | ptrgone h1 h2 => exact VR.pull0 hc hh (.ptrgone h1 h2)
  | slgone h1 h2 => exact VR.pull0 hc hh (.slgone h1 h2)
  | sl h1 h2 h3 h4 h5 h6 h7 => exact VR.pull0 hc hh (.sl h1 h2 h3 h4 h5 h6 h7)
  | row h1 h2 hv h3 => exact VR.pull0 hc hh (.row h1 h2 hv h3)
  | rich h1 h2 => exact VR.pull0 hc hh (.rich h1 h2)

theorem CxOK.sub {c : Cx} (hc : CxOK c) {m : List Nat} (hd : nodupB m = true) {es0 : List Ent} (hh : handed m c.es m = some es0) : CxOK (c.sub m es0) := by
  obtain ⟨s1, s2⟩ := handed_spec hh
  have hin : ∀ (i b : Nat), (c.sub m es0).lam[i]? = some (some b) → ∃ x : Nat, m[i]? = some x ∧ c.lam[x]? = some (some b) := fun i b h => by
    have hl := (List.getElem?_eq_some_iff.1 h).1
    simp only [Cx.sub, lamsOf, List.length_map] at hl
    have hx := List.getElem?_eq_getElem hl
    rw [sub_lam hc hh hx] at h
    exact ⟨_, hx, h⟩
  refine ⟨hc.fr, by simp [Cx.sub, lamsOf, s1], fun i j b hi hj => ?_, fun i b hi => ?_, fun i e hi => ?_⟩
  · obtain ⟨x, h1, h2⟩ := hin i b hi
    obtain ⟨y, h3, h4⟩ := hin j b hj
    have := hc.inj x y b h2 h4
    subst this
    exact nodupB_inj hd h1 h3
  · obtain ⟨x, h1, h2⟩ := hin i b hi
    exact hc.low x b h2
  · have hl : i < m.length := by rw [← s1]; exact (List.getElem?_eq_some_iff.1 hi).1
    have hx := List.getElem?_eq_getElem hl
    obtain ⟨e0, h1, h2⟩ := s2 i _ hx
    have hi : es0[i]? = some e := hi
    rw [h2] at hi
    simp only [Option.some.injEq] at hi
    subst hi
    have hlam := sub_lam hc hh hx
    have h0 := hc.ent _ e0 h1
    cases e0 with
    | var d tok =>
      obtain ⟨b, cs, T, e1, e2, e3, e4, e5, e6⟩ := h0
      refine ⟨b, cs, T, hlam.trans e1, e2, e3, e4, e5, fun p j hp => ?_⟩
      obtain ⟨y, hy1, hy2⟩ := pullTok_mem hp
      obtain ⟨g1, ⟨ez, g2, g2'⟩, xs, g3, g4⟩ := e6 p y hy2
      obtain ⟨ey, k1, k2⟩ := s2 j y hy1
      rw [g2] at k1
      simp only [Option.some.injEq] at k1
      subst k1
      exact ⟨g1, ⟨_, k2, pullE_isVar g2'⟩, xs, g3, g4.pull hc hh hy1⟩
    | ref a =>
      obtain ⟨b, v, T, e1, e2, e3, e4⟩ := h0
      exact ⟨b, v, T, hlam.trans e1, e2, e3.pull hc hh, e4⟩
    | row sz xs =>
      rcases h0 with ⟨h0, h0'⟩ | ⟨b, cs, T, e1, e2, e3, e4⟩
      · exact .inl ⟨h0, hlam.trans h0'⟩
      · exact .inr ⟨b, cs, T, hlam.trans e1, e2, e3, e4⟩
    | map l =>
      obtain ⟨b, arr, clock, e1, e2, e3, e4⟩ := h0
      exact ⟨b, arr, clock, hlam.trans e1, e2, e3, e4⟩
    | dead => trivial

/-! ### Out of the call -/

/-- The caller's context behind the call. -/
def Cx.back (c c1 : Cx) (m : List Nat) : Cx := ⟨c1.w, c1.fz, setAll c.lam m c1.lam, setAll c.es m (pushEs c.es.length m c1.es)⟩

theorem pushE_gone {L : Nat} {m : List Nat} {e : Ent} (h : e.gone = true) : (pushE L m e).gone = true := by cases e <;> simp_all [Ent.gone, pushE]
theorem pushE_isVar {L : Nat} {m : List Nat} {e : Ent} (h : e.isVar = false) : (pushE L m e).isVar = false := by cases e <;> simp_all [Ent.isVar, pushE]

section
variable {c c1 : Cx} {m : List Nat} {es0 : List Ent}

theorem in_range (hh : handed m c.es m = some es0) : ∀ (i x : Nat), m[i]? = some x → x < c.es.length := fun i x h => by
  obtain ⟨e, h1, _⟩ := (handed_spec hh).2 i x h
  exact (List.getElem?_eq_some_iff.1 h1).1

theorem len_ge (hh : handed m c.es m = some es0) (hr : Reach (c.sub m es0) c1) : m.length ≤ c1.es.length := by
  rcases Nat.eq_zero_or_pos m.length with h0 | h0
  · omega
  · have s1 := (handed_spec hh).1
    obtain ⟨e', h1, _⟩ := hr.ents (m.length - 1) _ (List.getElem?_eq_getElem (l := es0) (show m.length - 1 < es0.length by omega))
    have := (List.getElem?_eq_some_iff.1 h1).1
    omega

theorem back_es (hd : nodupB m = true) (hh : handed m c.es m = some es0) (hr : Reach (c.sub m es0) c1) {i : Nat} {e : Ent} (hi : c1.es[i]? = some e) : (c.back c1 m).es[pushX c.es.length m i]? = some (pushE c.es.length m e) := by
  have hl := (List.getElem?_eq_some_iff.1 hi).1
  have := setAll_push (l := c.es) (m := m) (r := pushEs c.es.length m c1.es) hd (in_range hh) (by rw [pushEs_map]; simpa using len_ge hh hr) i (by rw [pushEs_map]; simpa using hl)
  simp only [Cx.back]
  rw [this, pushEs_map]
  simp [hi]

theorem back_lam (hc : CxOK c) (hd : nodupB m = true) (hh : handed m c.es m = some es0) (hr : Reach (c.sub m es0) c1) (h1 : CxOK c1) {i : Nat} (hi : i < c1.es.length) : (c.back c1 m).lam[pushX c.es.length m i]? = c1.lam[i]? := by
  have := setAll_push (l := c.lam) (m := m) (r := c1.lam) hd (fun i x h => by rw [hc.len]; exact in_range hh i x h) (by rw [h1.len]; exact len_ge hh hr) i (by rw [h1.len]; exact hi)
  simp only [Cx.back]
  rw [← hc.len]
  exact this

theorem RowC.push (hc : CxOK c) (hd : nodupB m = true) (hh : handed m c.es m = some es0) (hr : Reach (c.sub m es0) c1) (h1 : CxOK c1) {y : Nat} (hy : y < c1.es.length) {xs : List D} {v : Value} (h : RowC c1 y xs v) :
    RowC (c.back c1 m) (pushX c.es.length m y) xs v := by
  intro sz xs' he
  rw [back_es hd hh hr (List.getElem?_eq_getElem hy)] at he
  have hee := List.getElem?_eq_getElem hy
  revert he hee
  generalize c1.es[y] = e
  intro he hee
  cases e with
  | row sz0 xs0 =>
    simp only [pushE, Option.some.injEq, Ent.row.injEq] at he
    obtain ⟨rfl, rfl⟩ := he
    obtain ⟨h3, h4⟩ := h _ _ hee
    refine ⟨h3, fun hl => ⟨(h4 hl).1, ?_⟩⟩
    have hlam := back_lam hc hd hh hr h1 hy
    rcases (h4 hl).2 with ⟨h8, h9, h10⟩ | ⟨b, cap, cs, T, h8, h9⟩
    · exact .inl ⟨h8, h9, hlam.trans h10⟩
    · exact .inr ⟨b, cap, cs, T, hlam.trans h8, h9⟩
  | _ => simp [pushE] at he

theorem pushTok_mem {L : Nat} {m : List Nat} : ∀ {tok : List (List Nat × Nat)} {p : List Nat} {y : Nat}, (p, y) ∈ pushTok L m tok → ∃ i, y = pushX L m i ∧ (p, i) ∈ tok
  | [], p, y, h => by simp [pushTok] at h
  | (q, i) :: r, p, y, h => by
    simp only [pushTok] at h
    rcases List.mem_cons.1 h with h | h
    · simp only [Prod.mk.injEq] at h
      obtain ⟨rfl, rfl⟩ := h
      exact ⟨i, rfl, List.mem_cons_self ..⟩
    · obtain ⟨j, h1, h2⟩ := pushTok_mem h
      exact ⟨j, h1, List.mem_cons_of_mem _ h2⟩

theorem TokOK.push (hc : CxOK c) (hd : nodupB m = true) (hh : handed m c.es m = some es0) (hr : Reach (c.sub m es0) c1) (h1 : CxOK c1) {d : D} {tok : List (List Nat × Nat)} {f : Nat → Value} (h : TokOK c1 d tok f) : TokOK (c.back c1 m) d (pushTok c.es.length m tok) f := fun p j hp => by
  obtain ⟨y, rfl, hy2⟩ := pushTok_mem hp
  obtain ⟨g1, ⟨ez, g2, g2'⟩, xs, g3, g4⟩ := h p y hy2
  exact ⟨g1, ⟨_, back_es hd hh hr g2, pushE_isVar g2'⟩, xs, g3, g4.push hc hd hh hr h1 (List.getElem?_eq_some_iff.1 g2).1⟩

theorem VR.push0 (hc : CxOK c) (hd : nodupB m = true) (hh : handed m c.es m = some es0) (hr : Reach (c.sub m es0) c1) (h1 : CxOK c1) {a : AV} {v : Value} (h : VR c1 a v) : VR (c.back c1 m) (push0 c.es.length m a) v := by
  cases h with
  | undef v => exact .undef v
  | data h => exact .data h
  | nilptr => exact .nilptr
  | cptr h1 h2 => exact .cptr h1 h2
  | nilfunc => exact .nilfunc
  | func h1 h2 => exact .undef _
  | tuple h1 h2 => exact .undef _
  | mp g1 g2 => exact .mp (back_es hd hh hr g1) ((back_lam hc hd hh hr h1 (List.getElem?_eq_some_iff.1 g1).1).trans g2)
  | ptr g1 g2 g3 => exact .ptr (back_es hd hh hr g1) g2 ((back_lam hc hd hh hr h1 (List.getElem?_eq_some_iff.1 g1).1).trans g3)
  | refp g1 g2 => exact .refp (back_es hd hh hr g1) ((back_lam hc hd hh hr h1 (List.getElem?_eq_some_iff.1 g1).1).trans g2)
  | ptrgone g1 g2 => exact .ptrgone (back_es hd hh hr g1) (pushE_gone g2)
  | slgone g1 g2 => exact .slgone (back_es hd hh hr g1) (pushE_gone g2)
  | sl g1 g2 g3 g4 g5 g6 g7 => exact .sl (back_es hd hh hr g1) g2 ((back_lam hc hd hh hr h1 (List.getElem?_eq_some_iff.1 g1).1).trans g3) g4 g5 g6 g7
  | row g1 g2 gv g3 => exact .row g1 (back_es hd hh hr g2) (pushE_isVar gv) (g3.push hc hd hh hr h1 (List.getElem?_eq_some_iff.1 g2).1)
  | rich g1 g2 => exact .rich g1 (g2.push hc hd hh hr h1)

theorem VR.push (hc : CxOK c) (hd : nodupB m = true) (hh : handed m c.es m = some es0) (hr : Reach (c.sub m es0) c1) (h1 : CxOK c1) {a : AV} {v : Value} (h : VR c1 a v) : VR (c.back c1 m) (push c.es.length m a) v := by
  cases h with
  | func g1 g2 =>
    simp only [Go.W.push, pushs_map]
    refine .func (by simpa using g1) fun i hi => ?_
    simp only [List.getElem_map]
    exact (g2 i (by simpa using hi)).push0 hc hd hh hr h1
  | tuple g1 g2 =>
    simp only [Go.W.push, pushs_map]
    refine .tuple (by simpa using g1) fun i hi => ?_
    simp only [List.getElem_map]
    exact (g2 i (by simpa using hi)).push0 hc hd hh hr h1
  | undef v => exact VR.push0 hc hd hh hr h1 (.undef v)
  | data h => exact VR.push0 hc hd hh hr h1 (.data h)
  | nilptr => exact VR.push0 hc hd hh hr h1 .nilptr
  | cptr g1 g2 => exact VR.push0 hc hd hh hr h1 (.cptr g1 g2)
  | nilfunc => exact VR.push0 hc hd hh hr h1 .nilfunc
  | mp g1 g2 => exact VR.push0 hc hd hh hr h1 (.mp g1 g2)
  | ptr g1 g2 g3 => exact VR.push0 hc hd hh hr h1 (.ptr g1 g2 g3)
  | refp g1 g2 => exact VR.push0 hc hd hh hr h1 (.refp g1 g2)
  | ptrgone g1 g2 => exact VR.push0 hc hd hh hr h1 (.ptrgone g1 g2)
  | slgone g1 g2 => exact VR.push0 hc hd hh hr h1 (.slgone g1 g2)
  | sl g1 g2 g3 g4 g5 g6 g7 => exact VR.push0 hc hd hh hr h1 (.sl g1 g2 g3 g4 g5 g6 g7)
  | row g1 g2 gv g3 => exact VR.push0 hc hd hh hr h1 (.row g1 g2 gv g3)
  | rich g1 g2 => exact VR.push0 hc hd hh hr h1 (.rich g1 g2)

theorem back_ok (hc : CxOK c) (hd : nodupB m = true) (hh : handed m c.es m = some es0) (hr : Reach (c.sub m es0) c1) (h1 : CxOK c1) : CxOK (c.back c1 m) ∧ Reach c (c.back c1 m) := by
  obtain ⟨s1, s2⟩ := handed_spec hh
  have hlen := len_ge hh hr
  have hmr := in_range hh
  have hml : ∀ i x : Nat, m[i]? = some x → x < c.lam.length := fun i x h => by rw [hc.len]; exact hmr i x h
  have hlen' : m.length ≤ c1.lam.length := by rw [h1.len]; exact hlen
  have hpl : (pushEs c.es.length m c1.es).length = c1.es.length := by rw [pushEs_map]; simp
  have eslen : (c.back c1 m).es.length = c.es.length + (c1.es.length - m.length) := by
    simp only [Cx.back]; rw [setAll_length (by rw [hpl]; exact hlen), hpl]
  have lamlen : (c.back c1 m).lam.length = c.lam.length + (c1.lam.length - m.length) := by
    simp only [Cx.back]; rw [setAll_length hlen']
  have hlamo : ∀ x, x < c.es.length → (∀ i : Nat, m[i]? ≠ some x) → (c.back c1 m).lam[x]? = c.lam[x]? := fun x hx hn => setAll_other hn hlen' (by rw [hc.len]; exact hx)
  have heso : ∀ x, x < c.es.length → (∀ i : Nat, m[i]? ≠ some x) → (c.back c1 m).es[x]? = c.es[x]? := fun x hx hn => setAll_other hn (by rw [hpl]; exact hlen) hx
  -- where a block of the new context lies
  have hcase : ∀ x, x < (c.back c1 m).es.length → (∃ i, i < c1.es.length ∧ x = pushX c.es.length m i) ∨ (x < c.es.length ∧ ∀ i : Nat, m[i]? ≠ some x) := fun x hx => by
    have := setAll_cases (l := c.es) (m := m) (r := pushEs c.es.length m c1.es) hd hmr (by rw [hpl]; exact hlen) (x := x) hx
    rwa [hpl] at this
  -- a block of the call's is one of the handed ones', or new
  have hsrc : ∀ (i b : Nat), c1.lam[i]? = some (some b) → (∃ x : Nat, m[i]? = some x ∧ c.lam[x]? = some (some b)) ∨ c.w.heap.size ≤ b := fun i b hb => by
    rcases Nat.lt_or_ge i m.length with hi | hi
    · have hx := List.getElem?_eq_getElem hi
      obtain ⟨e, he⟩ : ∃ e, es0[i]? = some e := ⟨_, List.getElem?_eq_getElem (by omega)⟩
      obtain ⟨e', _, hs⟩ := hr.ents i e he
      rcases hs.lam with hl | ⟨b', hb', hge⟩
      · rw [hl, sub_lam hc hh hx] at hb
        exact .inl ⟨_, hx, hb⟩
      · rw [hb] at hb'
        simp only [Option.some.injEq] at hb'
        subst hb'
        exact .inr hge
    · exact .inr (hr.news i b (by simp only [Cx.sub]; omega) hb)
  have hfar : ∀ (i x b : Nat), c1.lam[i]? = some (some b) → x < c.es.length → (∀ i : Nat, m[i]? ≠ some x) → c.lam[x]? ≠ some (some b) := fun i x b hi hx hn hb => by
    rcases hsrc i b hi with ⟨y, h2, h3⟩ | h2
    · have := hc.inj x y b hb h3
      subst this
      exact hn i h2
    · have := hc.low x b hb; omega
  have hRe : Reach c (c.back c1 m) := {
    size := hr.size
    rest := hr.rest
    ext := hr.ext
    keep := hr.keep
    frame := fun b hb hn => by
      refine hr.frame b hb fun i hi => ?_
      have hl := (List.getElem?_eq_some_iff.1 hi).1
      simp only [Cx.sub, lamsOf, List.length_map] at hl
      have hx := List.getElem?_eq_getElem hl
      rw [sub_lam hc hh hx] at hi
      exact hn _ hi
    ents := fun x e hx => by
      have hxl := (List.getElem?_eq_some_iff.1 hx).1
      cases hp : posOf m x with
      | none => exact ⟨e, (heso x hxl (posOf_none hp)).trans hx, .stay (hlamo x hxl (posOf_none hp)) e⟩
      | some i =>
        have hi := posOf_some hp
        obtain ⟨e0, k1, k2⟩ := s2 i x hi
        rw [hx] at k1
        simp only [Option.some.injEq] at k1
        subst k1
        obtain ⟨e1, k3, k4⟩ := hr.ents i _ k2
        have hpx := pushX_some (L := c.es.length) hi
        have k5 := back_es hd hh hr k3
        rw [hpx] at k5
        have hil := (List.getElem?_eq_some_iff.1 k3).1
        have k6 := back_lam hc hd hh hr h1 hil
        rw [hpx] at k6
        have k7 := sub_lam hc hh hi
        have hlam : c1.lam[i]? = (c.sub m es0).lam[i]? → (c.back c1 m).lam[x]? = c.lam[x]? := fun h => k6.trans (h.trans k7)
        have hlam2 : (c1.lam[i]? = (c.sub m es0).lam[i]? ∨ ∃ b, c1.lam[i]? = some (some b) ∧ c.w.heap.size ≤ b) → ((c.back c1 m).lam[x]? = c.lam[x]? ∨ ∃ b, (c.back c1 m).lam[x]? = some (some b) ∧ c.w.heap.size ≤ b) := fun h => by
          rcases h with h | ⟨b, hb, hge⟩
          · exact .inl (hlam h)
          · exact .inr ⟨b, k6.trans hb, hge⟩
        refine ⟨_, k5, ?_⟩
        cases e with
        | var d t =>
          rcases k4 with ⟨d', t', rfl, hs, hl⟩ | ⟨hg, hl⟩
          · exact .inl ⟨d', _, rfl, hs, hlam hl⟩
          · exact .inr ⟨pushE_gone hg, hlam2 hl⟩
        | ref a =>
          obtain ⟨a', rfl, hl⟩ := k4
          exact ⟨_, rfl, hlam hl⟩
        | row sz xs =>
          obtain ⟨xs', rfl, hy, hk, hl⟩ := k4
          exact ⟨xs', rfl, hy, fun h => hlam (hk h), hlam2 hl⟩
        | map l =>
          obtain ⟨l', rfl, hl⟩ := k4
          exact ⟨l', rfl, hlam hl⟩
        | dead =>
          obtain ⟨rfl, hl⟩ := k4
          exact ⟨rfl, hlam hl⟩
    news := fun x b hx hb => by
      have hxl := (List.getElem?_eq_some_iff.1 hb).1
      rw [lamlen, hc.len, h1.len] at hxl
      rcases hcase x (by rw [eslen]; exact hxl) with ⟨i, hi, rfl⟩ | ⟨h2, _⟩
      · rw [back_lam hc hd hh hr h1 hi] at hb
        rcases hsrc i b hb with ⟨y, h2, _⟩ | h2
        · have := hmr i y h2
          rw [pushX_some h2] at hx
          omega
        · exact h2
      · omega }
  refine ⟨⟨h1.fr, by rw [eslen, lamlen, hc.len, h1.len], fun x y b hx hy => ?_, fun x b hx => ?_, fun x e hx => ?_⟩, hRe⟩
  · have hxl := (List.getElem?_eq_some_iff.1 hx).1
    have hyl := (List.getElem?_eq_some_iff.1 hy).1
    rw [lamlen, hc.len, h1.len, ← eslen] at hxl hyl
    rcases hcase x hxl with ⟨i, hi, rfl⟩ | ⟨hx1, hx2⟩
    · rw [back_lam hc hd hh hr h1 hi] at hx
      rcases hcase y hyl with ⟨j, hj, rfl⟩ | ⟨hy1, hy2⟩
      · rw [back_lam hc hd hh hr h1 hj] at hy
        rw [h1.inj i j b hx hy]
      · rw [hlamo y hy1 hy2] at hy
        exact absurd hy (hfar i y b hx hy1 hy2)
    · rw [hlamo x hx1 hx2] at hx
      rcases hcase y hyl with ⟨j, hj, rfl⟩ | ⟨hy1, hy2⟩
      · rw [back_lam hc hd hh hr h1 hj] at hy
        exact absurd hx (hfar j x b hy hx1 hx2)
      · rw [hlamo y hy1 hy2] at hy
        exact hc.inj x y b hx hy
  · have hxl := (List.getElem?_eq_some_iff.1 hx).1
    rw [lamlen, hc.len, h1.len, ← eslen] at hxl
    rcases hcase x hxl with ⟨i, hi, rfl⟩ | ⟨hx1, hx2⟩
    · rw [back_lam hc hd hh hr h1 hi] at hx
      exact h1.low i b hx
    · rw [hlamo x hx1 hx2] at hx
      exact Nat.lt_of_lt_of_le (hc.low x b hx) hr.size
  · have hxl := (List.getElem?_eq_some_iff.1 hx).1
    rcases hcase x hxl with ⟨i, hi, rfl⟩ | ⟨hx1, hx2⟩
    · obtain ⟨e1, hei⟩ : ∃ e1, c1.es[i]? = some e1 := ⟨_, List.getElem?_eq_getElem hi⟩
      rw [back_es hd hh hr hei] at hx
      simp only [Option.some.injEq] at hx
      subst hx
      have hlam := back_lam hc hd hh hr h1 hi
      have h0 := h1.ent i _ hei
      cases e1 with
      | var d tok =>
        obtain ⟨b, cs, T, e1, e2, e3, e4, e5, e6⟩ := h0
        refine ⟨b, cs, T, hlam.trans e1, e2, e3, e4, e5, fun p j hp => ?_⟩
        obtain ⟨y, rfl, hy2⟩ := pushTok_mem hp
        obtain ⟨g1, ⟨ez, g2, g2'⟩, xs, g3, g4⟩ := e6 p y hy2
        exact ⟨g1, ⟨_, back_es hd hh hr g2, pushE_isVar g2'⟩, xs, g3, g4.push hc hd hh hr h1 (List.getElem?_eq_some_iff.1 g2).1⟩
      | ref a =>
        obtain ⟨b, v, T, e1, e2, e3, e4⟩ := h0
        exact ⟨b, v, T, hlam.trans e1, e2, e3.push hc hd hh hr h1, e4⟩
      | row sz xs =>
        rcases h0 with ⟨h0, h0'⟩ | ⟨b, cs, T, e1, e2, e3, e4⟩
        · exact .inl ⟨h0, hlam.trans h0'⟩
        · exact .inr ⟨b, cs, T, hlam.trans e1, e2, e3, e4⟩
      | map l =>
        obtain ⟨b, arr, clock, e1, e2, e3, e4⟩ := h0
        exact ⟨b, arr, clock, hlam.trans e1, e2, e3, e4⟩
      | dead => trivial
    · rw [heso x hx1 hx2] at hx
      have hlam := hlamo x hx1 hx2
      have h0 := hc.ent x e hx
      have hold : ∀ b, c.lam[x]? = some (some b) → c1.w.heap[b]? = c.w.heap[b]? ∧ c1.fz b = c.fz b := fun b hb => by
        refine hr.frame b (hc.low x b hb) fun i hi => ?_
        have hl := (List.getElem?_eq_some_iff.1 hi).1
        simp only [Cx.sub, lamsOf, List.length_map] at hl
        have hy := List.getElem?_eq_getElem hl
        rw [sub_lam hc hh hy] at hi
        have := hc.inj x _ b hb hi
        exact hx2 i (by rw [this]; exact hy)
      cases e with
      | var d tok =>
        obtain ⟨b, cs, T, e1, e2, e3, e4, e5, e6⟩ := h0
        refine ⟨b, cs, T, hlam.trans e1, (hold b e1).1.trans e2, e3, e4.ext hRe.ext, (hold b e1).2.trans e5, fun p z hz => ?_⟩
        obtain ⟨g1, ⟨ez, g2, g2'⟩, xs, g3, g4⟩ := e6 p z hz
        obtain ⟨ez', g5, g6⟩ := hRe.ents z ez g2
        exact ⟨g1, ⟨ez', g5, g6.notVar g2'⟩, xs, g3, g4.mono hRe ⟨g2, g2'⟩⟩
      | ref a =>
        obtain ⟨b, v, T, e1, e2, e3, e4⟩ := h0
        exact ⟨b, v, T, hlam.trans e1, (hold b e1).1.trans e2, e3.mono hRe, (hold b e1).2.trans e4⟩
      | row sz xs =>
        rcases h0 with ⟨h0, h0'⟩ | ⟨b, cs, T, e1, e2, e3, e4⟩
        · exact .inl ⟨h0, hlam.trans h0'⟩
        · exact .inr ⟨b, cs, T, hlam.trans e1, (hold b e1).1.trans e2, (hold b e1).2.trans e3, e4⟩
      | map l =>
        obtain ⟨b, arr, clock, e1, e2, e3, e4⟩ := h0
        exact ⟨b, arr, clock, hlam.trans e1, (hold b e1).1.trans e2, (hold b e1).2.trans e3, e4.ext hRe.ext⟩
      | dead => trivial

end

/-- What a call does, told outright. -/
def Fn (P : Program) (f : FuncId) (args : List AV) (es : List Ent) (r : AV) (es1 : List Ent) : Prop := Spec P f args es fun v e => v = r ∧ e = es1

theorem Fn.call {P : Program} {f : FuncId} {args0 : List AV} {es0 es1 : List Ent} {r : AV} (h : Fn P f args0 es0 r es1) {c : Cx} (hc : CxOK c) {m : List Nat} (hd : nodupB m = true) (hh : handed m c.es m = some es0) {args : List AV}
    (ha : pullL m args = args0) {vals : Array Value} (hs : vals.size = args.length) (hv : ∀ i (h : i < args.length), VR c args[i] (vals.getD i undef)) :
    Calls P f vals c.w fun e w' => ∃ rv c', e = .returned rv ∧ c'.w = w' ∧ CxOK c' ∧ Reach c c' ∧ VR c' (push c.es.length m r) rv ∧ c'.es = setAll c.es m (pushEs c.es.length m es1) := by
  subst ha
  have h0 := h.2 (c.sub m es0) (hc.sub hd hh) rfl vals (by rw [pullL_map]; simpa using hs) fun i hi => by
    have hi' : i < args.length := by rw [pullL_map] at hi; simpa using hi
    have : (pullL m args)[i] = pull m args[i] := by simp [pullL_map]
    rw [this]
    exact (hv i hi').pull hc hh
  refine h0.mono fun e w' => ?_
  rintro ⟨rv, v, c1, rfl, rfl, h1, h2, h3, rfl, rfl⟩
  obtain ⟨k1, k2⟩ := back_ok hc hd hh h2 h1
  exact ⟨rv, c.back c1 m, rfl, rfl, k1, k2, h3.push hc hd hh h2 h1, rfl⟩

end Go.W
