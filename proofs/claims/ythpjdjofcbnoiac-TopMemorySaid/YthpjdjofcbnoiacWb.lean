/-
  Abstract values and entries; contexts; what it means that they stand in a world; that a context goes on.
-/
import Derived.Test.YthpjdjofcbnoiacWa
namespace Go.W

inductive AV where
  | undef
  | data (d : D)
  | ptr (x : Nat) (p : List Nat)
  | cptr (d : D)
  | nilptr
  | row (y : Nat) (xs : List D)
  | sl (x lo n k : Nat)
  | rich (d : D) (tok : List (List Nat × Nat))
  | func (f : FuncId) (caps : List AV)
  | nilfunc
  | mp (x : Nat)
  | tuple (vs : List AV)

inductive Ent where
  | var (d : D) (tok : List (List Nat × Nat))
  | ref (a : AV)
  | row (sz : Nat) (xs : List D)
  | map (kvs : List (D × D))
  | dead

def Ent.isVar : Ent → Bool
  | .var _ _ => true
  | _ => false
/-- It was a variable of ours, and is one no longer; or never was. -/
def Ent.gone : Ent → Bool
  | .row _ _ => true
  | .dead => true
  | _ => false

structure Cx where
  w : World
  fz : Nat → Nat
  lam : List (Option Nat)
  es : List Ent

def VD (w : World) (fz : Nat → Nat) (d : D) (v : Value) : Prop :=
  match d.isAgg with
  | true => ∃ cs, v = .agg cs ∧ cs.size = d.size ∧ DR w fz d (fun o => cs.getD o undef)
  | false => DR w fz d (fun _ => v)

theorem VD.ext {w w' : World} {fz fz' : Nat → Nat} (he : Ext w fz w' fz') {d : D} {v : Value} (h : VD w fz d v) : VD w' fz' d v := by
  unfold VD at *
  split
  · rename_i hd; simp only [hd] at h; obtain ⟨cs, h1, h2, h3⟩ := h; exact ⟨cs, h1, h2, h3.ext he⟩
  · rename_i hd; simp only [hd] at h; exact h.ext he

theorem DR.leaf_cells {w : World} {fz : Nat → Nat} {d : D} {v : Value} (hd : d.isAgg = false) (h : DR w fz d (fun _ => v)) : v.cells = #[v] ∧ d.size = 1 := by
  cases h <;> simp_all [D.isAgg, Value.cells, D.size]

theorem VD.cells {w : World} {fz : Nat → Nat} {d : D} {v : Value} (h : VD w fz d v) : v.cells.size = d.size ∧ DR w fz d (fun o => v.cells.getD o undef) := by
  unfold VD at h
  split at h
  · obtain ⟨cs, rfl, h2, h3⟩ := h; exact ⟨h2, h3⟩
  · rename_i hd
    obtain ⟨h1, h2⟩ := h.leaf_cells hd
    rw [h1, h2]
    refine ⟨rfl, h.congr fun o ho => ?_⟩
    have : o = 0 := by omega
    subst this; rfl

/-- The map's entries, in the order of the world. -/
def MapOK (w : World) (fz : Nat → Nat) : List (D × D) → List MapEntry → Prop
  | [], [] => True
  | (k, v) :: l, e :: m => (VD w fz k e.key ∧ VD w fz v e.val) ∧ MapOK w fz l m
  | _, _ => False
theorem MapOK.ext {w w' : World} {fz fz' : Nat → Nat} (he : Ext w fz w' fz') : ∀ {l : List (D × D)} {m : List MapEntry}, MapOK w fz l m → MapOK w' fz' l m
  | [], [], _ => trivial
  | (_, _) :: _, _ :: _, ⟨⟨h1, h2⟩, h⟩ => ⟨⟨h1.ext he, h2.ext he⟩, MapOK.ext he h⟩
  | (_, _) :: _, [], h => h.elim
  | [], _ :: _, h => h.elim

/-- v is the slice that holds row y whole, and may be appended to. -/
def RowVal (c : Cx) (y sz : Nat) (xs : List D) (v : Value) : Prop :=
  ((∃ a, v = .slice a 0 0) ∧ xs = [] ∧ c.lam[y]? = some none) ∨
  ∃ b cap cs T, c.lam[y]? = some (some b) ∧ v = .slice (some ⟨b, 0, none⟩) xs.length cap ∧ c.w.heap[b]? = some (.cells cs T (0, 0)) ∧
    cap * sz ≤ cs.size ∧ xs.length ≤ cap ∧ cap ≤ maxLen

def RowC (c : Cx) (y : Nat) (xs : List D) (v : Value) : Prop :=
  ∀ sz xs', c.es[y]? = some (.row sz xs') → xs.length ≤ xs'.length ∧ (xs'.length = xs.length → xs' = xs ∧ RowVal c y sz xs v)

/-- At these places of the datum stand these rows. -/
def TokOK (c : Cx) (d : D) (tok : List (List Nat × Nat)) (f : Nat → Value) : Prop :=
  ∀ p y, (p, y) ∈ tok → PathOK d p ∧ (∃ e, c.es[y]? = some e ∧ e.isVar = false) ∧ ∃ xs, d.get p = some (.list xs) ∧ RowC c y xs (f (d.off p))

inductive VR (c : Cx) : AV → Value → Prop
  | undef (v : Value) : VR c .undef v
  | data {d : D} {v : Value} : VD c.w c.fz d v → VR c (.data d) v
  | nilptr : VR c .nilptr (.pointer none)
  | ptr {x : Nat} {p : List Nat} {b : Nat} {d : D} {tok : List (List Nat × Nat)} : c.es[x]? = some (.var d tok) → PathOK d p → c.lam[x]? = some (some b) →
      VR c (.ptr x p) (.pointer (some ⟨b, d.off p, none⟩))
  | refp {x b : Nat} {a : AV} : c.es[x]? = some (.ref a) → c.lam[x]? = some (some b) → VR c (.ptr x []) (.pointer (some ⟨b, 0, none⟩))
  | rich {d : D} {tok : List (List Nat × Nat)} {v : Value} : VD c.w c.fz d v → TokOK c d tok (fun o => v.cells.getD o undef) → VR c (.rich d tok) v
  | ptrgone {x : Nat} {p : List Nat} {e : Ent} {a : Addr} : c.es[x]? = some e → e.gone = true → VR c (.ptr x p) (.pointer (some a))
  | slgone {x lo n k : Nat} {e : Ent} {v : Value} : c.es[x]? = some e → e.gone = true → VR c (.sl x lo n k) v
  | cptr {d : D} {b o : Nat} : DR c.w c.fz d (fun i => cellAt c.w b (o + i)) → o + d.size ≤ c.fz b → VR c (.cptr d) (.pointer (some ⟨b, o, none⟩))
  | row {y : Nat} {xs : List D} {v : Value} {e : Ent} : VD c.w c.fz (.list xs) v → c.es[y]? = some e → e.isVar = false → RowC c y xs v → VR c (.row y xs) v
  | sl {x lo n k b o N sz cap : Nat} {f : Nat → D} {tok : List (List Nat × Nat)} {cs : Array Value} {T : TypeId} : c.es[x]? = some (.var (.arr N sz f) tok) → lo + n ≤ N → c.lam[x]? = some (some b) → n ≤ cap ∧ k ≤ cap ∧ (0 < cap → o = lo * sz) → cap ≤ maxLen →
      c.w.heap[b]? = some (.cells cs T (0, 0)) → (lo + cap) * sz ≤ cs.size → VR c (.sl x lo n k) (.slice (some ⟨b, o, none⟩) n cap)
  | func {f : FuncId} {caps : List AV} {cs : Array Value} : caps.length = cs.size → (∀ i (h : i < caps.length), VR c caps[i] (cs.getD i undef)) → VR c (.func f caps) (.func (.func f) #[] cs)
  | nilfunc : VR c .nilfunc .nilFunc
  | mp {x b : Nat} {kvs : List (D × D)} : c.es[x]? = some (.map kvs) → c.lam[x]? = some (some b) → VR c (.mp x) (.map (some b))
  | tuple {vs : List AV} {cs : Array Value} : vs.length = cs.size → (∀ i (h : i < vs.length), VR c vs[i] (cs.getD i undef)) → VR c (.tuple vs) (.tuple cs)

def EntOK (c : Cx) (x : Nat) : Ent → Prop
  | .var d tok => ∃ b cs T, c.lam[x]? = some (some b) ∧ c.w.heap[b]? = some (.cells cs T (0, 0)) ∧ d.size ≤ cs.size ∧ DR c.w c.fz d (fun o => cs.getD o undef) ∧ c.fz b = 0 ∧
      TokOK c d tok (fun o => cs.getD o undef)
  | .ref a => ∃ b v T, c.lam[x]? = some (some b) ∧ c.w.heap[b]? = some (.cells #[v] T (0, 0)) ∧ VR c a v ∧ c.fz b = 0
  | .row sz xs => (xs = [] ∧ c.lam[x]? = some none) ∨
      ∃ b cs T, c.lam[x]? = some (some b) ∧ c.w.heap[b]? = some (.cells cs T (0, 0)) ∧ c.fz b = xs.length * sz ∧ xs.length * sz ≤ cs.size
  | .map kvs => ∃ b arr clock, c.lam[x]? = some (some b) ∧ c.w.heap[b]? = some (.map arr clock) ∧ c.fz b = 0 ∧ MapOK c.w c.fz kvs arr.toList
  | .dead => True

def FrOK (w : World) (fz : Nat → Nat) : Prop := ∀ b o, o < fz b → ∃ v, w.cell? ⟨b, o, none⟩ = some v

structure CxOK (c : Cx) : Prop where
  fr : FrOK c.w c.fz
  len : c.lam.length = c.es.length
  inj : ∀ (x y b : Nat), c.lam[x]? = some (some b) → c.lam[y]? = some (some b) → x = y
  low : ∀ (x b : Nat), c.lam[x]? = some (some b) → b < c.w.heap.size
  ent : ∀ (x : Nat) e, c.es[x]? = some e → EntOK c x e

theorem FrOK.high {w : World} {fz : Nat → Nat} (h : FrOK w fz) {b : Nat} (hb : w.heap.size ≤ b) : fz b = 0 := by
  rcases Nat.eq_zero_or_pos (fz b) with h0 | h0
  · exact h0
  · obtain ⟨v, hv⟩ := h b 0 h0
    simp [World.cell?, Array.getElem?_eq_none hb] at hv

def EntStep (c c' : Cx) (x : Nat) : Ent → Ent → Prop
  | .var d _, e' => (∃ d' tok', e' = .var d' tok' ∧ Same d d' ∧ c'.lam[x]? = c.lam[x]?) ∨ (e'.gone = true ∧ (c'.lam[x]? = c.lam[x]? ∨ ∃ b, c'.lam[x]? = some (some b) ∧ c.w.heap.size ≤ b))
  | .ref _, e' => ∃ a', e' = .ref a' ∧ c'.lam[x]? = c.lam[x]?
  | .row sz xs, e' => ∃ xs', e' = .row sz xs' ∧ (∃ ys, xs' = xs ++ ys) ∧ (xs'.length = xs.length → c'.lam[x]? = c.lam[x]?) ∧
      (c'.lam[x]? = c.lam[x]? ∨ ∃ b, c'.lam[x]? = some (some b) ∧ c.w.heap.size ≤ b)
  | .map _, e' => ∃ kvs', e' = .map kvs' ∧ c'.lam[x]? = c.lam[x]?
  | .dead, e' => e' = .dead ∧ c'.lam[x]? = c.lam[x]?

/-- The context goes on: what is frozen stays, what is not ours stays, ours keeps its make. -/
structure Reach (c c' : Cx) : Prop where
  size : c.w.heap.size ≤ c'.w.heap.size
  rest : c'.w.tape = c.w.tape ∧ c'.w.os = c.w.os ∧ c'.w.output = c.w.output
  ext : Ext c.w c.fz c'.w c'.fz
  keep : ∀ (b : Nat) cs T f, c.w.heap[b]? = some (.cells cs T f) → ∃ cs', c'.w.heap[b]? = some (.cells cs' T f) ∧ cs'.size = cs.size
  frame : ∀ b, b < c.w.heap.size → (∀ x : Nat, c.lam[x]? ≠ some (some b)) → c'.w.heap[b]? = c.w.heap[b]? ∧ c'.fz b = c.fz b
  ents : ∀ (x : Nat) e, c.es[x]? = some e → ∃ e', c'.es[x]? = some e' ∧ EntStep c c' x e e'
  news : ∀ (x b : Nat), c.es.length ≤ x → c'.lam[x]? = some (some b) → c.w.heap.size ≤ b

theorem EntStep.lam {c c' : Cx} {x : Nat} {e e' : Ent} (h : EntStep c c' x e e') : c'.lam[x]? = c.lam[x]? ∨ ∃ b, c'.lam[x]? = some (some b) ∧ c.w.heap.size ≤ b := by
  cases e with
  | var d t =>
    rcases h with ⟨_, _, _, _, h⟩ | ⟨_, h⟩
    · exact .inl h
    · exact h
  | ref a => obtain ⟨_, _, h⟩ := h; exact .inl h
  | row sz xs => obtain ⟨_, _, _, _, h⟩ := h; exact h
  | map l => obtain ⟨_, _, h⟩ := h; exact .inl h
  | dead => exact .inl h.2

theorem EntStep.gone {c c' : Cx} {x : Nat} {e e' : Ent} (h : EntStep c c' x e e') (hg : e.gone = true) : e'.gone = true := by
  cases e with
  | var _ _ => cases hg
  | ref _ => cases hg
  | row sz xs => obtain ⟨_, rfl, _⟩ := h; rfl
  | map _ => cases hg
  | dead => obtain ⟨rfl, _⟩ := h; rfl
theorem EntStep.notVar {c c' : Cx} {x : Nat} {e e' : Ent} (h : EntStep c c' x e e') (hg : e.isVar = false) : e'.isVar = false := by
  cases e with
  | var _ _ => cases hg
  | ref _ => obtain ⟨_, rfl, _⟩ := h; rfl
  | row sz xs => obtain ⟨_, rfl, _⟩ := h; rfl
  | map _ => obtain ⟨_, rfl, _⟩ := h; rfl
  | dead => obtain ⟨rfl, _⟩ := h; rfl

theorem EntStep.stay {c c' : Cx} {x : Nat} (h : c'.lam[x]? = c.lam[x]?) (e : Ent) : EntStep c c' x e e := by
  cases e with
  | var d t => exact .inl ⟨d, t, rfl, .refl d, h⟩
  | ref a => exact ⟨a, rfl, h⟩
  | row sz xs => exact ⟨xs, rfl, ⟨[], by simp⟩, fun _ => h, .inl h⟩
  | map l => exact ⟨l, rfl, h⟩
  | dead => exact ⟨rfl, h⟩

theorem EntStep.refl (c : Cx) (x : Nat) (e : Ent) : EntStep c c x e e := .stay rfl e

theorem Reach.refl {c : Cx} (h : CxOK c) : Reach c c where
  size := Nat.le_refl _
  rest := ⟨rfl, rfl, rfl⟩
  ext := .refl _ _
  keep := fun _ cs _ _ h => ⟨cs, h, rfl⟩
  frame := fun _ _ _ => ⟨rfl, rfl⟩
  ents := fun x e h => ⟨e, h, .refl c x e⟩
  news := fun x b hx hb => by
    have := (List.getElem?_eq_some_iff.1 hb).1
    rw [h.len] at this
    omega

theorem Reach.trans {c c' c'' : Cx} (h : Reach c c') (h' : Reach c' c'') : Reach c c'' where
  size := Nat.le_trans h.size h'.size
  rest := ⟨h'.rest.1.trans h.rest.1, h'.rest.2.1.trans h.rest.2.1, h'.rest.2.2.trans h.rest.2.2⟩
  ext := h.ext.trans h'.ext
  keep := fun b cs T f hb => by
    obtain ⟨cs', h1, h2⟩ := h.keep b cs T f hb
    obtain ⟨cs'', h3, h4⟩ := h'.keep b cs' T f h1
    exact ⟨cs'', h3, h4.trans h2⟩
  frame := fun b hb hn => by
    have h1 := h.frame b hb hn
    have h2 := h'.frame b (Nat.lt_of_lt_of_le hb h.size) fun x hx => by
      rcases Nat.lt_or_ge x c.es.length with hl | hl
      · obtain ⟨e', _, hs⟩ := h.ents x _ (List.getElem?_eq_getElem hl)
        rcases hs.lam with he | ⟨b', he, hge⟩
        · exact hn x (he ▸ hx)
        · rw [hx] at he
          simp only [Option.some.injEq] at he
          omega
      · have := h.news x b hl hx
        omega
    exact ⟨h2.1.trans h1.1, h2.2.trans h1.2⟩
  ents := fun x e hx => by
    obtain ⟨e', h1, s1⟩ := h.ents x e hx
    obtain ⟨e'', h2, s2⟩ := h'.ents x e' h1
    refine ⟨e'', h2, ?_⟩
    cases e with
    | var d t =>
      have join : (c'.lam[x]? = c.lam[x]? ∨ ∃ b, c'.lam[x]? = some (some b) ∧ c.w.heap.size ≤ b) → (c''.lam[x]? = c'.lam[x]? ∨ ∃ b, c''.lam[x]? = some (some b) ∧ c'.w.heap.size ≤ b) →
          (c''.lam[x]? = c.lam[x]? ∨ ∃ b, c''.lam[x]? = some (some b) ∧ c.w.heap.size ≤ b) := by
        intro h1 h2
        rcases h2 with h2 | ⟨b, hb, hge⟩
        · rcases h1 with h1 | ⟨b, hb, hge⟩
          · exact .inl (h2.trans h1)
          · exact .inr ⟨b, h2.trans hb, hge⟩
        · exact .inr ⟨b, hb, Nat.le_trans h.size hge⟩
      have l2 := s2.lam
      rcases s1 with ⟨d', t', rfl, hs, hl⟩ | ⟨hg, hl⟩
      · rcases s2 with ⟨d'', t'', rfl, hs', hl'⟩ | ⟨hg, hl'⟩
        · exact .inl ⟨d'', t'', rfl, hs.trans hs', hl'.trans hl⟩
        · exact .inr ⟨hg, join (.inl hl) hl'⟩
      · cases e' with
        | var _ _ => cases hg
        | ref _ => cases hg
        | map _ => cases hg
        | row sz xs =>
          obtain ⟨xs'', rfl, _⟩ := s2
          exact .inr ⟨rfl, join hl l2⟩
        | dead =>
          obtain ⟨rfl, _⟩ := s2
          exact .inr ⟨rfl, join hl l2⟩
    | ref a =>
      obtain ⟨a', rfl, hl⟩ := s1
      obtain ⟨a'', rfl, hl'⟩ := s2
      exact ⟨a'', rfl, hl'.trans hl⟩
    | row sz xs =>
      obtain ⟨xs', rfl, ⟨ys, rfl⟩, hk, hl⟩ := s1
      obtain ⟨xs'', rfl, ⟨zs, rfl⟩, hk', hl'⟩ := s2
      refine ⟨_, rfl, ⟨ys ++ zs, by simp⟩, fun he => ?_, ?_⟩
      · have : ys.length = 0 ∧ zs.length = 0 := by simp at he; simp; omega
        exact (hk' (by simp [this.2])).trans (hk (by simp [this.1]))
      · rcases hl' with hl' | ⟨b, hb, hge⟩
        · rcases hl with hl | ⟨b, hb, hge⟩
          · exact .inl (hl'.trans hl)
          · exact .inr ⟨b, hl'.trans hb, hge⟩
        · exact .inr ⟨b, hb, Nat.le_trans h.size hge⟩
    | map l =>
      obtain ⟨l', rfl, hl⟩ := s1
      obtain ⟨l'', rfl, hl'⟩ := s2
      exact ⟨l'', rfl, hl'.trans hl⟩
    | dead =>
      obtain ⟨rfl, hl⟩ := s1
      obtain ⟨rfl, hl'⟩ := s2
      exact ⟨rfl, hl'.trans hl⟩
  news := fun x b hx hb => by
    rcases Nat.lt_or_ge x c'.es.length with hl | hl
    · obtain ⟨e'', _, hs⟩ := h'.ents x _ (List.getElem?_eq_getElem hl)
      rcases hs.lam with he | ⟨b', he, hge⟩
      · exact h.news x b hx (he ▸ hb)
      · rw [hb] at he
        simp only [Option.some.injEq] at he
        subst he
        exact Nat.le_trans h.size hge
    · exact Nat.le_trans h.size (h'.news x b hl hb)

theorem RowC.mono {c c' : Cx} (hr : Reach c c') {y : Nat} {xs : List D} {v : Value} {e : Ent} (he : c.es[y]? = some e ∧ e.isVar = false) (h : RowC c y xs v) : RowC c' y xs v := by
  obtain ⟨he, hv⟩ := he
  intro sz xs'' h''
  obtain ⟨e', h1, s1⟩ := hr.ents y e he
  rw [h''] at h1
  simp only [Option.some.injEq] at h1
  subst h1
  cases e with
  | var d t => cases hv
  | ref a => obtain ⟨_, h, _⟩ := s1; cases h
  | map l => obtain ⟨_, h, _⟩ := s1; cases h
  | dead => obtain ⟨h, _⟩ := s1; cases h
  | row sz' xs' =>
    obtain ⟨ws, h3, ⟨ys, rfl⟩, hk, _⟩ := s1
    simp only [Ent.row.injEq] at h3
    obtain ⟨rfl, rfl⟩ := h3
    obtain ⟨h4, h5⟩ := h _ _ he
    refine ⟨by simp; omega, fun hl => ?_⟩
    have hy : ys = [] := by
      simp at hl
      exact List.length_eq_zero_iff.1 (by omega)
    subst hy
    simp only [List.append_nil] at hl hk ⊢
    obtain ⟨h6, h7⟩ := h5 hl
    refine ⟨h6, ?_⟩
    have hlam := hk trivial
    rcases h7 with ⟨h8, h9, h10⟩ | ⟨b, cap, cs, T, h8, h9, h10, h11, h12, h13⟩
    · exact .inl ⟨h8, h9, hlam.trans h10⟩
    · obtain ⟨cs', h14, h15⟩ := hr.keep b cs T _ h10
      exact .inr ⟨b, cap, cs', T, hlam.trans h8, h9, h14, by omega, h12, h13⟩

theorem TokOK.mono {c c' : Cx} (hr : Reach c c') {d : D} {tok : List (List Nat × Nat)} {f : Nat → Value} (h : TokOK c d tok f) : TokOK c' d tok f := fun p y hp => by
  obtain ⟨h1, ⟨e, h2, h3⟩, xs, h4, h5⟩ := h p y hp
  obtain ⟨e', k1, k2⟩ := hr.ents y e h2
  exact ⟨h1, ⟨e', k1, k2.notVar h3⟩, xs, h4, h5.mono hr ⟨h2, h3⟩⟩

theorem VR.mono {c c' : Cx} (hr : Reach c c') {a : AV} {v : Value} (h : VR c a v) : VR c' a v := by
  induction h with
  | undef v => exact .undef v
  | data h => exact .data (h.ext hr.ext)
  | nilptr => exact .nilptr
  | @ptr x p b d tok h1 h2 h3 =>
    obtain ⟨e', h4, s4⟩ := hr.ents x _ h1
    rcases s4 with ⟨d', t', rfl, hs, hl⟩ | ⟨hg, _⟩
    · obtain ⟨h5, h6⟩ := hs.path h2
      rw [h6]
      exact .ptr h4 h5 (hl.trans h3)
    · exact .ptrgone h4 hg
  | @ptrgone x p e a h1 h2 =>
    obtain ⟨e', h4, s4⟩ := hr.ents x _ h1
    exact .ptrgone h4 (s4.gone h2)
  | rich h1 h2 => exact .rich (h1.ext hr.ext) (h2.mono hr)
  | @slgone x lo n k e v h1 h2 =>
    obtain ⟨e', h4, s4⟩ := hr.ents x _ h1
    exact .slgone h4 (s4.gone h2)
  | @refp x b a h1 h2 =>
    obtain ⟨e', h4, s4⟩ := hr.ents x _ h1
    obtain ⟨a', rfl, hl⟩ := s4
    exact .refp h4 (hl.trans h2)
  | @cptr d b o h1 h2 =>
    refine .cptr (h1.move hr.ext _ fun i hi => ?_) (Nat.le_trans h2 (hr.ext b).1)
    unfold cellAt
    rw [(hr.ext b).2 (o + i) (by omega)]
  | @row y xs v e h1 h2 hv h3 =>
    obtain ⟨e', h4, s4⟩ := hr.ents y e h2
    exact .row (h1.ext hr.ext) h4 (s4.notVar hv) (h3.mono hr ⟨h2, hv⟩)
  | @sl x lo n k b o N sz cap f tok cs T h1 h2 h3 h4 h5 h6 h7 =>
    obtain ⟨e', k1, s1⟩ := hr.ents x _ h1
    rcases s1 with ⟨d', t', rfl, hs, hl⟩ | ⟨hg, _⟩
    · cases d' <;> simp only [Same] at hs
      obtain ⟨rfl, rfl, _⟩ := hs
      obtain ⟨cs', k2, k3⟩ := hr.keep b cs T _ h6
      exact .sl k1 h2 (hl.trans h3) h4 h5 k2 (by omega)
    · exact .slgone k1 hg
  | func h1 _ ih => exact .func h1 ih
  | nilfunc => exact .nilfunc
  | @mp x b l h1 h2 =>
    obtain ⟨e', h4, s4⟩ := hr.ents x _ h1
    obtain ⟨l', rfl, hl⟩ := s4
    exact .mp h4 (hl.trans h2)
  | tuple h1 _ ih => exact .tuple h1 ih

/-- The world grows: all blocks that were there are as they were. -/
structure Grow (w : World) (fz : Nat → Nat) (w' : World) (fz' : Nat → Nat) : Prop where
  size : w.heap.size ≤ w'.heap.size
  rest : w'.tape = w.tape ∧ w'.os = w.os ∧ w'.output = w.output
  old : ∀ b, b < w.heap.size → w'.heap[b]? = w.heap[b]? ∧ fz' b = fz b
  fr : FrOK w' fz'

theorem Grow.refl {w : World} {fz : Nat → Nat} (h : FrOK w fz) : Grow w fz w fz := ⟨Nat.le_refl _, ⟨rfl, rfl, rfl⟩, fun _ _ => ⟨rfl, rfl⟩, h⟩
theorem Grow.trans {w w' w'' : World} {fz fz' fz'' : Nat → Nat} (h : Grow w fz w' fz') (h' : Grow w' fz' w'' fz'') : Grow w fz w'' fz'' where
  size := Nat.le_trans h.size h'.size
  rest := ⟨h'.rest.1.trans h.rest.1, h'.rest.2.1.trans h.rest.2.1, h'.rest.2.2.trans h.rest.2.2⟩
  old := fun b hb => ⟨(h'.old b (Nat.lt_of_lt_of_le hb h.size)).1.trans (h.old b hb).1, (h'.old b (Nat.lt_of_lt_of_le hb h.size)).2.trans (h.old b hb).2⟩
  fr := h'.fr

theorem Grow.ext {w w' : World} {fz fz' : Nat → Nat} (hf : FrOK w fz) (g : Grow w fz w' fz') : Ext w fz w' fz' := fun b => by
  rcases Nat.lt_or_ge b w.heap.size with hb | hb
  · refine ⟨Nat.le_of_eq (g.old b hb).2.symm, fun o _ => ?_⟩
    simp only [World.cell?, (g.old b hb).1]
  · have := hf.high hb
    exact ⟨by omega, fun o ho => by omega⟩

theorem RowC.grow {c c' : Cx} (h1 : c'.es = c.es) (h2 : c'.lam = c.lam) (hk : ∀ (b : Nat) cs T f, c.w.heap[b]? = some (.cells cs T f) → ∃ cs', c'.w.heap[b]? = some (.cells cs' T f) ∧ cs'.size = cs.size)
    {y : Nat} {xs : List D} {v : Value} (h : RowC c y xs v) : RowC c' y xs v := by
  intro sz xs' he
  rw [h1] at he
  obtain ⟨h3, h4⟩ := h sz xs' he
  refine ⟨h3, fun hl => ⟨(h4 hl).1, ?_⟩⟩
  rcases (h4 hl).2 with ⟨h8, h9, h10⟩ | ⟨b, cap, cs, T, h8, h9, h10, h11, h12, h13⟩
  · exact .inl ⟨h8, h9, by rw [h2]; exact h10⟩
  · obtain ⟨cs', h14, h15⟩ := hk b cs T _ h10
    exact .inr ⟨b, cap, cs', T, by rw [h2]; exact h8, h9, h14, by omega, h12, h13⟩

theorem Grow.reach {c : Cx} (h : CxOK c) {w' : World} {fz' : Nat → Nat} (g : Grow c.w c.fz w' fz') : Reach c { c with w := w', fz := fz' } where
  size := g.size
  rest := g.rest
  ext := g.ext h.fr
  keep := fun b cs T f hb => ⟨cs, by
    have hlt : b < c.w.heap.size := (Array.getElem?_eq_some_iff.1 hb).1
    exact ((g.old b hlt).1).trans hb, rfl⟩
  frame := fun b hb _ => g.old b hb
  ents := fun x e hx => ⟨e, hx, EntStep.stay (c := c) (c' := { c with w := w', fz := fz' }) rfl e⟩
  news := fun x b hx hb => by
    have := (List.getElem?_eq_some_iff.1 hb).1
    have h2 := h.len
    simp only at this
    omega

theorem Grow.ok {c : Cx} (h : CxOK c) {w' : World} {fz' : Nat → Nat} (g : Grow c.w c.fz w' fz') : CxOK { c with w := w', fz := fz' } where
  fr := g.fr
  len := h.len
  inj := h.inj
  low := fun x b hb => Nat.lt_of_lt_of_le (h.low x b hb) g.size
  ent := fun x e hx => by
    have hr := g.reach h
    have := h.ent x e hx
    cases e with
    | var d tok =>
      obtain ⟨b, cs, T, h1, h2, h3, h4, h5, h6⟩ := this
      have hb := h.low x b h1
      refine ⟨b, cs, T, h1, ((g.old b hb).1).trans h2, h3, h4.ext hr.ext, ((g.old b hb).2).trans h5, fun p y hp => ?_⟩
      obtain ⟨h7, ⟨e', h8, h8'⟩, xs, h9, h10⟩ := h6 p y hp
      exact ⟨h7, ⟨e', h8, h8'⟩, xs, h9, h10.mono hr ⟨h8, h8'⟩⟩
    | ref a =>
      obtain ⟨b, v, T, h1, h2, h3, h4⟩ := this
      have hb := h.low x b h1
      exact ⟨b, v, T, h1, ((g.old b hb).1).trans h2, h3.mono hr, ((g.old b hb).2).trans h4⟩
    | row sz xs =>
      rcases this with h1 | ⟨b, cs, T, h1, h2, h3, h4⟩
      · exact .inl h1
      · have hb := h.low x b h1
        exact .inr ⟨b, cs, T, h1, ((g.old b hb).1).trans h2, ((g.old b hb).2).trans h3, h4⟩
    | map l =>
      obtain ⟨b, arr, clock, h1, h2, h3, h4⟩ := this
      have hb := h.low x b h1
      exact ⟨b, arr, clock, h1, ((g.old b hb).1).trans h2, ((g.old b hb).2).trans h3, h4.ext hr.ext⟩
    | dead => trivial

theorem gone_var {l : List Ent} {x : Nat} {d : D} {tok : List (List Nat × Nat)} {e : Ent} (hy : l[x]? = some (.var d tok)) (h1 : l[x]? = some e) (h2 : e.gone = true) : False := by
  rw [hy] at h1; cases h1; cases h2
theorem gone_ref {l : List Ent} {x : Nat} {a : AV} {e : Ent} (hy : l[x]? = some (.ref a)) (h1 : l[x]? = some e) (h2 : e.gone = true) : False := by
  rw [hy] at h1; cases h1; cases h2

end Go.W
