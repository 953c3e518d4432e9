/-
  A variable's datum, told otherwise.
-/
import Derived.Test.YthpjdjofcbnoiacWn
namespace Go.W

/-- What holds the one holds the other. -/
structure DRle (d d' : D) : Prop where
  same : Same d d'
  dr : ∀ (w : World) (fz : Nat → Nat) (c : Nat → Value), DR w fz d c → DR w fz d' c

theorem DRle.refl (d : D) : DRle d d := ⟨.refl d, fun _ _ _ h => h⟩
theorem DRle.nil : DRle .nil (.list []) := ⟨trivial, fun w fz c h => by
  cases h with
  | nil h => exact .list0 h (Nat.zero_le _)⟩
theorem sumTo_congr {f g : Nat → Nat} : ∀ {n : Nat}, (∀ i, i < n → f i = g i) → sumTo f n = sumTo g n
  | 0, _ => rfl
  | n + 1, h => by simp only [sumTo]; rw [sumTo_congr fun i hi => h i (by omega), h n (by omega)]
theorem DRle.agg {n : Nat} {f g : Nat → D} (h : ∀ i, i < n → DRle (f i) (g i)) : DRle (.agg n f) (.agg n g) :=
  ⟨⟨rfl, fun i hi => (h i hi).same⟩, fun w fz c hd => by
    cases hd with
    | agg hd =>
      refine .agg fun i hi => ?_
      have := (h i hi).dr w fz _ (hd i hi)
      have e : sumTo (fun j => (f j).size) i = sumTo (fun j => (g j).size) i := sumTo_congr fun j hj => (h j (by omega)).same.size
      rwa [e] at this⟩
theorem DRle.arr {n es : Nat} {f g : Nat → D} (h : ∀ i, i < n → DRle (f i) (g i)) : DRle (.arr n es f) (.arr n es g) :=
  ⟨⟨rfl, rfl, fun i hi => (h i hi).same⟩, fun w fz c hd => by
    cases hd with
    | arr hs hd => exact .arr (fun i hi => by rw [← (h i hi).same.size]; exact hs i hi) fun i hi => (h i hi).dr w fz _ (hd i hi)⟩

theorem recast {c : Cx} (hc : CxOK c) {x : Nat} {d d' : D} {tok : List (List Nat × Nat)} (hx : c.es[x]? = some (.var d tok)) (hd : DRle d d') (ht : ∀ p y, (p, y) ∈ tok → d'.get p = d.get p) :
    ∃ c' : Cx, c'.w = c.w ∧ CxOK c' ∧ Reach c c' ∧ c'.es = c.es.set x (.var d' tok) ∧ ∀ a v, VR c a v → VR c' a v := by
  have hxl := (List.getElem?_eq_some_iff.1 hx).1
  let c' : Cx := { c with es := c.es.set x (.var d' tok) }
  have hr : Reach c c' := {
    size := Nat.le_refl _
    rest := ⟨rfl, rfl, rfl⟩
    ext := .refl _ _
    keep := fun b cs T f h => ⟨cs, h, rfl⟩
    frame := fun y _ hy => ⟨rfl, rfl⟩
    ents := fun y e hy => by
      by_cases hyx : y = x
      · subst hyx
        rw [hx] at hy
        simp only [Option.some.injEq] at hy
        subst hy
        exact ⟨_, set_nth hxl, .inl ⟨_, _, rfl, hd.same, rfl⟩⟩
      · exact ⟨e, (set_ne hyx).trans hy, EntStep.stay (c := c) (c' := c') rfl e⟩
    news := fun y b hy hb => by
      have h1 := (List.getElem?_eq_some_iff.1 hb).1
      have h2 := hc.len
      simp only [c'] at h1
      omega }
  refine ⟨c', rfl, ⟨hc.fr, by simp only [c', List.length_set]; exact hc.len, hc.inj, hc.low, fun y e hy => ?_⟩, hr, rfl, fun a v h => h.mono hr⟩
  by_cases hyx : y = x
  · subst hyx
    have hy' : some (Ent.var d' tok) = some e := (set_nth hxl).symm.trans hy
    simp only [Option.some.injEq] at hy'
    subst hy'
    obtain ⟨b, cs, T, f1, f2, f3, f4, f5, f6⟩ := hc.ent y _ hx
    refine ⟨b, cs, T, f1, f2, by rw [← hd.same.size]; exact f3, hd.dr _ _ _ f4, f5, fun q z hz => ?_⟩
    obtain ⟨g1, ⟨ez, g2, g2'⟩, zs, g3, g4⟩ := f6 q z hz
    obtain ⟨ez', g5, g6⟩ := hr.ents z ez g2
    obtain ⟨k1, k2⟩ := hd.same.path g1
    refine ⟨k1, ⟨ez', g5, g6.notVar g2'⟩, zs, by rw [ht q z hz]; exact g3, ?_⟩
    rw [← k2]
    exact g4.mono hr ⟨g2, g2'⟩
  · have hy0 : c.es[y]? = some e := (set_ne hyx).symm.trans hy
    have hE := hc.ent y e hy0
    cases e with
    | var d1 tok1 =>
      obtain ⟨b', cs0, T0, f1, f2, f3, f4, f5, f6⟩ := hE
      refine ⟨b', cs0, T0, f1, f2, f3, f4, f5, fun p z hz => ?_⟩
      obtain ⟨g1, ⟨ez, g2, g2'⟩, zs, g3, g4⟩ := f6 p z hz
      obtain ⟨ez', g5, g6⟩ := hr.ents z ez g2
      exact ⟨g1, ⟨ez', g5, g6.notVar g2'⟩, zs, g3, g4.mono hr ⟨g2, g2'⟩⟩
    | ref a =>
      obtain ⟨b', v, T0, f1, f2, f3, f4⟩ := hE
      exact ⟨b', v, T0, f1, f2, f3.mono hr, f4⟩
    | row sz0 zs => exact hE
    | map l => exact hE
    | dead => trivial

/-- A variable's datum is told otherwise. -/
theorem Le.recast {n0 : Nat} {s : St} (x : Nat) {d d' : D} {tok : List (List Nat × Nat)} (hx : s.es[x]? = some (.var d tok)) (hd : DRle d d') (ht : ∀ p y, (p, y) ∈ tok → d'.get p = d.get p) : Le n0 s ⟨s.nt, s.fr, s.es.set x (.var d' tok)⟩ := by
  intro c a hc hce hf
  obtain ⟨c', k1, k2, k3, k4, k5⟩ := Go.W.recast hc (by rw [hce]; exact hx) hd ht
  refine ⟨c', k1, k2, by rw [k4, hce], ⟨hf.size, hf.defers, fun t => ?_⟩, fun c0 _ _ hr => hr.trans k3⟩
  have hs := hf.slot t
  cases hfr : s.fr t with
  | v x => rw [hfr] at hs; exact k5 _ _ hs
  | maybe t' w x => rw [hfr] at hs; exact ⟨fun h => k5 _ _ (hs.1 h), hs.2⟩

/-! ### Some of the entries, in another order -/

def pickS (m : List Nat) : Sl → Option AV
  | .v y => some (pull m y)
  | .maybe _ _ _ => none
def PickL (s : St) (m : List Nat) : List (Nat × AV) → Prop
  | [] => True
  | (t, x) :: r => pickS m (s.fr t) = some x ∧ PickL s m r
theorem PickL_spec {s : St} {m : List Nat} : ∀ {l : List (Nat × AV)}, PickL s m l → ∀ t, (frOf l t = .v .undef) ∨ ∃ y, frOf l t = .v (pull m y) ∧ s.fr t = .v y
  | [], _, _ => .inl rfl
  | (t', x) :: r, h, t => by
    simp only [frOf]
    by_cases ht : t = t'
    · subst ht
      have : Nat.beq t t = true := Nat.beq_refl t
      simp only [this, cond_true]
      have h1 := h.1
      cases hs : s.fr t with
      | v y =>
        rw [hs] at h1
        simp only [pickS, Option.some.injEq] at h1
        exact .inr ⟨y, by rw [h1], rfl⟩
      | maybe a b c => rw [hs] at h1; simp [pickS] at h1
    · simp only [nbeq_ne ht, cond_false]
      exact PickL_spec h.2 t

/-- What is kept of a state: the slots of a list, and the entries that are told, in that order. -/
theorem Le.pick {n0 : Nat} {s : St} (m : List Nat) (l : List (Nat × AV)) {es' : List Ent} (hm : ∀ i : Nat, i < n0 → m[i]? = some i) (hd : nodupB m = true) (hh : handed m s.es m = some es') (hl : PickL s m l) : Le n0 s ⟨s.nt, frOf l, es'⟩ := by
  intro c a hc hce hf
  have hh' : handed m c.es m = some es' := by rw [hce]; exact hh
  refine ⟨c.sub m es', rfl, hc.sub hd hh', rfl, ⟨hf.size, hf.defers, fun t => ?_⟩, fun c0 hn hc0 hr => hr.sub hc0 hc hd hh' (by rw [hn]; exact hm)⟩
  rcases PickL_spec hl t with h | ⟨y, h1, h2⟩
  · simp only [h]; exact .undef _
  · simp only [h1]
    have := hf.slot t
    rw [h2] at this
    exact VR.pull hc hh' this

end Go.W
