/-
  Who is true says one thing of each kind in each round, in plain Lean.
-/
import Derived.Test.YthpjdjofcbnoiabPj
import Derived.Test.YthpjdjofcbnoiabWr
namespace Go.W

theorem doC_grows (c : CrowdS) (a : Act) (i h : Nat) : Grows ((c.nodes i).heard h) (((doC c a).1.nodes i).heard h) := by
  unfold doC
  split
  · exact .refl _
  · have key : ∀ g : CrowdS, Grows ((g.nodes i).heard h) (((actC g a).1.nodes i).heard h) := fun g => by
      rcases actC_cases g a with ⟨e, he, _⟩ | ⟨_, he⟩ | ⟨_, _, _, he⟩ | ⟨j, t, w, hj, _, hm, he, _⟩
      · rw [he]; exact .refl _
      · rw [he]; exact .refl _
      · rw [he]; exact .refl _
      · rw [he]
        show Grows ((g.nodes i).heard h) ((upd g.nodes j t.s i).heard h)
        by_cases e : i = j
        · subst e; rw [upd_same]; exact hm.goes.adv.heard h
        · rw [upd_other _ _ e]; exact .refl _
    exact key c.tick

/-- What of a word tells apart what may be said once. -/
def keyW (w : Word) : Word := { w with value := 0, valid := 0 }
theorem eqD_word {a b : Word} (h : eqD (eWord a) (eWord b) = true) : a = b := by
  have h := allTo_spec.1 (show allTo 6 _ = true from h)
  have h0 := h 0 (by omega); have h1 := h 1 (by omega); have h2 := h 2 (by omega)
  have h3 := h 3 (by omega); have h4 := h 4 (by omega); have h5 := h 5 (by omega)
  have e0 : (a.kind == b.kind) = true := h0
  have e1 : (a.frm == b.frm) = true := h1
  have e2 : (a.height == b.height) = true := h2
  have e3 : (a.round == b.round) = true := h3
  have e4 : (a.value == b.value) = true := h4
  have e5 : (a.valid == b.valid) = true := h5
  obtain ⟨a0, a1, a2, a3, a4, a5⟩ := a
  obtain ⟨b0, b1, b2, b3, b4, b5⟩ := b
  simp only [beq_iff_eq] at e0 e1 e2 e3 e4 e5
  subst e0; subst e1; subst e2; subst e3; subst e4; subst e5
  rfl

/-- What a true node said stands in its sheet, so it said one thing. -/
theorem Rec.once {s : Node} {w w' : Word} (h : Rec s w) (h' : Rec s w') (e : keyW w = keyW w') : w.value = w'.value := by
  obtain ⟨a0, a1, a2, a3, a4, a5⟩ := w
  obtain ⟨b0, b1, b2, b3, b4, b5⟩ := w'
  simp only [keyW, Word.mk.injEq] at e
  obtain ⟨rfl, rfl, rfl, rfl, _⟩ := e
  have hk := h.good.kind
  simp only at hk
  rcases (by omega : a0 = 1 ∨ a0 = 2 ∨ a0 = 3) with rfl | rfl | rfl
  · have e1 := h.call rfl
    have e2 := h'.call rfl
    simp only at e1 e2
    rw [e1] at e2
    simp only [Call.mk.injEq] at e2
    exact e2.2.1
  · have e1 := h.wish rfl
    have e2 := h'.wish rfl
    simp only at e1 e2 ⊢
    omega
  · have e1 := h.prom rfl
    have e2 := h'.prom rfl
    simp only at e1 e2 ⊢
    omega

/-- The map holds what those that are true have said. -/
def SaidOK (l : Int) (c : CrowdS) (kvs : List (D × D)) : Prop :=
  ∀ p ∈ kvs, ∃ w v, p = (eWord (keyW w), I v) ∧ (w.frm ≠ l → w.value + 1 = v ∧ Rec (c.nodes w.frm.toNat) w)
theorem SaidOK.nil (l : Int) (c : CrowdS) : SaidOK l c [] := fun p hp => absurd hp (List.not_mem_nil)
theorem SaidOK.do {l : Int} {c : CrowdS} {kvs : List (D × D)} (h : SaidOK l c kvs) (a : Act) : SaidOK l (doC c a).1 kvs := fun p hp => by
  obtain ⟨w, v, e, hw⟩ := h p hp
  exact ⟨w, v, e, fun hf => ⟨(hw hf).1, (hw hf).2.grows fun k => doC_grows c a _ k⟩⟩
theorem mem_setD {kvs : List (D × D)} {k v : D} {p : D × D} (h : p ∈ setD kvs k v) : p ∈ kvs ∨ p = (k, v) := by
  unfold setD at h
  split at h
  · rcases List.mem_or_eq_of_mem_set h with h | h
    · exact .inl h
    · exact .inr h
  · rcases List.mem_append.1 h with h | h
    · exact .inl h
    · exact .inr (List.mem_singleton.1 h)
theorem SaidOK.put {l : Int} {c : CrowdS} {kvs : List (D × D)} (h : SaidOK l c kvs) {w : Word} {v : Int} (hw : w.frm ≠ l → w.value + 1 = v ∧ Rec (c.nodes w.frm.toNat) w) : SaidOK l c (setD kvs (eWord (keyW w)) (I v)) := fun p hp => by
  rcases mem_setD hp with hp | hp
  · exact h p hp
  · exact ⟨w, v, hp, hw⟩
theorem SaidOK.look {l : Int} {c : CrowdS} {kvs : List (D × D)} (h : SaidOK l c kvs) (w : Word) : ∃ x, lookD kvs (eWord (keyW w)) (I 0) = I x ∧ (w.frm ≠ l → Rec (c.nodes w.frm.toNat) w → x = 0 ∨ x = w.value + 1) := by
  unfold lookD
  cases hf : findD (eWord (keyW w)) kvs 0 with
  | none => exact ⟨0, rfl, fun _ _ => .inl rfl⟩
  | some q =>
    obtain ⟨j, d⟩ := q
    obtain ⟨n, p, _, h1, h2, h3⟩ := findD_some hf
    obtain ⟨w', v, e, hw'⟩ := h p (List.mem_of_getElem? h1)
    subst e
    have hk := eqD_word h3
    simp only at h2
    refine ⟨v, h2.symm, fun hl hr => .inr ?_⟩
    have ef : w'.frm = w.frm := by
      have := congrArg Word.frm hk
      exact this.symm
    obtain ⟨e1, e2⟩ := hw' (by rw [ef]; exact hl)
    rw [ef] at e2
    have := Rec.once hr e2 hk
    omega
theorem SaidOK.keys {l : Int} {c : CrowdS} {kvs : List (D × D)} (h : SaidOK l c kvs) {tt : TT} {kt : TypeId} (w : Word) (ht : ∀ w', eqT tt 12 kt (eWord (keyW w)) (eWord w') = true) : keysOK tt kt (eWord (keyW w)) kvs := fun p hp => by
  obtain ⟨w', v, e, _⟩ := h p hp
  subst e
  exact ⟨ht _, rfl⟩

end Go.W
