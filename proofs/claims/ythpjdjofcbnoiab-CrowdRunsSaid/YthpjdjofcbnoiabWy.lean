/-
  How long a list that is read may be.
-/
import Derived.Test.YthpjdjofcbnoiabWx
import Derived.SizedLaws
namespace Go.W

theorem len_of_list {w : World} {fz : Nat → Nat} {xs : List D} {c : Nat → Value} (h : DR w fz (.list xs) c) : ∃ a cap, c 0 = .slice a xs.length cap := by
  cases h with
  | list0 h _ => exact ⟨_, _, h⟩
  | list h _ _ _ _ _ => exact ⟨_, _, h⟩

theorem list_small {P : Program} {H : Type} {enc : TypeId × Value → H} {w : World} {base : Nat} {sp : Nat → Bool} {held : Bool} {t e : TypeId} (hu : P.underlying t = some (.slice e)) {fuel : Nat} {cs : List Value} {x : DataW H × List MemPlace}
    (h : DataW.trod enc P w base sp held fuel t cs = some x) {w' : World} {fz : Nat → Nat} {xs : List D} (hx : DR w' fz (.list xs) (fun _ => cs.headD undef)) (hz : ∀ n ∈ x.1.weights P t, n ≤ reachBytes) : xs.length * P.bytesOf e ≤ reachBytes := by
  obtain ⟨a, cap, hc⟩ := len_of_list hx
  rcases DataW.trod_slice hu h with ⟨rfl, rfl⟩ | ⟨b, len, cap', elems, rest, fu, hfu, rfl, rfl, _, _, _, hel, _⟩
  · simp only [List.headD_cons, Value.slice.injEq] at hc
    rw [← hc.2.1]
    simp
  · simp only [List.headD_cons, Value.slice.injEq] at hc
    have := hz ((elems.length + rest.length) * P.bytesOf e) (by simp [DataW.weights, hu])
    rw [← hc.2.1, ← hel]
    exact Nat.le_trans (Nat.mul_le_mul_right _ (Nat.le_add_right _ _)) this

theorem acts_small {P : Program} {H : Type} {enc : TypeId × Value → H} {w : World} {t e : TypeId} (hu : P.underlying t = some (.slice e)) {v : Value} {d : DataW H} {ps : List MemPlace} (h : DataW.Trod enc P w 0 (fun _ => true) true t v d ps) {c : Cx} {xs : List D}
    (hx : VR c (.data (.list xs)) v) (hz : ∀ n ∈ d.weights P t, n ≤ reachBytes) : xs.length * P.bytesOf e ≤ reachBytes := by
  obtain ⟨fuel, h⟩ := h
  have hd : DR c.w c.fz (.list xs) (fun _ => v) := by
    cases hx with
    | data h => exact h
  have e1 := (DR.leaf_cells (d := .list xs) rfl hd).1
  refine list_small hu h (w' := c.w) (fz := c.fz) ?_ hz
  rw [e1]
  exact hd

theorem mem_weightsEach {P : Program} {H : Type} : ∀ {ts : List TypeId} {ds : List (DataW H)} {j : Nat} {t : TypeId} {d : DataW H}, ts[j]? = some t → ds[j]? = some d → ∀ n ∈ d.weights P t, n ∈ DataW.weightsEach P ts ds := fun ht hd n hn => DataW.weights_mem_each ht hd n hn

/-- A list that is a part of a struct. -/
theorem part_small {P : Program} {H : Type} {enc : TypeId × Value → H} {w : World} {t e : TypeId} {fs : Array Field} (hu : P.underlying t = some (.struct fs)) {j : Nat} {f : Field} (hf : fs[j]? = some f) (hue : P.underlying f.type = some (.slice e)) {off : Nat} (hoff : f.offset = off)
    (hcell : P.cellsOf f.type = 1) {v : Value} {d : DataW H} {ps : List MemPlace} (h : DataW.Trod enc P w 0 (fun _ => true) true t v d ps) {c : Cx} {n : Nat} {g : Nat → D} {xs : List D}
    (hx : VR c (.data (.agg n g)) v) (hj : j < n) (hg : g j = .list xs) (hs : sumTo (fun i => (g i).size) j = off) (hz : ∀ n ∈ d.weights P t, n ≤ reachBytes) : xs.length * P.bytesOf e ≤ reachBytes := by
  subst hoff
  obtain ⟨fuel, h⟩ := h
  have hd : ∃ cs, v = .agg cs ∧ f.offset < cs.size ∧ DR c.w c.fz (.list xs) (fun _ => cs.getD f.offset undef) := by
    cases hx with
    | data h =>
      have h : VD c.w c.fz (.agg n g) v := h
      obtain ⟨cs, rfl, hsz, h⟩ := VD.agg rfl h
      cases h with
      | agg h =>
        have h1 := h j hj
        rw [hg, hs] at h1
        have h2 : f.offset + (g j).size ≤ cs.size := by
          rw [hsz, ← hs]
          exact sumTo_le (fun i => (g i).size) hj
        rw [hg] at h2
        refine ⟨cs, rfl, h2, h1.congr fun o ho => ?_⟩
        have : o = 0 := by simp only [D.size] at ho; omega
        subst this; rfl
  obtain ⟨cs, rfl, hlt, hd⟩ := hd
  obtain ⟨xs', fu, hfu, hxe, hlen, hxl, hall⟩ := DataW.trod_struct hu h
  simp only [Prod.mk.injEq] at hxe
  obtain ⟨rfl, _⟩ := hxe
  have h1 := hall j f hf
  have hjl : j < xs'.length := by rw [hxl]; exact (Array.getElem?_eq_some_iff.1 hf).1
  rw [hcell, List.getElem?_eq_getElem hjl] at h1
  refine list_small hue h1 (w' := c.w) (fz := c.fz) (xs := xs) ?_ (fun m hm => hz m ?_)
  · refine hd.congr fun o _ => ?_
    have : ((Value.agg cs).cells.toList.drop f.offset).take 1 = [cs.getD f.offset undef] := by
      simp only [Value.cells]
      rw [List.drop_eq_getElem_cons (by simpa using hlt)]
      simp [hlt]
    rw [this]; rfl
  · simp only [DataW.weights, hu]
    refine mem_weightsEach (j := j) (t := f.type) (d := xs'[j].1) ?_ ?_ m hm
    · simp [hf]
    · simp [List.getElem?_eq_getElem hjl]

end Go.W
