/-
  Rows that grow.
-/
import Derived.Test.YthpjdjofcbnoiacWi
import Derived.Laws.AppendOwn
import Derived.Laws.OwnMore
import Derived.Great.BuildSlice
import Derived.Laws.BytesArg
namespace Go.W

theorem set_nth {α : Type} {l : List α} {y : Nat} {a : α} (h : y < l.length) : (l.set y a)[y]? = some a := by simp [h]
theorem set_ne {α : Type} {l : List α} {y x : Nat} {a : α} (h : x ≠ y) : (l.set y a)[x]? = l[x]? := by simp [List.getElem?_set_ne (Ne.symm h)]

theorem rowStep {c : Cx} (hc : CxOK c) {y sz : Nat} {xs ys : List D} (hy : c.es[y]? = some (.row sz xs)) {w' : World} {g : Nat} {cs' : Array Value} {T : TypeId} {cap : Nat}
    (hsize : c.w.heap.size ≤ w'.heap.size) (hrest : w'.tape = c.w.tape ∧ w'.os = c.w.os ∧ w'.output = c.w.output)
    (hw : w'.heap[g]? = some (.cells cs' T (0, 0))) (hoth : ∀ k, k < c.w.heap.size → k ≠ g → w'.heap[k]? = c.w.heap[k]?)
    (hg : (c.lam[y]? = some (some g) ∧ ∃ cs, c.w.heap[g]? = some (.cells cs T (0, 0)) ∧ cs'.size = cs.size ∧ ∀ o, o < xs.length * sz → cs'.getD o undef = cs.getD o undef) ∨ g = c.w.heap.size)
    (hm : 0 < ys.length) (hcap : cap * sz ≤ cs'.size) (hlen : xs.length + ys.length ≤ cap) (hcm : cap ≤ maxLen) (hes : ∀ d ∈ xs ++ ys, d.size = sz)
    (hd : ∀ i (h : i < (xs ++ ys).length), DR c.w c.fz (xs ++ ys)[i] (fun o => cs'.getD (i * sz + o) undef)) :
    ∃ c' : Cx, c'.w = w' ∧ CxOK c' ∧ Reach c c' ∧ c'.es = c.es.set y (.row sz (xs ++ ys)) ∧ VR c' (.row y (xs ++ ys)) (.slice (some ⟨g, 0, none⟩) (xs.length + ys.length) cap) := by
  have hyl : y < c.es.length := (List.getElem?_eq_some_iff.1 hy).1
  have hll : y < c.lam.length := by rw [hc.len]; exact hyl
  have hn : (xs ++ ys).length * sz ≤ cs'.size := by
    have : (xs ++ ys).length * sz ≤ cap * sz := Nat.mul_le_mul_right _ (by simpa using hlen)
    omega
  have hcell : ∀ o, o < cs'.size → w'.cell? ⟨g, o, none⟩ = some (cs'.getD o undef) := fun o ho => by simp [World.cell?, hw, ho]
  -- what of g was frozen
  have hfg : c.fz g ≤ (xs ++ ys).length * sz ∧ ∀ o, o < c.fz g → w'.cell? ⟨g, o, none⟩ = c.w.cell? ⟨g, o, none⟩ := by
    rcases hg with ⟨h1, cs, h2, h3, h4⟩ | h1
    · have he := hc.ent y _ hy
      rcases he with ⟨_, h5⟩ | ⟨b, cs0, T0, e1, e2, e3, e4⟩
      · rw [h1] at h5; cases h5
      · rw [h1] at e1
        simp only [Option.some.injEq] at e1
        subst e1
        refine ⟨by rw [e3, List.length_append, Nat.add_mul]; omega, fun o ho => ?_⟩
        rw [e3] at ho
        rw [e2] at h2
        simp only [Option.some.injEq, Obj.cells.injEq] at h2
        obtain ⟨rfl, rfl, _⟩ := h2
        have h6 := h4 o ho
        have ho' : o < cs0.size := by omega
        rw [hcell o (by omega), h6]
        simp [World.cell?, e2, ho']
    · have := hc.fr.high (b := g) (by omega)
      exact ⟨by omega, fun o ho => by omega⟩
  let c' : Cx := ⟨w', fun b => if b = g then (xs ++ ys).length * sz else c.fz b, c.lam.set y (some g), c.es.set y (.row sz (xs ++ ys))⟩
  have hold : ∀ b, b ≠ g → c.fz b ≤ c'.fz b ∧ c'.fz b = c.fz b := fun b hb => by simp only [c', if_neg hb]; exact ⟨Nat.le_refl _, trivial⟩
  have hext : Ext c.w c.fz c'.w c'.fz := fun b => by
    by_cases hb : b = g
    · subst hb
      refine ⟨by simp only [c', if_true]; exact hfg.1, hfg.2⟩
    · refine ⟨(hold b hb).1, fun o ho => ?_⟩
      have hbl : b < c.w.heap.size := by
        rcases Nat.lt_or_ge b c.w.heap.size with h | h
        · exact h
        · have := hc.fr.high h; omega
      simp only [World.cell?, c', hoth b hbl hb]
  -- no other entry lies at g
  have hlone : ∀ (x b : Nat), x ≠ y → c.lam[x]? = some (some b) → b ≠ g := fun x b hx hb hbg => by
    subst hbg
    rcases hg with ⟨h1, _⟩ | h1
    · exact hx (hc.inj x y b hb h1)
    · have := hc.low x b hb; omega
  have hgl : g < w'.heap.size := (Array.getElem?_eq_some_iff.1 hw).1
  have hr : Reach c c' := {
    size := hsize
    rest := hrest
    ext := hext
    keep := fun b cs T0 f h0 => by
      have hbl : b < c.w.heap.size := (Array.getElem?_eq_some_iff.1 h0).1
      by_cases hb : b = g
      · subst hb
        rcases hg with ⟨h1, cs1, h2, h3, _⟩ | h1
        · rw [h2] at h0
          simp only [Option.some.injEq, Obj.cells.injEq] at h0
          obtain ⟨rfl, rfl, rfl⟩ := h0
          exact ⟨cs', hw, h3⟩
        · omega
      · exact ⟨cs, (hoth b hbl hb).trans h0, rfl⟩
    frame := fun b hb hx => by
      have hne : b ≠ g := fun h => by
        subst h
        rcases hg with ⟨h1, _⟩ | h1
        · exact hx y h1
        · omega
      exact ⟨hoth b hb hne, (hold b hne).2⟩
    ents := fun x e hx => by
      by_cases hxy : x = y
      · subst hxy
        rw [hy] at hx
        simp only [Option.some.injEq] at hx
        subst hx
        refine ⟨.row sz (xs ++ ys), set_nth hyl, xs ++ ys, rfl, ⟨ys, rfl⟩, fun h => ?_, ?_⟩
        · rw [List.length_append] at h; omega
        · rcases hg with ⟨h1, _⟩ | h1
          · exact .inl (by rw [h1]; exact set_nth hll)
          · exact .inr ⟨g, set_nth hll, by omega⟩
      · exact ⟨e, (set_ne hxy).trans hx, EntStep.stay (c := c) (c' := c') (set_ne hxy) e⟩
    news := fun x b hx hb => by
      have h1 := (List.getElem?_eq_some_iff.1 hb).1
      have h2 := hc.len
      simp only [c', List.length_set] at h1
      omega }
  refine ⟨c', rfl, ⟨fun b o ho => ?_, by simp only [c', List.length_set]; exact hc.len, fun x z b hx hz => ?_, fun x b hx => ?_, fun x e hx => ?_⟩, hr, rfl, ?_⟩
  · by_cases hb : b = g
    · subst hb
      simp only [c', if_true] at ho
      exact ⟨_, hcell o (by omega)⟩
    · simp only [c', if_neg hb] at ho
      obtain ⟨v, hv⟩ := hc.fr b o ho
      exact ⟨v, by rw [(hext b).2 o ho]; exact hv⟩
  · by_cases h1 : x = y
    · by_cases h2 : z = y
      · omega
      · subst h1
        have hx' : some (some g) = some (some b) := (set_nth hll).symm.trans hx
        simp only [Option.some.injEq] at hx'
        exact absurd hx'.symm (hlone z b h2 ((set_ne h2).symm.trans hz))
    · by_cases h2 : z = y
      · subst h2
        have hz' : some (some g) = some (some b) := (set_nth hll).symm.trans hz
        simp only [Option.some.injEq] at hz'
        exact absurd hz'.symm (hlone x b h1 ((set_ne h1).symm.trans hx))
      · exact hc.inj x z b ((set_ne h1).symm.trans hx) ((set_ne h2).symm.trans hz)
  · by_cases h1 : x = y
    · subst h1
      have hx' : some (some g) = some (some b) := (set_nth hll).symm.trans hx
      simp only [Option.some.injEq] at hx'
      subst hx'; exact hgl
    · exact Nat.lt_of_lt_of_le (hc.low x b ((set_ne h1).symm.trans hx)) hsize
  · by_cases h1 : x = y
    · subst h1
      have hx' : some (Ent.row sz (xs ++ ys)) = some e := (set_nth hyl).symm.trans hx
      simp only [Option.some.injEq] at hx'
      subst hx'
      exact .inr ⟨g, cs', T, set_nth hll, hw, by simp [c'], hn⟩
    · have hx0 : c.es[x]? = some e := (set_ne h1).symm.trans hx
      have h0 := hc.ent x e hx0
      have hlx : c'.lam[x]? = c.lam[x]? := set_ne h1
      have hb0 : ∀ b, c.lam[x]? = some (some b) → w'.heap[b]? = c.w.heap[b]? ∧ c'.fz b = c.fz b := fun b hb => ⟨hoth b (hc.low x b hb) (hlone x b h1 hb), (hold b (hlone x b h1 hb)).2⟩
      cases e with
      | var d tok =>
        obtain ⟨b, cs, T0, e1, e2, e3, e4, e5, e6⟩ := h0
        refine ⟨b, cs, T0, hlx.trans e1, (hb0 b e1).1.trans e2, e3, e4.ext hext, (hb0 b e1).2.trans e5, fun p z hz => ?_⟩
        obtain ⟨g1, ⟨ez, g2, g2'⟩, zs, g3, g4⟩ := e6 p z hz
        obtain ⟨ez', g5, g6⟩ := hr.ents z ez g2
        exact ⟨g1, ⟨ez', g5, g6.notVar g2'⟩, zs, g3, g4.mono hr ⟨g2, g2'⟩⟩
      | ref a =>
        obtain ⟨b, v, T0, e1, e2, e3, e4⟩ := h0
        exact ⟨b, v, T0, hlx.trans e1, (hb0 b e1).1.trans e2, e3.mono hr, (hb0 b e1).2.trans e4⟩
      | row sz0 zs =>
        rcases h0 with ⟨h0, h0'⟩ | ⟨b, cs, T0, e1, e2, e3, e4⟩
        · exact .inl ⟨h0, hlx.trans h0'⟩
        · exact .inr ⟨b, cs, T0, hlx.trans e1, (hb0 b e1).1.trans e2, (hb0 b e1).2.trans e3, e4⟩
      | map l =>
        obtain ⟨b, arr, clock, e1, e2, e3, e4⟩ := h0
        exact ⟨b, arr, clock, hlx.trans e1, (hb0 b e1).1.trans e2, (hb0 b e1).2.trans e3, e4.ext hext⟩
      | dead => trivial
  · have hl : (xs ++ ys).length = xs.length + ys.length := List.length_append
    refine .row (e := .row sz (xs ++ ys)) ?_ (set_nth hyl) rfl ?_
    · unfold VD
      simp only [D.isAgg]
      refine .list (es := sz) (off := 0) (by rw [hl]) (by rw [hl]; exact hlen) hcm (fun i hi => hes _ (List.getElem_mem hi)) (fun i hi => ?_) (by simp [c'])
      refine ((hd i hi).ext hext).congr fun o ho => ?_
      rw [hes _ (List.getElem_mem hi)] at ho
      have hlt : i * sz + o < cs'.size := by
        have := mul_lt_of (es := sz) hi ho
        omega
      simp only [cellAt, c', Nat.zero_add, hcell _ hlt, Option.getD_some]
    · intro sz' zs hz
      have hz' : some (Ent.row sz (xs ++ ys)) = some (Ent.row sz' zs) := (set_nth hyl).symm.trans hz
      simp only [Option.some.injEq, Ent.row.injEq] at hz'
      obtain ⟨rfl, rfl⟩ := hz'
      refine ⟨Nat.le_refl _, fun _ => ⟨rfl, .inr ⟨g, cap, cs', T, set_nth hll, by rw [hl], hw, hcap, by omega, hcm⟩⟩⟩

theorem list_cells {w : World} {fz : Nat → Nat} (hf : FrOK w fz) {ys : List D} {sz : Nat} (hs : ∀ d ∈ ys, d.size = sz) {v : Value} (h : DR w fz (.list ys) (fun _ => v)) :
    (ys = [] ∧ ∃ a cap, v = .slice a 0 cap) ∨ (0 < ys.length ∧ ∃ b off cap, v = .slice (some ⟨b, off, none⟩) ys.length cap ∧ (∀ j, j < ys.length * sz → w.cell? ⟨b, off + j, none⟩ = some (cellAt w b (off + j))) ∧
      ∀ i (h : i < ys.length), DR w fz ys[i] (fun o => cellAt w b (off + i * sz + o))) := by
  cases h with
  | list0 h _ => exact .inl ⟨rfl, _, _, h⟩
  | list h h1 h2 h3 h4 h5 =>
    rename_i b off cap es
    rcases Nat.eq_zero_or_pos ys.length with h0 | h0
    · exact .inl ⟨List.length_eq_zero_iff.1 h0, _, _, by rw [h0] at h; exact h⟩
    · have : es = sz := by rw [← h3 0 h0]; exact hs _ (List.getElem_mem h0)
      subst this
      refine .inr ⟨h0, b, off, cap, h, fun j hj => ?_, h4⟩
      obtain ⟨u, hu⟩ := hf b (off + j) (by omega)
      simp [cellAt, hu]

theorem hd_of {w : World} {fz : Nat → Nat} {xs ys : List D} {sz : Nat} {olds news rest : List Value} (ho : olds.length = xs.length * sz) (hn : news.length = ys.length * sz)
    (hx : ∀ i (h : i < xs.length), DR w fz xs[i] (fun o => olds.getD (i * sz + o) undef)) (hy : ∀ i (h : i < ys.length), DR w fz ys[i] (fun o => news.getD (i * sz + o) undef)) (hes : ∀ d ∈ xs ++ ys, d.size = sz) :
    ∀ i (h : i < (xs ++ ys).length), DR w fz (xs ++ ys)[i] (fun o => (olds ++ news ++ rest).toArray.getD (i * sz + o) undef) := by
  intro i hi
  rcases Nat.lt_or_ge i xs.length with h1 | h1
  · rw [List.getElem_append_left h1]
    refine (hx i h1).congr fun o hoo => ?_
    rw [hes _ (List.mem_append_left _ (List.getElem_mem h1))] at hoo
    have := mul_lt_of (es := sz) h1 hoo
    simp only [List.append_assoc, List.getD_eq_getElem?_getD, Array.getD_eq_getD_getElem?, List.getElem?_toArray]
    rw [List.getElem?_append_left (by omega)]
  · rw [List.getElem_append_right h1]
    have h2 : i - xs.length < ys.length := by simp at hi; omega
    refine (hy _ h2).congr fun o hoo => ?_
    rw [hes _ (List.mem_append_right _ (List.getElem_mem h2))] at hoo
    have h3 := mul_lt_of (es := sz) h2 hoo
    have h4 : i * sz = xs.length * sz + (i - xs.length) * sz := by rw [← Nat.add_mul]; congr 1; omega
    simp only [List.append_assoc, List.getD_eq_getElem?_getD, Array.getD_eq_getD_getElem?, List.getElem?_toArray]
    rw [List.getElem?_append_right (by omega), List.getElem?_append_left (by omega)]
    congr 2
    omega

/-- A new row, that is empty. -/
theorem addRow {c : Cx} (hc : CxOK c) (sz : Nat) : CxOK { c with lam := c.lam ++ [none], es := c.es ++ [.row sz []] } ∧ Reach c { c with lam := c.lam ++ [none], es := c.es ++ [.row sz []] } := by
  have hlamold : ∀ x, x < c.es.length → (c.lam ++ [none])[x]? = c.lam[x]? := fun x hx => List.getElem?_append_left (by rw [hc.len]; exact hx)
  have hlam : ∀ (x b : Nat), (c.lam ++ [none])[x]? = some (some b) → x < c.es.length ∧ c.lam[x]? = some (some b) := by
    intro x b hx
    have hl := (List.getElem?_eq_some_iff.1 hx).1
    simp [hc.len] at hl
    rcases Nat.lt_or_ge x c.es.length with h | h
    · rw [hlamold x h] at hx; exact ⟨h, hx⟩
    · have : x = c.es.length := by omega
      subst this
      rw [← hc.len, List.getElem?_append_right (Nat.le_refl _)] at hx
      simp at hx
  have hr : Reach c { c with lam := c.lam ++ [none], es := c.es ++ [.row sz []] } := {
    size := Nat.le_refl _
    rest := ⟨rfl, rfl, rfl⟩
    ext := .refl _ _
    keep := fun b cs T f h => ⟨cs, h, rfl⟩
    frame := fun b hb _ => ⟨rfl, rfl⟩
    ents := fun x e hx => by
      have hxl := (List.getElem?_eq_some_iff.1 hx).1
      exact ⟨e, by simp only [List.getElem?_append_left hxl, hx], EntStep.stay (c := c) (c' := { c with lam := c.lam ++ [none], es := c.es ++ [.row sz []] }) (hlamold x hxl) e⟩
    news := fun x b hx hb => by have := (hlam x b hb).1; omega }
  refine ⟨⟨hc.fr, by simp [hc.len], fun x y b hx hy => hc.inj x y b (hlam x b hx).2 (hlam y b hy).2, fun x b hx => hc.low x b (hlam x b hx).2, fun x e hx => ?_⟩, hr⟩
  have hxl := (List.getElem?_eq_some_iff.1 hx).1
  simp only [List.length_append, List.length_cons, List.length_nil] at hxl
  rcases Nat.lt_or_ge x c.es.length with h | h
  · simp only [List.getElem?_append_left h] at hx
    have h0 := hc.ent x e hx
    have hlx := hlamold x h
    cases e with
    | var d tok =>
      obtain ⟨b', cs0, T0, e1, e2, e3, e4, e5, e6⟩ := h0
      refine ⟨b', cs0, T0, hlx.trans e1, e2, e3, e4, e5, fun p z hz => ?_⟩
      obtain ⟨g1, ⟨ez, g2, g2'⟩, xs, g3, g4⟩ := e6 p z hz
      obtain ⟨ez', g5, g6⟩ := hr.ents z ez g2
      exact ⟨g1, ⟨ez', g5, g6.notVar g2'⟩, xs, g3, g4.mono hr ⟨g2, g2'⟩⟩
    | ref a =>
      obtain ⟨b', v, T0, e1, e2, e3, e4⟩ := h0
      exact ⟨b', v, T0, hlx.trans e1, e2, e3.mono hr, e4⟩
    | row sz' xs =>
      rcases h0 with ⟨h0, h0'⟩ | ⟨b', cs0, T0, e1, e2, e3, e4⟩
      · exact .inl ⟨h0, hlx.trans h0'⟩
      · exact .inr ⟨b', cs0, T0, hlx.trans e1, e2, e3, e4⟩
    | map l =>
      obtain ⟨b', arr, clock, e1, e2, e3, e4⟩ := h0
      exact ⟨b', arr, clock, hlx.trans e1, e2, e3, e4⟩
    | dead => trivial
  · have : x = c.es.length := by omega
    subst this
    simp at hx
    subst hx
    refine .inl ⟨rfl, ?_⟩
    simp only
    rw [← hc.len, List.getElem?_append_right (Nat.le_refl _)]; simp

/-- The list that a value is. -/
def asList : AV → Option (List D)
  | .data (.list ys) => some ys
  | .data .nil => some []
  | .row _ ys => some ys
  | _ => none

theorem asList_VD {c : Cx} {a : AV} {ys : List D} {v : Value} (h : VR c a v) (ha : asList a = some ys) : DR c.w c.fz (.list ys) (fun _ => v) := by
  unfold asList at ha
  split at ha
  · simp only [Option.some.injEq] at ha; subst ha
    cases h with
    | data h => exact h.leaf rfl
  · simp only [Option.some.injEq] at ha; subst ha
    cases h with
    | data h =>
      cases h.leaf rfl with
      | nil h => exact .list0 h (Nat.zero_le _)
  · simp only [Option.some.injEq] at ha; subst ha
    cases h with
    | row h _ _ _ => exact h.leaf rfl
  · cases ha

theorem run_append_roomT {P : Program} (w : World) (t ty e T : TypeId) (i : TypeInfo) (ht : P.underlying t = some (.slice e)) (hi : P.info? e = some i)
    (g sLen sCap : Nat) (cur : Array Value) (hg : w.heap[g]? = some (.cells cur T (0, 0)))
    (a : Addr) (m c : Nat) (news : List Value) (hl : news.length = m * i.size) (hnews : ∀ j u, news[j]? = some u → w.cell? (a.add j) = some u) (h1 : ∀ u ∈ news, u.oneCell' = true)
    (hroom : sLen + m ≤ sCap) (hfit : sLen * i.size + news.length ≤ cur.size) :
    (Builtin.append_ #[t, t] ty #[.slice (some ⟨g, 0, none⟩) sLen sCap, .slice (some a) m c]).run P w =
      .ok (.slice (some ⟨g, 0, none⟩) (sLen + m) sCap) (w.setRow g (cur.toList.take (sLen * i.size) ++ news ++ cur.toList.drop (sLen * i.size + news.length)).toArray) := by
  have hf := run_firstCells_some (P := P) w i.size m a m c news hl hnews
  have hst := run_storeCells_at P g (sLen * i.size) T news 0 cur w hg (by simpa using hfit) h1
  simp only [Nat.add_zero] at hst
  simp [Builtin.append_, run_underlying ht, sizeOf, typeInfo, hi, Builtin.lenOf, hroom, hf, Addr.add_lit, hst]

theorem run_append_zero {P : Program} (w : World) (t ty e : TypeId) (i : TypeInfo) (ht : P.underlying t = some (.slice e)) (hi : P.info? e = some i) (b : Option Addr) (n cap : Nat) (hn : n ≤ cap) (a : Option Addr) (c : Nat) :
    (Builtin.append_ #[t, t] ty #[.slice b n cap, .slice a 0 c]).run P w = .ok (.slice b n cap) w := by
  cases a <;> cases b <;> simp [Builtin.append_, run_underlying ht, sizeOf, typeInfo, hi, Builtin.lenOf, Builtin.firstCells, hn, storeCells, loadCells, loadCellsFrom]

/-- The cells of a list, in a row. -/
def rowOf (w : World) (b off n : Nat) : List Value := (List.range n).map fun j => cellAt w b (off + j)

theorem rowOf_length (w : World) (b off n : Nat) : (rowOf w b off n).length = n := by simp [rowOf]
theorem rowOf_getD (w : World) (b off n j : Nat) (h : j < n) : (rowOf w b off n).getD j undef = cellAt w b (off + j) := by simp [rowOf, h]

theorem rowOf_cells {w : World} {b off n : Nat} (h : ∀ j, j < n → w.cell? ⟨b, off + j, none⟩ = some (cellAt w b (off + j))) : ∀ j u, (rowOf w b off n)[j]? = some u → w.cell? ((⟨b, off, none⟩ : Addr).add j) = some u := by
  intro j u hj
  have hl := (List.getElem?_eq_some_iff.1 hj).1
  rw [rowOf_length] at hl
  have : (⟨b, off, none⟩ : Addr).add j = ⟨b, off + j, none⟩ := by unfold Addr.add; split <;> simp_all
  rw [this, h j hl]
  simp [rowOf, hl] at hj
  rw [hj]

theorem rowOf_one {w : World} {fz : Nat → Nat} {b off sz : Nat} {ys : List D} (hs : ∀ d ∈ ys, d.size = sz) (h : ∀ i (h : i < ys.length), DR w fz ys[i] (fun o => cellAt w b (off + i * sz + o))) : ∀ u ∈ rowOf w b off (ys.length * sz), u.oneCell' = true := by
  intro u hu
  simp only [rowOf, List.mem_map, List.mem_range] at hu
  obtain ⟨j, hj, rfl⟩ := hu
  have hsz : 0 < sz := by
    rcases Nat.eq_zero_or_pos sz with h0 | h0
    · subst h0; omega
    · exact h0
  have hi : j / sz < ys.length := Nat.div_lt_of_lt_mul (by rw [Nat.mul_comm]; exact hj)
  have := (h _ hi).one (j % sz) (by rw [hs _ (List.getElem_mem hi)]; exact Nat.mod_lt _ hsz)
  have e : off + j / sz * sz + j % sz = off + j := by
    have := Nat.div_add_mod j sz
    rw [Nat.mul_comm] at this
    omega
  rwa [e] at this

theorem rowOf_DR {w : World} {fz : Nat → Nat} {b off sz : Nat} {ys : List D} (hs : ∀ d ∈ ys, d.size = sz) (h : ∀ i (h : i < ys.length), DR w fz ys[i] (fun o => cellAt w b (off + i * sz + o))) :
    ∀ i (h : i < ys.length), DR w fz ys[i] (fun o => (rowOf w b off (ys.length * sz)).getD (i * sz + o) undef) := by
  intro i hi
  refine (h i hi).congr fun o ho => ?_
  rw [hs _ (List.getElem_mem hi)] at ho
  rw [rowOf_getD _ _ _ _ _ (mul_lt_of hi ho), Nat.add_assoc]

theorem set_self {α : Type} {l : List α} {y : Nat} {a : α} (h : l[y]? = some a) : l.set y a = l := by
  apply List.ext_getElem?
  intro i
  by_cases hi : i = y
  · subst hi; rw [set_nth (List.getElem?_eq_some_iff.1 h).1, h]
  · exact set_ne hi

/-- Append to what has no room. -/
theorem run_append_bare {P : Program} (w : World) (t ty e : TypeId) (i : TypeInfo) (z : Value) (ht : P.underlying t = some (.slice e)) (hi : P.info? e = some i) (hz : i.zero = some z) (a0 : Option Addr)
    (a : Addr) (n c : Nat) (news : List Value) (hl : news.length = n * i.size) (hnews : ∀ j v, news[j]? = some v → w.cell? (a.add j) = some v) (hm : 0 < n) (hb : n ≤ maxLen ∧ n * i.bytes ≤ 140737488355328) :
    (Builtin.append_ #[t, t] ty #[.slice a0 0 0, .slice (some a) n c]).run P w = .ok (.slice (some ⟨w.heap.size, 0, none⟩) n (grownCap w n 0 e)) (w.drew.alloc (.cells (news.toArray ++ Builtin.zeroCells z.cells (grownCap w n 0 e - n)) e)) := by
  have hmx := hb.1
  have hbb := hb.2
  simp only [maxLen] at hmx
  cases a0 with
  | none => exact run_append_nil (P := P) w t ty e i z ht hi hz a n c news hl hnews hm (by omega) (by omega)
  | some b =>
    have := run_append_grow (P := P) w t ty e i z ht hi hz b 0 0 [] (by simp) (fun j v h => by simp at h) a n c news hl hnews (by omega) (by omega) (growslice_fits (by omega) (by simpa using hbb))
    simpa using this

/-- A made row, new. -/
theorem rowNew {P : Program} {c : Cx} (hc : CxOK c) {t ty e : TypeId} {i : TypeInfo} {z : Value} (ht : P.underlying t = some (.slice e)) (hi : P.info? e = some i) (hz : i.zero = some z) (hzs : z.cells.size = i.size)
    (a0 : Option Addr) {y : Nat} (hy : c.es[y]? = some (.row i.size [])) {ys : List D} (hm : 0 < ys.length) (hes : ∀ d ∈ ys, d.size = i.size) (hb : ys.length ≤ maxLen ∧ ys.length * i.bytes ≤ 140737488355328)
    {b off cap : Nat} (hcells : ∀ j, j < ys.length * i.size → c.w.cell? ⟨b, off + j, none⟩ = some (cellAt c.w b (off + j))) (hd : ∀ k (h : k < ys.length), DR c.w c.fz ys[k] (fun o => cellAt c.w b (off + k * i.size + o))) :
    ∃ v' c', (Builtin.append_ #[t, t] ty #[.slice a0 0 0, .slice (some ⟨b, off, none⟩) ys.length cap]).run P c.w = .ok v' c'.w ∧ CxOK c' ∧ Reach c c' ∧ c'.es = c.es.set y (.row i.size ys) ∧ VR c' (.row y ys) v' := by
  have hmx := hb.1
  simp only [maxLen] at hmx
  have hr := run_append_bare (P := P) c.w t ty e i z ht hi hz a0 ⟨b, off, none⟩ ys.length cap (rowOf c.w b off (ys.length * i.size)) (rowOf_length _ _ _ _) (rowOf_cells hcells) hm hb
  have hge := grownCap_ge c.w ys.length 0 e
  have hcm := grownCap_le_maxLen c.w ys.length 0 e hb.1
  have hsize : ((rowOf c.w b off (ys.length * i.size)).toArray ++ Builtin.zeroCells z.cells (grownCap c.w ys.length 0 e - ys.length)).size = grownCap c.w ys.length 0 e * i.size := by
    simp only [Array.size_append, List.size_toArray, rowOf_length, size_zeroCells, hzs, ← Nat.add_mul]
    congr 1
    omega
  obtain ⟨c', h1, h2, h3, h4, h5⟩ := rowStep hc hy (w' := c.w.drew.alloc (.cells ((rowOf c.w b off (ys.length * i.size)).toArray ++ Builtin.zeroCells z.cells (grownCap c.w ys.length 0 e - ys.length)) e)) (g := c.w.heap.size) (ys := ys) (T := e)
    (cap := grownCap c.w ys.length 0 e) (by simp) ⟨rfl, rfl, rfl⟩ (heap_alloc_new c.w.drew _) (fun k hk _ => heap_alloc_old c.w.drew _ hk) (.inr rfl) hm (by omega) (by simpa using hge) hcm (by simpa using hes) (fun k hk => by
      have := hd_of (w := c.w) (fz := c.fz) (xs := []) (ys := ys) (sz := i.size) (olds := []) (news := rowOf c.w b off (ys.length * i.size)) (rest := (Builtin.zeroCells z.cells (grownCap c.w ys.length 0 e - ys.length)).toList)
        (by simp) (rowOf_length _ _ _ _) (fun k hk => by simp at hk) (rowOf_DR hes hd) (by simpa using hes) k hk
      refine this.congr fun o _ => ?_
      congr 1
      apply Array.ext'
      simp)
  refine ⟨_, c', by rw [h1]; exact hr, h2, h3, by simpa using h4, ?_⟩
  simpa using h5

theorem append_sound {P : Program} {c : Cx} (hc : CxOK c) {t ty e : TypeId} {i : TypeInfo} {z : Value} (ht : P.underlying t = some (.slice e)) (hi : P.info? e = some i) (hz : i.zero = some z) (hzs : z.cells.size = i.size)
    {y : Nat} {xs xs' : List D} (hy : c.es[y]? = some (.row i.size xs')) (hl : xs'.length = xs.length) {sv xv : Value} (hs : VR c (.row y xs) sv) {ys : List D} (hx : DR c.w c.fz (.list ys) (fun _ => xv))
    (hes : ∀ d ∈ xs ++ ys, d.size = i.size) (hb : (xs ++ ys).length ≤ maxLen ∧ (xs ++ ys).length * i.bytes ≤ 140737488355328) :
    ∃ v' c', (Builtin.append_ #[t, t] ty #[sv, xv]).run P c.w = .ok v' c'.w ∧ CxOK c' ∧ Reach c c' ∧ c'.es = c.es.set y (.row i.size (xs ++ ys)) ∧ VR c' (.row y (xs ++ ys)) v' := by
  have hs0 := hs
  cases hs with
  | row hv hent _ hrow =>
    obtain ⟨_, hrow⟩ := hrow _ _ hy
    obtain ⟨rfl, hrow⟩ := hrow hl
    have hesx : ∀ d ∈ xs', d.size = i.size := fun d hd => hes d (List.mem_append_left _ hd)
    have hesy : ∀ d ∈ ys, d.size = i.size := fun d hd => hes d (List.mem_append_right _ hd)
    rcases list_cells hc.fr hesy hx with ⟨rfl, a, cap, rfl⟩ | ⟨hm, b, off, cap, rfl, hcells, hd⟩
    · simp only [List.append_nil]
      have hsv : ∃ b n cp, sv = .slice b n cp ∧ n ≤ cp := by
        rcases hrow with ⟨h1, _⟩ | ⟨b, cp, cs, T, h1, h2, h3, h4, h5, h6⟩
        · obtain ⟨a, h1⟩ := h1
          exact ⟨_, _, _, h1, Nat.le_refl _⟩
        · exact ⟨_, _, _, h2, h5⟩
      obtain ⟨b, n, cp, rfl, hn⟩ := hsv
      exact ⟨_, c, run_append_zero c.w t ty e i ht hi b n cp hn a cap, hc, .refl hc, (set_self hy).symm, hs0⟩
    · rcases hrow with ⟨⟨a0, rfl⟩, rfl, h3⟩ | ⟨g, cp, cs, T, h1, rfl, h3, h4, h5, h6⟩
      · exact rowNew hc ht hi hz hzs a0 hy hm hesy hb hcells hd
      · have hol := (hv.leaf rfl)
        have hxd : ∀ k (h : k < xs'.length), DR c.w c.fz xs'[k] (fun o => cellAt c.w g (0 + k * i.size + o)) := by
          rcases list_cells hc.fr hesx hol with ⟨rfl, _⟩ | ⟨_, b', off', cap', he, _, hd'⟩
          · intro k hk; simp at hk
          · simp only [Value.slice.injEq, Option.some.injEq, Addr.mk.injEq, and_true] at he
            obtain ⟨⟨rfl, rfl⟩, _⟩ := he
            exact hd'
        have hn0 : xs'.length * i.size ≤ cp * i.size := Nat.mul_le_mul_right _ h5
        have hxcell : ∀ j, j < xs'.length * i.size → c.w.cell? ⟨g, 0 + j, none⟩ = some (cellAt c.w g (0 + j)) := fun j hj => by
          simp [cellAt, World.cell?, h3, show j < cs.size by omega]
        have hcs : ∀ j, j < cs.size → cellAt c.w g (0 + j) = cs.getD j undef := fun j hj => by simp [cellAt, World.cell?, h3, hj]
        by_cases hroom : xs'.length + ys.length ≤ cp
        · have hfit : xs'.length * i.size + (rowOf c.w b off (ys.length * i.size)).length ≤ cs.size := by
            rw [rowOf_length, ← Nat.add_mul]
            have : (xs'.length + ys.length) * i.size ≤ cp * i.size := Nat.mul_le_mul_right _ hroom
            omega
          have hr := run_append_roomT (P := P) c.w t ty e T i ht hi g xs'.length cp cs h3 ⟨b, off, none⟩ ys.length cap (rowOf c.w b off (ys.length * i.size)) (rowOf_length _ _ _ _) (rowOf_cells hcells) (rowOf_one hesy hd) hroom hfit
          have htl : (cs.toList.take (xs'.length * i.size)).length = xs'.length * i.size := by simp; omega
          obtain ⟨c', k1, k2, k3, k4, k5⟩ := rowStep hc hy (ys := ys) (cap := cp) (w' := c.w.setRow g (cs.toList.take (xs'.length * i.size) ++ rowOf c.w b off (ys.length * i.size) ++ cs.toList.drop (xs'.length * i.size + (rowOf c.w b off (ys.length * i.size)).length)).toArray)
            (g := g) (by simp [World.setRow]) ⟨rfl, rfl, rfl⟩ (setRow_heap c.w g cs _ T _ h3) (fun k _ hk => setRow_other c.w g k _ hk)
            (.inl ⟨h1, cs, h3, by simp only [List.size_toArray, List.length_append, List.length_take, List.length_drop, Array.length_toList]; omega, fun o ho => by
              simp only [List.append_assoc, Array.getD_eq_getD_getElem?, List.getElem?_toArray]
              rw [List.getElem?_append_left (by omega), List.getElem?_take, if_pos ho, Array.getElem?_toList]⟩)
            hm (by simp only [List.size_toArray, List.length_append, List.length_take, List.length_drop, Array.length_toList]; omega) hroom h6 hes
            (fun k hk => hd_of htl (rowOf_length _ _ _ _) (fun k hk => (hxd k hk).congr fun o ho => by
              rw [hesx _ (List.getElem_mem hk)] at ho
              have := mul_lt_of (es := i.size) hk ho
              rw [Nat.add_assoc, hcs _ (by omega)]
              simp [List.getElem?_take, this]) (rowOf_DR hesy hd) hes k hk)
          exact ⟨_, c', by rw [k1]; exact hr, k2, k3, k4, k5⟩
        · have hmx := hb.1
          simp only [maxLen, List.length_append] at hmx
          have hbb := hb.2
          rw [List.length_append] at hbb
          have hr := run_append_grow (P := P) c.w t ty e i z ht hi hz ⟨g, 0, none⟩ xs'.length cp (rowOf c.w g 0 (xs'.length * i.size)) (rowOf_length _ _ _ _) (rowOf_cells hxcell) ⟨b, off, none⟩ ys.length cap
            (rowOf c.w b off (ys.length * i.size)) (rowOf_length _ _ _ _) (rowOf_cells hcells) (by omega) (by omega) (growslice_fits (by omega) hbb)
          have hge := grownCap_ge c.w (xs'.length + ys.length) cp e
          have hcm := grownCap_le_maxLen c.w (xs'.length + ys.length) cp e (by rw [← List.length_append]; exact hb.1)
          obtain ⟨c', k1, k2, k3, k4, k5⟩ := rowStep hc hy (ys := ys) (cap := grownCap c.w (xs'.length + ys.length) cp e)
            (w' := c.w.drew.alloc (.cells ((rowOf c.w g 0 (xs'.length * i.size)).toArray ++ (rowOf c.w b off (ys.length * i.size)).toArray ++ Builtin.zeroCells z.cells (grownCap c.w (xs'.length + ys.length) cp e - (xs'.length + ys.length))) e))
            (g := c.w.heap.size) (T := e) (by simp) ⟨rfl, rfl, rfl⟩ (heap_alloc_new c.w.drew _) (fun k hk _ => heap_alloc_old c.w.drew _ hk) (.inr rfl) hm
            (by
              simp only [Array.size_append, List.size_toArray, rowOf_length, size_zeroCells, hzs, ← Nat.add_mul]
              exact Nat.mul_le_mul_right _ (by omega)) hge hcm hes
            (fun k hk => by
              have := hd_of (w := c.w) (fz := c.fz) (xs := xs') (ys := ys) (sz := i.size) (olds := rowOf c.w g 0 (xs'.length * i.size)) (news := rowOf c.w b off (ys.length * i.size))
                (rest := (Builtin.zeroCells z.cells (grownCap c.w (xs'.length + ys.length) cp e - (xs'.length + ys.length))).toList) (rowOf_length _ _ _ _) (rowOf_length _ _ _ _) (rowOf_DR hesx hxd) (rowOf_DR hesy hd) hes k hk
              refine this.congr fun o _ => ?_
              congr 1
              apply Array.ext'
              simp)
          exact ⟨_, c', by rw [k1]; exact hr, k2, k3, k4, k5⟩

theorem append_nil_sound {P : Program} {c : Cx} (hc : CxOK c) {t ty e : TypeId} {i : TypeInfo} {z : Value} (ht : P.underlying t = some (.slice e)) (hi : P.info? e = some i) (hz : i.zero = some z) (hzs : z.cells.size = i.size)
    {sv xv : Value} (hs : ∃ a, sv = .slice a 0 0) {ys : List D} (hx : DR c.w c.fz (.list ys) (fun _ => xv))
    (hes : ∀ d ∈ ys, d.size = i.size) (hb : ys.length ≤ maxLen ∧ ys.length * i.bytes ≤ 140737488355328) :
    ∃ v' c', (Builtin.append_ #[t, t] ty #[sv, xv]).run P c.w = .ok v' c'.w ∧ CxOK c' ∧ Reach c c' ∧ c'.es = c.es ++ [.row i.size ys] ∧ VR c' (.row c.es.length ys) v' := by
  obtain ⟨a0, rfl⟩ := hs
  obtain ⟨h1, h2⟩ := addRow hc i.size
  have hy : ({ c with lam := c.lam ++ [none], es := c.es ++ [.row i.size []] } : Cx).es[c.es.length]? = some (.row i.size []) := by simp
  rcases list_cells hc.fr hes hx with ⟨rfl, a, cap, rfl⟩ | ⟨hm, b, off, cap, rfl, hcells, hd⟩
  · refine ⟨_, { c with lam := c.lam ++ [none], es := c.es ++ [.row i.size []] }, run_append_zero c.w t ty e i ht hi a0 0 0 (Nat.le_refl _) a cap, h1, h2, rfl, ?_⟩
    refine .row (e := .row i.size []) ?_ hy rfl ?_
    · unfold VD
      simp only [D.isAgg]
      exact .list0 rfl (Nat.zero_le _)
    · intro sz' zs hz
      rw [hy] at hz
      simp only [Option.some.injEq, Ent.row.injEq] at hz
      obtain ⟨rfl, rfl⟩ := hz
      exact ⟨Nat.le_refl _, fun _ => ⟨rfl, .inl ⟨⟨_, rfl⟩, rfl, by simp only; rw [← hc.len, List.getElem?_append_right (Nat.le_refl _)]; simp⟩⟩⟩
  · obtain ⟨v', c', k1, k2, k3, k4, k5⟩ := rowNew (P := P) h1 (t := t) (ty := ty) ht hi hz hzs a0 hy hm hes hb (b := b) (off := off) (cap := cap) hcells hd
    refine ⟨v', c', k1, k2, h2.trans k3, ?_, k5⟩
    rw [k4]
    apply List.ext_getElem?
    intro x
    rcases Nat.lt_or_ge x c.es.length with hx | hx
    · rw [set_ne (by omega)]
      simp only [List.getElem?_append_left hx]
    · rcases Nat.eq_or_lt_of_le hx with hx | hx
      · subst hx
        rw [set_nth (by simp)]; simp
      · rw [List.getElem?_eq_none (by simp; omega), List.getElem?_eq_none (by simp; omega)]

/-- A block of frozen cells, new. -/
theorem newList {c : Cx} (hc : CxOK c) {n es : Nat} {f : Nat → D} {cs : Array Value} (T : TypeId) (hs : cs.size = n * es) (hes : ∀ i, i < n → (f i).size = es) (hn : n ≤ maxLen) (hd : ∀ i, i < n → DR c.w c.fz (f i) (fun o => cs.getD (i * es + o) undef)) :
    ∃ c' : Cx, c'.w = c.w.alloc (.cells cs T) ∧ CxOK c' ∧ Reach c c' ∧ c'.es = c.es ∧ VR c' (.data (.list (lst f 0 n))) (.slice (some ⟨c.w.heap.size, 0, none⟩) n n) := by
  have hnew : (c.w.alloc (.cells cs T)).heap[c.w.heap.size]? = some (.cells cs T) := heap_alloc_new _ _
  have hg : Grow c.w c.fz (c.w.alloc (.cells cs T)) (fun b => if b = c.w.heap.size then n * es else c.fz b) := {
    size := by simp
    rest := ⟨rfl, rfl, rfl⟩
    old := fun b hb => ⟨heap_alloc_old _ _ hb, if_neg (by omega)⟩
    fr := fun b o ho => by
      by_cases hb : b = c.w.heap.size
      · subst hb
        simp only [if_true] at ho
        have : o < cs.size := by omega
        exact ⟨cs[o], by simp only [World.cell?, hnew]; simp [this]⟩
      · simp only [if_neg hb] at ho
        obtain ⟨v, hv⟩ := hc.fr b o ho
        have hbl : b < c.w.heap.size := by
          rcases Nat.lt_or_ge b c.w.heap.size with h | h
          · exact h
          · have := hc.fr.high h; omega
        exact ⟨v, by simp only [World.cell?, heap_alloc_old c.w (.cells cs T) hbl]; exact hv⟩ }
  refine ⟨_, rfl, hg.ok hc, hg.reach hc, rfl, .data ?_⟩
  unfold VD
  simp only [D.isAgg]
  refine .list (es := es) (off := 0) (by rw [lst_length]) (by rw [lst_length]; exact Nat.le_refl _) hn (fun i hi => ?_) (fun i hi => ?_) (by simp [lst_length])
  · rw [lst_get]
    rw [lst_length] at hi
    exact hes _ (by omega)
  · rw [lst_get]
    rw [lst_length] at hi
    have h0 : 0 + i = i := by omega
    rw [h0]
    refine ((hd i hi).ext (hg.reach hc).ext).congr fun o ho => ?_
    rw [hes i hi] at ho
    have := mul_lt_of (es := es) hi ho
    simp only [cellAt, World.cell?, hnew, Nat.zero_add]
    simp [show i * es + o < cs.size by omega]

theorem buildSlice_sound {P : Program} {tt : TT} (hT : TTok P tt) {c : Cx} (hc : CxOK c) {T : TypeId} {ti : TI} {e sz by_ len : Nat} {z0 : D} (hti : tt.ti T = some ti) (hk : ti.kind = .slice e sz by_) (hz : tt.zero e = some z0) (hzs : z0.size = sz)
    (hpos : 0 < len * sz) (hsmall : len * sz ≤ 16777216) {parts : List (Nat × AV)} {f : Nat → D} {n s : Nat} (h : buildTo (.arr len sz fun _ => z0) parts = some (.arr n s f)) (hn : n = len) (hs : s = sz) {vs : Array (Nat × Value)} (hl : parts.length = vs.size)
    (hv : ∀ i (h : i < parts.length) (h' : i < vs.size), parts[i].1 = vs[i].1 ∧ VR c parts[i].2 vs[i].2) :
    ∃ val c', (Instr.buildSlice T len vs).run P c.w = .ok val c'.w ∧ CxOK c' ∧ Reach c c' ∧ c'.es = c.es ∧ VR c' (.data (.list (lst f 0 len))) val := by
  subst hn; subst hs
  obtain ⟨hu, _, i, hi, hsz, _⟩ := tok_slice (hT.ti _ _ hti) hk
  obtain ⟨z1, z2, _⟩ := hT.zero _ _ hz
  rw [hi] at z1
  have z1 : i.zero = some (flatV z0) := z1
  obtain ⟨f1, f2⟩ := (VD_flat c.w c.fz z2).cells
  have hs0 : 0 < s := by
    rcases Nat.eq_zero_or_pos s with h0 | h0
    · subst h0; omega
    · exact h0
  have hcsz : (flatV z0).cells.size = s := by omega
  have hinit : DR c.w c.fz (.arr n s fun _ => z0) (fun o => ((Array.range (n * i.size)).map ((flatV z0).cells[· % (flatV z0).cells.size]!)).getD o undef) := by
    refine .arr (fun _ _ => hzs) fun k hk => f2.congr fun o ho => ?_
    rw [hzs] at ho
    have h1 := mul_lt_of (es := s) hk ho
    have h2 : (k * s + o) % s = o := by rw [Nat.mul_comm, Nat.mul_add_mod]; exact Nat.mod_eq_of_lt ho
    have h3 : o < (flatV z0).cells.size := by omega
    simp [hsz, h1, hcsz, h2]
    rw [getElem!_pos (flatV z0).cells o h3, Array.getElem?_eq_getElem h3]
    rfl
  obtain ⟨cs', e1, e2, e3, _⟩ := buildTo_sound (c := c) (place := fun k => some (k * i.size, i.size)) (cs := (Array.range (n * i.size)).map ((flatV z0).cells[· % (flatV z0).cells.size]!)) (vs := vs.toList) h
    (fun k _ => by simp only [hsz, hzs]) (by simp [D.size, hsz]) hinit (by rw [hl]; simp) (fun k hk hk' => by
      have := hv k hk (by simpa using hk')
      simpa using this)
  have hr := run_buildSlice (P := P) c.w T e n vs cs' i (flatV z0) hu hi z1 (by rw [hsz]; omega) (by rw [hsz]; omega) e1
  cases e3 with
  | arr g1 g2 =>
    simp only [D.size] at e2
    have hle : n ≤ n * s := Nat.le_mul_of_pos_right _ hs0
    obtain ⟨c', k1, k2, k3, k4, k5⟩ := newList hc e e2 g1 (by simp only [maxLen]; omega) g2
    exact ⟨_, c', by rw [k1]; exact hr, k2, k3, k4, k5⟩

def numOf : D → Int
  | .int _ n => n
  | _ => 0
def strOfD (xs : List D) : ByteArray := strOfNums (xs.map numOf)

/-- Bytes to a string. -/
def xBytes (tt : TT) (src dst : TypeId) (x : AV) : Option (AV × List Prop) :=
  match asList x with
  | none => none
  | some xs => match tt.ti src with
    | none => none
    | some ti => match ti.kind with
      | .slice e _ _ => match tt.ti e with
        | none => none
        | some te => match te.kind with
          | .int .u8 => match tt.ti dst with
            | none => none
            | some td => match td.kind with
              | .str => some (.data (.str (strOfD xs)), [∀ d ∈ xs, ∃ n, d = .int .u8 n])
              | _ => none
          | _ => none
      | _ => none

theorem xBytes_sound {P : Program} {tt : TT} (hT : TTok P tt) {c : Cx} (hc : CxOK c) {src dst : TypeId} {x v : AV} {obs : List Prop} (h : xBytes tt src dst x = some (v, obs)) (ho : AllP obs) {xv : Value} (hx : VR c x xv) :
    ∃ val, (convert src dst xv).run P c.w = .ok val c.w ∧ VR c v val := by
  unfold xBytes at h
  split at h
  · cases h
  rename_i xs hxs
  split at h
  · cases h
  rename_i ti hti
  split at h
  case h_2 => cases h
  rename_i e es by_ hk
  split at h
  · cases h
  rename_i te hte
  split at h
  case h_2 => cases h
  rename_i hke
  split at h
  · cases h
  rename_i td htd
  split at h
  case h_2 => cases h
  rename_i hkd
  simp only [Option.some.injEq, Prod.mk.injEq] at h
  obtain ⟨rfl, rfl⟩ := h
  have hb := ho.1
  have hs := (tok_slice (hT.ti _ _ hti) hk).1
  have he := (tok_kind (hT.ti _ _ hte)).1 _ hke
  have hd := (tok_kind (hT.ti _ _ htd)).2.2 hkd
  have h1 := asList_VD hx hxs
  have hsz : ∀ d ∈ xs, d.size = 1 := fun d hd => by obtain ⟨n, rfl⟩ := hb d hd; rfl
  have hlen : xs.length ≤ maxLen := by
    cases h1 with
    | list0 _ _ => exact Nat.zero_le _
    | list _ h2 h3 _ _ _ => exact Nat.le_trans h2 h3
  have hfin : VR c (.data (.str (strOfD xs))) (.string (strOfD xs)) := .data (.str rfl (by rw [strOfD, strOfNums_size, List.length_map]; exact hlen))
  rcases list_cells hc.fr hsz h1 with ⟨rfl, a, cap, rfl⟩ | ⟨_, b, off, cap, rfl, hcells, hdd⟩
  · refine ⟨_, ?_, hfin⟩
    cases a with
    | none => exact run_convert_bytes_nil c.w src e hs he 0 cap dst hd
    | some a =>
      rw [run_convert_bytes_string c.w src dst e _ 0 cap hs he hd, run_bytesToString c.w a 0 cap [] (by simp [loadCells, loadCellsFrom])]
      rfl
  · refine ⟨_, run_convert_bytes_arg c.w src e hs he b off xs.length cap (xs.map numOf) (by simp) (fun i hi => ?_) dst hd, hfin⟩
    have h2 := hcells i (by omega)
    rw [h2]
    obtain ⟨n, hn⟩ := hb _ (List.getElem_mem hi)
    have h3 := hdd i hi
    rw [hn] at h3
    cases h3 with
    | int h3 _ =>
      have h3 : cellAt c.w b (off + i) = .int .u8 n := by simpa using h3
      rw [h3]
      simp [hi, hn, numOf]

/-- A slice of parts. -/
def xBuildS (tt : TT) (T : TypeId) (len : Nat) (parts : List (Nat × AV)) : Option AV :=
  match tt.ti T with
  | none => none
  | some ti => match ti.kind with
    | .slice e sz _ => match tt.zero e with
      | none => none
      | some z0 => match Nat.beq z0.size sz && Nat.blt 0 (len * sz) && Nat.ble (len * sz) 16777216 with
        | false => none
        | true => match buildTo (.arr len sz fun _ => z0) parts with
          | some (.arr n s f) => match Nat.beq n len && Nat.beq s sz with
            | true => some (.data (.list (lst f 0 len)))
            | false => none
          | _ => none
    | _ => none

theorem xBuildS_sound {P : Program} {tt : TT} (hT : TTok P tt) {c : Cx} (hc : CxOK c) {T : TypeId} {len : Nat} {parts : List (Nat × AV)} {v : AV} (h : xBuildS tt T len parts = some v) {vs : Array (Nat × Value)} (hl : parts.length = vs.size)
    (hv : ∀ i (h : i < parts.length) (h' : i < vs.size), parts[i].1 = vs[i].1 ∧ VR c parts[i].2 vs[i].2) :
    ∃ val c', (Instr.buildSlice T len vs).run P c.w = .ok val c'.w ∧ CxOK c' ∧ Reach c c' ∧ c'.es = c.es ∧ VR c' v val := by
  unfold xBuildS at h
  split at h
  · cases h
  rename_i ti hti
  split at h
  case h_2 => cases h
  rename_i e sz by_ hk
  split at h
  · cases h
  rename_i z0 hz
  split at h
  · cases h
  rename_i hck
  split at h
  case h_2 => cases h
  rename_i n s f hb
  split at h
  case h_2 => cases h
  rename_i hns
  simp only [Option.some.injEq] at h
  subst h
  simp only [Bool.and_eq_true] at hck hns
  exact buildSlice_sound hT hc hti hk hz (Nat.eq_of_beq_eq_true hck.1.1) (by simpa [Nat.blt_eq] using hck.1.2) (Nat.le_of_ble_eq_true hck.2) hb (Nat.eq_of_beq_eq_true hns.1) (Nat.eq_of_beq_eq_true hns.2) hl hv

/-- What is put behind a row. -/
def xAppend (tt : TT) (es : List Ent) (t t' : TypeId) (s x : AV) : Option (AV × List Ent × List Prop) :=
  match Nat.beq t t' with
  | false => none
  | true => match asList x with
    | none => none
    | some ys => match tt.ti t with
      | none => none
      | some ti => match ti.kind with
        | .slice e sz by_ => match tt.zero e with
          | none => none
          | some z0 => match Nat.beq z0.size sz with
            | false => none
            | true => match s with
              | .data .nil => some (.row es.length ys, es ++ [.row sz ys], [∀ d ∈ ys, d.size = sz, ys.length ≤ maxLen ∧ ys.length * by_ ≤ 140737488355328])
              | .row y xs => match es[y]? with
                | some (.row sz' xs') => match Nat.beq sz' sz with
                  | true => some (.row y (xs ++ ys), es.set y (.row sz (xs ++ ys)), [xs'.length = xs.length, ∀ d ∈ xs ++ ys, d.size = sz, (xs ++ ys).length ≤ maxLen ∧ (xs ++ ys).length * by_ ≤ 140737488355328])
                  | false => none
                | _ => none
              | _ => none
        | _ => none

theorem xAppend_sound {P : Program} {tt : TT} (hT : TTok P tt) {c : Cx} (hc : CxOK c) {t t' ty : TypeId} {s x v : AV} {es' : List Ent} {obs : List Prop} (h : xAppend tt c.es t t' s x = some (v, es', obs)) (ho : AllP obs) {sv xv : Value} (hs : VR c s sv) (hx : VR c x xv) :
    ∃ val c', (Builtin.append_ #[t, t'] ty #[sv, xv]).run P c.w = .ok val c'.w ∧ CxOK c' ∧ Reach c c' ∧ c'.es = es' ∧ VR c' v val := by
  unfold xAppend at h
  split at h
  · cases h
  rename_i htt
  have := Nat.eq_of_beq_eq_true htt
  subst this
  split at h
  · cases h
  rename_i ys hys
  split at h
  · cases h
  rename_i ti hti
  split at h
  case h_2 => cases h
  rename_i e sz by_ hk
  split at h
  · cases h
  rename_i z0 hz
  split at h
  · cases h
  rename_i hz0
  have hz0 := Nat.eq_of_beq_eq_true hz0
  obtain ⟨hu, _, i, hi, hsz, hby⟩ := tok_slice (hT.ti _ _ hti) hk
  obtain ⟨z1, z2, _⟩ := hT.zero _ _ hz
  rw [hi] at z1
  have z1 : i.zero = some (flatV z0) := z1
  have hzc : (flatV z0).cells.size = i.size := by rw [(VD_flat c.w c.fz z2).cells.1]; omega
  subst hsz; subst hby
  have hxd := asList_VD hx hys
  split at h
  · simp only [Option.some.injEq, Prod.mk.injEq] at h
    obtain ⟨rfl, rfl, rfl⟩ := h
    have hsv : ∃ a, sv = .slice a 0 0 := by
      cases hs with
      | data h => cases h.leaf rfl with
        | nil h => exact ⟨_, h⟩
    exact append_nil_sound hc hu hi z1 hzc hsv hxd ho.1 ho.2.1
  · split at h
    case h_2 => cases h
    rename_i sz' xs' hy
    split at h
    case h_2 => cases h
    rename_i hss
    have := Nat.eq_of_beq_eq_true hss
    subst this
    simp only [Option.some.injEq, Prod.mk.injEq] at h
    obtain ⟨rfl, rfl, rfl⟩ := h
    exact append_sound hc hu hi z1 hzc hy ho.1 hs hxd ho.2.1 ho.2.2.1
  · cases h

end Go.W
