/-
  Stores.
-/
import Derived.Test.YthpjdjofcbnoiacWe
namespace Go.W

def splice (cs : Array Value) (o : Nat) (vs : List Value) : Array Value := (cs.toList.take o ++ vs ++ cs.toList.drop (o + vs.length)).toArray

theorem splice_size {cs : Array Value} {o : Nat} {vs : List Value} (h : o + vs.length ≤ cs.size) : (splice cs o vs).size = cs.size := by
  simp [splice]; omega

theorem splice_getD {cs : Array Value} {o : Nat} {vs : List Value} (h : o + vs.length ≤ cs.size) (j : Nat) :
    (splice cs o vs).getD j undef = if o ≤ j ∧ j < o + vs.length then vs.getD (j - o) undef else cs.getD j undef := by
  have hlen : (cs.toList.take o).length = o := by simp; omega
  simp only [splice, Array.getD_eq_getD_getElem?, List.getElem?_toArray]
  rcases Nat.lt_or_ge j o with h1 | h1
  · rw [if_neg (by omega), List.append_assoc, List.getElem?_append_left (by omega)]
    simp [List.getElem?_take, h1]
  · rcases Nat.lt_or_ge j (o + vs.length) with h2 | h2
    · rw [if_pos ⟨h1, h2⟩, List.getElem?_append_left (by simp; omega), List.getElem?_append_right (by omega), hlen, List.getD_eq_getElem?_getD]
    · rw [if_neg (by omega), List.getElem?_append_right (by simp; omega)]
      simp only [List.length_append, hlen, List.getElem?_drop]
      rw [show o + vs.length + (j - (o + vs.length)) = j by omega]
      simp

theorem store_cells {P : Program} {T : TypeId} {ti : TI} (h : tokB P T ti = true) (w : World) (b o : Nat) {cs : Array Value} {T' : TypeId} (hb : w.heap[b]? = some (.cells cs T' (0, 0))) (v : Value)
    (hsz : v.cells.size = ti.sz) (ho : o + ti.sz ≤ cs.size) (h1 : ∀ x ∈ v.cells.toList, x.oneCell' = true) :
    (Instr.storeAt T (.pointer (some ⟨b, o, none⟩)) v).run P w = .ok () (w.setRow b (splice cs o v.cells.toList)) := by
  have := run_storeCells_at (P := P) b o T' v.cells.toList 0 cs w hb (by simp; omega) h1
  obtain ⟨h2, h3⟩ := tok_agg h w
  simp only [Nat.add_zero] at this
  simp [Instr.storeAt, Instr.sureAddr, storeVar, h3, hsz, this, splice]

/-- One of our own blocks is written. -/
theorem over {c : Cx} (hc : CxOK c) {y b : Nat} {e e' : Ent} {cs cs' : Array Value} {T : TypeId} (hy : c.es[y]? = some e) (hl : c.lam[y]? = some (some b)) (hb : c.w.heap[b]? = some (.cells cs T (0, 0)))
    (hsz : cs'.size = cs.size) (hz : c.fz b = 0) (hs : EntStep c { c with w := c.w.setRow b cs', es := c.es.set y e' } y e e')
    (he : Reach c { c with w := c.w.setRow b cs', es := c.es.set y e' } → EntOK { c with w := c.w.setRow b cs', es := c.es.set y e' } y e') :
    CxOK { c with w := c.w.setRow b cs', es := c.es.set y e' } ∧ Reach c { c with w := c.w.setRow b cs', es := c.es.set y e' } := by
  have hyl : y < c.es.length := (List.getElem?_eq_some_iff.1 hy).1
  have hcell : ∀ b' o, b' ≠ b → (c.w.setRow b cs').cell? ⟨b', o, none⟩ = c.w.cell? ⟨b', o, none⟩ := fun b' o hne => by
    simp only [World.cell?, setRow_other _ _ _ _ hne]
  have hr : Reach c { c with w := c.w.setRow b cs', es := c.es.set y e' } := {
    size := by simp
    rest := ⟨rfl, rfl, rfl⟩
    ext := fun b' => ⟨Nat.le_refl _, fun o ho => hcell b' o fun h => by subst h; omega⟩
    keep := fun b' cs0 T0 f h0 => by
      by_cases hbb : b' = b
      · subst hbb
        rw [hb] at h0
        simp only [Option.some.injEq, Obj.cells.injEq] at h0
        obtain ⟨rfl, rfl, rfl⟩ := h0
        exact ⟨cs', setRow_heap _ _ _ _ _ _ hb, hsz⟩
      · exact ⟨cs0, by simp only [setRow_other _ _ _ _ hbb]; exact h0, rfl⟩
    frame := fun b' _ hn => by
      have hne : b' ≠ b := fun h => hn y (h ▸ hl)
      exact ⟨setRow_other _ _ _ _ hne, rfl⟩
    ents := fun x ex hx => by
      by_cases hxy : x = y
      · subst hxy
        rw [hy] at hx
        simp only [Option.some.injEq] at hx
        subst hx
        exact ⟨e', by simp [hyl], hs⟩
      · exact ⟨ex, by simp [List.getElem?_set_ne (Ne.symm hxy), hx], EntStep.stay (c := c) (c' := { c with w := c.w.setRow b cs', es := c.es.set y e' }) rfl ex⟩
    news := fun x b' hx hb' => by
      have h1 := (List.getElem?_eq_some_iff.1 hb').1
      have h2 := hc.len
      simp only at h1
      omega }
  refine ⟨⟨fun b' o ho => ?_, by simp [hc.len], hc.inj, fun x b' h => by simpa using hc.low x b' h, fun x ex hx => ?_⟩, hr⟩
  · by_cases hbb : b' = b
    · subst hbb; simp only at ho; omega
    · obtain ⟨v, hv⟩ := hc.fr b' o ho
      exact ⟨v, (hcell b' o hbb).trans hv⟩
  · by_cases hxy : x = y
    · subst hxy
      simp only [hyl, List.getElem?_set_self, Option.some.injEq] at hx
      subst hx
      exact he hr
    · simp only [List.getElem?_set_ne (Ne.symm hxy)] at hx
      have h0 := hc.ent x ex hx
      have hne : ∀ b', c.lam[x]? = some (some b') → b' ≠ b := fun b' h h' => hxy (hc.inj x y b (h' ▸ h) hl)
      cases ex with
      | var d tok =>
        obtain ⟨b', cs0, T0, e1, e2, e3, e4, e5, e6⟩ := h0
        refine ⟨b', cs0, T0, e1, (setRow_other _ _ _ _ (hne b' e1)).trans e2, e3, e4.ext hr.ext, e5, fun p z hz => ?_⟩
        obtain ⟨g1, ⟨ez, g2, g2'⟩, xs, g3, g4⟩ := e6 p z hz
        obtain ⟨ez', g5, g6⟩ := hr.ents z ez g2
        exact ⟨g1, ⟨ez', g5, g6.notVar g2'⟩, xs, g3, g4.mono hr ⟨g2, g2'⟩⟩
      | ref a =>
        obtain ⟨b', v, T0, e1, e2, e3, e4⟩ := h0
        exact ⟨b', v, T0, e1, (setRow_other _ _ _ _ (hne b' e1)).trans e2, e3.mono hr, e4⟩
      | row sz xs =>
        rcases h0 with h0 | ⟨b', cs0, T0, e1, e2, e3, e4⟩
        · exact .inl h0
        · exact .inr ⟨b', cs0, T0, e1, (setRow_other _ _ _ _ (hne b' e1)).trans e2, e3, e4⟩
      | map l =>
        obtain ⟨b', arr, clock, e1, e2, e3, e4⟩ := h0
        exact ⟨b', arr, clock, e1, (setRow_other _ _ _ _ (hne b' e1)).trans e2, e3, e4.ext hr.ext⟩
      | dead => trivial

theorem get_set_other {d old u : D} {p q : List Nat} {xs : List D} (hw : d.WF) (hp : PathOK d p) (hg : d.get p = some old) (hq : PathOK d q) (hl : d.get q = some (.list xs)) (hn : pre p q = false) :
    (d.set p u).get q = some (.list xs) ∧ (d.off q < d.off p ∨ d.off p + old.size ≤ d.off q) := by
  induction p generalizing d q with
  | nil => simp [pre] at hn
  | cons i p ih =>
    cases q with
    | nil =>
      simp only [D.get, Option.some.injEq] at hl
      subst hl
      simp [D.get] at hg
    | cons j q =>
      cases d with
      | agg n f =>
        simp only [D.get, PathOK, D.set, D.off, pre] at *
        by_cases hij : i = j
        · subst hij
          have hb : Nat.beq i i = true := Nat.beq_refl i
          simp only [hb, cond_true] at hn ⊢
          obtain ⟨h1, h2⟩ := ih (hw i hp.1) hp.2 hg hq.2 hl hn
          exact ⟨h1, by omega⟩
        · simp only [nbeq_ne (Ne.symm hij), cond_false]
          refine ⟨hl, ?_⟩
          have s1 := off_size (hw i hp.1) hp.2 hg
          have s2 := off_size (hw j hq.1) hq.2 hl
          simp only [D.size] at s2
          rcases Nat.lt_or_ge i j with h | h
          · have := sumTo_le (fun j => (f j).size) h
            right; omega
          · have := sumTo_le (fun j => (f j).size) (show j < i by omega)
            left; omega
      | arr n es f =>
        simp only [D.get, PathOK, D.set, D.off, pre] at *
        by_cases hij : i = j
        · subst hij
          have hb : Nat.beq i i = true := Nat.beq_refl i
          simp only [hb, cond_true] at hn ⊢
          obtain ⟨h1, h2⟩ := ih (hw i hp.1).2 hp.2 hg hq.2 hl hn
          exact ⟨h1, by omega⟩
        · simp only [nbeq_ne (Ne.symm hij), cond_false]
          refine ⟨hl, ?_⟩
          have s1 := off_size (hw i hp.1).2 hp.2 hg
          have s2 := off_size (hw j hq.1).2 hq.2 hl
          have z1 := (hw i hp.1).1
          have z2 := (hw j hq.1).1
          simp only [D.size] at s2
          rcases Nat.lt_or_ge i j with h | h
          · have := mul_le_of (es := es) h
            right; omega
          · have := mul_le_of (es := es) (show j < i by omega)
            left; omega
      | _ => simp [D.get] at hg

theorem get_set_same {d old u : D} {p : List Nat} (hg : d.get p = some old) : (d.set p u).get p = some u := by
  induction p generalizing d with
  | nil => cases d <;> simp [D.set, D.get]
  | cons i p ih =>
    cases d with
    | agg n f =>
      have hb : Nat.beq i i = true := Nat.beq_refl i
      simp only [D.get, D.set, hb, cond_true] at *
      exact ih hg
    | arr n es f =>
      have hb : Nat.beq i i = true := Nat.beq_refl i
      simp only [D.get, D.set, hb, cond_true] at *
      exact ih hg
    | _ => simp [D.get] at hg

def refOK : AV → Bool
  | .ptr _ _ => true
  | .cptr _ => true
  | .nilptr => true
  | .func _ _ => true
  | .nilfunc => true
  | .mp _ => true
  | _ => false

def tokPre (p : List Nat) : List (List Nat × Nat) → List (List Nat × Nat) → List (List Nat × Nat)
  | [], r => r
  | (q, y) :: t, r => (p ++ q, y) :: tokPre p t r
theorem tokPre_mem {p : List Nat} : ∀ {t r : List (List Nat × Nat)} {q : List Nat} {y : Nat}, (q, y) ∈ tokPre p t r → (∃ q', q = p ++ q' ∧ (q', y) ∈ t) ∨ (q, y) ∈ r
  | [], r, q, y, h => .inr h
  | (q0, z) :: t, r, q, y, h => by
    simp only [tokPre] at h
    rcases List.mem_cons.1 h with h | h
    · simp only [Prod.mk.injEq] at h
      obtain ⟨rfl, rfl⟩ := h
      exact .inl ⟨q0, rfl, List.mem_cons_self ..⟩
    · rcases tokPre_mem h with ⟨q', h1, h2⟩ | h
      · exact .inl ⟨q', h1, List.mem_cons_of_mem _ h2⟩
      · exact .inr h

def xStore (tt : TT) (es : List Ent) (T : TypeId) (x v : AV) : Option (List Ent × List Prop) :=
  match tt.ti T with
  | none => none
  | some ti => match x with
    | .ptr y p => match es[y]? with
      | some (.var d tok) => match d.get p with
        | some old => match v with
          | .data u => match fits u ti with
            | true => match fits old ti with
              | true => match u.isAgg with
                | true => some (es.set y (.var (d.set p u) (tokDrop tok p)), [Same old u])
                | false => some (es.set y (.var (d.set p u) (tokDrop tok p)), [])
              | false => none
            | false => none
          | .rich u tk => match fits u ti with
            | true => match fits old ti with
              | true => some (es.set y (.var (d.set p u) (tokPre p tk (tokDrop tok p))), [Same old u])
              | false => none
            | false => none
          | .row z xs => match fits old ti with
            | true => match ti.agg with
              | false => some (es.set y (.var (d.set p (.list xs)) ((p, z) :: tokDrop tok p)), [])
              | true => none
            | false => none
          | _ => none
        | none => none
      | some (.ref _) => match ti.agg with
        | false => match Nat.beq ti.sz 1 with
          | true => match refOK v with
            | true => some (es.set y (.ref v), [])
            | false => none
          | false => none
        | true => none
      | _ => none
    | _ => none

def AllP : List Prop → Prop
  | [] => True
  | p :: ps => p ∧ AllP ps

theorem store_var {P : Program} {tt : TT} (hT : TTok P tt) {c : Cx} (hc : CxOK c) {T : TypeId} {ti : TI} (hti : tt.ti T = some ti) {y : Nat} {p : List Nat} {d old u : D} {tok : List (List Nat × Nat)}
    (hy : c.es[y]? = some (.var d tok)) (hg : d.get p = some old) (hsz : old.size = ti.sz) (hsame : Same old u) {xv vv : Value} (hx : VR c (.ptr y p) xv) (hv : VD c.w c.fz u vv)
    (tk : List (List Nat × Nat)) (htk : ∀ q z, (q, z) ∈ tk → ((q, z) ∈ tok ∧ pre p q = false) ∨ (∃ q', q = p ++ q' ∧ PathOK u q' ∧ (∃ e, c.es[z]? = some e ∧ e.isVar = false) ∧ ∃ xs, u.get q' = some (.list xs) ∧ RowC c z xs (vv.cells.getD (u.off q') undef))) :
    ∃ c', (Instr.storeAt T xv vv).run P c.w = .ok () c'.w ∧ CxOK c' ∧ Reach c c' ∧ c'.es = c.es.set y (.var (d.set p u) tk) := by
  have htok := hT.ti _ _ hti
  obtain ⟨b, cs, T', e1, e2, e3, e4, e5, e6⟩ := hc.ent y _ hy
  cases hx with
  | ptrgone h1 h2 => exact (gone_var hy h1 h2).elim
  | refp h1 h2 => rw [hy] at h1; cases h1
  | ptr h1 h2 h3 =>
    rw [hy] at h1
    simp only [Option.some.injEq, Ent.var.injEq] at h1
    obtain ⟨rfl, rfl⟩ := h1
    rw [e1] at h3
    simp only [Option.some.injEq] at h3
    subst h3
    obtain ⟨v1, v2⟩ := hv.cells
    have hus := hsame.size
    have hin := off_size e4.wf h2 hg
    have hll : vv.cells.toList.length = old.size := by simp [v1, hus]
    have hrun := store_cells (P := P) htok c.w b (d.off p) e2 vv (by omega) (by omega) (fun x hx => by
      obtain ⟨i, hi, rfl⟩ := List.getElem_of_mem hx
      have := v2.one i (by simp at hi; omega)
      simp at hi
      simpa [hi] using this)
    have hsp := splice_size (cs := cs) (o := d.off p) (vs := vv.cells.toList) (by omega)
    have hsd := set_same h2 hg hsame
    have hgd := splice_getD (cs := cs) (o := d.off p) (vs := vv.cells.toList) (by omega)
    obtain ⟨o1, o2⟩ := over hc (e' := .var (d.set p u) tk) (cs' := splice cs (d.off p) vv.cells.toList) hy e1 e2 hsp e5 (.inl ⟨_, _, rfl, hsd, rfl⟩) (fun hr => by
      refine ⟨b, _, T', e1, setRow_heap _ _ _ _ _ _ e2, ?_, ?_, e5, fun q z hz => ?_⟩
      · rw [hsp, ← hsd.size]; exact e3
      · refine (e4.ext hr.ext).set h2 hg hus ?_ fun o ho ho' => ?_
        · refine (v2.ext hr.ext).congr fun o ho => ?_
          rw [hgd, if_pos (by omega)]
          simp [show d.off p + o - d.off p = o by omega]
        · rw [hgd, if_neg (by omega)]
      · rcases htk q z hz with ⟨g1, g2⟩ | ⟨q', rfl, gp, ⟨ez, g2⟩, xs, gl, g3⟩
        · obtain ⟨k1, ⟨ez, k2⟩, xs, k3, k4⟩ := e6 q z g1
          obtain ⟨k5, k6⟩ := get_set_other (u := u) e4.wf h2 hg k1 k3 g2
          obtain ⟨k7, k8⟩ := hsd.path k1
          obtain ⟨ez', g5, g6⟩ := hr.ents z ez k2.1
          refine ⟨k7, ⟨ez', g5, g6.notVar k2.2⟩, xs, k5, ?_⟩
          dsimp only
          rw [← k8, hgd, if_neg (by omega)]
          exact k4.mono hr k2
        · obtain ⟨k7, k8⟩ := hsd.path h2
          obtain ⟨ez', g5, g6⟩ := hr.ents z ez g2.1
          have hgs := get_set_same (u := u) hg
          obtain ⟨j1, j2, _, j4⟩ := path_app (q := q') hgs
          have hw : u.WF := v2.wf
          have hin2 := off_size hw gp gl
          have hin2 : u.off q' + 1 ≤ u.size := hin2
          refine ⟨j4 k7 gp, ⟨ez', g5, g6.notVar g2.2⟩, xs, by rw [j1]; exact gl, ?_⟩
          dsimp only
          rw [j2, ← k8, hgd, if_pos (by omega), show d.off p + u.off q' - d.off p = u.off q' by omega]
          have h0 : vv.cells.toList.getD (u.off q') undef = vv.cells.getD (u.off q') undef := by simp
          rw [h0]
          exact g3.mono hr g2)
    exact ⟨_, hrun, o1, o2, rfl⟩

theorem xStore_sound {P : Program} {tt : TT} (hT : TTok P tt) {c : Cx} (hc : CxOK c) {T : TypeId} {x v : AV} {es' : List Ent} {obs : List Prop} (h : xStore tt c.es T x v = some (es', obs)) (ho : AllP obs)
    {xv vv : Value} (hx : VR c x xv) (hv : VR c v vv) : ∃ c', (Instr.storeAt T xv vv).run P c.w = .ok () c'.w ∧ CxOK c' ∧ Reach c c' ∧ c'.es = es' := by
  unfold xStore at h
  split at h
  · cases h
  rename_i ti hti
  have htok := hT.ti _ _ hti
  split at h
  case h_2 => cases h
  rename_i y p
  split at h
  · rename_i d tok hy
    split at h
    case h_2 => cases h
    rename_i old hg
    split at h
    · rename_i u
      split at h
      case h_2 => cases h
      rename_i hfu
      split at h
      case h_2 => cases h
      rename_i hfo
      obtain ⟨f1, f2⟩ := fits_spec hfu
      obtain ⟨f3, f4⟩ := fits_spec hfo
      cases hv with
      | data hv =>
        split at h
        · simp only [Option.some.injEq, Prod.mk.injEq] at h
          obtain ⟨rfl, rfl⟩ := h
          exact store_var hT hc hti hy hg f4 ho.1 hx hv _ fun q z hz => .inl (tokDrop_mem hz)
        · rename_i hua
          simp only [Option.some.injEq, Prod.mk.injEq] at h
          obtain ⟨rfl, rfl⟩ := h
          refine store_var hT hc hti hy hg f4 ?_ hx hv _ fun q z hz => .inl (tokDrop_mem hz)
          rw [hua] at f1
          cases old <;> cases u <;> simp_all [Same, D.isAgg]
    · rename_i u tk
      split at h
      case h_2 => cases h
      rename_i hfu
      split at h
      case h_2 => cases h
      rename_i hfo
      obtain ⟨f1, f2⟩ := fits_spec hfu
      obtain ⟨f3, f4⟩ := fits_spec hfo
      simp only [Option.some.injEq, Prod.mk.injEq] at h
      obtain ⟨rfl, rfl⟩ := h
      cases hv with
      | rich hv ht =>
        refine store_var hT hc hti hy hg f4 ho.1 hx hv _ fun q z hz => ?_
        rcases tokPre_mem hz with ⟨q', rfl, hq⟩ | hz
        · obtain ⟨t1, t2, xs, t3, t4⟩ := ht q' z hq
          exact .inr ⟨q', rfl, t1, t2, xs, t3, t4⟩
        · exact .inl (tokDrop_mem hz)
    · rename_i z xs
      split at h
      case h_2 => cases h
      rename_i hfo
      split at h
      case h_2 => cases h
      rename_i hag
      obtain ⟨f3, f4⟩ := fits_spec hfo
      simp only [Option.some.injEq, Prod.mk.injEq] at h
      obtain ⟨rfl, rfl⟩ := h
      cases hv with
      | row hv1 hv2 hv2' hv3 =>
        refine store_var hT hc hti hy hg f4 ?_ hx hv1 _ fun q z' hz => ?_
        · rw [hag] at f3
          cases old <;> simp_all [Same, D.isAgg]
        · rcases List.mem_cons.1 hz with hz | hz
          · simp only [Prod.mk.injEq] at hz
            obtain ⟨rfl, rfl⟩ := hz
            refine .inr ⟨[], by simp, by simp [PathOK], ⟨_, hv2, hv2'⟩, xs, rfl, ?_⟩
            have hcell : vv.cells = #[vv] := by
              have hv' := hv1
              unfold VD at hv'
              simp only [D.isAgg] at hv'
              exact (DR.leaf_cells rfl hv').1
            rw [hcell]
            exact hv3
          · exact .inl (tokDrop_mem hz)
    · cases h
  · rename_i a0 hy
    split at h
    case h_2 => cases h
    rename_i hag
    split at h
    case h_2 => cases h
    rename_i hsz
    split at h
    case h_2 => cases h
    rename_i hrf
    simp only [Option.some.injEq, Prod.mk.injEq] at h
    obtain ⟨rfl, rfl⟩ := h
    have hsz := Nat.eq_of_beq_eq_true hsz
    obtain ⟨b, v0, T', e1, e2, e3, e4⟩ := hc.ent y _ hy
    cases hx with
    | ptrgone h1 h2 => exact (gone_ref hy h1 h2).elim
    | ptr h1 h2 h3 => rw [hy] at h1; cases h1
    | refp h1 h2 =>
      rw [e1] at h2
      simp only [Option.some.injEq] at h2
      subst h2
      have hcell : vv.cells = #[vv] ∧ vv.oneCell' = true := by
        cases hv <;> simp [refOK] at hrf <;> exact ⟨rfl, rfl⟩
      have hrun := store_cells (P := P) htok c.w b 0 e2 vv (by rw [hcell.1, hsz]; rfl) (by rw [hsz]; simp) (fun x hx => by
        rw [hcell.1] at hx; simp at hx; subst hx; exact hcell.2)
      have hspl : splice #[v0] 0 vv.cells.toList = #[vv] := by rw [hcell.1]; simp [splice]
      rw [hspl] at hrun
      obtain ⟨o1, o2⟩ := over hc (e' := .ref v) (cs' := #[vv]) hy e1 e2 rfl e4 ⟨_, rfl, rfl⟩ (fun hr => by
        exact ⟨b, vv, T', e1, setRow_heap _ _ _ _ _ _ e2, hv.mono hr, e4⟩)
      exact ⟨_, hrun, o1, o2, rfl⟩
  · cases h

end Go.W
