/-
  Loads and stores.
-/
import Derived.Test.YthpjdjofcbnoiacWd
namespace Go.W

def peq : List Nat → List Nat → Bool
  | [], [] => true
  | a :: p, b :: q => match Nat.beq a b with
    | true => peq p q
    | false => false
  | _, _ => false

theorem peq_eq : ∀ {p q : List Nat}, peq p q = true → p = q
  | [], [], _ => rfl
  | a :: p, b :: q, h => by
    simp only [peq] at h
    cases hb : Nat.beq a b with
    | true => rw [hb] at h; rw [Nat.eq_of_beq_eq_true hb, peq_eq h]
    | false => rw [hb] at h; cases h
  | [], _ :: _, h => by simp [peq] at h
  | _ :: _, [], h => by simp [peq] at h

/-- p begins q. -/
def pre : List Nat → List Nat → Bool
  | [], _ => true
  | a :: p, b :: q => match Nat.beq a b with
    | true => pre p q
    | false => false
  | _, _ => false

def tokFind : List (List Nat × Nat) → List Nat → Option Nat
  | [], _ => none
  | (q, y) :: r, p => match peq q p with
    | true => some y
    | false => tokFind r p

theorem tokFind_mem : ∀ {tok : List (List Nat × Nat)} {p : List Nat} {y : Nat}, tokFind tok p = some y → (p, y) ∈ tok
  | (q, z) :: r, p, y, h => by
    simp only [tokFind] at h
    cases hb : peq q p with
    | true => rw [hb] at h; simp only [Option.some.injEq] at h; subst h; rw [peq_eq hb]; exact List.mem_cons_self ..
    | false => rw [hb] at h; exact List.mem_cons_of_mem _ (tokFind_mem h)

def tokDrop : List (List Nat × Nat) → List Nat → List (List Nat × Nat)
  | [], _ => []
  | (q, y) :: r, p => match pre p q with
    | true => tokDrop r p
    | false => (q, y) :: tokDrop r p

theorem tokDrop_mem : ∀ {tok : List (List Nat × Nat)} {p q : List Nat} {y : Nat}, (q, y) ∈ tokDrop tok p → (q, y) ∈ tok ∧ pre p q = false
  | [], p, q, y, h => by simp [tokDrop] at h
  | (q', z) :: r, p, q, y, h => by
    simp only [tokDrop] at h
    cases hb : pre p q' with
    | true => rw [hb] at h; have := tokDrop_mem h; exact ⟨List.mem_cons_of_mem _ this.1, this.2⟩
    | false =>
      rw [hb] at h
      rcases List.mem_cons.1 h with h | h
      · simp only [Prod.mk.injEq] at h; obtain ⟨rfl, rfl⟩ := h; exact ⟨List.mem_cons_self .., hb⟩
      · have := tokDrop_mem h; exact ⟨List.mem_cons_of_mem _ this.1, this.2⟩

/-- What follows p in q. -/
def stripP : List Nat → List Nat → Option (List Nat)
  | [], q => some q
  | a :: p, b :: q => match Nat.beq a b with
    | true => stripP p q
    | false => none
  | _ :: _, [] => none
def tokSub : List (List Nat × Nat) → List Nat → List (List Nat × Nat)
  | [], _ => []
  | (q, y) :: r, p => match stripP p q with
    | some q' => (q', y) :: tokSub r p
    | none => tokSub r p
theorem stripP_eq : ∀ {p q q' : List Nat}, stripP p q = some q' → q = p ++ q'
  | [], q, q', h => by simp only [stripP, Option.some.injEq] at h; simp [h]
  | a :: p, b :: q, q', h => by
    simp only [stripP] at h
    split at h
    · rename_i hb
      rw [Nat.eq_of_beq_eq_true hb, stripP_eq h]; rfl
    · cases h
  | _ :: _, [], q', h => by simp [stripP] at h
theorem tokSub_mem : ∀ {tok : List (List Nat × Nat)} {p q : List Nat} {y : Nat}, (q, y) ∈ tokSub tok p → (p ++ q, y) ∈ tok
  | [], p, q, y, h => by simp [tokSub] at h
  | (q0, z) :: r, p, q, y, h => by
    simp only [tokSub] at h
    split at h
    · rename_i q' hq
      rcases List.mem_cons.1 h with h | h
      · simp only [Prod.mk.injEq] at h
        obtain ⟨rfl, rfl⟩ := h
        rw [← stripP_eq hq]; exact List.mem_cons_self ..
      · exact List.mem_cons_of_mem _ (tokSub_mem h)
    · exact List.mem_cons_of_mem _ (tokSub_mem h)

theorem path_app {d v : D} {p q : List Nat} (hg : d.get p = some v) : d.get (p ++ q) = v.get q ∧ d.off (p ++ q) = d.off p + v.off q ∧ (PathOK d (p ++ q) → PathOK v q) ∧ (PathOK d p → PathOK v q → PathOK d (p ++ q)) := by
  induction p generalizing d with
  | nil =>
    simp only [D.get, Option.some.injEq] at hg
    subst hg
    simp only [List.nil_append]
    refine ⟨trivial, ?_, id, fun _ h => h⟩
    cases d <;> simp [D.off]
  | cons i p ih =>
    cases d with
    | agg n f =>
      obtain ⟨h1, h2, h3, h4⟩ := ih hg
      simp only [List.cons_append, D.get, D.off, PathOK]
      exact ⟨h1, by rw [h2]; omega, fun h => h3 h.2, fun h g => ⟨h.1, h4 h.2 g⟩⟩
    | arr n es f =>
      obtain ⟨h1, h2, h3, h4⟩ := ih hg
      simp only [List.cons_append, D.get, D.off, PathOK]
      exact ⟨h1, by rw [h2]; omega, fun h => h3 h.2, fun h g => ⟨h.1, h4 h.2 g⟩⟩
    | _ => simp [D.get] at hg

def rich (d : D) (tok : List (List Nat × Nat)) : AV :=
  match tok with
  | [] => .data d
  | t :: r => .rich d (t :: r)

theorem VR.mkRich {c : Cx} {d : D} {tok : List (List Nat × Nat)} {v : Value} (h : VD c.w c.fz d v) (ht : TokOK c d tok (fun o => v.cells.getD o Go.undef)) : VR c (Go.W.rich d tok) v := by
  unfold Go.W.rich
  split
  · exact .data h
  · exact .rich h ht

def ldAV (d : D) (tok : List (List Nat × Nat)) (p : List Nat) : AV :=
  match d with
  | .list xs => match tokFind tok p with
    | some y => .row y xs
    | none => .data (.list xs)
  | .agg n f => Go.W.rich (.agg n f) (tokSub tok p)
  | .arr n es f => Go.W.rich (.arr n es f) (tokSub tok p)
  | d => .data d

def fits (d : D) (ti : TI) : Bool := match beqB d.isAgg ti.agg with
  | true => Nat.beq d.size ti.sz
  | false => false

theorem fits_spec {d : D} {ti : TI} (h : fits d ti = true) : d.isAgg = ti.agg ∧ d.size = ti.sz := by
  unfold fits at h
  split at h
  · rename_i h1; exact ⟨by revert h1; cases d.isAgg <;> cases ti.agg <;> simp [beqB], Nat.eq_of_beq_eq_true h⟩
  · cases h

def xLoad (tt : TT) (es : List Ent) (T : TypeId) (x : AV) : Option AV :=
  match tt.ti T with
  | none => none
  | some ti => match x with
    | .ptr y p => match es[y]? with
      | some (.var d tok) => match d.get p with
        | some v => match fits v ti with
          | true => some (ldAV v tok p)
          | false => none
        | none => none
      | some (.ref a) => match ti.agg with
        | false => some a
        | true => none
      | _ => none
    | .cptr d => match fits d ti with
      | true => some (.data d)
      | false => none
    | _ => none

theorem load_cells {P : Program} {T : TypeId} {ti : TI} (h : tokB P T ti = true) (w : World) (b o : Nat) (f : Nat → Value) (hc : ∀ j, j < ti.sz → w.cell? ⟨b, o + j, none⟩ = some (f j)) :
    (ti.agg = true → (Instr.loadAt T (.pointer (some ⟨b, o, none⟩))).run P w = .ok (.agg ((List.range ti.sz).map f).toArray) w) ∧
    (ti.agg = false → 0 < ti.sz → (Instr.loadAt T (.pointer (some ⟨b, o, none⟩))).run P w = .ok (f 0) w) := by
  obtain ⟨h1, h2⟩ := tok_agg h w
  constructor
  · intro ha
    rw [ha] at h1
    have := run_loadCells (P := P) w ⟨b, o, none⟩ ti.sz f (fun j hj => by rw [Addr.add_mid]; exact hc j hj)
    simp [Instr.loadAt, Instr.sureAddr, loadVar, h1, h2, this]
  · intro ha hp
    rw [ha] at h1
    have := hc 0 hp
    simp only [Nat.add_zero] at this
    simp [Instr.loadAt, Instr.sureAddr, loadVar, h1, this]

theorem VD_of_cells {w : World} {fz : Nat → Nat} {d : D} {f : Nat → Value} (h : DR w fz d f) :
    VD w fz d (if d.isAgg then .agg ((List.range d.size).map f).toArray else f 0) := by
  unfold VD
  cases hd : d.isAgg with
  | true =>
    simp only [if_true]
    refine ⟨_, rfl, by simp, h.congr fun o ho => ?_⟩
    simp [ho]
  | false =>
    simp only [Bool.false_eq_true, if_false]
    refine h.congr fun o ho => ?_
    have : d.size = 1 := by cases d <;> simp_all [D.isAgg, D.size]
    have : o = 0 := by omega
    subst this; rfl

theorem cell_of_block {w : World} {b : Nat} {cs : Array Value} {T : TypeId} {fr : Nat × Nat} (h : w.heap[b]? = some (.cells cs T fr)) {o : Nat} (ho : o < cs.size) :
    w.cell? ⟨b, o, none⟩ = some (cs.getD o undef) := by
  simp [World.cell?, h, ho]

theorem size_leaf {d : D} (h : d.isAgg = false) : d.size = 1 := by cases d <;> simp_all [D.isAgg, D.size]

theorem xLoad_sound {P : Program} {tt : TT} (hT : TTok P tt) {c : Cx} (hc : CxOK c) {T : TypeId} {x a : AV} (h : xLoad tt c.es T x = some a) {xv : Value} (hx : VR c x xv) :
    ∃ val, (Instr.loadAt T xv).run P c.w = .ok val c.w ∧ VR c a val := by
  unfold xLoad at h
  split at h
  · cases h
  rename_i ti hti
  have htok := hT.ti _ _ hti
  split at h
  · rename_i y p
    split at h
    · rename_i d tok hy
      split at h
      · rename_i v hv
        split at h
        · rename_i hf
          simp only [Option.some.injEq] at h
          obtain ⟨f1, f2⟩ := fits_spec hf
          obtain ⟨b, cs, T', e1, e2, e3, e4, e5, e6⟩ := hc.ent y _ hy
          cases hx with
          | ptrgone h1 h2 => exact (gone_var hy h1 h2).elim
          | refp h1 h2 => rw [hy] at h1; cases h1
          | ptr h1 h2 h3 =>
            rw [hy] at h1
            simp only [Option.some.injEq, Ent.var.injEq] at h1
            obtain ⟨rfl, rfl⟩ := h1
            rw [e1] at h3
            simp only [Option.some.injEq] at h3
            subst h3
            have hsz := off_size e4.wf h2 hv
            have hat := e4.at h2 hv
            have hl := load_cells (P := P) htok c.w b (d.off p) (fun j => cs.getD (d.off p + j) undef) (fun j hj => cell_of_block e2 (by omega))
            have hvd := VD_of_cells hat
            have hval : ∃ val, (Instr.loadAt T (.pointer (some ⟨b, d.off p, none⟩))).run P c.w = .ok val c.w ∧ VD c.w c.fz v val ∧ (v.isAgg = false → val = cs.getD (d.off p) undef) ∧ (v.isAgg = true → ∀ o, o < v.size → val.cells.getD o undef = cs.getD (d.off p + o) undef) := by
              cases hag : v.isAgg with
              | true =>
                rw [hag] at f1 hvd
                refine ⟨_, hl.1 f1.symm, by rw [← f2]; simpa using hvd, fun h => Bool.noConfusion h, fun _ o ho => ?_⟩
                rw [f2] at ho
                simp [Value.cells, ho]
              | false =>
                rw [hag] at f1 hvd
                have := size_leaf hag
                exact ⟨_, hl.2 f1.symm (by omega), by simpa using hvd, fun _ => rfl, fun h => by cases h⟩
            obtain ⟨val, r1, r2, r3, r4⟩ := hval
            refine ⟨val, r1, ?_⟩
            subst h
            unfold ldAV
            split
            · rename_i xs
              split
              · rename_i z hz
                obtain ⟨_, ⟨e, he⟩, xs', hx1, hx2⟩ := e6 p z (tokFind_mem hz)
                rw [hv] at hx1
                simp only [Option.some.injEq, D.list.injEq] at hx1
                subst hx1
                refine .row r2 he.1 he.2 ?_
                rw [r3 rfl]
                exact hx2
              · exact .data r2
            · refine VR.mkRich r2 fun q y hq => ?_
              obtain ⟨k1, k2, xs, k3, k4⟩ := e6 _ y (tokSub_mem hq)
              obtain ⟨j1, j2, j3, _⟩ := path_app (q := q) hv
              have hs2 := off_size hat.wf (j3 k1) (by rw [← j1]; exact k3)
              refine ⟨j3 k1, k2, xs, by rw [← j1]; exact k3, ?_⟩
              have hs2 : _ + 1 ≤ _ := hs2
              have h9 := r4 rfl _ (Nat.lt_of_lt_of_le (Nat.lt_succ_self _) hs2)
              simp only [h9, ← j2]
              exact k4
            · refine VR.mkRich r2 fun q y hq => ?_
              obtain ⟨k1, k2, xs, k3, k4⟩ := e6 _ y (tokSub_mem hq)
              obtain ⟨j1, j2, j3, _⟩ := path_app (q := q) hv
              have hs2 := off_size hat.wf (j3 k1) (by rw [← j1]; exact k3)
              refine ⟨j3 k1, k2, xs, by rw [← j1]; exact k3, ?_⟩
              have hs2 : _ + 1 ≤ _ := hs2
              have h9 := r4 rfl _ (Nat.lt_of_lt_of_le (Nat.lt_succ_self _) hs2)
              simp only [h9, ← j2]
              exact k4
            · exact .data r2
        · cases h
      · cases h
    · rename_i a' hy
      split at h
      · rename_i hag
        simp only [Option.some.injEq] at h
        subst h
        obtain ⟨b, v, T', e1, e2, e3, e4⟩ := hc.ent y _ hy
        cases hx with
        | ptrgone h1 h2 => exact (gone_ref hy h1 h2).elim
        | ptr h1 h2 h3 => rw [hy] at h1; cases h1
        | refp h1 h2 =>
          rw [e1] at h2
          simp only [Option.some.injEq] at h2
          subst h2
          obtain ⟨g1, g2⟩ := tok_agg (P := P) htok c.w
          rw [hag] at g1
          have := cell_of_block e2 (o := 0) (by simp)
          refine ⟨v, ?_, e3⟩
          simp [Instr.loadAt, Instr.sureAddr, loadVar, g1, this]
      · cases h
    · cases h
  · rename_i d
    split at h
    · rename_i hf
      simp only [Option.some.injEq] at h
      subst h
      obtain ⟨f1, f2⟩ := fits_spec hf
      cases hx with
      | @cptr _ b o h1 h2 =>
        have hl := load_cells (P := P) htok c.w b o (fun j => cellAt c.w b (o + j)) (fun j hj => by
          obtain ⟨v, hv⟩ := hc.fr b (o + j) (by omega)
          simp [cellAt, hv])
        have hvd := VD_of_cells h1
        cases hag : d.isAgg with
        | true =>
          rw [hag] at f1 hvd
          exact ⟨_, hl.1 f1.symm, .data (by rw [← f2]; simpa using hvd)⟩
        | false =>
          rw [hag] at f1 hvd
          have := size_leaf hag
          exact ⟨_, hl.2 f1.symm (by omega), .data (by simpa using hvd)⟩
    · cases h
  · cases h

end Go.W
