/-
  Regions that draw their order: the order of the text serves for every order.
-/
import Derived.Test.YthpjdjofcbnoiacWl
namespace Go.W

def cls (r : Hint) : Op → Nat
  | .fieldAddr _ _ _ => 1
  | .indexAddr _ _ _ => 1
  | .load _ _ => 1
  | .slice _ _ _ _ _ => 1
  | .alloc _ => 2
  | .box _ _ => 2
  | .store _ _ _ => 3
  | .makeMap _ _ => 3
  | .lookup _ _ _ _ => 3
  | .mapUpdate _ _ _ _ => 3
  | .call c => match c.callee with
    | .builtin .append => 3
    | .builtin .clear => 3
    | .value _ => match r.e with
      | some _ => 3
      | none => 1
    | _ => 1
  | _ => 0

/-- May the later one of two come first? -/
def commB : Nat → Nat → Bool
  | 0, _ => true
  | _, 0 => true
  | 1, 1 => true
  | 1, 2 => true
  | _, _ => false

def gval0 (s : St) (t : Nat) : Option Bool :=
  match s.fr t with
  | .v (.data (.bool b)) => some b
  | _ => none

/-- The guard of the guard. -/
def chain (ops : Array Oper) (o : Oper) : Option (Nat × Bool) :=
  match o.guard with
  | none => none
  | some (j, _) => match ops[j]? with
    | none => none
    | some p => match p.guard with
      | none => none
      | some (k, w) => match dstOf ops k with
        | none => none
        | some t => some (t, w)

/-- What the guard's slot holds, and what is known where it holds. -/
def gd (ops : Array Oper) (s : St) (o : Oper) (t : Nat) (w : Bool) : Option (Bool × GL) :=
  match s.fr t with
  | .v (.data (.bool b)) => some (b, [(t, w)])
  | .maybe t1 w1 (.data (.bool b)) => match chain ops o with
    | some (t2, w2) => match Nat.beq t1 t2 with
      | true => match beqB w1 w2 with
        | true => match gval0 s t1 with
          | some _ => some (b, [(t, w), (t1, w1)])
          | none => none
        | false => none
      | false => none
    | none => none
  | _ => none

/-- What an operation gives: its slot, the entries, what is owed. -/
def core (P : Program) (tt : TT) (ops : Array Oper) (s : St) (o : Oper) (r : Hint) : Option (Sl × List Ent × List Prop) :=
  match putOK s.nt o.dst with
  | false => none
  | true => match o.guard with
    | none => match exec P tt [] s r o.op with
      | some (v, es, obs) => some (.v v, es, obs)
      | none => none
    | some (j, w) => match dstOf ops j with
      | none => none
      | some t => match gd ops s o t w with
        | none => none
        | some (b, g) => match sameDst t o.dst with
          | true => none
          | false => match r.g with
            | some _ => none
            | none => match exec P tt g s r o.op with
              | some (v, _, obs) => some (.maybe t w v, s.es, wrapObs b w obs)
              | none => none

theorem gval0_some {s : St} {t : Nat} {b : Bool} (h : gval0 s t = some b) : s.fr t = .v (.data (.bool b)) := by
  unfold gval0 at h
  split at h
  · rename_i b' hfr
    simp only [Option.some.injEq] at h
    subst h; exact hfr
  · cases h
theorem gd_some {ops : Array Oper} {s : St} {o : Oper} {t : Nat} {w b : Bool} {g : GL} (h : gd ops s o t w = some (b, g)) :
    (s.fr t = .v (.data (.bool b)) ∧ g = [(t, w)]) ∨ ∃ t1 w1 b1, s.fr t = .maybe t1 w1 (.data (.bool b)) ∧ chain ops o = some (t1, w1) ∧ s.fr t1 = .v (.data (.bool b1)) ∧ g = [(t, w), (t1, w1)] := by
  unfold gd at h
  split at h
  · rename_i b' hfr
    simp only [Option.some.injEq, Prod.mk.injEq] at h
    obtain ⟨rfl, rfl⟩ := h
    exact .inl ⟨hfr, rfl⟩
  · rename_i t1 w1 b' hfr
    split at h
    case h_2 => cases h
    rename_i t2 w2 hch
    split at h
    case h_2 => cases h
    rename_i ht
    split at h
    case h_2 => cases h
    rename_i hw
    split at h
    case h_2 => cases h
    rename_i b1 hb1
    simp only [Option.some.injEq, Prod.mk.injEq] at h
    obtain ⟨rfl, rfl⟩ := h
    have := Nat.eq_of_beq_eq_true ht
    subst this
    have := beqB_eq hw
    subst this
    exact .inr ⟨t1, w1, b1, hfr, hch, gval0_some hb1, rfl⟩
  · cases h
theorem gd_es {ops : Array Oper} {s : St} {o : Oper} {t : Nat} {w : Bool} (es : List Ent) : gd ops { s with es := es } o t w = gd ops s o t w := rfl

theorem core_step {P : Program} {tt : TT} {ops : Array Oper} {s : St} {o : Oper} {r : Hint} {x : Sl} {es : List Ent} {obs : List Prop} (h : core P tt ops s o r = some (x, es, obs)) : opStep P tt ops s o r = some (s.put o.dst x es, obs) := by
  obtain ⟨dst, op, ty, pos, after, guard⟩ := o
  unfold core at h
  unfold opStep
  simp only [withV_eq, putF_eq]
  split at h
  · cases h
  rename_i hp
  simp only at hp
  simp only [hp]
  simp only at h
  cases guard with
  | none =>
    simp only at h ⊢
    split at h
    · rename_i v es ob hex
      simp only [Option.some.injEq, Prod.mk.injEq] at h
      obtain ⟨rfl, rfl, rfl⟩ := h
      simp only [hex]
    · cases h
  | some g =>
    obtain ⟨j, w⟩ := g
    simp only at h ⊢
    split at h
    · cases h
    rename_i t ht
    simp only [ht]
    split at h
    · cases h
    rename_i b g hb
    have hfr : gval s t = some b ∧ guards s 3 t w = g := by
      rcases gd_some hb with ⟨h1, rfl⟩ | ⟨t1, w1, b1, h1, _, h2, rfl⟩
      · exact ⟨by simp [gval, h1], by simp [guards, h1]⟩
      · exact ⟨by simp [gval, h1], by simp [guards, h1, h2]⟩
    obtain ⟨h2, hg⟩ := hfr
    simp only [h2]
    split at h
    · cases h
    rename_i hne
    simp only [hne]
    try simp only [hg]
    split at h
    · cases h
    rename_i hrg
    simp only [hrg]
    split at h
    · rename_i v es ob hex
      simp only [Option.some.injEq, Prod.mk.injEq] at h
      obtain ⟨rfl, rfl, rfl⟩ := h
      simp only [hex]
    · cases h

def inL (d : Nat) : List Nat → Bool
  | [] => false
  | t :: r => match Nat.beq d t with
    | true => true
    | false => inL d r

theorem look_put {s : St} {d : Nat} {x : Sl} {es : List Ent} {g : GL} (hg : ∀ w, (d, w) ∉ g) {o : Operand} (ho : o ≠ .tmp d) : (s.put (some d) x es).look g o = s.look g o := by
  cases o with
  | tmp t =>
    have ht : t ≠ d := fun h => ho (by rw [h])
    simp only [St.look, St.put, nbeq_ne ht, cond_false]
    cases hs : s.fr t with
    | v a => rfl
    | maybe t' w a =>
      simp only [Sl.er]
      by_cases h : t' = d
      · subst h
        have hb : Nat.beq t' t' = true := Nat.beq_refl t'
        simp only [hb, cond_true, slook]
        cases hi : isG t' w g with
        | true => exact absurd (isG_spec hi) (hg w)
        | false => rfl
      · simp only [nbeq_ne h, cond_false]
  | _ => rfl

theorem pickArg_put {s : St} {d : Nat} {x : Sl} {es : List Ent} {g : GL} (hg : ∀ w, (d, w) ∉ g) {t : Nat} (ht : t ≠ d) (w : Bool) {o : Operand} (ho : o ≠ .tmp d) : pickArg (s.put (some d) x es) g t w o = pickArg s g t w o := by
  cases o with
  | tmp u =>
    have hud : u ≠ d := fun h => ho (by rw [h])
    have hl := look_put (s := s) (x := x) (es := es) hg ho
    simp only [St.look, St.put, nbeq_ne hud, cond_false] at hl
    simp only [pickArg, St.put, nbeq_ne hud, cond_false]
    cases hs : s.fr u with
    | v a => rfl
    | maybe t' w' v =>
      rw [hs] at hl
      simp only [Sl.er] at hl ⊢
      by_cases h : t' = d
      · subst h
        have hb' : Nat.beq t' t' = true := Nat.beq_refl t'
        simp only [hb', cond_true] at hl ⊢
        simp only [nbeq_ne (Ne.symm ht)]
        rw [← hl]
        cases beqB w w' <;> rfl
      · simp only [nbeq_ne h, cond_false]
  | const v => rfl
  | global v => rfl
  | func v => rfl

theorem xPick_put {s : St} {d : Nat} {x : Sl} {es : List Ent} {g : GL} (hg : ∀ w, (d, w) ∉ g) {a b c : Operand} (ha : a ≠ .tmp d) (hb : b ≠ .tmp d) (hc : c ≠ .tmp d) : xPick (s.put (some d) x es) g c a b = xPick s g c a b := by
  unfold xPick
  cases c with
  | tmp t =>
    have ht : t ≠ d := fun h => hc (by rw [h])
    simp only [look_put hg hc, pickArg_put hg ht _ ha, pickArg_put hg ht _ hb]
  | _ => rfl

/-- What an operation gives, with other entries: of class 0 the same; of class 1 the same, if they are more; of class 2 the same but for the name. -/
theorem exec0_put {P : Program} {tt : TT} {s : St} {d : Nat} {x : Sl} {es : List Ent} {g : GL} (hg : ∀ w, (d, w) ∉ g) {r : Hint} {o : Op} (ho : ∀ u ∈ o.operands, u ≠ .tmp d) (hes : es = s.es) :
    exec0 P tt g (s.put (some d) x es) r o = exec0 P tt g s r o := by
  subst hes
  have hl : ∀ u ∈ o.operands, (s.put (some d) x s.es).look g u = s.look g u := fun u hu => look_put hg (ho u hu)
  have hes : (s.put (some d) x s.es).es = s.es := rfl
  cases o <;> simp only [Op.operands] at hl ho <;> simp only [exec0, hes]
  case pick c a b => rw [xPick_put hg (ho a (by simp)) (ho b (by simp)) (ho c (by simp))]
  case build t ps =>
    have : partsOf (s.put (some d) x s.es) g ps = partsOf s g ps := by
      unfold partsOf
      refine List.map_congr_left fun p hp => ?_
      obtain ⟨i, u⟩ := p
      simp only [hl u (by simp; exact ⟨i, by simpa using hp⟩)]
    rw [this]
  case buildSlice t n ps =>
    have : partsOf (s.put (some d) x s.es) g ps = partsOf s g ps := by
      unfold partsOf
      refine List.map_congr_left fun p hp => ?_
      obtain ⟨i, u⟩ := p
      simp only [hl u (by simp; exact ⟨i, by simpa using hp⟩)]
    rw [this]
  case slice T u lo hi mx =>
    have hm : ∀ q : Option Operand, (∀ v ∈ q, v ∈ #[u] ++ lo.toArray ++ hi.toArray ++ mx.toArray) → q.map ((s.put (some d) x s.es).look g) = q.map (s.look g) := fun q hq => by
      cases q with
      | none => rfl
      | some y => simp only [Option.map_some]; rw [hl y (by simpa using hq y rfl)]
    rw [hl u (by simp), hm lo (fun u hu => by simp at hu; simp [hu]), hm hi (fun u hu => by simp at hu; simp [hu]), hm mx (fun u hu => by simp at hu; simp [hu])]
  case makeFunc fn first caps =>
    cases fn <;> simp only
    have : caps.toList.map ((s.put (some d) x s.es).look g) = caps.toList.map (s.look g) := List.map_congr_left fun u hu => hl u (by simp at hu ⊢; exact .inr hu)
    rw [this]
  case call c =>
    have ha : ∀ u ∈ c.args, (s.put (some d) x s.es).look g u = s.look g u := fun u hu => hl u (by unfold Call.operands; simp [hu])
    have hargs : argsOf (s.put (some d) x s.es) g c.args = argsOf s g c.args := by
      unfold argsOf
      exact List.map_congr_left fun u hu => by rw [ha u (by simpa using hu)]
    cases hcal : c.callee with
    | value f =>
      have hf : (s.put (some d) x s.es).look g f = s.look g f := hl f (by unfold Call.operands; simp [hcal])
      have hargs2 : c.args.toList.map ((s.put (some d) x s.es).look g) = c.args.toList.map (s.look g) := List.map_congr_left fun u hu => ha u (by simpa using hu)
      have hargs3 : (c.args.toList.map fun x_1 => dropRow ((s.put (some d) x s.es).look g x_1)) = c.args.toList.map fun x => dropRow (s.look g x) := List.map_congr_left fun u hu => by rw [ha u (by simpa using hu)]
      simp only [hf, hargs]
      split
      · split
        · simp only [execCall, hcal, hf, hargs2, hargs3, hes]
        · rfl
      · rfl
    | invoke f m => rfl
    | builtin b =>
      cases b with
      | append =>
        simp only
        split
        · split
          · split
            · rename_i hu
              rw [ha _ (by rw [← Array.mem_toList_iff, hu]; exact List.mem_cons_self ..), ha _ (by rw [← Array.mem_toList_iff, hu]; exact List.mem_cons_of_mem _ (List.mem_cons_self ..))]
            · rfl
          · rfl
        · rfl
      | len =>
        simp only
        split
        · split
          · split
            · split
              · rename_i u hu
                rw [ha u (by rw [← Array.mem_toList_iff, hu]; simp)]
              · rfl
            · split
              · rename_i u hu
                rw [ha u (by rw [← Array.mem_toList_iff, hu]; simp)]
              · rfl
            · rfl
          · rfl
        · rfl
      | clear =>
        simp only
        split
        · split
          · split
            · rename_i hu
              rw [ha _ (by rw [← Array.mem_toList_iff, hu]; exact List.mem_cons_self ..)]
            · rfl
          · rfl
        · rfl
      | _ =>
        simp only
        split
        · rename_i hu
          rw [ha _ (by rw [← Array.mem_toList_iff, hu]; exact List.mem_cons_self ..), ha _ (by rw [← Array.mem_toList_iff, hu]; exact List.mem_cons_of_mem _ (List.mem_cons_self ..))]
        · rfl
  case unOp op T u => cases op <;> simp only <;> rw [hl u (by simp)]
  case makeMap t v => cases v <;> rfl
  case lookup t u v ok => cases ok <;> simp only <;> rw [hl u (by simp), hl v (by simp)]
  all_goals (simp_all; done)

theorem exec_put {P : Program} {tt : TT} {s : St} {d : Nat} {x : Sl} {es : List Ent} {g : GL} (hg : ∀ w, (d, w) ∉ g) {r : Hint} {o : Op} (ho : ∀ u ∈ o.operands, u ≠ .tmp d) (hes : es = s.es) :
    exec P tt g (s.put (some d) x es) r o = exec P tt g s r o := congrArg (retell r) (exec0_put hg ho hes)

theorem exec0_es0 {P : Program} {tt : TT} {s : St} {g : GL} {r : Hint} {o : Op} (hc : cls r o = 0) (e2 : List Ent) :
    exec0 P tt g { s with es := e2 } r o = (exec0 P tt g s r o).map fun (v, _, obs) => (v, e2, obs) := by
  have hl : ∀ u, ({ s with es := e2 } : St).look g u = s.look g u := fun u => by cases u <;> rfl
  have hp : ∀ c a b, xPick { s with es := e2 } g c a b = xPick s g c a b := fun c a b => by
    have : ∀ t w o, pickArg { s with es := e2 } g t w o = pickArg s g t w o := fun t w o => by cases o <;> rfl
    unfold xPick
    cases c <;> simp only [hl, this]
  have hq : ∀ ps, partsOf { s with es := e2 } g ps = partsOf s g ps := fun ps => by unfold partsOf; simp only [hl]
  have ha : ∀ ps, argsOf { s with es := e2 } g ps = argsOf s g ps := fun ps => by unfold argsOf; simp only [hl]
  have hm : ∀ (l : List Operand), l.map (({ s with es := e2 } : St).look g) = l.map (s.look g) := fun l => List.map_congr_left fun u _ => hl u
  cases o <;> simp only [cls] at hc <;> simp only [exec0, hl, hp, hq, ha, hm]
  all_goals first
    | rfl
    | (repeat' split) <;> simp_all
    | skip

theorem exec_es0 {P : Program} {tt : TT} {s : St} {g : GL} {r : Hint} {o : Op} (hc : cls r o = 0) (e2 : List Ent) :
    exec P tt g { s with es := e2 } r o = (exec P tt g s r o).map fun (v, _, obs) => (v, e2, obs) := by
  unfold exec
  rw [exec0_es0 hc e2, retell_map]

theorem nth_app {es : List Ent} {y : Nat} {e e' : Ent} (h : es[y]? = some e) : (es ++ [e'])[y]? = some e := by
  rw [List.getElem?_append_left (List.getElem?_eq_some_iff.1 h).1]; exact h

/-- The entry at which it points. -/
def ptrIx : AV → Option Nat
  | .ptr y _ => some y
  | .sl y _ _ _ => some y
  | _ => none

theorem xField_at {tt : TT} {es es2 : List Ent} {T : TypeId} {x : AV} {i : Nat} (h : ∀ y, ptrIx x = some y → es2[y]? = es[y]?) : xField tt es2 T x i = xField tt es T x i := by
  cases x with
  | ptr y p => simp only [xField, h y rfl]
  | cptr d => cases d <;> rfl
  | _ => rfl
theorem xIndexAddr_at {tt : TT} {es es2 : List Ent} {T : TypeId} {x i : AV} (h : ∀ y, ptrIx x = some y → es2[y]? = es[y]?) : xIndexAddr tt es2 T x i = xIndexAddr tt es T x i := by
  cases x with
  | ptr y p => simp only [xIndexAddr, h y rfl]
  | sl y a n k => simp only [xIndexAddr, h y rfl]
  | data d => cases d <;> rfl
  | cptr d => cases d <;> rfl
  | _ => rfl
theorem xLoad_at {tt : TT} {es es2 : List Ent} {T : TypeId} {x : AV} (h : ∀ y, ptrIx x = some y → es2[y]? = es[y]?) : xLoad tt es2 T x = xLoad tt es T x := by
  cases x with
  | ptr y p => simp only [xLoad, h y rfl]
  | _ => rfl
theorem xSlice_at {tt : TT} {es es2 : List Ent} {T : TypeId} {x : AV} {lo hi mx : Option AV} (h : ∀ y, ptrIx x = some y → es2[y]? = es[y]?) : xSlice tt es2 T x lo hi mx = xSlice tt es T x lo hi mx := by
  cases x with
  | sl y a n k => simp only [xSlice, h y rfl]
  | data d => cases d <;> rfl
  | _ => rfl
theorem xLen_at {es es2 : List Ent} {x : AV} (h : ∀ y, ptrIx x = some y → es2[y]? = es[y]?) : xLen es2 x = xLen es x := by
  cases x with
  | sl y a n k => simp only [xLen, h y rfl]
  | data d => cases d <;> rfl
  | _ => rfl

theorem xField_lt {tt : TT} {es : List Ent} {T : TypeId} {x v : AV} {i : Nat} (h : xField tt es T x i = some v) : ∀ y, ptrIx x = some y → y < es.length := by
  intro y hy
  rcases Nat.lt_or_ge y es.length with hl | hl
  · exact hl
  · exfalso
    have hn := List.getElem?_eq_none hl
    cases x with
    | ptr z p =>
      simp only [ptrIx, Option.some.injEq] at hy
      subst hy
      unfold xField at h
      simp only [hn] at h
      repeat' split at h
      all_goals cases h
    | sl z a n k =>
      unfold xField at h
      repeat' split at h
      all_goals first
        | (cases h; done)
        | simp_all
    | _ => cases hy
theorem xIndexAddr_lt {tt : TT} {es : List Ent} {T : TypeId} {x j v : AV} {ob : List Prop} (h : xIndexAddr tt es T x j = some (v, ob)) : ∀ y, ptrIx x = some y → y < es.length := by
  intro y hy
  rcases Nat.lt_or_ge y es.length with hl | hl
  · exact hl
  · exfalso
    have hn := List.getElem?_eq_none hl
    cases x with
    | ptr z p =>
      simp only [ptrIx, Option.some.injEq] at hy
      subst hy
      unfold xIndexAddr at h
      simp only [hn] at h
      repeat' split at h
      all_goals cases h
    | sl z a n k =>
      simp only [ptrIx, Option.some.injEq] at hy
      subst hy
      unfold xIndexAddr at h
      simp only [hn] at h
      repeat' split at h
      all_goals cases h
    | _ => cases hy
theorem xLoad_lt {tt : TT} {es : List Ent} {T : TypeId} {x v : AV} (h : xLoad tt es T x = some v) : ∀ y, ptrIx x = some y → y < es.length := by
  intro y hy
  rcases Nat.lt_or_ge y es.length with hl | hl
  · exact hl
  · exfalso
    have hn := List.getElem?_eq_none hl
    cases x with
    | ptr z p =>
      simp only [ptrIx, Option.some.injEq] at hy
      subst hy
      unfold xLoad at h
      simp only [hn] at h
      repeat' split at h
      all_goals cases h
    | sl z a n k =>
      unfold xLoad at h
      repeat' split at h
      all_goals first
        | (cases h; done)
        | simp_all
    | _ => cases hy
theorem xSlice_lt {tt : TT} {es : List Ent} {T : TypeId} {x v : AV} {lo hi mx : Option AV} {ob : List Prop} (h : xSlice tt es T x lo hi mx = some (v, ob)) : ∀ y, ptrIx x = some y → y < es.length := by
  intro y hy
  rcases Nat.lt_or_ge y es.length with hl | hl
  · exact hl
  · exfalso
    have hn := List.getElem?_eq_none hl
    cases x with
    | sl z a n k =>
      simp only [ptrIx, Option.some.injEq] at hy
      subst hy
      unfold xSlice at h
      simp only [hn] at h
      repeat' split at h
      all_goals cases h
    | ptr z p =>
      unfold xSlice at h
      simp only [asList] at h
      repeat' split at h
      all_goals cases h
    | _ => cases hy
theorem xLen_lt {es : List Ent} {x v : AV} {ob : List Prop} (h : xLen es x = some (v, ob)) : ∀ y, ptrIx x = some y → y < es.length := by
  intro y hy
  rcases Nat.lt_or_ge y es.length with hl | hl
  · exact hl
  · exfalso
    have hn := List.getElem?_eq_none hl
    cases x with
    | sl z a n k =>
      simp only [ptrIx, Option.some.injEq] at hy
      subst hy
      unfold xLen at h
      simp only [hn] at h
      cases h
    | ptr z p => simp [xLen] at h
    | _ => cases hy

theorem exec0_es1 {P : Program} {tt : TT} {s : St} {g : GL} {r : Hint} {o : Op} (hc : cls r o = 1) {v : AV} {es' : List Ent} {obs : List Prop} (h : exec0 P tt g s r o = some (v, es', obs)) (e : Ent) :
    es' = s.es ∧ exec0 P tt g { s with es := s.es ++ [e] } r o = some (v, s.es ++ [e], obs) := by
  have hl : ∀ u, ({ s with es := s.es ++ [e] } : St).look g u = s.look g u := fun u => by cases u <;> rfl
  have app : ∀ {x : AV}, (∀ y, ptrIx x = some y → y < s.es.length) → ∀ y, ptrIx x = some y → (s.es ++ [e])[y]? = s.es[y]? := fun h y hy => List.getElem?_append_left (h y hy)
  cases o <;> simp only [cls, Nat.reduceEqDiff] at hc
  case fieldAddr T x i =>
    simp only [exec0, hl] at h ⊢
    split at h
    case h_2 => cases h
    rename_i v' hv
    simp only [Option.some.injEq, Prod.mk.injEq] at h
    obtain ⟨rfl, rfl, rfl⟩ := h
    refine ⟨rfl, ?_⟩
    rw [xField_at (app (xField_lt hv)), hv]
  case indexAddr T x i =>
    simp only [exec0, hl] at h ⊢
    split at h
    case h_2 => cases h
    rename_i v' ob hv
    simp only [Option.some.injEq, Prod.mk.injEq] at h
    obtain ⟨rfl, rfl, rfl⟩ := h
    refine ⟨rfl, ?_⟩
    rw [xIndexAddr_at (app (xIndexAddr_lt hv)), hv]
  case load T x =>
    simp only [exec0, hl] at h ⊢
    split at h
    case h_2 => cases h
    rename_i v' hv
    simp only [Option.some.injEq, Prod.mk.injEq] at h
    obtain ⟨rfl, rfl, rfl⟩ := h
    refine ⟨rfl, ?_⟩
    rw [xLoad_at (app (xLoad_lt hv)), hv]
  case slice T x lo hi mx =>
    have hm : ∀ q : Option Operand, q.map (({ s with es := s.es ++ [e] } : St).look g) = q.map (s.look g) := fun q => by
      cases q with
      | none => rfl
      | some y => simp only [Option.map_some, hl]
    simp only [exec0, hl, hm] at h ⊢
    split at h
    case h_2 => cases h
    rename_i v' ob hv
    simp only [Option.some.injEq, Prod.mk.injEq] at h
    obtain ⟨rfl, rfl, rfl⟩ := h
    refine ⟨rfl, ?_⟩
    rw [xSlice_at (app (xSlice_lt hv)), hv]
  case call cl =>
    have ha : ∀ ps, argsOf ({ s with es := s.es ++ [e] } : St) g ps = argsOf s g ps := fun ps => by unfold argsOf; simp only [hl]
    cases hcal : cl.callee with
    | value f =>
      rw [hcal] at hc
      simp only at hc
      cases hre : r.e with
      | some es1 => rw [hre] at hc; cases hc
      | none =>
        simp only [exec0, hcal, hre, hl, ha] at h ⊢
        split at h
        case h_2 => cases h
        rename_i k caps hk
        split at h
        case h_2 => cases h
        rename_i v' ob hx
        simp only [Option.some.injEq, Prod.mk.injEq] at h
        obtain ⟨rfl, rfl, rfl⟩ := h
        refine ⟨rfl, ?_⟩
        simp only [xCall_app hx e]
    | invoke f m => simp only [exec0, hcal] at h; cases h
    | builtin b =>
      rw [hcal] at hc
      cases b with
      | append => cases hc
      | clear => cases hc
      | len =>
        simp only [exec0, hcal, hl] at h ⊢
        split at h
        · split at h
          · split at h
            · split at h
              · split at h
                case h_2 => cases h
                rename_i hv
                simp only [Option.some.injEq, Prod.mk.injEq] at h
                obtain ⟨rfl, rfl, rfl⟩ := h
                refine ⟨rfl, ?_⟩
                rw [xLen_at (app (xLen_lt hv)), hv]
              · cases h
            · split at h
              · split at h
                · simp only [Option.some.injEq, Prod.mk.injEq] at h
                  obtain ⟨rfl, rfl, rfl⟩ := h
                  exact ⟨rfl, rfl⟩
                · cases h
              · cases h
            · cases h
          · cases h
        · cases h
      | _ =>
        simp only [exec0, hcal, hl] at h ⊢
        split at h
        · split at h
          · simp only [Option.some.injEq, Prod.mk.injEq] at h
            obtain ⟨rfl, rfl, rfl⟩ := h
            exact ⟨rfl, rfl⟩
          · cases h
        · cases h

theorem exec_es1 {P : Program} {tt : TT} {s : St} {g : GL} {r : Hint} {o : Op} (hc : cls r o = 1) {v : AV} {es' : List Ent} {obs : List Prop} (h : exec P tt g s r o = some (v, es', obs)) (e : Ent) :
    es' = s.es ∧ exec P tt g { s with es := s.es ++ [e] } r o = some (v, s.es ++ [e], obs) := by
  obtain ⟨v0, ob0, h0, hr, _⟩ := retell_inv h
  obtain ⟨h1, h2⟩ := exec0_es1 hc h0 e
  exact ⟨h1, by unfold exec; rw [h2, hr]⟩

theorem look_none {s : St} {e : List Ent} : s.put none (.v .undef) e = { s with es := e } := rfl

/-- An operation apart from another sees nothing of it but the entries. -/
theorem core_put {P : Program} {tt : TT} {ops : Array Oper} {s : St} {dst : Option Nat} {x : Sl} {es : List Ent} {o : Oper} {r : Hint} (h : ∀ d, dst = some d → d ∉ o.looksAt ops) (hc : ∀ d, dst = some d → ∀ w, chain ops o ≠ some (d, w)) :
    core P tt ops (s.put dst x es) o r = core P tt ops { s with es := es } o r := by
  cases dst with
  | none => rfl
  | some d =>
    have hd := h d rfl
    have hop : ∀ u ∈ o.op.operands, u ≠ .tmp d := fun u hu he => by
      subst he
      exact hd (List.mem_append_left _ (List.mem_filterMap.2 ⟨.tmp d, by simpa using hu, rfl⟩))
    have hput : (s.put (some d) x es) = (({ s with es := es } : St).put (some d) x ({ s with es := es } : St).es) := rfl
    unfold core
    have hnt : (s.put (some d) x es).nt = s.nt := rfl
    simp only [hnt]
    split
    · rfl
    split
    · rw [hput, exec_put (fun w h => by simp at h) hop rfl]
    · rename_i j w hg
      split
      · rfl
      rename_i t ht
      have htd : t ≠ d := fun he => by
        subst he
        refine hd (List.mem_append_right _ ?_)
        have ht' : (ops[j]?).bind (·.dst) = some t := ht
        simp [hg, ht']
      have hch : ∀ w, chain ops o ≠ some (d, w) := hc d rfl
      have hfr : (s.put (some d) x es).fr t = (s.fr t).er d := by simp only [St.put, nbeq_ne htd, cond_false]
      have hr : ({ s with es := es } : St).fr t = s.fr t := rfl
      have hgv : gd ops (s.put (some d) x es) o t w = gd ops { s with es := es } o t w := by
        unfold gd
        rw [hfr, hr]
        cases hs : s.fr t with
        | v a =>
          simp only [Sl.er]
          cases a with
          | data a => cases a <;> rfl
          | _ => rfl
        | maybe t' w' a =>
          simp only [Sl.er]
          by_cases h' : t' = d
          · subst h'
            have hb' : Nat.beq t' t' = true := Nat.beq_refl t'
            simp only [hb', cond_true]
            cases a with
            | data a =>
              cases a with
              | bool b =>
                simp only
                cases hcc : chain ops o with
                | none => rfl
                | some p =>
                  obtain ⟨t2, w2⟩ := p
                  have : t' ≠ t2 := fun he => by subst he; exact hch _ hcc
                  simp only [nbeq_ne this]
              | _ => rfl
            | _ => rfl
          · simp only [nbeq_ne h', cond_false]
            have hg0 : gval0 (s.put (some d) x es) t' = gval0 { s with es := es } t' := by
              have hfr' : (s.put (some d) x es).fr t' = (s.fr t').er d := by simp only [St.put, nbeq_ne h', cond_false]
              have hr' : ({ s with es := es } : St).fr t' = s.fr t' := rfl
              unfold gval0
              rw [hfr', hr']
              cases hs2 : s.fr t' with
              | v a => rfl
              | maybe t3 w3 a =>
                simp only [Sl.er]
                by_cases h3 : t3 = d
                · subst h3
                  have hb' : Nat.beq t3 t3 = true := Nat.beq_refl t3
                  simp only [hb', cond_true]
                · simp only [nbeq_ne h3, cond_false]
            cases a with
            | data a =>
              cases a with
              | bool b => simp only [hg0]
              | _ => rfl
            | _ => rfl
      rw [hgv]
      split
      · rfl
      rename_i b g hb
      split
      · rfl
      have hdg : ∀ w', (d, w') ∉ g := by
        rcases gd_some hb with ⟨_, rfl⟩ | ⟨t1, w1, b1, _, h1, _, rfl⟩
        · intro w' h; simp at h; exact htd h.1.symm
        · intro w' h
          simp at h
          rcases h with h | h
          · exact htd h.1.symm
          · exact hch w1 (by rw [h1, h.1])
      rw [hput, exec_put hdg hop rfl]
      rfl

theorem core_es0 {P : Program} {tt : TT} {ops : Array Oper} {s : St} {o : Oper} {r : Hint} (hc : cls r o.op = 0) {x : Sl} {es' : List Ent} {obs : List Prop} (h : core P tt ops s o r = some (x, es', obs)) (e2 : List Ent) :
    es' = s.es ∧ core P tt ops { s with es := e2 } o r = some (x, e2, obs) := by
  unfold core at h ⊢
  split at h
  · cases h
  rename_i hp
  try simp only [hp]
  split at h
  · rename_i hg
    have h1 := exec_es0 (P := P) (tt := tt) (s := s) (g := []) (r := r) hc e2
    have h2 := exec_es0 (P := P) (tt := tt) (s := s) (g := []) (r := r) hc s.es
    split at h
    case h_2 => cases h
    rename_i v es ob hex
    simp only [Option.some.injEq, Prod.mk.injEq] at h
    obtain ⟨rfl, rfl, rfl⟩ := h
    rw [hex] at h1 h2
    simp only [Option.map_some, Option.some.injEq, Prod.mk.injEq] at h1 h2
    have h3 : es = s.es := h2.2.1
    try simp only [hg, h1]
    exact ⟨h3, trivial⟩
  · rename_i j w hg
    try simp only [hg]
    split at h
    · cases h
    rename_i t ht
    try simp only [ht]
    split at h
    · cases h
    rename_i b g hb
    have hb2 : gd ops { s with es := e2 } o t w = some (b, g) := hb
    try simp only [hb2]
    split at h
    · cases h
    rename_i hne
    try simp only [hne]
    have h1 := exec_es0 (P := P) (tt := tt) (s := s) (g := g) (r := r) hc e2
    split at h
    · cases h
    rename_i hrg
    try simp only [hrg]
    split at h
    case h_2 => cases h
    rename_i v es ob hex
    simp only [Option.some.injEq, Prod.mk.injEq] at h
    obtain ⟨rfl, rfl, rfl⟩ := h
    rw [hex] at h1
    simp only [Option.map_some] at h1
    try simp only [h1]
    exact ⟨trivial, trivial⟩

theorem core_es1 {P : Program} {tt : TT} {ops : Array Oper} {s : St} {o : Oper} {r : Hint} (hc : cls r o.op = 1) {x : Sl} {es' : List Ent} {obs : List Prop} (h : core P tt ops s o r = some (x, es', obs)) (e : Ent) :
    es' = s.es ∧ core P tt ops { s with es := s.es ++ [e] } o r = some (x, s.es ++ [e], obs) := by
  unfold core at h ⊢
  split at h
  · cases h
  rename_i hp
  try simp only [hp]
  split at h
  · rename_i hg
    split at h
    case h_2 => cases h
    rename_i v es ob hex
    simp only [Option.some.injEq, Prod.mk.injEq] at h
    obtain ⟨rfl, rfl, rfl⟩ := h
    obtain ⟨h1, h2⟩ := exec_es1 hc hex e
    try simp only [hg, h2]
    exact ⟨h1, trivial⟩
  · rename_i j w hg
    try simp only [hg]
    split at h
    · cases h
    rename_i t ht
    try simp only [ht]
    split at h
    · cases h
    rename_i b g hb
    have hb2 : gd ops { s with es := s.es ++ [e] } o t w = some (b, g) := hb
    try simp only [hb2]
    split at h
    · cases h
    rename_i hne
    try simp only [hne]
    split at h
    · cases h
    rename_i hrg
    try simp only [hrg]
    split at h
    case h_2 => cases h
    rename_i v es ob hex
    simp only [Option.some.injEq, Prod.mk.injEq] at h
    obtain ⟨rfl, rfl, rfl⟩ := h
    obtain ⟨h1, h2⟩ := exec_es1 hc hex e
    try simp only [h2]
    exact ⟨trivial, trivial⟩

theorem core_es2 {P : Program} {tt : TT} {ops : Array Oper} {s : St} {o : Oper} {r : Hint} (hc : cls r o.op = 2) {x : Sl} {es' : List Ent} {obs : List Prop} (h : core P tt ops s o r = some (x, es', obs)) : ∃ e, es' = s.es ++ [e] := by
  unfold core at h
  split at h
  · cases h
  split at h
  · split at h
    case h_2 => cases h
    rename_i v es ob hex
    simp only [Option.some.injEq, Prod.mk.injEq] at h
    obtain ⟨rfl, rfl, rfl⟩ := h
    obtain ⟨_, _, hex, _⟩ := retell_inv hex
    generalize o.op = op at hc hex
    cases op <;> simp only [cls, Nat.reduceEqDiff] at hc
    case call => (repeat' split at hc) <;> cases hc
    all_goals
      simp only [exec0] at hex
      repeat' split at hex
      all_goals first
        | (simp only [Option.some.injEq, Prod.mk.injEq] at hex; exact ⟨_, hex.2.1.symm⟩)
        | cases hex
  · split at h
    · cases h
    split at h
    · cases h
    rename_i b g hgd
    split at h
    · cases h
    split at h
    · cases h
    split at h
    case h_2 => cases h
    rename_i hex
    exfalso
    obtain ⟨_, _, hex, _⟩ := retell_inv hex
    have hne : ∃ p r', g = p :: r' := by
      rcases gd_some hgd with ⟨_, he⟩ | ⟨t1, w1, b1, _, _, _, he⟩
      · exact ⟨_, _, he⟩
      · exact ⟨_, _, he⟩
    obtain ⟨p, r', he⟩ := hne
    rw [he] at hex
    generalize o.op = op at hc hex
    cases op <;> simp only [cls, Nat.reduceEqDiff] at hc
    case call => (repeat' split at hc) <;> cases hc
    all_goals simp [exec0] at hex

/-! ### What an operation touches, told ahead -/

inductive Fp where
  | any
  | rd (y : Option Nat)
  | wr (x : Nat)
  | on (m : List Nat)
  | sh (y : Nat)
  | wl (x : Nat)

def readAV (n0 : Nat) (ro : Option Nat) (x : AV) : Bool :=
  match ptrIx x with
  | none => true
  | some y => match ro with
    | some z => match Nat.beq y z with
      | true => Nat.blt z n0
      | false => false
    | none => false

/-- Is it so, here? -/
def fpB (n0 : Nat) (s : St) (o : Oper) (r : Hint) : Fp → Bool
  | .any => true
  | .rd ro => match o.guard with
    | some _ => false
    | none => match o.op with
      | .fieldAddr _ x _ => readAV n0 ro (s.look [] x)
      | .indexAddr _ x _ => readAV n0 ro (s.look [] x)
      | .load _ x => readAV n0 ro (s.look [] x)
      | .slice _ x _ _ _ => readAV n0 ro (s.look [] x)
      | _ => false
  | .wr x => match o.guard with
    | some _ => false
    | none => match o.op with
      | .store _ a v => match s.look [] a with
        | .ptr y _ => match Nat.beq y x with
          | true => match s.look [] v with
            | .data _ => true
            | .row _ _ => true
            | _ => false
          | false => false
        | _ => false
      | .call c => match c.callee with
        | .builtin .append => match c.args.toList with
          | [a, _] => match s.look [] a with
            | .row y _ => Nat.beq y x
            | _ => false
          | _ => false
        | _ => false
      | _ => false
  | .on m => match Nat.ble n0 s.es.length with
    | false => false
    | true => match o.guard with
      | some _ => false
      | none => match o.op with
        | .call c => match c.callee with
          | .value _ => match r.e with
            | some _ => peq r.m m
            | none => false
          | .builtin .append => match m with
            | [] => match c.args.toList with
              | [x, _] => match s.look [] x with
                | .data .nil => true
                | _ => false
              | _ => false
            | _ => false
          | _ => false
        | _ => false

  | .sh y => match o.guard with
    | some _ => false
    | none => match o.op with
      | .fieldAddr _ x _ => match s.look [] x with
        | .ptr z [] => Nat.beq z y
        | _ => false
      | _ => false
  | .wl x => match o.guard with
    | some _ => false
    | none => match o.op with
      | .store _ a v => match s.look [] a with
        | .ptr y (_ :: _) => match Nat.beq y x with
          | true => match s.look [] v with
            | .data _ => true
            | _ => false
          | false => false
        | _ => false
      | _ => false

def notIn (y : Nat) : List Nat → Bool
  | [] => true
  | x :: m => match Nat.beq x y with
    | true => false
    | false => notIn y m
theorem notIn_spec {y : Nat} : ∀ {m : List Nat}, notIn y m = true → ∀ i : Nat, m[i]? ≠ some y
  | [], _, i, h => by simp at h
  | x :: m, h, i, hi => by
    simp only [notIn] at h
    split at h
    · cases h
    rename_i hb
    cases i with
    | zero => simp at hi; subst hi; rw [Nat.beq_refl] at hb; cases hb
    | succ i => exact notIn_spec h i (by simpa using hi)

/-- What is read is not what is written. -/
def clear2 : Option Nat → Fp → Bool
  | none, _ => true
  | some _, .any => false
  | some _, .rd _ => true
  | some y, .wr x => match Nat.beq x y with
    | true => false
    | false => true
  | some y, .on m => notIn y m
  | some _, .sh _ => true
  | some y, .wl x => match Nat.beq x y with
    | true => false
    | false => true

def fpComm : Fp → Fp → Bool
  | .rd ro, f => clear2 ro f
  | f, .rd ro => clear2 ro f
  | .sh _, .wl _ => true
  | .wl _, .sh _ => true
  | _, _ => false

theorem setAll_kept {α : Type} {x : Nat} : ∀ {m : List Nat} {r l : List α}, (∀ i : Nat, m[i]? ≠ some x) → x < l.length → (setAll l m r)[x]? = l[x]?
  | [], r, l, _, hx => by simp only [setAll]; exact List.getElem?_append_left hx
  | a :: m, [], l, _, _ => by simp only [setAll]
  | a :: m, e :: r, l, hp, hx => by
    simp only [setAll]
    have ha : a ≠ x := fun h => hp 0 (by simp [h])
    rw [setAll_kept (fun i => by simpa using hp (i + 1)) (by simpa using hx)]
    exact List.getElem?_set_ne ha

theorem xStore_keep {tt : TT} {es es' : List Ent} {T : TypeId} {x v : AV} {obs : List Prop} (h : xStore tt es T x v = some (es', obs)) {y : Nat} {p : List Nat} (hx : x = .ptr y p) : ∀ z, z ≠ y → es'[z]? = es[z]? := by
  subst hx
  intro z hz
  unfold xStore at h
  repeat' split at h
  all_goals first
    | (cases h; done)
    | (simp only [Option.some.injEq, Prod.mk.injEq] at h; rw [← h.1]; simp_all [List.getElem?_set_ne]; done)
    | skip
  all_goals
    rename_i heq _
    simp only [Option.some.injEq, Prod.mk.injEq] at h
    rw [← h.1]
    exact set_ne (by simp_all)

section
variable {P : Program} {tt : TT} {ops : Array Oper} {s : St} {o : Oper} {r : Hint} {x : Sl} {es' : List Ent} {obs : List Prop} {n0 : Nat}

/-- What is not touched stays. -/
theorem fp_keep {f : Fp} (hfp : fpB n0 s o r f = true) (h : core P tt ops s o r = some (x, es', obs)) {y : Nat} (hy : y < n0) (hc : clear2 (some y) f = true) : es'[y]? = s.es[y]? := by
  cases f with
  | any => cases hc
  | rd ro =>
    simp only [fpB] at hfp
    split at hfp
    · cases hfp
    rename_i hg
    unfold core at h
    split at h
    · cases h
    simp only [hg] at h
    split at h
    case h_2 => cases h
    rename_i hex
    simp only [Option.some.injEq, Prod.mk.injEq] at h
    obtain ⟨rfl, rfl, rfl⟩ := h
    have hcl : cls r o.op = 1 := by
      split at hfp
      · rename_i ho; rw [ho]; rfl
      · rename_i ho; rw [ho]; rfl
      · rename_i ho; rw [ho]; rfl
      · rename_i ho; rw [ho]; rfl
      · cases hfp
    rw [(exec_es1 hcl hex .dead).1]
  | wr z =>
    simp only [fpB] at hfp
    split at hfp
    · cases hfp
    rename_i hg
    split at hfp
    case h_3 => cases hfp
    case h_2 =>
      rename_i cl hop
      split at hfp
      case h_2 => cases hfp
      rename_i hcal
      split at hfp
      case h_2 => cases hfp
      rename_i a b hargs
      split at hfp
      case h_2 => cases hfp
      rename_i y' xs ha
      have := Nat.eq_of_beq_eq_true hfp
      subst this
      have hne : y' ≠ y := by
        simp only [clear2] at hc
        split at hc
        · cases hc
        · rename_i hb
          intro he
          rw [he, Nat.beq_refl] at hb
          cases hb
      unfold core at h
      split at h
      · cases h
      simp only [hg] at h
      split at h
      case h_2 => cases h
      rename_i hex
      simp only [Option.some.injEq, Prod.mk.injEq] at h
      obtain ⟨rfl, rfl, rfl⟩ := h
      obtain ⟨_, _, hex, _⟩ := retell_inv hex
      simp only [hop, exec0, hcal, hargs] at hex
      split at hex
      case h_2 => cases hex
      simp only [ha] at hex
      split at hex
      · rename_i hap
        simp only [Option.some.injEq, Prod.mk.injEq] at hex
        obtain ⟨_, rfl, _⟩ := hex
        unfold xAppend at hap
        repeat' split at hap
        all_goals first
          | (cases hap; done)
          | skip
        all_goals
          simp only [Option.some.injEq, Prod.mk.injEq] at hap
          obtain ⟨_, rfl, _⟩ := hap
          first
            | (rename_i heq _ _ _ _ _ _ _ ; simp_all; done)
            | skip
        all_goals
          rename_i hrow _ _ _ _ _ _
          simp_all
          try exact List.getElem?_set_ne hne
      · split at hex
        · rename_i hap
          unfold xAppendOwn at hap
          repeat' split at hap
          all_goals first
            | (cases hap; done)
            | simp_all
        · cases hex
    rename_i T a v hop
    split at hfp
    case h_2 => cases hfp
    rename_i y' p ha
    split at hfp
    case h_2 => cases hfp
    rename_i hyz
    have := Nat.eq_of_beq_eq_true hyz
    subst this
    have hne : y ≠ y' := by
      simp only [clear2] at hc
      split at hc
      · cases hc
      · rename_i hb
        intro he
        rw [he, Nat.beq_refl] at hb
        cases hb
    unfold core at h
    split at h
    · cases h
    simp only [hg] at h
    split at h
    case h_2 => cases h
    rename_i hex
    simp only [Option.some.injEq, Prod.mk.injEq] at h
    obtain ⟨rfl, rfl, rfl⟩ := h
    obtain ⟨_, _, hex, _⟩ := retell_inv hex
    simp only [hop, exec0] at hex
    split at hex
    · rename_i hst
      simp only [Option.some.injEq, Prod.mk.injEq] at hex
      obtain ⟨_, rfl, _⟩ := hex
      exact xStore_keep hst ha y hne
    · split at hex
      case h_2 => cases hex
      rename_i hst
      exfalso
      unfold xStoreOwn at hst
      split at hst
      · rename_i hv
        rw [hv] at hfp
        cases hfp
      · cases hst
  | on m =>
    simp only [clear2] at hc
    have hnot := notIn_spec hc
    simp only [fpB] at hfp
    split at hfp
    · cases hfp
    rename_i hle
    have hle := Nat.le_of_ble_eq_true hle
    split at hfp
    · cases hfp
    rename_i hg
    split at hfp
    case h_2 => cases hfp
    rename_i cl hop
    unfold core at h
    split at h
    · cases h
    simp only [hg] at h
    split at h
    case h_2 => cases h
    rename_i hex
    simp only [Option.some.injEq, Prod.mk.injEq] at h
    obtain ⟨rfl, rfl, rfl⟩ := h
    split at hfp
    · rename_i f hcal
      split at hfp
      case h_2 => cases hfp
      rename_i es1 hre
      have hm := peq_eq hfp
      subst hm
      obtain ⟨_, _, hex, _⟩ := retell_inv hex
      simp only [hop, exec0, hcal, hre, execCall] at hex
      split at hex
      case h_2 => cases hex
      simp only [xCallE] at hex
      split at hex
      · cases hex
      split at hex
      · cases hex
      simp only [Option.some.injEq, Prod.mk.injEq] at hex
      obtain ⟨_, rfl, _⟩ := hex
      exact setAll_kept hnot (by omega)
    · rename_i hcal
      split at hfp
      case h_2 => cases hfp
      split at hfp
      case h_2 => cases hfp
      rename_i a b hargs
      split at hfp
      case h_2 => cases hfp
      rename_i ha
      obtain ⟨_, _, hex, _⟩ := retell_inv hex
      simp only [hop, exec0, hcal, hargs] at hex
      split at hex
      case h_2 => cases hex
      simp only [ha] at hex
      split at hex
      · rename_i hap
        simp only [Option.some.injEq, Prod.mk.injEq] at hex
        obtain ⟨_, rfl, _⟩ := hex
        unfold xAppend at hap
        repeat' split at hap
        all_goals first
          | (cases hap; done)
          | skip
        all_goals
          simp only [Option.some.injEq, Prod.mk.injEq] at hap
          obtain ⟨_, rfl, _⟩ := hap
          first
            | exact List.getElem?_append_left (by omega)
            | (rename_i hq _ _ _ ; simp_all)
      · split at hex
        · rename_i hap
          unfold xAppendOwn at hap
          repeat' split at hap
          all_goals first
            | (cases hap; done)
            | simp_all
        · cases hex
    · cases hfp

  | sh z =>
    simp only [fpB] at hfp
    split at hfp
    · cases hfp
    rename_i hg
    unfold core at h
    split at h
    · cases h
    simp only [hg] at h
    split at h
    case h_2 => cases h
    rename_i hex
    simp only [Option.some.injEq, Prod.mk.injEq] at h
    obtain ⟨rfl, rfl, rfl⟩ := h
    have hcl : cls r o.op = 1 := by
      split at hfp
      · rename_i ho; rw [ho]; rfl
      · cases hfp
    rw [(exec_es1 hcl hex .dead).1]
  | wl z =>
    simp only [fpB] at hfp
    split at hfp
    · cases hfp
    rename_i hg
    split at hfp
    case h_2 => cases hfp
    rename_i T a v hop
    split at hfp
    case h_2 => cases hfp
    rename_i y' i q ha
    split at hfp
    case h_2 => cases hfp
    rename_i hyz
    have := Nat.eq_of_beq_eq_true hyz
    subst this
    have hne : y ≠ y' := by
      simp only [clear2] at hc
      split at hc
      · cases hc
      · rename_i hb
        intro he
        rw [he, Nat.beq_refl] at hb
        cases hb
    unfold core at h
    split at h
    · cases h
    simp only [hg] at h
    split at h
    case h_2 => cases h
    rename_i hex
    simp only [Option.some.injEq, Prod.mk.injEq] at h
    obtain ⟨rfl, rfl, rfl⟩ := h
    obtain ⟨_, _, hex, _⟩ := retell_inv hex
    simp only [hop, exec0] at hex
    split at hex
    · rename_i hst
      simp only [Option.some.injEq, Prod.mk.injEq] at hex
      obtain ⟨_, rfl, _⟩ := hex
      exact xStore_keep hst ha y hne
    · split at hex
      case h_2 => cases hex
      rename_i hst
      exfalso
      unfold xStoreOwn at hst
      split at hst
      · rename_i hv
        rw [hv] at hfp
        cases hfp
      · cases hst

/-- Variables are of one make there and here. -/
def Shp (es e2 : List Ent) : Prop := ∀ (y : Nat) d tok, es[y]? = some (.var d tok) → ∃ d' tok', e2[y]? = some (.var d' tok') ∧ ∀ n f, d = .agg n f → ∃ f', d' = .agg n f' ∧ ∀ j, (f' j).size = (f j).size

theorem set_size {v u : D} (hs : v.size = u.size) : ∀ (p : List Nat) (d : D), d.get p = some v → (d.set p u).size = d.size
  | [], d, hg => by simp only [D.get, Option.some.injEq] at hg; subst hg; cases d <;> simp [D.set, hs]
  | k :: p, d, hg => by
    cases d with
    | agg m g =>
      simp only [D.set, D.size]
      have : ∀ q, sumTo (fun i => (bif Nat.beq i k then (g k).set p u else g i).size) q = sumTo (fun i => (g i).size) q := by
        intro q
        induction q with
        | zero => rfl
        | succ q ihq =>
          simp only [sumTo, ihq]
          by_cases hq : q = k
          · subst hq
            have hb : Nat.beq q q = true := Nat.beq_refl q
            simp only [hb, cond_true]
            rw [set_size hs p _ hg]
          · have hb : Nat.beq q k = false := nbeq_ne hq
            simp only [hb, cond_false]
      exact this m
    | arr m es g => simp only [D.set, D.size]
    | _ => simp [D.get] at hg

theorem fp_wl {z : Nat} (hfp : fpB n0 s o r (.wl z) = true) (h : core P tt ops s o r = some (x, es', obs)) : Shp s.es es' ∧ Shp es' s.es := by
  simp only [fpB] at hfp
  split at hfp
  · cases hfp
  rename_i hg
  split at hfp
  case h_2 => cases hfp
  rename_i T a v hop
  split at hfp
  case h_2 => cases hfp
  rename_i y' i q ha
  split at hfp
  case h_2 => cases hfp
  split at hfp
  case h_2 => cases hfp
  rename_i u hv
  unfold core at h
  split at h
  · cases h
  simp only [hg] at h
  split at h
  case h_2 => cases h
  rename_i hex
  simp only [Option.some.injEq, Prod.mk.injEq] at h
  obtain ⟨rfl, rfl, rfl⟩ := h
  obtain ⟨_, _, hex, _⟩ := retell_inv hex
  simp only [hop, exec0, ha, hv] at hex
  have fin : ∀ {d old : D} {tok tok' : List (List Nat × Nat)}, s.es[y']? = some (.var d tok) → d.get (i :: q) = some old → old.size = u.size → Shp s.es (s.es.set y' (.var (d.set (i :: q) u) tok')) ∧ Shp (s.es.set y' (.var (d.set (i :: q) u) tok')) s.es := by
    intro d old tok tok' hy hget hsz
    have hl := (List.getElem?_eq_some_iff.1 hy).1
    have sz : ∀ (m : Nat) (g : Nat → D), d = .agg m g → d.set (i :: q) u = .agg m (fun j => bif Nat.beq j i then (g i).set q u else g j) ∧ ∀ j, (bif Nat.beq j i then (g i).set q u else g j).size = (g j).size := fun m g e => by
      subst e
      refine ⟨rfl, fun j => ?_⟩
      by_cases hj : j = i
      · subst hj
        have hb : Nat.beq j j = true := Nat.beq_refl j
        simp only [hb, cond_true]
        exact set_size hsz q _ hget
      · simp only [nbeq_ne hj, cond_false]
    constructor
    · intro y d1 tok1 h1
      by_cases hyy : y = y'
      · subst hyy
        rw [hy] at h1
        simp only [Option.some.injEq, Ent.var.injEq] at h1
        obtain ⟨rfl, rfl⟩ := h1
        exact ⟨_, _, set_nth hl, fun n f e => ⟨_, (sz n f e).1, (sz n f e).2⟩⟩
      · exact ⟨d1, tok1, (set_ne hyy).trans h1, fun n f e => ⟨f, e, fun _ => rfl⟩⟩
    · intro y d1 tok1 h1
      by_cases hyy : y = y'
      · subst hyy
        have h1' : some (Ent.var (d.set (i :: q) u) tok') = some (.var d1 tok1) := (set_nth hl).symm.trans h1
        simp only [Option.some.injEq, Ent.var.injEq] at h1'
        obtain ⟨rfl, rfl⟩ := h1'
        refine ⟨d, tok, hy, fun n f e => ?_⟩
        cases d with
        | agg m g =>
          obtain ⟨k1, k2⟩ := sz m g rfl
          rw [k1] at e
          simp only [D.agg.injEq] at e
          obtain ⟨rfl, rfl⟩ := e
          exact ⟨g, rfl, fun j => (k2 j).symm⟩
        | arr m es g => simp [D.set] at e
        | _ => simp [D.get] at hget
      · exact ⟨d1, tok1, (set_ne hyy).symm.trans h1, fun n f e => ⟨f, e, fun _ => rfl⟩⟩
  split at hex
  · rename_i hst
    simp only [Option.some.injEq, Prod.mk.injEq] at hex
    obtain ⟨_, rfl, _⟩ := hex
    unfold xStore at hst
    split at hst
    · cases hst
    simp only at hst
    split at hst
    · rename_i d tok hy
      split at hst
      · rename_i old hget
        split at hst
        · rename_i hf1
          split at hst
          · rename_i hf2
            have hsz : old.size = u.size := by rw [(fits_spec hf1).2, (fits_spec hf2).2]
            split at hst
            · simp only [Option.some.injEq, Prod.mk.injEq] at hst
              rw [← hst.1]
              exact fin hy hget hsz
            · simp only [Option.some.injEq, Prod.mk.injEq] at hst
              rw [← hst.1]
              exact fin hy hget hsz
          · cases hst
        · cases hst
      · cases hst
    · rename_i hy
      exfalso
      repeat' split at hst
      all_goals first
        | (cases hst; done)
        | (rename_i hr; cases hr; done)
    · cases hst
  · exfalso
    split at hex
    · rename_i hst
      unfold xStoreOwn at hst
      cases hst
    · cases hex

theorem fp_sh {y : Nat} (hfp : fpB n0 s o r (.sh y) = true) (h : core P tt ops s o r = some (x, es', obs)) : es' = s.es ∧ ∀ e2 : List Ent, Shp s.es e2 → core P tt ops { s with es := e2 } o r = some (x, e2, obs) := by
  simp only [fpB] at hfp
  split at hfp
  · cases hfp
  rename_i hg
  unfold core at h ⊢
  split at h
  · cases h
  rename_i hp
  simp only [hg] at h
  split at h
  case h_2 => cases h
  rename_i v es ob hex
  simp only [Option.some.injEq, Prod.mk.injEq] at h
  obtain ⟨rfl, rfl, rfl⟩ := h
  have hl : ∀ e2 u, ({ s with es := e2 } : St).look [] u = s.look [] u := fun e2 u => by cases u <;> rfl
  split at hfp
  case h_2 => cases hfp
  rename_i T a i hop
  split at hfp
  case h_2 => cases hfp
  rename_i z ha
  obtain ⟨_, _, hex, hre, _⟩ := retell_inv hex
  simp only [hop, exec0, ha] at hex
  split at hex
  case h_2 => cases hex
  rename_i hv
  simp only [Option.some.injEq, Prod.mk.injEq] at hex
  obtain ⟨rfl, rfl, rfl⟩ := hex
  refine ⟨rfl, fun e2 he => ?_⟩
  have h2 : ∀ {w}, xField tt s.es T (.ptr z []) i = some w → xField tt e2 T (.ptr z []) i = some w := by
    intro w hw
    unfold xField at hw ⊢
    cases hti : tt.ti T with
    | none => rw [hti] at hw; cases hw
    | some ti =>
      rw [hti] at hw
      simp only at hw ⊢
      cases hk : ti.kind with
      | struct fs =>
        rw [hk] at hw
        simp only at hw ⊢
        cases hfs : fs[i]? with
        | none => rw [hfs] at hw; cases hw
        | some q =>
          obtain ⟨off, sz, ty⟩ := q
          rw [hfs] at hw
          simp only at hw ⊢
          cases hb : Nat.beq sz 0 with
          | true => rw [hb] at hw; cases hw
          | false =>
            rw [hb] at hw
            simp only at hw ⊢
            cases hy : s.es[z]? with
            | none => rw [hy] at hw; cases hw
            | some e =>
              rw [hy] at hw
              cases e with
              | var d tok =>
                obtain ⟨d', tok', hy', hsh⟩ := he z d tok hy
                simp only [hy']
                simp only [D.get] at hw ⊢
                cases d with
                | agg n f =>
                  obtain ⟨f', rfl, hsz⟩ := hsh n f rfl
                  have : sumTo (fun j => (f' j).size) i = sumTo (fun j => (f j).size) i := by congr 1; funext j; exact hsz j
                  simp only [this]
                  exact hw
                | _ => cases hw
              | _ => cases hw
      | _ => rw [hk] at hw; cases hw
  simp only [hp, hg, hop, exec, exec0, hl, ha, h2 hv, hre]

/-- What only reads gives the same where that is the same. -/
theorem fp_read {ro : Option Nat} (hfp : fpB n0 s o r (.rd ro) = true) (h : core P tt ops s o r = some (x, es', obs)) : es' = s.es ∧ ∀ e2 : List Ent, (∀ y, ro = some y → y < n0 → e2[y]? = s.es[y]?) → core P tt ops { s with es := e2 } o r = some (x, e2, obs) := by
  simp only [fpB] at hfp
  split at hfp
  · cases hfp
  rename_i hg
  unfold core at h ⊢
  have key : ∀ {a : AV} {e2 : List Ent}, readAV n0 ro a = true → (∀ y, ro = some y → y < n0 → e2[y]? = s.es[y]?) → ∀ y, ptrIx a = some y → e2[y]? = s.es[y]? := fun ha he y hy => by
    unfold readAV at ha
    rw [hy] at ha
    simp only at ha
    split at ha
    · rename_i z
      split at ha
      · rename_i hb
        have := Nat.eq_of_beq_eq_true hb
        subst this
        exact he _ rfl (by simpa [Nat.blt_eq] using ha)
      · cases ha
    · cases ha
  split at h
  · cases h
  rename_i hp
  simp only [hg] at h
  split at h
  case h_2 => cases h
  rename_i v es ob hex
  simp only [Option.some.injEq, Prod.mk.injEq] at h
  obtain ⟨rfl, rfl, rfl⟩ := h
  have hl : ∀ e2 u, ({ s with es := e2 } : St).look [] u = s.look [] u := fun e2 u => by cases u <;> rfl
  split at hfp
  · rename_i T a i hop
    obtain ⟨_, _, hex, hre, _⟩ := retell_inv hex
    simp only [hop, exec0] at hex
    split at hex
    case h_2 => cases hex
    rename_i hv
    simp only [Option.some.injEq, Prod.mk.injEq] at hex
    obtain ⟨rfl, rfl, rfl⟩ := hex
    refine ⟨rfl, fun e2 he => ?_⟩
    have h2 := xField_at (tt := tt) (T := T) (i := i) (key hfp he)
    simp only [hp, hg, hop, exec, exec0, hl, h2, hv, hre]
  · rename_i T a i hop
    obtain ⟨_, _, hex, hre, _⟩ := retell_inv hex
    simp only [hop, exec0] at hex
    split at hex
    case h_2 => cases hex
    rename_i hv
    simp only [Option.some.injEq, Prod.mk.injEq] at hex
    obtain ⟨rfl, rfl, rfl⟩ := hex
    refine ⟨rfl, fun e2 he => ?_⟩
    have h2 := xIndexAddr_at (tt := tt) (T := T) (i := s.look [] i) (key hfp he)
    simp only [hp, hg, hop, exec, exec0, hl, h2, hv, hre]
  · rename_i T a hop
    obtain ⟨_, _, hex, hre, _⟩ := retell_inv hex
    simp only [hop, exec0] at hex
    split at hex
    case h_2 => cases hex
    rename_i hv
    simp only [Option.some.injEq, Prod.mk.injEq] at hex
    obtain ⟨rfl, rfl, rfl⟩ := hex
    refine ⟨rfl, fun e2 he => ?_⟩
    have h2 := xLoad_at (tt := tt) (T := T) (key hfp he)
    simp only [hp, hg, hop, exec, exec0, hl, h2, hv, hre]
  · rename_i T a lo hi mx hop
    obtain ⟨_, _, hex, hre, _⟩ := retell_inv hex
    simp only [hop, exec0] at hex
    split at hex
    case h_2 => cases hex
    rename_i hv
    simp only [Option.some.injEq, Prod.mk.injEq] at hex
    obtain ⟨rfl, rfl, rfl⟩ := hex
    refine ⟨rfl, fun e2 he => ?_⟩
    have h2 := xSlice_at (tt := tt) (T := T) (lo := lo.map (s.look [])) (hi := hi.map (s.look [])) (mx := mx.map (s.look [])) (key hfp he)
    have hm : ∀ z : Option Operand, z.map (({ s with es := e2 } : St).look []) = z.map (s.look []) := fun z => by cases z <;> simp [hl]
    simp only [hp, hg, hop, exec, exec0, hl, hm, h2, hv, hre]
  · cases hfp

end

/-- It is seen the same behind an operation apart. -/
theorem fpB_put {n0 : Nat} {ops : Array Oper} {s : St} {dst : Option Nat} {x : Sl} {es : List Ent} {o : Oper} {r : Hint} (h : ∀ d, dst = some d → d ∉ o.looksAt ops) {f : Fp} : fpB n0 (s.put dst x es) o r f = fpB n0 { s with es := es } o r f := by
  cases dst with
  | none => rfl
  | some d =>
    have hd := h d rfl
    have hop : ∀ u ∈ o.op.operands, u ≠ .tmp d := fun u hu he => by
      subst he
      exact hd (List.mem_append_left _ (List.mem_filterMap.2 ⟨.tmp d, by simpa using hu, rfl⟩))
    have hl : ∀ u ∈ o.op.operands, (s.put (some d) x es).look [] u = ({ s with es := es } : St).look [] u := fun u hu => by
      rw [look_put (fun w h => by simp at h) (hop u hu)]
      cases u <;> rfl
    have hlen : (s.put (some d) x es).es = es := rfl
    unfold fpB
    cases f with
    | any => rfl
    | rd ro =>
      simp only
      split
      · rfl
      split
      · rename_i ho; rw [hl _ (by rw [ho]; simp [Op.operands])]
      · rename_i ho; rw [hl _ (by rw [ho]; simp [Op.operands])]
      · rename_i ho; rw [hl _ (by rw [ho]; simp [Op.operands])]
      · rename_i ho; rw [hl _ (by rw [ho]; simp [Op.operands])]
      · rfl
    | wr z =>
      simp only
      split
      · rfl
      split
      · rename_i ho; rw [hl _ (by rw [ho]; simp [Op.operands]), hl _ (by rw [ho]; simp [Op.operands])]
      · rename_i c ho
        split
        · split
          · rename_i hargs
            rw [hl _ (by
              rw [ho]
              simp only [Op.operands, Call.operands]
              refine Array.mem_append.2 (.inr ?_)
              rw [← Array.mem_toList_iff, hargs]
              exact List.mem_cons_self ..)]
          · rfl
        · rfl
      · rfl
    | on m =>
      simp only [hlen]
      split
      · rfl
      split
      · rfl
      split
      · rename_i c ho
        split
        · rfl
        · split
          · split
            · rename_i hargs
              rw [hl _ (by
                rw [ho]
                simp only [Op.operands, Call.operands]
                refine Array.mem_append.2 (.inr ?_)
                rw [← Array.mem_toList_iff, hargs]
                exact List.mem_cons_self ..)]
            · rfl
          · rfl
        · rfl
      · rfl
    | sh y =>
      try simp only
      split
      · rfl
      split
      · rename_i ho; rw [hl _ (by rw [ho]; simp [Op.operands])]
      · rfl
    | wl z =>
      try simp only
      split
      · rfl
      split
      · rename_i ho; rw [hl _ (by rw [ho]; simp [Op.operands]), hl _ (by rw [ho]; simp [Op.operands])]
      · rfl

theorem fpB_es {n0 : Nat} {s : St} {o : Oper} {r : Hint} {f : Fp} (e2 : List Ent) (hl : s.es.length ≤ e2.length) (h : fpB n0 s o r f = true) : fpB n0 { s with es := e2 } o r f = true := by
  have hlk : ∀ u, ({ s with es := e2 } : St).look [] u = s.look [] u := fun u => by cases u <;> rfl
  cases f with
  | any => rfl
  | rd ro => simp only [fpB, hlk] at h ⊢; exact h
  | wr z => simp only [fpB, hlk] at h ⊢; exact h
  | sh y => simp only [fpB, hlk] at h ⊢; exact h
  | wl z => simp only [fpB, hlk] at h ⊢; exact h
  | on m =>
    simp only [fpB, hlk] at h ⊢
    split at h
    · cases h
    rename_i hle
    have := Nat.le_of_ble_eq_true hle
    rw [Nat.ble_eq_true_of_le (show n0 ≤ e2.length by omega)]
    exact h

end Go.W
