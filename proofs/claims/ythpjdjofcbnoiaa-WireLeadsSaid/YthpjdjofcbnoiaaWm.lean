/-
  Regions that draw their order: the order of the text serves for every order.
-/
import Derived.Test.YthpjdjofcbnoiaaWl
namespace Go.W

def cls : Op → Nat
  | .fieldAddr _ _ _ => 1
  | .indexAddr _ _ _ => 1
  | .load _ _ => 1
  | .alloc _ => 2
  | .box _ _ => 2
  | .store _ _ _ => 3
  | .call c => match c.callee with
    | .builtin .append => 3
    | _ => 1
  | _ => 0

/-- May the later one of two come first? -/
def commB : Nat → Nat → Bool
  | 0, _ => true
  | _, 0 => true
  | 1, 1 => true
  | 1, 2 => true
  | _, _ => false

def gval0 (s : St) (t : Nat) : Option Bool :=
  match s.fr t with
  | .v (.data (.bool b)) => some b
  | _ => none

/-- What an operation gives: its slot, the entries, what is owed. -/
def core (P : Program) (tt : TT) (ops : Array Oper) (s : St) (o : Oper) (r : AV) : Option (Sl × List Ent × List Prop) :=
  match putOK s.nt o.dst with
  | false => none
  | true => match o.guard with
    | none => match exec P tt [] s r o.op with
      | some (v, es, obs) => some (.v v, es, obs)
      | none => none
    | some (j, w) => match dstOf ops j with
      | none => none
      | some t => match gval0 s t with
        | none => none
        | some b => match sameDst t o.dst with
          | true => none
          | false => match exec P tt [(t, w)] s r o.op with
            | some (v, _, obs) => some (.maybe t w v, s.es, wrapObs b w obs)
            | none => none

theorem core_step {P : Program} {tt : TT} {ops : Array Oper} {s : St} {o : Oper} {r : AV} {x : Sl} {es : List Ent} {obs : List Prop} (h : core P tt ops s o r = some (x, es, obs)) : opStep P tt ops s o r = some (s.put o.dst x es, obs) := by
  obtain ⟨dst, op, ty, pos, after, guard⟩ := o
  unfold core at h
  unfold opStep
  simp only [withV_eq, putF_eq]
  split at h
  · cases h
  rename_i hp
  simp only at hp
  simp only [hp]
  simp only at h
  cases guard with
  | none =>
    simp only at h ⊢
    split at h
    · rename_i v es ob hex
      simp only [Option.some.injEq, Prod.mk.injEq] at h
      obtain ⟨rfl, rfl, rfl⟩ := h
      simp only [hex]
    · cases h
  | some g =>
    obtain ⟨j, w⟩ := g
    simp only at h ⊢
    split at h
    · cases h
    rename_i t ht
    simp only [ht]
    split at h
    · cases h
    rename_i b hb
    have hfr : ∃ b', s.fr t = .v (.data (.bool b')) ∧ gval s t = some b' ∧ b' = b := by
      unfold gval0 at hb
      split at hb
      · rename_i b' hfr
        simp only [Option.some.injEq] at hb
        exact ⟨b', hfr, by simp [gval, hfr], hb⟩
      · cases hb
    obtain ⟨b', h1, h2, rfl⟩ := hfr
    simp only [h2]
    split at h
    · cases h
    rename_i hne
    simp only [hne]
    have hg : guards s 3 t w = [(t, w)] := by simp [guards, h1]
    try simp only [hg]
    split at h
    · rename_i v es ob hex
      simp only [Option.some.injEq, Prod.mk.injEq] at h
      obtain ⟨rfl, rfl, rfl⟩ := h
      simp only [hex]
    · cases h

def inL (d : Nat) : List Nat → Bool
  | [] => false
  | t :: r => match Nat.beq d t with
    | true => true
    | false => inL d r

theorem look_put {s : St} {d : Nat} {x : Sl} {es : List Ent} {g : GL} (hg : ∀ w, (d, w) ∉ g) {o : Operand} (ho : o ≠ .tmp d) : (s.put (some d) x es).look g o = s.look g o := by
  cases o with
  | tmp t =>
    have ht : t ≠ d := fun h => ho (by rw [h])
    simp only [St.look, St.put, nbeq_ne ht, cond_false]
    cases hs : s.fr t with
    | v a => rfl
    | maybe t' w a =>
      simp only [Sl.er]
      by_cases h : t' = d
      · subst h
        have hb : Nat.beq t' t' = true := Nat.beq_refl t'
        simp only [hb, cond_true, slook]
        cases hi : isG t' w g with
        | true => exact absurd (isG_spec hi) (hg w)
        | false => rfl
      · simp only [nbeq_ne h, cond_false]
  | _ => rfl

theorem pickArg_put {s : St} {d : Nat} {x : Sl} {es : List Ent} {g : GL} (hg : ∀ w, (d, w) ∉ g) {t : Nat} (ht : t ≠ d) (w : Bool) {o : Operand} (ho : o ≠ .tmp d) : pickArg (s.put (some d) x es) g t w o = pickArg s g t w o := by
  cases o with
  | tmp u =>
    have hud : u ≠ d := fun h => ho (by rw [h])
    have hl := look_put (s := s) (x := x) (es := es) hg ho
    simp only [St.look, St.put, nbeq_ne hud, cond_false] at hl
    simp only [pickArg, St.put, nbeq_ne hud, cond_false]
    cases hs : s.fr u with
    | v a => rfl
    | maybe t' w' v =>
      rw [hs] at hl
      simp only [Sl.er] at hl ⊢
      by_cases h : t' = d
      · subst h
        have hb' : Nat.beq t' t' = true := Nat.beq_refl t'
        simp only [hb', cond_true] at hl ⊢
        simp only [nbeq_ne (Ne.symm ht)]
        rw [← hl]
        cases beqB w w' <;> rfl
      · simp only [nbeq_ne h, cond_false]
  | const v => rfl
  | global v => rfl
  | func v => rfl

theorem xPick_put {s : St} {d : Nat} {x : Sl} {es : List Ent} {g : GL} (hg : ∀ w, (d, w) ∉ g) {a b c : Operand} (ha : a ≠ .tmp d) (hb : b ≠ .tmp d) (hc : c ≠ .tmp d) : xPick (s.put (some d) x es) g c a b = xPick s g c a b := by
  unfold xPick
  cases c with
  | tmp t =>
    have ht : t ≠ d := fun h => hc (by rw [h])
    simp only [look_put hg hc, pickArg_put hg ht _ ha, pickArg_put hg ht _ hb]
  | _ => rfl

/-- What an operation gives, with other entries: of class 0 the same; of class 1 the same, if they are more; of class 2 the same but for the name. -/
theorem exec_put {P : Program} {tt : TT} {s : St} {d : Nat} {x : Sl} {es : List Ent} {g : GL} (hg : ∀ w, (d, w) ∉ g) {r : AV} {o : Op} (ho : ∀ u ∈ o.operands, u ≠ .tmp d) (hes : es = s.es) :
    exec P tt g (s.put (some d) x es) r o = exec P tt g s r o := by
  subst hes
  have hl : ∀ u ∈ o.operands, (s.put (some d) x s.es).look g u = s.look g u := fun u hu => look_put hg (ho u hu)
  have hes : (s.put (some d) x s.es).es = s.es := rfl
  cases o <;> simp only [Op.operands] at hl ho <;> simp only [exec, hes]
  case pick c a b => rw [xPick_put hg (ho a (by simp)) (ho b (by simp)) (ho c (by simp))]
  case build t ps =>
    have : partsOf (s.put (some d) x s.es) g ps = partsOf s g ps := by
      unfold partsOf
      refine List.map_congr_left fun p hp => ?_
      obtain ⟨i, u⟩ := p
      simp only [hl u (by simp; exact ⟨i, by simpa using hp⟩)]
    rw [this]
  case buildSlice t n ps =>
    have : partsOf (s.put (some d) x s.es) g ps = partsOf s g ps := by
      unfold partsOf
      refine List.map_congr_left fun p hp => ?_
      obtain ⟨i, u⟩ := p
      simp only [hl u (by simp; exact ⟨i, by simpa using hp⟩)]
    rw [this]
  case makeFunc fn first caps =>
    cases fn <;> simp only
    have : caps.toList.map ((s.put (some d) x s.es).look g) = caps.toList.map (s.look g) := List.map_congr_left fun u hu => hl u (by simp at hu ⊢; exact .inr hu)
    rw [this]
  case call c =>
    have ha : ∀ u ∈ c.args, (s.put (some d) x s.es).look g u = s.look g u := fun u hu => hl u (by unfold Call.operands; simp [hu])
    have hargs : argsOf (s.put (some d) x s.es) g c.args = argsOf s g c.args := by
      unfold argsOf
      exact List.map_congr_left fun u hu => by rw [ha u (by simpa using hu)]
    cases hcal : c.callee with
    | value f =>
      have hf : (s.put (some d) x s.es).look g f = s.look g f := hl f (by unfold Call.operands; simp [hcal])
      simp only [hf, hargs]
    | invoke f m => rfl
    | builtin b =>
      cases b with
      | append =>
        simp only
        split
        · split
          · split
            · rename_i hu
              rw [ha _ (by rw [← Array.mem_toList_iff, hu]; exact List.mem_cons_self ..), ha _ (by rw [← Array.mem_toList_iff, hu]; exact List.mem_cons_of_mem _ (List.mem_cons_self ..))]
            · rfl
          · rfl
        · rfl
      | len =>
        simp only
        split
        · split
          · split
            · split
              · rename_i u hu
                rw [ha u (by rw [← Array.mem_toList_iff, hu]; simp)]
              · rfl
            · split
              · rename_i u hu
                rw [ha u (by rw [← Array.mem_toList_iff, hu]; simp)]
              · rfl
            · rfl
          · rfl
        · rfl
      | _ => rfl
  case unOp op T u => cases op <;> simp only <;> rw [hl u (by simp)]
  all_goals (simp_all; done)

theorem exec_es0 {P : Program} {tt : TT} {s : St} {g : GL} {r : AV} {o : Op} (hc : cls o = 0) (e2 : List Ent) :
    exec P tt g { s with es := e2 } r o = (exec P tt g s r o).map fun (v, _, obs) => (v, e2, obs) := by
  have hl : ∀ u, ({ s with es := e2 } : St).look g u = s.look g u := fun u => by cases u <;> rfl
  have hp : ∀ c a b, xPick { s with es := e2 } g c a b = xPick s g c a b := fun c a b => by
    have : ∀ t w o, pickArg { s with es := e2 } g t w o = pickArg s g t w o := fun t w o => by cases o <;> rfl
    unfold xPick
    cases c <;> simp only [hl, this]
  have hq : ∀ ps, partsOf { s with es := e2 } g ps = partsOf s g ps := fun ps => by unfold partsOf; simp only [hl]
  have ha : ∀ ps, argsOf { s with es := e2 } g ps = argsOf s g ps := fun ps => by unfold argsOf; simp only [hl]
  have hm : ∀ (l : List Operand), l.map (({ s with es := e2 } : St).look g) = l.map (s.look g) := fun l => List.map_congr_left fun u _ => hl u
  cases o <;> simp only [cls] at hc <;> simp only [exec, hl, hp, hq, ha, hm]
  all_goals first
    | rfl
    | (repeat' split) <;> simp_all
    | skip

theorem nth_app {es : List Ent} {y : Nat} {e e' : Ent} (h : es[y]? = some e) : (es ++ [e'])[y]? = some e := by
  rw [List.getElem?_append_left (List.getElem?_eq_some_iff.1 h).1]; exact h

theorem exec_es1 {P : Program} {tt : TT} {s : St} {g : GL} {r : AV} {o : Op} (hc : cls o = 1) {v : AV} {es' : List Ent} {obs : List Prop} (h : exec P tt g s r o = some (v, es', obs)) (e : Ent) :
    es' = s.es ∧ exec P tt g { s with es := s.es ++ [e] } r o = some (v, s.es ++ [e], obs) := by
  have hl : ∀ u, ({ s with es := s.es ++ [e] } : St).look g u = s.look g u := fun u => by cases u <;> rfl
  cases o <;> simp only [cls, Nat.reduceEqDiff] at hc
  case fieldAddr T x i =>
    simp only [exec, hl] at h ⊢
    split at h
    case h_2 => cases h
    rename_i v' hv
    simp only [Option.some.injEq, Prod.mk.injEq] at h
    obtain ⟨rfl, rfl, rfl⟩ := h
    refine ⟨rfl, ?_⟩
    have : xField tt (s.es ++ [e]) T (s.look g x) i = some v' := by
      cases hx : s.look g x with
      | ptr y p =>
        cases hy : s.es[y]? with
        | none =>
          unfold xField at hv
          simp only [hx, hy] at hv
          repeat' split at hv
          all_goals cases hv
        | some ent => simp only [xField, hx, hy, nth_app hy] at hv ⊢; exact hv
      | cptr d => cases d <;> simp only [xField, hx] at hv ⊢ <;> exact hv
      | _ => simp only [xField, hx] at hv ⊢; exact hv
    rw [this]
  case indexAddr T x i =>
    simp only [exec, hl] at h ⊢
    split at h
    case h_2 => cases h
    rename_i v' ob hv
    simp only [Option.some.injEq, Prod.mk.injEq] at h
    obtain ⟨rfl, rfl, rfl⟩ := h
    refine ⟨rfl, ?_⟩
    have : xIndexAddr tt (s.es ++ [e]) T (s.look g x) (s.look g i) = some (v', ob) := by
      cases hx : s.look g x with
      | ptr y p =>
        cases hy : s.es[y]? with
        | none =>
          unfold xIndexAddr at hv
          simp only [hx, hy] at hv
          repeat' split at hv
          all_goals cases hv
        | some ent => simp only [xIndexAddr, hx, hy, nth_app hy] at hv ⊢; exact hv
      | cptr d => cases d <;> simp only [xIndexAddr, hx] at hv ⊢ <;> exact hv
      | _ => simp only [xIndexAddr, hx] at hv ⊢; exact hv
    rw [this]
  case load T x =>
    simp only [exec, hl] at h ⊢
    split at h
    case h_2 => cases h
    rename_i v' hv
    simp only [Option.some.injEq, Prod.mk.injEq] at h
    obtain ⟨rfl, rfl, rfl⟩ := h
    refine ⟨rfl, ?_⟩
    have : xLoad tt (s.es ++ [e]) T (s.look g x) = some v' := by
      cases hx : s.look g x with
      | ptr y p =>
        cases hy : s.es[y]? with
        | none =>
          unfold xLoad at hv
          simp only [hx, hy] at hv
          repeat' split at hv
          all_goals cases hv
        | some ent => simp only [xLoad, hx, hy, nth_app hy] at hv ⊢; exact hv
      | cptr d => cases d <;> simp only [xLoad, hx] at hv ⊢ <;> exact hv
      | _ => simp only [xLoad, hx] at hv ⊢; exact hv
    rw [this]

  case call cl =>
    have ha : ∀ ps, argsOf ({ s with es := s.es ++ [e] } : St) g ps = argsOf s g ps := fun ps => by unfold argsOf; simp only [hl]
    simp only [exec, hl, ha] at h ⊢
    split at h
    · split at h
      case h_2 => cases h
      rename_i k caps hk
      split at h
      case h_2 => cases h
      rename_i v' ob hx
      simp only [Option.some.injEq, Prod.mk.injEq] at h
      obtain ⟨rfl, rfl, rfl⟩ := h
      refine ⟨rfl, ?_⟩
      simp only [xCall_app hx e]
    · repeat' split at h
      all_goals first
        | (cases h; done)
        | (cases h; simp_all)
    · rename_i hcal
      rw [hcal] at hc
      simp at hc
    · cases h

theorem look_none {s : St} {e : List Ent} : s.put none (.v .undef) e = { s with es := e } := rfl

/-- An operation apart from another sees nothing of it but the entries. -/
theorem core_put {P : Program} {tt : TT} {ops : Array Oper} {s : St} {dst : Option Nat} {x : Sl} {es : List Ent} {o : Oper} {r : AV} (h : ∀ d, dst = some d → d ∉ o.looksAt ops) :
    core P tt ops (s.put dst x es) o r = core P tt ops { s with es := es } o r := by
  cases dst with
  | none => rfl
  | some d =>
    have hd := h d rfl
    have hop : ∀ u ∈ o.op.operands, u ≠ .tmp d := fun u hu he => by
      subst he
      exact hd (List.mem_append_left _ (List.mem_filterMap.2 ⟨.tmp d, by simpa using hu, rfl⟩))
    have hput : (s.put (some d) x es) = (({ s with es := es } : St).put (some d) x ({ s with es := es } : St).es) := rfl
    unfold core
    have hnt : (s.put (some d) x es).nt = s.nt := rfl
    simp only [hnt]
    split
    · rfl
    split
    · rw [hput, exec_put (fun w h => by simp at h) hop rfl]
    · rename_i j w hg
      split
      · rfl
      rename_i t ht
      have htd : t ≠ d := fun he => by
        subst he
        refine hd (List.mem_append_right _ ?_)
        have ht' : (ops[j]?).bind (·.dst) = some t := ht
        simp [hg, ht']
      have hgv : gval0 (s.put (some d) x es) t = gval0 { s with es := es } t := by
        unfold gval0
        simp only [St.put, nbeq_ne htd, cond_false]
        cases hs : s.fr t with
        | v a => rfl
        | maybe t' w' a =>
          simp only [Sl.er]
          by_cases h' : t' = d
          · subst h'
            have hb' : Nat.beq t' t' = true := Nat.beq_refl t'
            simp only [hb', cond_true]
          · simp only [nbeq_ne h', cond_false]
      rw [hgv]
      split
      · rfl
      split
      · rfl
      rw [hput, exec_put (fun w' h => by simp at h; exact htd h.1.symm) hop rfl]
      rfl

theorem core_es0 {P : Program} {tt : TT} {ops : Array Oper} {s : St} {o : Oper} {r : AV} (hc : cls o.op = 0) {x : Sl} {es' : List Ent} {obs : List Prop} (h : core P tt ops s o r = some (x, es', obs)) (e2 : List Ent) :
    es' = s.es ∧ core P tt ops { s with es := e2 } o r = some (x, e2, obs) := by
  unfold core at h ⊢
  split at h
  · cases h
  rename_i hp
  try simp only [hp]
  split at h
  · rename_i hg
    have h1 := exec_es0 (P := P) (tt := tt) (s := s) (g := []) (r := r) hc e2
    have h2 := exec_es0 (P := P) (tt := tt) (s := s) (g := []) (r := r) hc s.es
    split at h
    case h_2 => cases h
    rename_i v es ob hex
    simp only [Option.some.injEq, Prod.mk.injEq] at h
    obtain ⟨rfl, rfl, rfl⟩ := h
    rw [hex] at h1 h2
    simp only [Option.map_some, Option.some.injEq, Prod.mk.injEq] at h1 h2
    have h3 : es = s.es := h2.2.1
    try simp only [hg, h1]
    exact ⟨h3, trivial⟩
  · rename_i j w hg
    try simp only [hg]
    split at h
    · cases h
    rename_i t ht
    try simp only [ht]
    split at h
    · cases h
    rename_i b hb
    have hb2 : gval0 { s with es := e2 } t = some b := hb
    try simp only [hb2]
    split at h
    · cases h
    rename_i hne
    try simp only [hne]
    have h1 := exec_es0 (P := P) (tt := tt) (s := s) (g := [(t, w)]) (r := r) hc e2
    split at h
    case h_2 => cases h
    rename_i v es ob hex
    simp only [Option.some.injEq, Prod.mk.injEq] at h
    obtain ⟨rfl, rfl, rfl⟩ := h
    rw [hex] at h1
    simp only [Option.map_some] at h1
    try simp only [h1]
    exact ⟨trivial, trivial⟩

theorem core_es1 {P : Program} {tt : TT} {ops : Array Oper} {s : St} {o : Oper} {r : AV} (hc : cls o.op = 1) {x : Sl} {es' : List Ent} {obs : List Prop} (h : core P tt ops s o r = some (x, es', obs)) (e : Ent) :
    es' = s.es ∧ core P tt ops { s with es := s.es ++ [e] } o r = some (x, s.es ++ [e], obs) := by
  unfold core at h ⊢
  split at h
  · cases h
  rename_i hp
  try simp only [hp]
  split at h
  · rename_i hg
    split at h
    case h_2 => cases h
    rename_i v es ob hex
    simp only [Option.some.injEq, Prod.mk.injEq] at h
    obtain ⟨rfl, rfl, rfl⟩ := h
    obtain ⟨h1, h2⟩ := exec_es1 hc hex e
    try simp only [hg, h2]
    exact ⟨h1, trivial⟩
  · rename_i j w hg
    try simp only [hg]
    split at h
    · cases h
    rename_i t ht
    try simp only [ht]
    split at h
    · cases h
    rename_i b hb
    have hb2 : gval0 { s with es := s.es ++ [e] } t = some b := hb
    try simp only [hb2]
    split at h
    · cases h
    rename_i hne
    try simp only [hne]
    split at h
    case h_2 => cases h
    rename_i v es ob hex
    simp only [Option.some.injEq, Prod.mk.injEq] at h
    obtain ⟨rfl, rfl, rfl⟩ := h
    obtain ⟨h1, h2⟩ := exec_es1 hc hex e
    try simp only [h2]
    exact ⟨trivial, trivial⟩

theorem core_es2 {P : Program} {tt : TT} {ops : Array Oper} {s : St} {o : Oper} {r : AV} (hc : cls o.op = 2) {x : Sl} {es' : List Ent} {obs : List Prop} (h : core P tt ops s o r = some (x, es', obs)) : ∃ e, es' = s.es ++ [e] := by
  unfold core at h
  split at h
  · cases h
  split at h
  · split at h
    case h_2 => cases h
    rename_i v es ob hex
    simp only [Option.some.injEq, Prod.mk.injEq] at h
    obtain ⟨rfl, rfl, rfl⟩ := h
    generalize o.op = op at hc hex
    cases op <;> simp only [cls, Nat.reduceEqDiff] at hc
    case call => split at hc <;> cases hc
    all_goals
      simp only [exec] at hex
      repeat' split at hex
      all_goals first
        | (simp only [Option.some.injEq, Prod.mk.injEq] at hex; exact ⟨_, hex.2.1.symm⟩)
        | cases hex
  · repeat' split at h
    all_goals first
      | cases h
      | skip
    all_goals
      rename_i hex
      exfalso
      generalize o.op = op at hc hex
      cases op <;> simp only [cls, Nat.reduceEqDiff] at hc
      case call => split at hc <;> cases hc
      all_goals simp [exec] at hex

end Go.W
