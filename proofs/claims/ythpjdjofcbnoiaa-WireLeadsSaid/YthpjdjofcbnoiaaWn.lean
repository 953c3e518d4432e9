/-
  Regions that draw their order: the theorem.
-/
import Derived.Test.YthpjdjofcbnoiaaWm
namespace Go.W

section
variable {P : Program} {tt : TT} {ops : Array Oper} {rs : Nat → AV}

def Stp (P : Program) (tt : TT) (ops : Array Oper) (rs : Nat → AV) (i : Nat) (s s' : St) : Prop :=
  ∃ o x es obs, ops[i]? = some o ∧ core P tt ops s o (rs i) = some (x, es, obs) ∧ AllP obs ∧ s' = s.put o.dst x es

theorem core_shape {s : St} {o : Oper} {r : AV} {x : Sl} {es : List Ent} {obs : List Prop} (h : core P tt ops s o r = some (x, es, obs)) {d : Nat} (hd : d ∉ o.looksAt ops) : x.er d = x := by
  unfold core at h
  split at h
  · cases h
  split at h
  · split at h
    · simp only [Option.some.injEq, Prod.mk.injEq] at h; obtain ⟨rfl, _⟩ := h; rfl
    · cases h
  · rename_i j w hg
    split at h
    · cases h
    rename_i t ht
    have htd : t ≠ d := fun he => by
      subst he
      refine hd (List.mem_append_right _ ?_)
      have ht' : (ops[j]?).bind (·.dst) = some t := ht
      simp [hg, ht']
    split at h
    · cases h
    split at h
    · cases h
    split at h
    · simp only [Option.some.injEq, Prod.mk.injEq] at h
      obtain ⟨rfl, _⟩ := h
      simp only [Sl.er, nbeq_ne htd, cond_false]
    · cases h

theorem er_comm (x : Sl) (d e : Nat) : (x.er d).er e = (x.er e).er d := by
  cases x with
  | v a => rfl
  | maybe t w a =>
    simp only [Sl.er]
    cases h1 : Nat.beq t d <;> cases h2 : Nat.beq t e <;> simp only [cond_true, cond_false, Sl.er, h1, h2]

theorem put_comm {s : St} {di dj : Option Nat} {xi xj : Sl} (e1 e2 e3 : List Ent) (hne : ∀ d, di = some d → dj ≠ some d) (hi : ∀ d, dj = some d → xi.er d = xi) (hj : ∀ d, di = some d → xj.er d = xj) :
    (s.put di xi e1).put dj xj e2 = (s.put dj xj e3).put di xi e2 := by
  cases di with
  | none => cases dj <;> rfl
  | some di =>
    cases dj with
    | none => rfl
    | some dj =>
      have hne' : di ≠ dj := fun h => hne di rfl (by rw [h])
      simp only [St.put, St.mk.injEq, true_and, and_true]
      funext t
      by_cases h1 : t = dj
      · subst h1
        have : Nat.beq t t = true := Nat.beq_refl t
        simp only [this, cond_true, nbeq_ne (Ne.symm hne'), cond_false]
        exact (hj di rfl).symm
      · simp only [nbeq_ne h1, cond_false]
        by_cases h2 : t = di
        · subst h2
          have : Nat.beq t t = true := Nat.beq_refl t
          simp only [this, cond_true]
          exact hi dj rfl
        · simp only [nbeq_ne h2, cond_false]
          exact er_comm _ _ _

theorem es_self (s : St) : ({ s with es := s.es } : St) = s := rfl

theorem comm {i j : Nat} {oi oj : Oper} (hi : ops[i]? = some oi) (hj : ops[j]? = some oj) (hap : oi.apart ops oj = true) (hcl : commB (cls oi.op) (cls oj.op) = true) {s s1 s2 : St}
    (h1 : Stp P tt ops rs i s s1) (h2 : Stp P tt ops rs j s1 s2) : ∃ s1', Stp P tt ops rs j s s1' ∧ Stp P tt ops rs i s1' s2 := by
  obtain ⟨a1, a2, a3⟩ := Oper.apart_spec hap
  obtain ⟨o, xi, esi, obi, k1, k2, k3, rfl⟩ := h1
  rw [hi] at k1
  simp only [Option.some.injEq] at k1
  subst k1
  obtain ⟨o, xj, esj, obj, g1, g2, g3, rfl⟩ := h2
  rw [hj] at g1
  simp only [Option.some.injEq] at g1
  subst g1
  rw [core_put a1] at g2
  have hxi : ∀ d, oj.dst = some d → xi.er d = xi := fun d hd => core_shape k2 (a3 d hd)
  have hxj : ∀ d, oi.dst = some d → xj.er d = xj := fun d hd => core_shape g2 (a1 d hd)
  have fin : ∀ es', core P tt ops s oj (rs j) = some (xj, es', obj) → core P tt ops { s with es := es' } oi (rs i) = some (xi, esj, obi) →
      ∃ s1', Stp P tt ops rs j s s1' ∧ Stp P tt ops rs i s1' ((s.put oi.dst xi esi).put oj.dst xj esj) := by
    intro es' c1 c2
    refine ⟨s.put oj.dst xj es', ⟨oj, xj, es', obj, hj, c1, g3, rfl⟩, ⟨oi, xi, esj, obi, hi, ?_, k3, put_comm esi esj es' a2 hxi hxj⟩⟩
    rw [core_put a3]
    exact c2
  have two : ∀ o : Op, cls o = 0 ∨ cls o = 1 ∨ cls o = 2 ∨ cls o = 3 := fun o => by cases o <;> simp [cls] <;> split <;> simp
  rcases two oi.op with ci | ci | ci | ci
  · -- class 0
    obtain ⟨rfl, _⟩ := core_es0 ci k2 s.es
    have g2 : core P tt ops s oj (rs j) = some (xj, esj, obj) := g2
    exact fin esj g2 (core_es0 ci k2 esj).2
  · rcases two oj.op with cj | cj | cj | cj
    · obtain ⟨rfl, h0⟩ := core_es0 cj g2 s.es
      obtain ⟨e1, _⟩ := core_es1 ci k2 .dead
      subst e1
      exact fin s.es h0 k2
    · obtain ⟨e1, _⟩ := core_es1 ci k2 .dead
      subst e1
      have g2 : core P tt ops s oj (rs j) = some (xj, esj, obj) := g2
      obtain ⟨e2, _⟩ := core_es1 cj g2 .dead
      subst e2
      exact fin s.es g2 k2
    · obtain ⟨e1, _⟩ := core_es1 ci k2 .dead
      subst e1
      have g2 : core P tt ops s oj (rs j) = some (xj, esj, obj) := g2
      obtain ⟨e, he⟩ := core_es2 cj g2
      subst he
      exact fin _ g2 (core_es1 ci k2 e).2
    · rw [ci, cj] at hcl; cases hcl
  · rcases two oj.op with cj | cj | cj | cj
    · obtain ⟨e1, h0⟩ := core_es0 cj g2 s.es
      simp only at e1
      subst e1
      exact fin s.es h0 k2
    all_goals (rw [ci, cj] at hcl; cases hcl)
  · rcases two oj.op with cj | cj | cj | cj
    · obtain ⟨e1, h0⟩ := core_es0 cj g2 s.es
      simp only at e1
      subst e1
      exact fin s.es h0 k2
    all_goals (rw [ci, cj] at hcl; cases hcl)

/-- Whatever order is picked from here on. -/
def AnyA (P : Program) (tt : TT) (ops : Array Oper) (rs : Nat → AV) (K : St → Prop) : Nat → Array Bool → St → Prop
  | 0, listed, s => Region.ready .any ops listed = [] ∧ K s
  | f + 1, listed, s => (Region.ready .any ops listed = [] → K s) ∧ ∀ i ∈ Region.ready .any ops listed, ∃ s', Stp P tt ops rs i s s' ∧ AnyA P tt ops rs K f (listed.setIfInBounds i true) s'

theorem AnyA.sound (hT : TTok P tt) {K : St → Prop} {Q : Exit → Act → World → Prop} : ∀ (f : Nat) (listed : Array Bool) (s : St), AnyA P tt ops rs K f listed s → ∀ {c : Cx}, CxOK c → c.es = s.es → ∀ {a : Act}, FR c a s →
    (∀ s' c' a', K s' → CxOK c' → Reach c c' → c'.es = s'.es → FR c' a' s' → Q .normal a' c'.w) → wpAny P .any ops Q f listed a c.w
  | 0, listed, s, h, c, hc, hes, a, hf, hK => ⟨h.1, hK s c a h.2 hc (.refl hc) hes hf⟩
  | f + 1, listed, s, h, c, hc, hes, a, hf, hK => by
    refine ⟨fun h0 => hK s c a (h.1 h0) hc (.refl hc) hes hf, fun i hi => ?_⟩
    obtain ⟨s', ⟨o, x, es, obs, k1, k2, k3, rfl⟩, h2⟩ := h.2 i hi
    have := op_sound hT (core_step k2) k3 hc hes hf (K := wpAny P .any ops Q f (listed.setIfInBounds i true)) (Q := Q) (fun c' a' g1 g2 g3 g4 =>
      AnyA.sound hT f _ _ h2 g1 g3 g4 fun s'' c'' a'' j1 j2 j3 j4 j5 => hK s'' c'' a'' j1 j2 (g2.trans j3) j4 j5)
    unfold wpOp
    simp only [k1]
    split
    · rename_i hw; rw [if_pos hw] at this; exact .inl this
    · rename_i hw; rw [if_neg hw] at this; exact this

def waits (o : Oper) (i : Nat) : Bool := o.after.any fun e => Region.binds .any e && Nat.beq e.on i

theorem AnyA.first {K : St → Prop} {i : Nat} {oi : Oper} (hi : ops[i]? = some oi) : ∀ (f : Nat) (listed : Array Bool) (s s1 : St),
    (∀ j oj, ops[j]? = some oj → j ≠ i → listed.getD j true = false → waits oj i = true ∨ (oi.apart ops oj = true ∧ commB (cls oi.op) (cls oj.op) = true)) →
    i ∈ Region.ready .any ops listed → Stp P tt ops rs i s s1 → AnyA P tt ops rs K f (listed.setIfInBounds i true) s1 → AnyA P tt ops rs K (f + 1) listed s := by
  intro f
  induction f with
  | zero =>
    intro listed s s1 _ hr hs H
    refine ⟨fun h => (by rw [h] at hr; cases hr), fun j hj => ?_⟩
    by_cases hji : j = i
    · subst hji; exact ⟨s1, hs, H⟩
    · have := ready_mono hj hji
      rw [H.1] at this
      cases this
  | succ f ih =>
    intro listed s s1 hfree hr hs H
    refine ⟨fun h => (by rw [h] at hr; cases hr), fun j hj => ?_⟩
    by_cases hji : j = i
    · subst hji; exact ⟨s1, hs, H⟩
    · obtain ⟨s2, h1, h2⟩ := H.2 j (ready_mono hj hji)
      obtain ⟨hjun, oj, hoj, hall⟩ := mem_ready.1 hj
      have hiun := (mem_ready.1 hr).1
      rcases hfree j oj hoj hji hjun with hw | ⟨hap, hcl⟩
      · exfalso
        unfold waits at hw
        obtain ⟨e, he, hb⟩ := Array.any_eq_true'.1 hw
        simp only [Bool.and_eq_true] at hb
        have h3 := hall e he hb.1
        rw [Nat.eq_of_beq_eq_true hb.2] at h3
        rcases Nat.lt_or_ge i listed.size with h' | h'
        · simp [h'] at hiun h3; rw [hiun] at h3; cases h3
        · simp [Array.getElem?_eq_none h'] at h3
      · obtain ⟨s1', g1, g2⟩ := comm hi hoj hap hcl hs h1
        refine ⟨s1', g1, ih (listed.setIfInBounds j true) s1' s2 (fun k ok hk hki hun => ?_) (ready_mono hr (Ne.symm hji)) g2 ?_⟩
        · refine hfree k ok hk hki ?_
          by_cases hjk : j = k
          · subst hjk; exact hjun
          · rw [getD_set_ne true hjk] at hun; exact hun
        · rw [Array.setIfInBounds_comm _ _ hji]
          exact h2

end

def withX {α : Type} (x : Sl) (k : Sl → α) : α :=
  match x with
  | .v a => withV a fun a => k (.v a)
  | .maybe t w a => withV a fun a => k (.maybe t w a)
theorem withX_eq {α : Type} (x : Sl) (k : Sl → α) : withX x k = k x := by cases x <;> simp [withX, withV_eq]

/-- The order of the text, for a region that draws. -/
def runD (P : Program) (tt : TT) (ops : Array Oper) : List (Oper × AV) → St → Option (St × List Prop)
  | [], s => some (s, [])
  | (o, r) :: l, s => match core P tt ops s o r with
    | some (x, es, obs) => withX x fun x => match putF s o.dst x es obs with
      | some (s1, obs) => match runD P tt ops l s1 with
        | some (s2, obs') => some (s2, obs ++ obs')
        | none => none
      | none => none
    | none => none

def drawB (ops : Array Oper) : Bool :=
  allTo ops.size fun k => match ops[k]? with
    | none => false
    | some o => (o.after.all fun e => Nat.blt e.on k) && allTo ops.size fun j => Nat.ble j k || (match ops[j]? with
      | some p => waits p k || (o.apart ops p && commB (cls o.op) (cls p.op))
      | none => false)

section
variable {P : Program} {tt : TT} {ops : Array Oper} {K : St → Prop}

theorem runD_any (hB : drawB ops = true) {rs : Nat → AV} : ∀ (l : List (Oper × AV)) (k : Nat) (listed : Array Bool) {s s' : St} {obs : List Prop}, k + l.length = ops.size → (∀ j, (l[j]?).map (·.1) = ops[k + j]?) →
    (∀ j (o : Oper) r, l[j]? = some (o, r) → rs (k + j) = r) → listed.size = ops.size → (∀ j, j < ops.size → listed.getD j true = decide (j < k)) →
    runD P tt ops l s = some (s', obs) → AllP obs → K s' → AnyA P tt ops rs K l.length listed s
  | [], k, listed, s, s', obs, hlen, _, _, hsz, hl, h, _, hK => by
    simp only [runD, Option.some.injEq, Prod.mk.injEq] at h
    obtain ⟨rfl, rfl⟩ := h
    refine ⟨?_, hK⟩
    cases hr : Region.ready .any ops listed with
    | nil => rfl
    | cons i r =>
      have hi : i ∈ Region.ready .any ops listed := by rw [hr]; exact List.mem_cons_self ..
      obtain ⟨h1, o, h2, _⟩ := mem_ready.1 hi
      have h3 := (Array.getElem?_eq_some_iff.1 h2).1
      rw [hl i h3] at h1
      simp at h1 hlen
      omega
  | (o, r) :: l, k, listed, s, s', obs, hlen, hop, hrs, hsz, hl, h, ho, hK => by
    simp only [runD, withX_eq, putF_eq] at h
    split at h
    case h_2 => cases h
    rename_i x es ob hcore
    split at h
    case h_2 => cases h
    rename_i s2 ob2 hrun
    simp only [Option.some.injEq, Prod.mk.injEq] at h
    obtain ⟨rfl, rfl⟩ := h
    obtain ⟨o1, o2⟩ := AllP_append ho
    simp only [List.length_cons] at hlen
    have hk : ops[k]? = some o := by simpa using (hop 0).symm
    have hrk : rs k = r := by simpa using hrs 0 o r rfl
    unfold drawB at hB
    have hB' := hB
    rw [allTo_spec] at hB
    have h0 := hB k (by omega)
    simp only [hk, Bool.and_eq_true] at h0
    obtain ⟨h0a, h0b⟩ := h0
    rw [allTo_spec] at h0b
    have hready : k ∈ Region.ready .any ops listed := by
      refine mem_ready.2 ⟨by rw [hl k (by omega)]; simp, o, hk, fun e he _ => ?_⟩
      have h1 := Array.all_eq_true_iff_forall_mem.1 h0a e he
      have h1 : e.on < k := by simpa [Nat.blt_eq] using h1
      have h2 := hl e.on (by omega)
      have h3 : e.on < listed.size := by omega
      simp only [h1, decide_true] at h2
      simp [h3] at h2 ⊢
      exact h2
    have ih := runD_any hB' (rs := rs) l (k + 1) (listed.setIfInBounds k true) (s := s.put o.dst x es) (by omega) (fun j => by
      have := hop (j + 1)
      simpa [Nat.add_assoc, Nat.add_comm 1 j] using this) (fun j o' r' hj => by
      have := hrs (j + 1) o' r' (by simpa using hj)
      rw [← this]; congr 1; omega) (by simp [hsz]) (fun j hj => by
      by_cases hjk : k = j
      · subst hjk
        simp [show k < listed.size by omega]
      · rw [getD_set_ne true hjk, hl j hj]
        simp
        omega) hrun o2 hK
    refine AnyA.first hk l.length listed s _ (fun j oj hj hjk hun => ?_) hready ⟨o, x, es, ob, hk, by rw [hrk]; exact hcore, o1, rfl⟩ ih
    have hjs := (Array.getElem?_eq_some_iff.1 hj).1
    rw [hl j hjs] at hun
    have hjk' : ¬ j < k := by simpa using hun
    have h1 := h0b j hjs
    simp only [hj, Bool.or_eq_true, Bool.and_eq_true] at h1
    rcases h1 with h1 | h1 | h1
    · have := Nat.le_of_ble_eq_true h1; omega
    · exact .inl h1
    · exact .inr h1

end

/-- A region that draws its order. -/
theorem W.draw {P : Program} {c0 : Cx} {Q : Exit → St → Prop} {s : St} {tt : TT} (hT : TTok P tt) (hm : P.follows .mixedOrders = true) {id : Nat} {l : List Oper} (rs : List AV) {s' : St} {obs : List Prop} (hB : drawB l.toArray = true)
    (h : runD P tt l.toArray (zipR l rs) s = some (s', obs)) (ho : AllP obs) (hQ : Q .normal s') : AWP P c0 (.region id l.toArray true) Q s := fun c a h1 h2 h3 h4 => by
  have g : Grow c.w c.fz { c.w with drawn := c.w.drawn + 1 } c.fz := ⟨Nat.le_refl _, ⟨rfl, rfl, rfl⟩, fun _ _ => ⟨rfl, rfl⟩, h1.fr⟩
  have hz : (zipR l rs).map (·.1) = l := zipR_fst l rs
  have hzl : (zipR l rs).length = l.length := by rw [← hz, List.length_map, hz]
  refine wp_region_any hm ?_
  have hany := runD_any (K := fun s'' => s'' = s') hB (rs := fun i => ((zipR l rs)[i]?.map (·.2)).getD .undef) (zipR l rs) 0 (Array.replicate l.toArray.size false) (by simp [hzl]) (fun j => by
    have : (l.toArray)[0 + j]? = ((zipR l rs).map (·.1))[j]? := by rw [hz]; simp
    rw [this]; simp) (fun j o r hj => by simp [hj]) (by simp) (fun j hj => by simp at hj; simp [hj]) h ho rfl
  have := AnyA.sound hT (Q := QQ c0 Q) _ _ _ hany (g.ok h1) h3 (a := a) ⟨h4.size, h4.defers, fun t => by
    have hs := h4.slot t
    have hr := g.reach h1
    cases hfr : s.fr t with
    | v x => rw [hfr] at hs; exact hs.mono hr
    | maybe t' w x => rw [hfr] at hs; exact ⟨fun h => (hs.1 h).mono hr, hs.2⟩⟩ (fun s'' c' a' j1 j2 j3 j4 j5 => ⟨c', s'', rfl, j2, h2.trans ((g.reach h1).trans j3), j4, j5, by rw [j1]; exact hQ⟩)
  rw [hzl] at this
  simpa using this

end Go.W
