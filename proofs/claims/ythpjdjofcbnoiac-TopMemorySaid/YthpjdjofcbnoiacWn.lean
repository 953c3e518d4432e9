/-
  Regions that draw their order: the theorem.
-/
import Derived.Test.YthpjdjofcbnoiacWm
namespace Go.W

section
variable {P : Program} {tt : TT} {ops : Array Oper} {rs : Nat → Hint} {fps : Nat → Fp} {n0 : Nat}

def Stp (P : Program) (tt : TT) (ops : Array Oper) (rs : Nat → Hint) (fps : Nat → Fp) (n0 : Nat) (i : Nat) (s s' : St) : Prop :=
  ∃ o x es obs, ops[i]? = some o ∧ core P tt ops s o (rs i) = some (x, es, obs) ∧ AllP obs ∧ s' = s.put o.dst x es ∧ fpB n0 s o (rs i) (fps i) = true

theorem core_shape {s : St} {o : Oper} {r : Hint} {x : Sl} {es : List Ent} {obs : List Prop} (h : core P tt ops s o r = some (x, es, obs)) {d : Nat} (hd : d ∉ o.looksAt ops) : x.er d = x := by
  unfold core at h
  split at h
  · cases h
  split at h
  · split at h
    · simp only [Option.some.injEq, Prod.mk.injEq] at h; obtain ⟨rfl, _⟩ := h; rfl
    · cases h
  · rename_i j w hg
    split at h
    · cases h
    rename_i t ht
    have htd : t ≠ d := fun he => by
      subst he
      refine hd (List.mem_append_right _ ?_)
      have ht' : (ops[j]?).bind (·.dst) = some t := ht
      simp [hg, ht']
    split at h
    · cases h
    split at h
    · cases h
    split at h
    · cases h
    split at h
    · simp only [Option.some.injEq, Prod.mk.injEq] at h
      obtain ⟨rfl, _⟩ := h
      simp only [Sl.er, nbeq_ne htd, cond_false]
    · cases h

theorem er_comm (x : Sl) (d e : Nat) : (x.er d).er e = (x.er e).er d := by
  cases x with
  | v a => rfl
  | maybe t w a =>
    simp only [Sl.er]
    cases h1 : Nat.beq t d <;> cases h2 : Nat.beq t e <;> simp only [cond_true, cond_false, Sl.er, h1, h2]

theorem put_comm {s : St} {di dj : Option Nat} {xi xj : Sl} (e1 e2 e3 : List Ent) (hne : ∀ d, di = some d → dj ≠ some d) (hi : ∀ d, dj = some d → xi.er d = xi) (hj : ∀ d, di = some d → xj.er d = xj) :
    (s.put di xi e1).put dj xj e2 = (s.put dj xj e3).put di xi e2 := by
  cases di with
  | none => cases dj <;> rfl
  | some di =>
    cases dj with
    | none => rfl
    | some dj =>
      have hne' : di ≠ dj := fun h => hne di rfl (by rw [h])
      simp only [St.put, St.mk.injEq, true_and, and_true]
      funext t
      by_cases h1 : t = dj
      · subst h1
        have : Nat.beq t t = true := Nat.beq_refl t
        simp only [this, cond_true, nbeq_ne (Ne.symm hne'), cond_false]
        exact (hj di rfl).symm
      · simp only [nbeq_ne h1, cond_false]
        by_cases h2 : t = di
        · subst h2
          have : Nat.beq t t = true := Nat.beq_refl t
          simp only [this, cond_true]
          exact hi dj rfl
        · simp only [nbeq_ne h2, cond_false]
          exact er_comm _ _ _

theorem es_self (s : St) : ({ s with es := s.es } : St) = s := rfl

theorem setAll_len {α : Type} : ∀ {m : List Nat} {r l : List α}, l.length ≤ (setAll l m r).length
  | [], r, l => by simp [setAll]
  | a :: m, [], l => by simp [setAll]
  | a :: m, e :: r, l => by
    simp only [setAll]
    have := setAll_len (m := m) (r := r) (l := l.set a e)
    simpa using this

theorem xStore_len {tt : TT} {es es' : List Ent} {T : TypeId} {x v : AV} {obs : List Prop} (h : xStore tt es T x v = some (es', obs)) : es'.length = es.length := by
  unfold xStore at h
  repeat' split at h
  all_goals first
    | (cases h; done)
    | (simp only [Option.some.injEq, Prod.mk.injEq] at h; rw [← h.1]; simp)

/-- No entry is lost. -/
theorem exec0_len {P : Program} {tt : TT} {g : GL} {s : St} {r : Hint} {o : Op} {v : AV} {es' : List Ent} {obs : List Prop} (h : exec0 P tt g s r o = some (v, es', obs)) : s.es.length ≤ es'.length := by
  by_cases h0 : cls r o = 0
  · have := exec0_es0 (P := P) (tt := tt) (s := s) (g := g) (r := r) h0 s.es
    have he : ({ s with es := s.es } : St) = s := rfl
    rw [he, h] at this
    simp only [Option.map_some, Option.some.injEq, Prod.mk.injEq] at this
    rw [this.2.1]; exact Nat.le_refl _
  by_cases h1 : cls r o = 1
  · rw [(exec0_es1 h1 h .dead).1]; exact Nat.le_refl _
  cases o <;> simp only [cls, not_true] at h0 h1
  case alloc T =>
    simp only [exec0] at h
    repeat' split at h
    all_goals first
      | (cases h; done)
      | (simp only [Option.some.injEq, Prod.mk.injEq] at h; rw [← h.2.1]; simp)
  case box T x =>
    simp only [exec0] at h
    repeat' split at h
    all_goals first
      | (cases h; done)
      | (simp only [Option.some.injEq, Prod.mk.injEq] at h; rw [← h.2.1]; simp)
  case makeMap T x =>
    cases x with
    | some x => simp only [exec0] at h; cases h
    | none =>
      simp only [exec0] at h
      split at h
      case h_2 => cases h
      simp only [Option.some.injEq, Prod.mk.injEq] at h
      rw [← h.2.1]; simp
  case lookup T x i ok =>
    cases ok with
    | true => simp only [exec0] at h; cases h
    | false =>
      simp only [exec0] at h
      split at h
      case h_2 => cases h
      simp only [Option.some.injEq, Prod.mk.injEq] at h
      rw [← h.2.1]; exact Nat.le_refl _
  case mapUpdate T m k x =>
    simp only [exec0] at h
    split at h
    case h_2 => cases h
    split at h
    case h_2 => cases h
    rename_i hst
    simp only [Option.some.injEq, Prod.mk.injEq] at h
    rw [← h.2.1]
    unfold xMapUpd at hst
    repeat' split at hst
    all_goals first
      | (cases hst; done)
      | (simp only [Option.some.injEq, Prod.mk.injEq] at hst; rw [← hst.1]; simp)
  case store T x v =>
    simp only [exec0] at h
    split at h
    case h_2 => cases h
    split at h
    · rename_i hst
      simp only [Option.some.injEq, Prod.mk.injEq] at h
      rw [← h.2.1, xStore_len hst]; exact Nat.le_refl _
    · split at h
      case h_2 => cases h
      rename_i hst
      simp only [Option.some.injEq, Prod.mk.injEq] at h
      rw [← h.2.1]
      unfold xStoreOwn at hst
      repeat' split at hst
      all_goals first
        | (cases hst; done)
        | skip
      rename_i hst2
      simp only [Option.some.injEq, Prod.mk.injEq] at hst
      rw [← hst.1, xStore_len hst2]; simp
  case call c =>
    cases hcal : c.callee with
    | value f =>
      simp only [exec0, hcal] at h
      split at h
      · split at h
        case h_2 => cases h
        rename_i hre _
        simp only [execCall, hcal, hre] at h
        split at h
        case h_2 => cases h
        simp only [xCallE] at h
        split at h
        · cases h
        split at h
        · cases h
        simp only [Option.some.injEq, Prod.mk.injEq] at h
        rw [← h.2.1]; exact setAll_len
      · repeat' split at h
        all_goals first
          | (cases h; done)
          | (simp only [Option.some.injEq, Prod.mk.injEq] at h; rw [← h.2.1]; exact Nat.le_refl _)
    | invoke f m => simp only [exec0, hcal] at h; cases h
    | builtin b =>
      cases b with
      | append =>
        simp only [exec0, hcal] at h
        repeat' split at h
        all_goals first
          | (cases h; done)
          | skip
        · rename_i hap
          simp only [Option.some.injEq, Prod.mk.injEq] at h
          rw [← h.2.1]
          unfold xAppend at hap
          repeat' split at hap
          all_goals first
            | (cases hap; done)
            | (simp only [Option.some.injEq, Prod.mk.injEq] at hap; rw [← hap.2.1]; simp)
        · rename_i hap
          simp only [Option.some.injEq, Prod.mk.injEq] at h
          rw [← h.2.1]
          unfold xAppendOwn at hap
          repeat' split at hap
          all_goals first
            | (cases hap; done)
            | (simp only [Option.some.injEq, Prod.mk.injEq] at hap; rw [← hap.2.1]; simp)
      | clear =>
        simp only [exec0, hcal] at h
        repeat' split at h
        all_goals first
          | (cases h; done)
          | skip
        rename_i hap
        simp only [Option.some.injEq, Prod.mk.injEq] at h
        rw [← h.2.1]
        unfold xClear at hap
        repeat' split at hap
        all_goals first
          | (cases hap; done)
          | (simp only [Option.some.injEq, Prod.mk.injEq] at hap; rw [← hap.1]; simp)
      | _ => simp [hcal] at h1

theorem exec_len {P : Program} {tt : TT} {g : GL} {s : St} {r : Hint} {o : Op} {v : AV} {es' : List Ent} {obs : List Prop} (h : exec P tt g s r o = some (v, es', obs)) : s.es.length ≤ es'.length := by
  obtain ⟨_, _, h0, _⟩ := retell_inv h
  exact exec0_len h0

theorem core_len {s : St} {o : Oper} {r : Hint} {x : Sl} {es' : List Ent} {obs : List Prop} (h : core P tt ops s o r = some (x, es', obs)) : s.es.length ≤ es'.length := by
  unfold core at h
  split at h
  · cases h
  split at h
  · split at h
    case h_2 => cases h
    rename_i hex
    simp only [Option.some.injEq, Prod.mk.injEq] at h
    obtain ⟨_, rfl, _⟩ := h
    exact exec_len hex
  · repeat' split at h
    all_goals first
      | (cases h; done)
      | (simp only [Option.some.injEq, Prod.mk.injEq] at h; rw [← h.2.1]; exact Nat.le_refl _)

theorem fpB_cls0 {n0 : Nat} {s s' : St} {o : Oper} {r : Hint} {f : Fp} (hc : cls r o.op = 0) (h : fpB n0 s o r f = true) : fpB n0 s' o r f = true := by
  cases f with
  | any => rfl
  | rd ro =>
    simp only [fpB] at h
    split at h
    · cases h
    split at h
    · rename_i ho; rw [ho] at hc; cases hc
    · rename_i ho; rw [ho] at hc; cases hc
    · rename_i ho; rw [ho] at hc; cases hc
    · rename_i ho; rw [ho] at hc; cases hc
    · cases h
  | sh y =>
    simp only [fpB] at h
    split at h
    · cases h
    split at h
    · rename_i ho; rw [ho] at hc; cases hc
    · cases h
  | wl z =>
    simp only [fpB] at h
    split at h
    · cases h
    split at h
    · rename_i ho; rw [ho] at hc; cases hc
    · cases h
  | wr z =>
    simp only [fpB] at h
    split at h
    · cases h
    split at h
    · rename_i ho; rw [ho] at hc; cases hc
    · rename_i c ho
      rw [ho] at hc
      simp only [cls] at hc
      split at h
      · rename_i hcal
        rw [hcal] at hc
        cases hc
      · cases h
    · cases h
  | on m =>
    simp only [fpB] at h
    split at h
    · cases h
    split at h
    · cases h
    split at h
    · rename_i c ho
      rw [ho] at hc
      simp only [cls] at hc
      split at h
      · rename_i hcal
        rw [hcal] at hc
        simp only at hc
        split at hc <;> cases hc
      · rename_i hcal
        rw [hcal] at hc
        cases hc
      · cases h
    · cases h

/-- Neither's guard's guard is the other one's slot. -/
def apart2 (ops : Array Oper) (o p : Oper) : Bool :=
  match chain ops o with
  | none => true
  | some (t, _) => match p.dst with
    | none => true
    | some d => match Nat.beq d t with
      | true => false
      | false => true
def apartB (ops : Array Oper) (o p : Oper) : Bool := o.apart ops p && (apart2 ops o p && apart2 ops p o)
theorem apart2_spec {ops : Array Oper} {o p : Oper} (h : apart2 ops o p = true) : ∀ d, p.dst = some d → ∀ w, chain ops o ≠ some (d, w) := by
  intro d hd w hc
  unfold apart2 at h
  rw [hc, hd] at h
  simp at h

theorem comm {i j : Nat} {oi oj : Oper} (hi : ops[i]? = some oi) (hj : ops[j]? = some oj) (hap : apartB ops oi oj = true) (hcl : commB (cls (rs i) oi.op) (cls (rs j) oj.op) = true ∨ fpComm (fps i) (fps j) = true) {s s1 s2 : St}
    (h1 : Stp P tt ops rs fps n0 i s s1) (h2 : Stp P tt ops rs fps n0 j s1 s2) : ∃ s1', Stp P tt ops rs fps n0 j s s1' ∧ Stp P tt ops rs fps n0 i s1' s2 := by
  simp only [apartB, Bool.and_eq_true] at hap
  obtain ⟨hap, hap2, hap3⟩ := hap
  have b3 := apart2_spec hap2
  have b1 := apart2_spec hap3
  obtain ⟨a1, a2, a3⟩ := Oper.apart_spec hap
  obtain ⟨o, xi, esi, obi, k1, k2, k3, rfl, k5⟩ := h1
  rw [hi] at k1
  simp only [Option.some.injEq] at k1
  subst k1
  obtain ⟨o, xj, esj, obj, g1, g2, g3, rfl, g5⟩ := h2
  rw [hj] at g1
  simp only [Option.some.injEq] at g1
  subst g1
  rw [core_put a1 b1] at g2
  rw [fpB_put a1] at g5
  have hxi : ∀ d, oj.dst = some d → xi.er d = xi := fun d hd => core_shape k2 (a3 d hd)
  have hxj : ∀ d, oi.dst = some d → xj.er d = xj := fun d hd => core_shape g2 (a1 d hd)
  have fin : ∀ es', core P tt ops s oj (rs j) = some (xj, es', obj) → fpB n0 s oj (rs j) (fps j) = true → core P tt ops { s with es := es' } oi (rs i) = some (xi, esj, obi) → fpB n0 { s with es := es' } oi (rs i) (fps i) = true →
      ∃ s1', Stp P tt ops rs fps n0 j s s1' ∧ Stp P tt ops rs fps n0 i s1' ((s.put oi.dst xi esi).put oj.dst xj esj) := by
    intro es' c1 c3 c2 c4
    refine ⟨s.put oj.dst xj es', ⟨oj, xj, es', obj, hj, c1, g3, rfl, c3⟩, ⟨oi, xi, esj, obi, hi, ?_, k3, put_comm esi esj es' a2 hxi hxj, ?_⟩⟩
    · rw [core_put a3 b3]
      exact c2
    · rw [fpB_put a3]
      exact c4
  rcases hcl with hcl | hcl
  · have two : ∀ (r : Hint) (o : Op), cls r o = 0 ∨ cls r o = 1 ∨ cls r o = 2 ∨ cls r o = 3 := fun r o => by cases o <;> simp [cls] <;> (repeat' split) <;> simp
    rcases two (rs i) oi.op with ci | ci | ci | ci
    · -- class 0
      obtain ⟨rfl, _⟩ := core_es0 ci k2 s.es
      have g2 : core P tt ops s oj (rs j) = some (xj, esj, obj) := g2
      exact fin esj g2 g5 (core_es0 ci k2 esj).2 (fpB_cls0 ci k5)
    · obtain ⟨e1, _⟩ := core_es1 ci k2 .dead
      subst e1
      have g2 : core P tt ops s oj (rs j) = some (xj, esj, obj) := g2
      rcases two (rs j) oj.op with cj | cj | cj | cj
      · obtain ⟨rfl, h0⟩ := core_es0 cj g2 s.es
        exact fin s.es h0 g5 k2 k5
      · obtain ⟨e2, _⟩ := core_es1 cj g2 .dead
        subst e2
        exact fin s.es g2 g5 k2 k5
      · obtain ⟨e, he⟩ := core_es2 cj g2
        subst he
        exact fin _ g2 g5 (core_es1 ci k2 e).2 (fpB_es _ (by simp) k5)
      · rw [ci, cj] at hcl; cases hcl
    · rcases two (rs j) oj.op with cj | cj | cj | cj
      · obtain ⟨e1, h0⟩ := core_es0 cj g2 s.es
        simp only at e1
        subst e1
        exact fin s.es h0 (fpB_cls0 cj g5) k2 k5
      all_goals (rw [ci, cj] at hcl; cases hcl)
    · rcases two (rs j) oj.op with cj | cj | cj | cj
      · obtain ⟨e1, h0⟩ := core_es0 cj g2 s.es
        simp only at e1
        subst e1
        exact fin s.es h0 (fpB_cls0 cj g5) k2 k5
      all_goals (rw [ci, cj] at hcl; cases hcl)
  · -- by what they touch
    have first : ∀ ro, fps i = .rd ro → clear2 ro (fps j) = true → ∃ s1', Stp P tt ops rs fps n0 j s s1' ∧ Stp P tt ops rs fps n0 i s1' ((s.put oi.dst xi esi).put oj.dst xj esj) := by
      intro ro hro hcr
      have k5' := k5
      rw [hro] at k5'
      obtain ⟨e1, hst⟩ := fp_read k5' k2
      subst e1
      have g2 : core P tt ops s oj (rs j) = some (xj, esj, obj) := g2
      have g5 : fpB n0 s oj (rs j) (fps j) = true := g5
      refine fin esj g2 g5 (hst esj fun y hy hlt => ?_) (fpB_es _ (core_len g2) k5)
      subst hy
      exact fp_keep g5 g2 hlt hcr
    have second : ∀ ro, fps j = .rd ro → clear2 ro (fps i) = true → ∃ s1', Stp P tt ops rs fps n0 j s s1' ∧ Stp P tt ops rs fps n0 i s1' ((s.put oi.dst xi esi).put oj.dst xj esj) := by
      intro ro hfj hcr
      have g5' := g5
      rw [hfj] at g5'
      obtain ⟨e1, hst⟩ := fp_read g5' g2
      simp only at e1
      subst e1
      have h3 := hst s.es fun y hy hlt => by
        subst hy
        exact (fp_keep k5 k2 hlt hcr).symm
      exact fin s.es h3 (by
        rw [hfj]
        have hl : ∀ u, ({ s with es := esj } : St).look [] u = s.look [] u := fun u => by cases u <;> rfl
        simp only [fpB, hl] at g5' ⊢
        exact g5') k2 k5
    cases hfi : fps i with
    | rd ro =>
      refine first ro hfi ?_
      rw [hfi] at hcl
      exact hcl
    | sh y =>
      cases hfj : fps j with
      | rd ro => exact second ro hfj (by rw [hfi, hfj] at hcl; rw [hfi]; exact hcl)
      | wl z =>
        have k5' := k5
        rw [hfi] at k5'
        obtain ⟨e1, hst⟩ := fp_sh k5' k2
        subst e1
        have g2 : core P tt ops s oj (rs j) = some (xj, esj, obj) := g2
        have g5 : fpB n0 s oj (rs j) (fps j) = true := g5
        have g5' := g5
        rw [hfj] at g5'
        exact fin esj g2 g5 (hst esj (fp_wl g5' g2).1) (fpB_es _ (core_len g2) k5)
      | _ => rw [hfi, hfj] at hcl; cases hcl
    | wl z =>
      cases hfj : fps j with
      | rd ro => exact second ro hfj (by rw [hfi, hfj] at hcl; rw [hfi]; exact hcl)
      | sh y =>
        have k5' := k5
        rw [hfi] at k5'
        have g5' := g5
        rw [hfj] at g5'
        obtain ⟨e1, hst⟩ := fp_sh g5' g2
        simp only at e1
        subst e1
        have h3 := hst s.es (fp_wl k5' k2).2
        exact fin s.es h3 (by
          rw [hfj]
          have hl : ∀ u, ({ s with es := esj } : St).look [] u = s.look [] u := fun u => by cases u <;> rfl
          simp only [fpB, hl] at g5' ⊢
          exact g5') k2 k5
      | _ => rw [hfi, hfj] at hcl; cases hcl
    | _ =>
      cases hfj : fps j with
      | rd ro => exact second ro hfj (by rw [hfi, hfj] at hcl; rw [hfi]; exact hcl)
      | _ => rw [hfi, hfj] at hcl; cases hcl

/-! ### What waits for what, through others too -/

def maskOf (acc : List Nat) : List Edge → Nat
  | [] => 0
  | e :: r => bif Region.binds .any e then Nat.lor (Nat.lor (maskOf acc r) (2 ^ e.on)) (acc.getD e.on 0) else maskOf acc r
def masks : List Oper → List Nat → List Nat
  | [], acc => acc
  | o :: l, acc => masks l (acc ++ [maskOf acc o.after.toList])

/-- o waits for i, or for one that does. -/
inductive Dep (ops : Array Oper) : Nat → Nat → Prop
  | one {j i : Nat} {o : Oper} {e : Edge} : ops[j]? = some o → e ∈ o.after → Region.binds .any e = true → e.on = i → Dep ops j i
  | more {j i : Nat} {o : Oper} {e : Edge} : ops[j]? = some o → e ∈ o.after → Region.binds .any e = true → Dep ops e.on i → Dep ops j i

theorem maskOf_spec {acc : List Nat} {i : Nat} : ∀ {l : List Edge}, Nat.testBit (maskOf acc l) i = true → ∃ e ∈ l, Region.binds .any e = true ∧ (e.on = i ∨ Nat.testBit (acc.getD e.on 0) i = true)
  | [], h => by simp [maskOf] at h
  | e :: r, h => by
    simp only [maskOf] at h
    cases hb : Region.binds .any e with
    | false =>
      rw [hb] at h
      obtain ⟨e', h1, h2⟩ := maskOf_spec h
      exact ⟨e', List.mem_cons_of_mem _ h1, h2⟩
    | true =>
      rw [hb] at h
      simp only [cond_true] at h
      have h' : Nat.testBit ((maskOf acc r ||| 2 ^ e.on) ||| acc.getD e.on 0) i = true := h
      simp only [Nat.testBit_or, Bool.or_eq_true] at h'
      rcases h' with (h' | h') | h'
      · obtain ⟨e', h1, h2⟩ := maskOf_spec h'
        exact ⟨e', List.mem_cons_of_mem _ h1, h2⟩
      · refine ⟨e, List.mem_cons_self .., hb, .inl ?_⟩
        rw [Nat.testBit_two_pow] at h'
        simpa using h'
      · exact ⟨e, List.mem_cons_self .., hb, .inr h'⟩

theorem masks_spec : ∀ (l : List Oper) (acc : List Nat), (∀ k o, l[k]? = some o → ops[acc.length + k]? = some o) → (∀ j i : Nat, Nat.testBit (acc.getD j 0) i = true → Dep ops j i) →
    ∀ j i : Nat, Nat.testBit ((masks l acc).getD j 0) i = true → Dep ops j i
  | [], acc, _, h, j, i, hb => h j i hb
  | o :: l, acc, hl, h, j, i, hb => by
    refine masks_spec l (acc ++ [maskOf acc o.after.toList]) (fun k o' hk => ?_) (fun j i hb => ?_) j i hb
    · have := hl (k + 1) o' (by simpa using hk)
      rw [← this]
      congr 1
      simp
      omega
    · rcases Nat.lt_or_ge j acc.length with hj | hj
      · refine h j i ?_
        simpa [List.getD_eq_getElem?_getD, List.getElem?_append_left hj] using hb
      · rcases Nat.eq_or_lt_of_le hj with hj | hj
        · subst hj
          have hb : Nat.testBit (maskOf acc o.after.toList) i = true := by simpa [List.getD_eq_getElem?_getD] using hb
          obtain ⟨e, h1, h2, h3⟩ := maskOf_spec hb
          have ho : ops[acc.length]? = some o := by simpa using hl 0 o rfl
          rcases h3 with h3 | h3
          · exact .one ho (by simpa using h1) h2 h3
          · exact .more ho (by simpa using h1) h2 (h _ _ h3)
        · rw [List.getD_eq_getElem?_getD, List.getElem?_eq_none (by simp; omega)] at hb
          simp at hb

/-- What is listed has listed all that it waits for. -/
def Closed (ops : Array Oper) (listed : Array Bool) : Prop := ∀ (l : Nat) (o : Oper), ops[l]? = some o → listed.getD l false = true → ∀ e ∈ o.after, Region.binds .any e = true → listed.getD e.on false = true

theorem Closed.dep {listed : Array Bool} (hc : Closed ops listed) {j i : Nat} (hd : Dep ops j i) : listed.getD j false = true → listed.getD i false = true := by
  induction hd with
  | one h1 h2 h3 h4 => intro hj; rw [← h4]; exact hc _ _ h1 hj _ h2 h3
  | more h1 h2 h3 _ ih => intro hj; exact ih (hc _ _ h1 hj _ h2 h3)

theorem Closed.ready {listed : Array Bool} (hc : Closed ops listed) {j i : Nat} (hj : j ∈ Region.ready .any ops listed) (hd : Dep ops j i) : listed.getD i false = true := by
  obtain ⟨_, o, hoj, hall⟩ := mem_ready.1 hj
  cases hd with
  | one h1 h2 h3 h4 =>
    rw [hoj] at h1
    simp only [Option.some.injEq] at h1
    subst h1
    rw [← h4]
    exact hall _ h2 h3
  | more h1 h2 h3 h4 =>
    rw [hoj] at h1
    simp only [Option.some.injEq] at h1
    subst h1
    exact hc.dep h4 (hall _ h2 h3)

theorem Closed.set {listed : Array Bool} (hc : Closed ops listed) {j : Nat} (hj : j ∈ Region.ready .any ops listed) : Closed ops (listed.setIfInBounds j true) := by
  intro l o hl hlt e he hb
  have mono : ∀ k, listed.getD k false = true → (listed.setIfInBounds j true).getD k false = true := fun k hk => by
    by_cases hjk : j = k
    · subst hjk
      rcases Nat.lt_or_ge j listed.size with h | h
      · simp [h]
      · simp [Array.getElem?_eq_none h] at hk
    · simpa [Array.getElem?_setIfInBounds_ne hjk] using hk
  by_cases hjl : j = l
  · subst hjl
    obtain ⟨_, o', hoj, hall⟩ := mem_ready.1 hj
    rw [hoj] at hl
    simp only [Option.some.injEq] at hl
    subst hl
    exact mono _ (hall e he hb)
  · have : listed.getD l false = true := by simpa [Array.getElem?_setIfInBounds_ne hjl] using hlt
    exact mono _ (hc l o hl this e he hb)

/-- Whatever order is picked from here on. -/
def AnyA (P : Program) (tt : TT) (ops : Array Oper) (rs : Nat → Hint) (fps : Nat → Fp) (n0 : Nat) (K : St → Prop) : Nat → Array Bool → St → Prop
  | 0, listed, s => Region.ready .any ops listed = [] ∧ K s
  | f + 1, listed, s => (Region.ready .any ops listed = [] → K s) ∧ ∀ i ∈ Region.ready .any ops listed, ∃ s', Stp P tt ops rs fps n0 i s s' ∧ AnyA P tt ops rs fps n0 K f (listed.setIfInBounds i true) s'

theorem AnyA.sound (hT : TTok P tt) {K : St → Prop} {Q : Exit → Act → World → Prop} : ∀ (f : Nat) (listed : Array Bool) (s : St), AnyA P tt ops rs fps n0 K f listed s → ∀ {c : Cx}, CxOK c → c.es = s.es → ∀ {a : Act}, FR c a s →
    (∀ s' c' a', K s' → CxOK c' → Reach c c' → c'.es = s'.es → FR c' a' s' → Q .normal a' c'.w) → wpAny P .any ops Q f listed a c.w
  | 0, listed, s, h, c, hc, hes, a, hf, hK => ⟨h.1, hK s c a h.2 hc (.refl hc) hes hf⟩
  | f + 1, listed, s, h, c, hc, hes, a, hf, hK => by
    refine ⟨fun h0 => hK s c a (h.1 h0) hc (.refl hc) hes hf, fun i hi => ?_⟩
    obtain ⟨s', ⟨o, x, es, obs, k1, k2, k3, rfl, _⟩, h2⟩ := h.2 i hi
    have := op_sound hT (core_step k2) k3 hc hes hf (K := wpAny P .any ops Q f (listed.setIfInBounds i true)) (Q := Q) (fun c' a' g1 g2 g3 g4 =>
      AnyA.sound hT f _ _ h2 g1 g3 g4 fun s'' c'' a'' j1 j2 j3 j4 j5 => hK s'' c'' a'' j1 j2 (g2.trans j3) j4 j5)
    unfold wpOp
    simp only [k1]
    split
    · rename_i hw; rw [if_pos hw] at this; exact .inl this
    · rename_i hw; rw [if_neg hw] at this; exact this

theorem AnyA.first {K : St → Prop} {i : Nat} {oi : Oper} (hi : ops[i]? = some oi) : ∀ (f : Nat) (listed : Array Bool) (s s1 : St), Closed ops listed →
    (∀ j oj, ops[j]? = some oj → j ≠ i → listed.getD j true = false → Dep ops j i ∨ (apartB ops oi oj = true ∧ (commB (cls (rs i) oi.op) (cls (rs j) oj.op) = true ∨ fpComm (fps i) (fps j) = true))) →
    i ∈ Region.ready .any ops listed → Stp P tt ops rs fps n0 i s s1 → AnyA P tt ops rs fps n0 K f (listed.setIfInBounds i true) s1 → AnyA P tt ops rs fps n0 K (f + 1) listed s := by
  intro f
  induction f with
  | zero =>
    intro listed s s1 _ _ hr hs H
    refine ⟨fun h => (by rw [h] at hr; cases hr), fun j hj => ?_⟩
    by_cases hji : j = i
    · subst hji; exact ⟨s1, hs, H⟩
    · have := ready_mono hj hji
      rw [H.1] at this
      cases this
  | succ f ih =>
    intro listed s s1 hcl hfree hr hs H
    refine ⟨fun h => (by rw [h] at hr; cases hr), fun j hj => ?_⟩
    by_cases hji : j = i
    · subst hji; exact ⟨s1, hs, H⟩
    · obtain ⟨s2, h1, h2⟩ := H.2 j (ready_mono hj hji)
      obtain ⟨hjun, oj, hoj, hall⟩ := mem_ready.1 hj
      have hiun := (mem_ready.1 hr).1
      rcases hfree j oj hoj hji hjun with hw | ⟨hap, hc⟩
      · exfalso
        have h3 := hcl.ready hj hw
        rcases Nat.lt_or_ge i listed.size with h' | h'
        · simp [h'] at hiun h3; rw [hiun] at h3; cases h3
        · simp [Array.getElem?_eq_none h'] at h3
      · obtain ⟨s1', g1, g2⟩ := comm hi hoj hap hc hs h1
        refine ⟨s1', g1, ih (listed.setIfInBounds j true) s1' s2 (hcl.set hj) (fun k ok hk hki hun => ?_) (ready_mono hr (Ne.symm hji)) g2 ?_⟩
        · refine hfree k ok hk hki ?_
          by_cases hjk : j = k
          · subst hjk; exact hjun
          · rw [getD_set_ne true hjk] at hun; exact hun
        · rw [Array.setIfInBounds_comm _ _ hji]
          exact h2

end

def withX {α : Type} (x : Sl) (k : Sl → α) : α :=
  match x with
  | .v a => withV a fun a => k (.v a)
  | .maybe t w a => withV a fun a => k (.maybe t w a)
theorem withX_eq {α : Type} (x : Sl) (k : Sl → α) : withX x k = k x := by cases x <;> simp [withX, withV_eq]

/-- The order of the text, for a region that draws. -/
def runD (P : Program) (tt : TT) (ops : Array Oper) (fps : Nat → Fp) (n0 : Nat) : Nat → List (Oper × Hint) → St → Option (St × List Prop)
  | _, [], s => some (s, [])
  | k, (o, r) :: l, s => match fpB n0 s o r (fps k) with
    | false => none
    | true => match core P tt ops s o r with
      | some (x, es, obs) => withX x fun x => match putF s o.dst x es obs with
        | some (s1, obs) => match runD P tt ops fps n0 (k + 1) l s1 with
          | some (s2, obs') => some (s2, obs ++ obs')
          | none => none
        | none => none
      | none => none

def hintAt (l : List (Oper × Hint)) (i : Nat) : Hint := match l[i]? with
  | some p => p.2
  | none => .undef

def drawB (ops : Array Oper) (rs : Nat → Hint) (fps : Nat → Fp) : Bool :=
  let ms := masks ops.toList []
  allTo ops.size fun k => match ops[k]? with
    | none => false
    | some o => (o.after.all fun e => !Region.binds .any e || Nat.blt e.on k) && allTo ops.size fun j => Nat.ble j k || (match ops[j]? with
      | some p => Nat.testBit (ms.getD j 0) k || (apartB ops o p && (commB (cls (rs k) o.op) (cls (rs j) p.op) || fpComm (fps k) (fps j)))
      | none => false)

section
variable {P : Program} {tt : TT} {ops : Array Oper} {K : St → Prop} {fps : Nat → Fp} {n0 : Nat}

theorem runD_any {rs : Nat → Hint} (hB : drawB ops rs fps = true) : ∀ (l : List (Oper × Hint)) (k : Nat) (listed : Array Bool) {s s' : St} {obs : List Prop}, k + l.length = ops.size → (∀ j, (l[j]?).map (·.1) = ops[k + j]?) →
    (∀ j (o : Oper) r, l[j]? = some (o, r) → rs (k + j) = r) → listed.size = ops.size → (∀ j, j < ops.size → listed.getD j true = decide (j < k)) →
    runD P tt ops fps n0 k l s = some (s', obs) → AllP obs → K s' → AnyA P tt ops rs fps n0 K l.length listed s
  | [], k, listed, s, s', obs, hlen, _, _, hsz, hl, h, _, hK => by
    simp only [runD, Option.some.injEq, Prod.mk.injEq] at h
    obtain ⟨rfl, rfl⟩ := h
    refine ⟨?_, hK⟩
    cases hr : Region.ready .any ops listed with
    | nil => rfl
    | cons i r =>
      have hi : i ∈ Region.ready .any ops listed := by rw [hr]; exact List.mem_cons_self ..
      obtain ⟨h1, o, h2, _⟩ := mem_ready.1 hi
      have h3 := (Array.getElem?_eq_some_iff.1 h2).1
      rw [hl i h3] at h1
      simp at h1 hlen
      omega
  | (o, r) :: l, k, listed, s, s', obs, hlen, hop, hrs, hsz, hl, h, ho, hK => by
    simp only [runD, withX_eq, putF_eq] at h
    split at h
    · cases h
    rename_i hfp
    split at h
    case h_2 => cases h
    rename_i x es ob hcore
    split at h
    case h_2 => cases h
    rename_i s2 ob2 hrun
    simp only [Option.some.injEq, Prod.mk.injEq] at h
    obtain ⟨rfl, rfl⟩ := h
    obtain ⟨o1, o2⟩ := AllP_append ho
    simp only [List.length_cons] at hlen
    have hk : ops[k]? = some o := by simpa using (hop 0).symm
    have hrk : rs k = r := by simpa using hrs 0 o r rfl
    unfold drawB at hB
    have hB' := hB
    simp only [allTo_spec] at hB
    have h0 := hB k (by omega)
    simp only [hk, Bool.and_eq_true] at h0
    obtain ⟨h0a, h0b⟩ := h0
    rw [allTo_spec] at h0b
    have hfst : ∀ j, j < k → listed.getD j false = true := fun j hj => by
      have h2 := hl j (by omega)
      have h3 : j < listed.size := by omega
      simp only [hj, decide_true] at h2
      simp [h3] at h2 ⊢
      exact h2
    have hready : k ∈ Region.ready .any ops listed := by
      refine mem_ready.2 ⟨by rw [hl k (by omega)]; simp, o, hk, fun e he hbe => ?_⟩
      have h1 := Array.all_eq_true_iff_forall_mem.1 h0a e he
      rw [hbe] at h1
      exact hfst _ (by simpa [Nat.blt_eq] using h1)
    have hclosed : Closed ops listed := by
      intro q oq hq hql e he hbe
      have hqs := (Array.getElem?_eq_some_iff.1 hq).1
      have h2 := hl q hqs
      have hqk : q < k := by
        have h3 : q < listed.size := by omega
        simp [h3] at hql h2
        rw [hql] at h2
        simpa using h2.symm
      have h1 := hB q hqs
      simp only [hq, Bool.and_eq_true] at h1
      have h4 := Array.all_eq_true_iff_forall_mem.1 h1.1 e he
      rw [hbe] at h4
      have : e.on < q := by simpa [Nat.blt_eq] using h4
      exact hfst _ (by omega)
    have ih := runD_any (rs := rs) hB' l (k + 1) (listed.setIfInBounds k true) (s := s.put o.dst x es) (by omega) (fun j => by
      have := hop (j + 1)
      simpa [Nat.add_assoc, Nat.add_comm 1 j] using this) (fun j o' r' hj => by
      have := hrs (j + 1) o' r' (by simpa using hj)
      rw [← this]; congr 1; omega) (by simp [hsz]) (fun j hj => by
      by_cases hjk : k = j
      · subst hjk
        simp [show k < listed.size by omega]
      · rw [getD_set_ne true hjk, hl j hj]
        simp
        omega) hrun o2 hK
    refine AnyA.first hk l.length listed s _ hclosed (fun j oj hj hjk hun => ?_) hready ⟨o, x, es, ob, hk, by rw [hrk]; exact hcore, o1, rfl, by rw [hrk]; exact hfp⟩ ih
    have hjs := (Array.getElem?_eq_some_iff.1 hj).1
    rw [hl j hjs] at hun
    have hjk' : ¬ j < k := by simpa using hun
    have h1 := h0b j hjs
    simp only [hj, Bool.or_eq_true, Bool.and_eq_true] at h1
    rcases h1 with h1 | h1 | h1
    · have := Nat.le_of_ble_eq_true h1; omega
    · refine .inl (masks_spec ops.toList [] (fun q o' hq => ?_) (fun j i hb => ?_) j k h1)
      · simpa using hq
      · simp at hb
    · exact .inr h1

end

/-- A region that draws its order. -/
theorem W.draw {P : Program} {c0 : Cx} {Q : Exit → St → Prop} {s : St} {tt : TT} (hT : TTok P tt) (hm : P.follows .mixedOrders = true) {id : Nat} {l : List Oper} (rs : List Hint) (fps : Nat → Fp) (n0 : Nat) {s' : St} {obs : List Prop} (hB : drawB l.toArray (hintAt (zipR l rs)) fps = true)
    (h : runD P tt l.toArray fps n0 0 (zipR l rs) s = some (s', obs)) (ho : AllP obs) (hQ : Q .normal s') : AWP P c0 (.region id l.toArray true) Q s := fun c a h1 h2 h3 h4 => by
  have g : Grow c.w c.fz { c.w with drawn := c.w.drawn + 1 } c.fz := ⟨Nat.le_refl _, ⟨rfl, rfl, rfl⟩, fun _ _ => ⟨rfl, rfl⟩, h1.fr⟩
  have hz : (zipR l rs).map (·.1) = l := zipR_fst l rs
  have hzl : (zipR l rs).length = l.length := by rw [← hz, List.length_map, hz]
  refine wp_region_any hm ?_
  have hany := runD_any (K := fun s'' => s'' = s') hB (zipR l rs) 0 (Array.replicate l.toArray.size false) (by simp [hzl]) (fun j => by
    have : (l.toArray)[0 + j]? = ((zipR l rs).map (·.1))[j]? := by rw [hz]; simp
    rw [this]; simp) (fun j o r hj => by simp [hintAt, hj]) (by simp) (fun j hj => by simp at hj; simp [hj]) h ho rfl
  have := AnyA.sound hT (Q := QQ c0 Q) _ _ _ hany (g.ok h1) h3 (a := a) ⟨h4.size, h4.defers, fun t => by
    have hs := h4.slot t
    have hr := g.reach h1
    cases hfr : s.fr t with
    | v x => rw [hfr] at hs; exact hs.mono hr
    | maybe t' w x => rw [hfr] at hs; exact ⟨fun h => (hs.1 h).mono hr, hs.2⟩⟩ (fun s'' c' a' j1 j2 j3 j4 j5 => ⟨c', s'', rfl, j2, h2.trans ((g.reach h1).trans j3), j4, j5, by rw [j1]; exact hQ⟩)
  rw [hzl] at this
  simpa using this

end Go.W
