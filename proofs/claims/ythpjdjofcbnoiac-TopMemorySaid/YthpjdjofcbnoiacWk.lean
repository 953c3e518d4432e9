/-
  Regions: in the order of the text, and in whatever order.
-/
import Derived.Test.YthpjdjofcbnoiacWj
import Derived.Still
namespace Go.W

def dstOf (ops : Array Oper) (j : Nat) : Option Nat := (ops[j]?).bind (·.dst)

def guards (s : St) : Nat → Nat → Bool → GL
  | 0, t, w => [(t, w)]
  | n + 1, t, w => (t, w) :: match s.fr t with
    | .maybe t1 w1 _ => guards s n t1 w1
    | _ => []

def gval (s : St) (t : Nat) : Option Bool :=
  match s.fr t with
  | .v (.data (.bool b)) => some b
  | .maybe _ _ (.data (.bool b)) => some b
  | _ => none

def wrapObs (b w : Bool) : List Prop → List Prop
  | [] => []
  | p :: ps => (b = w → p) :: wrapObs b w ps

theorem wrapObs_spec {b w : Bool} (h : b = w) : ∀ {l : List Prop}, AllP (wrapObs b w l) → AllP l
  | [], _ => trivial
  | _ :: _, hl => ⟨hl.1 h, wrapObs_spec h hl.2⟩

def putOK (nt : Nat) : Option Nat → Bool
  | none => true
  | some d => Nat.blt d nt

def sameDst (t : Nat) : Option Nat → Bool
  | none => false
  | some d => Nat.beq t d

/-- What is handed on is looked at first (so that it is reckoned once). -/
def withV {α : Type} (v : AV) (k : AV → α) : α :=
  match v with
  | .data d => match d with
    | .int kk n => k (.data (.int kk n))
    | .bool b => k (.data (.bool b))
    | .str s => k (.data (.str s))
    | .nil => k (.data .nil)
    | .list xs => k (.data (.list xs))
    | .agg n f => k (.data (.agg n f))
    | .arr n es f => k (.data (.arr n es f))
  | .ptr x p => k (.ptr x p)
  | .cptr d => k (.cptr d)
  | .nilptr => k .nilptr
  | .row y xs => k (.row y xs)
  | .sl x lo n m => k (.sl x lo n m)
  | .rich d t => k (.rich d t)
  | .func f caps => k (.func f caps)
  | .nilfunc => k .nilfunc
  | .mp x => k (.mp x)
  | .tuple vs => k (.tuple vs)
  | .undef => k .undef

theorem withV_eq {α : Type} (v : AV) (k : AV → α) : withV v k = k v := by
  unfold withV; split
  · split <;> rfl
  all_goals rfl

def withE {α : Type} : List Ent → (List Ent → α) → α
  | [], k => k []
  | e :: r, k => withE r fun r' => k (e :: r')

theorem withE_eq {α : Type} : ∀ (es : List Ent) (k : List Ent → α), withE es k = k es
  | [], _ => rfl
  | e :: r, k => by rw [withE, withE_eq r]

def putF (s : St) (dst : Option Nat) (x : Sl) (es : List Ent) (obs : List Prop) : Option (St × List Prop) :=
  match dst with
  | some d => withE es fun es => some (s.put (some d) x es, obs)
  | none => withE es fun es => some (s.put none x es, obs)

theorem putF_eq (s : St) (dst : Option Nat) (x : Sl) (es : List Ent) (obs : List Prop) : putF s dst x es obs = some (s.put dst x es, obs) := by cases dst <;> simp [putF, withE_eq]

/-- Enough for it that slot t does not hold w. -/
def off (s : St) : Nat → Nat → Bool → Option Prop
  | 0, _, _ => none
  | n + 1, t, w => match s.fr t with
    | .v (.data (.bool b)) => some (b = !w)
    | .maybe t1 w1 (.data (.bool b)) => match off s n t1 w1 with
      | some q => some (b = (!w) ∨ q)
      | none => some (b = !w)
    | .maybe t1 w1 _ => off s n t1 w1
    | _ => none

/-- Enough for it that slot t holds w. -/
def onP (s : St) : Nat → Nat → Bool → Option Prop
  | 0, _, _ => none
  | n + 1, t, w => match s.fr t with
    | .v (.data (.bool b)) => some (b = w)
    | .maybe t1 w1 (.data (.bool b)) => match onP s n t1 w1 with
      | some q => some (b = w ∧ q)
      | none => none
    | _ => none

def opStep (P : Program) (tt : TT) (ops : Array Oper) (s : St) : Oper → Hint → Option (St × List Prop)
  | ⟨dst, op, _, _, _, guard⟩, r => match putOK s.nt dst with
    | false => none
    | true => match guard with
      | none => match exec P tt [] s r op with
        | some (v, es, obs) => withV v fun v => putF s dst (.v v) es obs
        | none => none
      | some (j, w) => match dstOf ops j with
        | none => none
        | some t => match gval s t with
          | none => none
          | some b => match sameDst t dst with
            | true => none
            | false => match r.g with
              | none => match exec P tt (guards s 3 t w) s r op with
                | some (v, _, obs) => withV v fun v => putF s dst (.maybe t w v) s.es (wrapObs b w obs)
                | none => none
              | some true => match onP s 5 t w with
                | none => none
                | some q => match op with
                  | .call c => match execCall P [(t, w)] s r c with
                    | some (v, es, obs) => withV v fun v => putF s dst (.v v) es (q :: obs)
                    | none => none
                  | _ => none
              | some false => match off s 5 t w with
                | some q => putF s dst (.maybe t w r.r) s.es [q]
                | none => none

theorem exec0_guard {P : Program} {tt : TT} {p : Nat × Bool} {g : GL} {s : St} {r : Hint} {o : Op} {v : AV} {es : List Ent} {obs : List Prop} (h : exec0 P tt (p :: g) s r o = some (v, es, obs)) : es = s.es := by
  unfold exec0 at h
  repeat' split at h
  all_goals first
    | exact absurd (by assumption : p :: g = []) (by simp)
    | (simp only [Option.some.injEq, Prod.mk.injEq] at h; exact h.2.1.symm)
    | cases h

theorem exec_guard {P : Program} {tt : TT} {p : Nat × Bool} {g : GL} {s : St} {r : Hint} {o : Op} {v : AV} {es : List Ent} {obs : List Prop} (h : exec P tt (p :: g) s r o = some (v, es, obs)) : es = s.es := by
  obtain ⟨_, _, h0, _⟩ := retell_inv h
  exact exec0_guard h0

theorem guards_ok {c : Cx} {a : Act} {s : St} (hf : FR c a s) : ∀ (n t : Nat) (w : Bool), a.tmps.getD t undef = .bool w → GOK a (guards s n t w)
  | 0, t, w, h => by
    intro p hp
    simp only [guards, List.mem_cons, List.not_mem_nil, or_false] at hp
    subst hp; exact h
  | n + 1, t, w, h => by
    intro p hp
    simp only [guards, List.mem_cons] at hp
    rcases hp with hp | hp
    · subst hp; exact h
    · have hs := hf.slot t
      cases hfr : s.fr t with
      | v x => rw [hfr] at hp; simp at hp
      | maybe t1 w1 x =>
        rw [hfr] at hp hs
        simp only at hp hs
        refine guards_ok hf n t1 w1 ?_ p hp
        apply Classical.byContradiction
        intro hne
        have := hs.2 hne
        rw [h] at this
        simp [undef] at this

theorem putOK_spec {nt : Nat} {d : Option Nat} (h : putOK nt d = true) : ∀ d', d = some d' → d' < nt := by
  intro d' hd
  subst hd
  simpa [putOK, Nat.blt_eq] using h

theorem yielded_some {ops : Array Oper} {tmps : Array Value} {j t : Nat} (h : dstOf ops j = some t) (w : Bool) : (yielded ops tmps j == some w) = true ↔ tmps.getD t undef = .bool w := by
  have h' : (ops[j]?).bind (·.dst) = some t := h
  unfold yielded
  rw [h']
  simp only [Option.bind_some, Array.getD_eq_getD_getElem?]
  cases ht : tmps[t]? with
  | none => simp [undef]
  | some v => cases v <;> simp

theorem off_sound {c : Cx} {a : Act} {s : St} (hf : FR c a s) : ∀ {n t : Nat} {w : Bool} {q : Prop}, off s n t w = some q → q → a.tmps.getD t undef ≠ .bool w
  | 0, t, w, q, h, _ => by simp [off] at h
  | n + 1, t, w, q, h, hq => by
    have hs := hf.slot t
    simp only [off] at h
    split at h
    · rename_i b hfr
      rw [hfr] at hs
      simp only [Option.some.injEq] at h
      subst h
      rw [hs.bool]
      intro he
      simp only [Value.bool.injEq] at he
      subst he
      cases b <;> cases hq
    · rename_i t1 w1 b hfr
      rw [hfr] at hs
      have hw : b = (!w) → a.tmps.getD t undef ≠ .bool w := fun hb => by
        by_cases h1 : a.tmps.getD t1 undef = .bool w1
        · rw [(hs.1 h1).bool]
          intro he
          simp only [Value.bool.injEq] at he
          subst he
          cases b <;> cases hb
        · rw [hs.2 h1]
          intro he; cases he
      split at h
      · rename_i q' ho
        simp only [Option.some.injEq] at h
        subst h
        rcases hq with hq | hq
        · exact hw hq
        · rw [hs.2 (off_sound hf ho hq)]
          intro he; cases he
      · simp only [Option.some.injEq] at h
        subst h
        exact hw hq
    · rename_i t1 w1 x hfr
      rename_i hfr
      rw [hfr] at hs
      have := off_sound hf h hq
      rw [hs.2 this]
      intro he; cases he
    · cases h
theorem onP_sound {c : Cx} {a : Act} {s : St} (hf : FR c a s) : ∀ {n t : Nat} {w : Bool} {q : Prop}, onP s n t w = some q → q → a.tmps.getD t undef = .bool w
  | 0, t, w, q, h, _ => by simp [onP] at h
  | n + 1, t, w, q, h, hq => by
    have hs := hf.slot t
    simp only [onP] at h
    split at h
    · rename_i b hfr
      rw [hfr] at hs
      simp only [Option.some.injEq] at h
      subst h
      rw [hs.bool, hq]
    · rename_i t1 w1 b hfr
      rw [hfr] at hs
      split at h
      · rename_i q' ho
        simp only [Option.some.injEq] at h
        subst h
        rw [(hs.1 (onP_sound hf ho hq.2)).bool, hq.1]
      · cases h
    · cases h

theorem op_sound {P : Program} {tt : TT} (hT : TTok P tt) {ops : Array Oper} {s s1 : St} {o : Oper} {r : Hint} {obs : List Prop} (h : opStep P tt ops s o r = some (s1, obs)) (ho : AllP obs) {c : Cx} (hc : CxOK c) (hes : c.es = s.es)
    {a : Act} (hf : FR c a s) {K : Act → World → Prop} {Q : Exit → Act → World → Prop} (hK : ∀ c' a', CxOK c' → Reach c c' → c'.es = s1.es → FR c' a' s1 → K a' c'.w) :
    if Region.wanted o (yielded ops a.tmps) then o.wp P a c.w K Q else K (a.put o.dst undef) c.w := by
  obtain ⟨dst, op, ty, pos, after, guard⟩ := o
  unfold opStep at h
  simp only [withV_eq, putF_eq] at h
  split at h
  · cases h
  rename_i hput
  have hput := putOK_spec hput
  split at h
  · split at h
    case h_2 => cases h
    rename_i v es ob hex
    simp only [Option.some.injEq, Prod.mk.injEq] at h
    obtain ⟨rfl, rfl⟩ := h
    have := exec_sound (o := ⟨dst, op, ty, pos, after, none⟩) hT hex ho hc hes hf (g := []) (fun p hp => by simp at hp)
    rw [if_pos (by simp [Region.wanted])]
    refine this K Q fun val c' h1 h2 h3 h4 => hK c' _ h1 h2 ?_ (put_sound hf h2 hput (fun d' _ => h4) es)
    rw [h3]; cases dst <;> rfl
  · rename_i j w
    split at h
    · cases h
    rename_i t ht
    split at h
    · cases h
    rename_i b hb
    split at h
    · cases h
    rename_i hne
    have hne' : ∀ d', dst = some d' → t ≠ d' := fun d' hd he => by
      subst he; rw [hd] at hne; simp [sameDst] at hne
    have hwd : Region.wanted ⟨dst, op, ty, pos, after, some (j, w)⟩ (yielded ops a.tmps) = (yielded ops a.tmps j == some w) := by simp [Region.wanted]
    rw [hwd]
    split at h
    case h_2 =>
      -- it is made
      split at h
      · cases h
      rename_i q hon
      split at h
      case h_2 => cases h
      rename_i cl
      split at h
      case h_2 => cases h
      rename_i v es ob hex
      simp only [Option.some.injEq, Prod.mk.injEq] at h
      obtain ⟨rfl, rfl⟩ := h
      obtain ⟨hbw, ho⟩ := ho
      have hw : a.tmps.getD t undef = .bool w := onP_sound hf hon hbw
      rw [if_pos ((yielded_some ht w).2 hw)]
      have := execCall_sound (o := ⟨dst, .call cl, ty, pos, after, some (j, w)⟩) rfl hex ho hc hes hf (g := [(t, w)]) (fun p hp => by
        simp only [List.mem_cons, List.not_mem_nil, or_false] at hp
        subst hp; exact hw)
      refine this K Q fun val c' h1 h2 h3 h4 => hK c' _ h1 h2 ?_ (put_sound hf h2 hput (fun d' _ => h4) es)
      rw [h3]; cases dst <;> rfl
    case h_3 =>
      -- it is not made
      split at h
      case h_2 => cases h
      rename_i q hq
      simp only [Option.some.injEq, Prod.mk.injEq] at h
      obtain ⟨rfl, rfl⟩ := h
      have hw := off_sound hf hq ho.1
      rw [if_neg (fun h => hw ((yielded_some ht w).1 h))]
      have hes' : (s.put dst (.maybe t w r.r) s.es).es = s.es := by cases dst <;> rfl
      exact hK c _ hc (.refl hc) (by rw [hes', hes]) (put_sound (x := .maybe t w r.r) hf (.refl hc) hput (fun d' hd => ⟨hne' d' hd, fun h => absurd h hw, fun _ => rfl⟩) s.es)
    split at h
    case h_2 => cases h
    rename_i v es ob hex
    simp only [Option.some.injEq, Prod.mk.injEq] at h
    obtain ⟨rfl, rfl⟩ := h
    have hes' : (s.put dst (.maybe t w v) s.es).es = s.es := by cases dst <;> rfl
    by_cases hw : a.tmps.getD t undef = .bool w
    · rw [if_pos ((yielded_some ht w).2 hw)]
      have hbw : b = w := by
        have hs := hf.slot t
        unfold gval at hb
        split at hb
        · rename_i b' hfr
          rw [hfr] at hs
          simp only [Option.some.injEq] at hb
          subst hb
          have := hs.bool
          rw [hw] at this
          simpa using this.symm
        · rename_i t1 w1 b' hfr
          rw [hfr] at hs
          simp only [Option.some.injEq] at hb
          subst hb
          simp only at hs
          have h1 : a.tmps.getD t1 undef = .bool w1 := by
            apply Classical.byContradiction
            intro hn
            have := hs.2 hn
            rw [hw] at this
            simp [undef] at this
          have := (hs.1 h1).bool
          rw [hw] at this
          simpa using this.symm
        · cases hb
      have := exec_sound (o := ⟨dst, op, ty, pos, after, some (j, w)⟩) hT hex (wrapObs_spec hbw ho) hc hes hf (guards_ok hf 3 t w hw)
      have hes2 : es = s.es := exec_guard (g := match s.fr t with | .maybe t1 w1 _ => guards s 2 t1 w1 | _ => []) (p := (t, w)) hex
      refine this K Q fun val c' h1 h2 h3 h4 => hK c' _ h1 h2 (by rw [h3, hes', hes2]) (put_sound (x := .maybe t w v) hf h2 hput (fun d' hd => ⟨hne' d' hd, fun _ => h4, fun hn => absurd hw hn⟩) s.es)
    · rw [if_neg (fun h => hw ((yielded_some ht w).1 h))]
      exact hK c _ hc (.refl hc) (by rw [hes', hes]) (put_sound (x := .maybe t w v) hf (.refl hc) hput (fun d' hd => ⟨hne' d' hd, fun h => absurd h hw, fun _ => rfl⟩) s.es)

/-! ### In the order of the text -/

def needsR : Op → Bool
  | .call c => match c.callee with
    | .value _ => true
    | _ => false
  | _ => false

def toldAt (d : Option Nat) (r : Hint) : Bool :=
  match d with
  | none => false
  | some d => match r.told with
    | none => false
    | some (t, _) => Nat.beq d t

def zipR : List Oper → List Hint → List (Oper × Hint)
  | [], _ => []
  | o :: os, rs => match needsR o.op with
    | true => match rs with
      | r :: rs' => (o, r) :: zipR os rs'
      | [] => (o, .undef) :: zipR os []
    | false => match rs with
      | r :: rs' => match toldAt o.dst r with
        | true => (o, r) :: zipR os rs'
        | false => (o, .undef) :: zipR os (r :: rs')
      | [] => (o, .undef) :: zipR os []

def run (P : Program) (tt : TT) (ops : Array Oper) : List (Oper × Hint) → St → Option (St × List Prop)
  | [], s => some (s, [])
  | (o, r) :: l, s => match opStep P tt ops s o r with
    | some (s1, obs) => match run P tt ops l s1 with
      | some (s2, obs') => some (s2, obs ++ obs')
      | none => none
    | none => none

theorem AllP_append : ∀ {l l' : List Prop}, AllP (l ++ l') → AllP l ∧ AllP l'
  | [], _, h => ⟨trivial, h⟩
  | _ :: _, _, h => ⟨⟨h.1, (AllP_append h.2).1⟩, (AllP_append h.2).2⟩

theorem run_sound {P : Program} {tt : TT} (hT : TTok P tt) {ops : Array Oper} {Q : Exit → Act → World → Prop} : ∀ {l : List (Oper × Hint)} {s s' : St} {obs : List Prop}, run P tt ops l s = some (s', obs) → AllP obs →
    ∀ {c : Cx}, CxOK c → c.es = s.es → ∀ {a : Act}, FR c a s → (∀ c' a', CxOK c' → Reach c c' → c'.es = s'.es → FR c' a' s' → Q .normal a' c'.w) → wpList P ops Q (l.map (·.1)) a c.w
  | [], s, s', obs, h, ho, c, hc, hes, a, hf, hQ => by
    simp only [run, Option.some.injEq, Prod.mk.injEq] at h
    obtain ⟨rfl, rfl⟩ := h
    exact hQ c a hc (.refl hc) hes hf
  | (o, r) :: l, s, s', obs, h, ho, c, hc, hes, a, hf, hQ => by
    simp only [run] at h
    split at h
    case h_2 => cases h
    rename_i s1 ob1 h1
    split at h
    case h_2 => cases h
    rename_i s2 ob2 h2
    simp only [Option.some.injEq, Prod.mk.injEq] at h
    obtain ⟨rfl, rfl⟩ := h
    obtain ⟨o1, o2⟩ := AllP_append ho
    refine wpList_step fun K hK => op_sound hT h1 o1 hc hes hf fun c' a' k1 k2 k3 k4 => hK _ _ ?_
    exact run_sound hT h2 o2 k1 k3 k4 fun c'' a'' g1 g2 g3 g4 => hQ c'' a'' g1 (k2.trans g2) g3 g4

theorem zipR_fst : ∀ (l : List Oper) (rs : List Hint), (zipR l rs).map (·.1) = l
  | [], _ => rfl
  | o :: os, rs => by
    simp only [zipR]
    split
    · cases rs with
      | nil => simp [zipR_fst os]
      | cons r rs => simp [zipR_fst os]
    · cases rs with
      | nil => simp [zipR_fst os]
      | cons r rs =>
        simp only []
        split <;> simp [zipR_fst os]

end Go.W
