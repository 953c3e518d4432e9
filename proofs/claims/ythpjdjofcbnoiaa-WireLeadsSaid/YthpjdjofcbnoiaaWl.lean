/-
  Code: what is shown of a function's text.
-/
import Derived.Test.YthpjdjofcbnoiaaWk
namespace Go.W

/-- The model's state is one of the machine's for which Q holds. -/
def QQ (c0 : Cx) (Q : Exit → St → Prop) (e : Exit) (a : Act) (w : World) : Prop :=
  ∃ c s, c.w = w ∧ CxOK c ∧ Reach c0 c ∧ c.es = s.es ∧ FR c a s ∧ Q e s

def AWP (P : Program) (c0 : Cx) (code : Code) (Q : Exit → St → Prop) (s : St) : Prop :=
  ∀ c a, CxOK c → Reach c0 c → c.es = s.es → FR c a s → code.wp P (QQ c0 Q) a c.w

def thenS (N : St → Prop) (Q : Exit → St → Prop) : Exit → St → Prop
  | .normal, s => N s
  | e, s => Q e s

def blockS (id : Nat) (Q : Exit → St → Prop) : Exit → St → Prop
  | .exit j, s => match Nat.beq j id with
    | true => Q .normal s
    | false => Q (.exit j) s
  | e, s => Q e s

section
variable {P : Program} {c0 : Cx} {Q : Exit → St → Prop} {s : St}

theorem AWP.mono {code : Code} {Q' : Exit → St → Prop} (h : AWP P c0 code Q s) (hq : ∀ e s, Q e s → Q' e s) : AWP P c0 code Q' s :=
  fun c a h1 h2 h3 h4 => wp_mono (h c a h1 h2 h3 h4) fun _ _ _ ⟨c, s, k1, k2, k3, k4, k5, k6⟩ => ⟨c, s, k1, k2, k3, k4, k5, hq _ _ k6⟩

theorem W.seq {x y : Code} (h : AWP P c0 x (thenS (AWP P c0 y Q) Q) s) : AWP P c0 (.seq x y) Q s := fun c a h1 h2 h3 h4 => by
  refine wp_seq (wp_mono (h c a h1 h2 h3 h4) fun e a' w' => ?_)
  rintro ⟨c', s', rfl, k2, k3, k4, k5, k6⟩
  cases e with
  | normal => exact k6 c' a' k2 k3 k4 k5
  | _ => exact ⟨c', s', rfl, k2, k3, k4, k5, k6⟩

theorem W.skip (h : Q .normal s) : AWP P c0 .skip Q s := fun c a h1 h2 h3 h4 => wp_skip ⟨c, s, rfl, h1, h2, h3, h4, h⟩
theorem W.ret (h : Q .ret s) : AWP P c0 .ret Q s := fun c a h1 h2 h3 h4 => wp_ret ⟨c, s, rfl, h1, h2, h3, h4, h⟩
theorem W.exit {id : Nat} (h : Q (.exit id) s) : AWP P c0 (.exit id) Q s := fun c a h1 h2 h3 h4 => wp_exit ⟨c, s, rfl, h1, h2, h3, h4, h⟩

theorem W.cond {x : Operand} {t e : Code} {b : Bool} (hx : s.look [] x = .data (.bool b)) (ht : b = true → AWP P c0 t Q s) (hf : b = false → AWP P c0 e Q s) : AWP P c0 (.cond x t e) Q s := fun c a h1 h2 h3 h4 => by
  have := look_sound h4 (g := []) (fun p hp => by simp at hp) x
  rw [hx] at this
  exact wp_cond_split this.bool (fun hb => ht hb c a h1 h2 h3 h4) (fun hb => hf hb c a h1 h2 h3 h4)

theorem W.block {id : Nat} {x : Code} (h : AWP P c0 x (blockS id Q) s) : AWP P c0 (.block id x) Q s := fun c a h1 h2 h3 h4 => by
  refine wp_block (wp_mono (h c a h1 h2 h3 h4) fun e a' w' => ?_)
  rintro ⟨c', s', rfl, k2, k3, k4, k5, k6⟩
  cases e with
  | exit j =>
    simp only [blockS] at k6
    simp only [Exit.inBlock]
    by_cases hj : j = id
    · subst hj
      have : Nat.beq j j = true := Nat.beq_refl j
      rw [this] at k6
      rw [if_pos rfl]
      exact ⟨c', s', rfl, k2, k3, k4, k5, k6⟩
    · rw [nbeq_ne hj] at k6
      rw [if_neg hj]
      exact ⟨c', s', rfl, k2, k3, k4, k5, k6⟩
  | _ => exact ⟨c', s', rfl, k2, k3, k4, k5, k6⟩

/-- A state of the machine is also one of another. -/
def Le (n0 : Nat) (s s' : St) : Prop := ∀ c a, CxOK c → c.es = s.es → FR c a s →
  ∃ c', c'.w = c.w ∧ CxOK c' ∧ c'.es = s'.es ∧ FR c' a s' ∧ ∀ c0 : Cx, c0.es.length = n0 → CxOK c0 → Reach c0 c → Reach c0 c'

theorem Le.refl (n0 : Nat) (s : St) : Le n0 s s := fun c _ h1 h2 h3 => ⟨c, rfl, h1, h2, h3, fun _ _ _ h => h⟩
theorem Le.trans {n0 : Nat} {s s' s'' : St} (h : Le n0 s s') (h' : Le n0 s' s'') : Le n0 s s'' := fun c a h1 h2 h3 => by
  obtain ⟨c', k1, k2, k3, k4, k5⟩ := h c a h1 h2 h3
  obtain ⟨c'', g1, g2, g3, g4, g5⟩ := h' c' a k2 k3 k4
  exact ⟨c'', g1.trans k1, g2, g3, g4, fun c0 hn hc hr => g5 c0 hn hc (k5 c0 hn hc hr)⟩

theorem W.le {code : Code} {s' : St} (hc0 : CxOK c0) (h : Le c0.es.length s s') (h' : AWP P c0 code Q s') : AWP P c0 code Q s := fun c a h1 h2 h3 h4 => by
  obtain ⟨c', k1, k2, k3, k4, k5⟩ := h c a h1 h3 h4
  have := h' c' a k2 (k5 c0 rfl hc0 h2) k3 k4
  rwa [k1] at this

theorem loop_ix {c : Code} {Q : Exit → Act → World → Prop} {ι : Type} (I : ι → Act → World → Prop) (m : ι → Nat)
    (round : ∀ i a w, I i a w → c.wp P (Exit.then (fun a' w' => ∃ i', m i' < m i ∧ I i' a' w') Q) a w) : ∀ i a w, I i a w → (Code.loop c).wp P Q a w := by
  intro i a w h0 b k cs
  have key : ∀ n i a w, m i = n → I i a w → ∃ e a' w', Q e a' w' ∧ Arrives P (lone (b.at a (.code c :: .inLoop c :: k)) cs w) b k cs e a' w' := by
    intro n
    induction n using Nat.strongRecOn with
    | _ n ih =>
      intro i a w hn hI
      obtain ⟨e, a₁, w₁, hq, harr⟩ := round i a w hI b (.inLoop c :: k) cs
      cases e with
      | normal =>
        obtain ⟨i', hlt, hI₁⟩ := hq
        obtain ⟨e₂, a₂, w₂, hq₂, harr₂⟩ := ih (m i') (hn ▸ hlt) i' a₁ w₁ rfl hI₁
        exact ⟨e₂, a₂, w₂, hq₂, .of_steps (Steps.trans harr (.one step_inLoop)) harr₂⟩
      | exit id => exact ⟨_, a₁, w₁, hq, .pass (x := .inLoop c) rfl (fun _ _ => .inl (by simp)) harr⟩
      | goto l => exact ⟨_, a₁, w₁, hq, .pass (x := .inLoop c) rfl (fun _ _ => .inl (by simp)) harr⟩
      | ret => exact ⟨_, a₁, w₁, hq, .pass (x := .inLoop c) rfl (fun _ _ => .inl (by simp)) harr⟩
      | panic ch => exact ⟨_, a₁, w₁, hq, .pass (x := .inLoop c) rfl (fun _ _ => .inl (by simp)) harr⟩
      | outgrown => exact ⟨_, a₁, w₁, hq, .pass (x := .inLoop c) rfl (fun _ _ => .inl (by simp)) harr⟩
  obtain ⟨e, a', w', hq, harr⟩ := key _ i a w rfl h0
  exact ⟨e, a', w', hq, .of_steps (.one step_loop) harr⟩

/-- A loop: at each round's head the state is one of S i, where p i; the number m i goes down. -/
theorem W.loop {code : Code} (hc0 : CxOK c0) {ι : Type} (S : ι → St) (p : ι → Prop) (m : ι → Nat) (i : ι) (hp : p i) (hs : Le c0.es.length s (S i))
    (round : ∀ i, p i → AWP P c0 code (thenS (fun s' => ∃ i', p i' ∧ m i' < m i ∧ Le c0.es.length s' (S i')) Q) (S i)) : AWP P c0 (.loop code) Q s := fun c a h1 h2 h3 h4 => by
  obtain ⟨c', k1, k2, k3, k4, k5⟩ := hs c a h1 h3 h4
  have := loop_ix (P := P) (c := code) (Q := QQ c0 Q) (fun i a w => p i ∧ ∃ c, c.w = w ∧ CxOK c ∧ Reach c0 c ∧ c.es = (S i).es ∧ FR c a (S i)) m (by
    rintro i a w ⟨hp, c, rfl, g2, g3, g4, g5⟩
    refine wp_mono (round i hp c a g2 g3 g4 g5) fun e a' w' => ?_
    rintro ⟨c'', s'', rfl, j2, j3, j4, j5, j6⟩
    cases e with
    | normal =>
      obtain ⟨i', hp', hlt, hle⟩ := j6
      obtain ⟨c3, q1, q2, q3, q4, q5⟩ := hle c'' a' j2 j4 j5
      exact ⟨i', hlt, hp', c3, q1, q2, q5 c0 rfl hc0 j3, q3, q4⟩
    | _ => exact ⟨c'', s'', rfl, j2, j3, j4, j5, j6⟩) i a c'.w ⟨hp, c', rfl, k2, k5 c0 rfl hc0 h2, k3, k4⟩
  rwa [k1] at this

/-- A region in the order of the text. -/
theorem W.region {tt : TT} (hT : TTok P tt) {id : Nat} {l : List Oper} (rs : List AV) {s' : St} {obs : List Prop} (h : run P tt l.toArray (zipR l rs) s = some (s', obs)) (ho : AllP obs) (hQ : Q .normal s') :
    AWP P c0 (.region id l.toArray false) Q s := fun c a h1 h2 h3 h4 => by
  refine wp_region_lit ?_
  have := run_sound hT (Q := QQ c0 Q) h ho h1 h3 h4 (fun c' a' k1 k2 k3 k4 => ⟨c', s', rfl, k1, h2.trans k2, k3, k4, hQ⟩)
  rwa [zipR_fst] at this

end

/-! ### Cuts -/

def lowA0 (k : Nat) : AV → Bool
  | .ptr x _ => Nat.blt x k
  | .row y _ => Nat.blt y k
  | .func _ _ => false
  | .tuple _ => false
  | _ => true
def allB (p : AV → Bool) : List AV → Bool
  | [] => true
  | a :: r => match p a with
    | true => allB p r
    | false => false
def lowA (k : Nat) : AV → Bool
  | .func _ caps => allB (lowA0 k) caps
  | .tuple vs => allB (lowA0 k) vs
  | a => lowA0 k a
def tokB' (k : Nat) : List (List Nat × Nat) → Bool
  | [] => true
  | (_, y) :: r => match Nat.blt y k with
    | true => tokB' k r
    | false => false
def entB (k : Nat) : Ent → Bool
  | .var _ tok => tokB' k tok
  | .ref a => lowA k a
  | _ => true
def allE (p : Ent → Bool) : List Ent → Bool
  | [] => true
  | a :: r => match p a with
    | true => allE p r
    | false => false

theorem allB_spec {p : AV → Bool} : ∀ {l : List AV}, allB p l = true → ∀ a ∈ l, p a = true
  | a :: r, h, b, hb => by
    simp only [allB] at h
    split at h
    · rename_i ha
      rcases List.mem_cons.1 hb with rfl | hb
      · exact ha
      · exact allB_spec h b hb
    · cases h
theorem allE_spec {p : Ent → Bool} : ∀ {l : List Ent}, allE p l = true → ∀ a ∈ l, p a = true
  | a :: r, h, b, hb => by
    simp only [allE] at h
    split at h
    · rename_i ha
      rcases List.mem_cons.1 hb with rfl | hb
      · exact ha
      · exact allE_spec h b hb
    · cases h
theorem tokB'_spec {k : Nat} : ∀ {l : List (List Nat × Nat)}, tokB' k l = true → ∀ p y, (p, y) ∈ l → y < k
  | (q, z) :: r, h, p, y, hb => by
    simp only [tokB'] at h
    split at h
    · rename_i ha
      rcases List.mem_cons.1 hb with hb | hb
      · simp only [Prod.mk.injEq] at hb; obtain ⟨rfl, rfl⟩ := hb; simpa [Nat.blt_eq] using ha
      · exact tokB'_spec h p y hb
    · cases h

/-- The first k entries alone. -/
def Cx.cut (c : Cx) (k : Nat) : Cx := { c with lam := c.lam.take k, es := c.es.take k }

theorem RowC.cut {c : Cx} {k : Nat} {y : Nat} {xs : List D} {v : Value} (hy : y < k) (h : RowC c y xs v) : RowC (c.cut k) y xs v := by
  intro sz xs' he
  have he' : c.es[y]? = some (.row sz xs') := by simpa [Cx.cut, List.getElem?_take, hy] using he
  obtain ⟨h1, h2⟩ := h sz xs' he'
  refine ⟨h1, fun hl => ⟨(h2 hl).1, ?_⟩⟩
  have hlam : (c.cut k).lam[y]? = c.lam[y]? := by simp [Cx.cut, List.getElem?_take, hy]
  rcases (h2 hl).2 with ⟨h8, h9, h10⟩ | ⟨b, cap, cs, T, h8, h9, h10⟩
  · exact .inl ⟨h8, h9, hlam.trans h10⟩
  · exact .inr ⟨b, cap, cs, T, hlam.trans h8, h9, h10⟩

theorem VR.cut0 {c : Cx} {k : Nat} {a : AV} {v : Value} (hb : lowA0 k a = true) (h : VR c a v) : VR (c.cut k) a v := by
  have hes : ∀ x, x < k → (c.cut k).es[x]? = c.es[x]? := fun x hx => by simp [Cx.cut, List.getElem?_take, hx]
  have hlam : ∀ x, x < k → (c.cut k).lam[x]? = c.lam[x]? := fun x hx => by simp [Cx.cut, List.getElem?_take, hx]
  cases h with
  | undef v => exact .undef v
  | data h => exact .data h
  | nilptr => exact .nilptr
  | ptr h1 h2 h3 =>
    have hx := by simpa [lowA0, Nat.blt_eq] using hb
    exact .ptr ((hes _ hx).trans h1) h2 ((hlam _ hx).trans h3)
  | refp h1 h2 =>
    have hx := by simpa [lowA0, Nat.blt_eq] using hb
    exact .refp ((hes _ hx).trans h1) ((hlam _ hx).trans h2)
  | cptr h1 h2 => exact .cptr h1 h2
  | row h1 h2 h3 =>
    have hx := by simpa [lowA0, Nat.blt_eq] using hb
    exact .row h1 ((hes _ hx).trans h2) (h3.cut hx)
  | nilfunc => exact .nilfunc
  | func => simp [lowA0] at hb
  | tuple => simp [lowA0] at hb

theorem VR.cut {c : Cx} {k : Nat} {a : AV} {v : Value} (hb : lowA k a = true) (h : VR c a v) : VR (c.cut k) a v := by
  cases h with
  | func h1 h2 => exact .func h1 fun i hi => (h2 i hi).cut0 (allB_spec hb _ (List.getElem_mem hi))
  | tuple h1 h2 => exact .tuple h1 fun i hi => (h2 i hi).cut0 (allB_spec hb _ (List.getElem_mem hi))
  | undef v => exact .undef v
  | data h => exact .data h
  | nilptr => exact .nilptr
  | ptr h1 h2 h3 => exact VR.cut0 hb (.ptr h1 h2 h3)
  | refp h1 h2 => exact VR.cut0 hb (.refp h1 h2)
  | cptr h1 h2 => exact .cptr h1 h2
  | row h1 h2 h3 => exact VR.cut0 hb (.row h1 h2 h3)
  | nilfunc => exact .nilfunc

theorem CxOK.cut {c : Cx} (hc : CxOK c) {k : Nat} (hk : allE (entB k) (c.es.take k) = true) : CxOK (c.cut k) := by
  have hlam : ∀ x b, (c.cut k).lam[x]? = some (some b) → c.lam[x]? = some (some b) ∧ x < k := fun x b h => by
    have h1 := (List.getElem?_eq_some_iff.1 h).1
    simp only [Cx.cut, List.length_take] at h1
    have hx : x < k := by omega
    exact ⟨by simpa [Cx.cut, List.getElem?_take, hx] using h, hx⟩
  have hlam' : ∀ x, x < k → (c.cut k).lam[x]? = c.lam[x]? := fun x hx => by simp [Cx.cut, List.getElem?_take, hx]
  refine ⟨hc.fr, by simp [Cx.cut, hc.len], fun x y b h1 h2 => hc.inj x y b (hlam x b h1).1 (hlam y b h2).1, fun x b h => hc.low x b (hlam x b h).1, fun x e he => ?_⟩
  have h1 := (List.getElem?_eq_some_iff.1 he).1
  simp only [Cx.cut, List.length_take] at h1
  have hx : x < k := by omega
  have hm : entB k e = true := allE_spec hk e (List.mem_of_getElem? he)
  have he' : c.es[x]? = some e := by simpa [Cx.cut, List.getElem?_take, hx] using he
  have h0 := hc.ent x e he'
  cases e with
  | var d tok =>
    obtain ⟨b', cs0, T0, e1, e2, e3, e4, e5, e6⟩ := h0
    refine ⟨b', cs0, T0, (hlam' x hx).trans e1, e2, e3, e4, e5, fun p z hz => ?_⟩
    obtain ⟨g1, ⟨ez, g2⟩, xs, g3, g4⟩ := e6 p z hz
    have hzk := tokB'_spec hm p z hz
    exact ⟨g1, ⟨ez, by simpa [Cx.cut, List.getElem?_take, hzk] using g2⟩, xs, g3, g4.cut hzk⟩
  | ref a =>
    obtain ⟨b', v, T0, e1, e2, e3, e4⟩ := h0
    exact ⟨b', v, T0, (hlam' x hx).trans e1, e2, e3.cut hm, e4⟩
  | row sz xs =>
    rcases h0 with ⟨h0, h0'⟩ | ⟨b', cs0, T0, e1, e2, e3, e4⟩
    · exact .inl ⟨h0, (hlam' x hx).trans h0'⟩
    · exact .inr ⟨b', cs0, T0, (hlam' x hx).trans e1, e2, e3, e4⟩
  | dead => trivial

theorem Reach.cut {c0 c : Cx} (hr : Reach c0 c) (hc0 : CxOK c0) {k : Nat} (hk : c0.es.length ≤ k) : Reach c0 (c.cut k) where
  size := hr.size
  rest := hr.rest
  ext := hr.ext
  keep := hr.keep
  frame := hr.frame
  ents := fun x e hx => by
    have hxl := (List.getElem?_eq_some_iff.1 hx).1
    obtain ⟨e', h1, h2⟩ := hr.ents x e hx
    have hxk : x < k := by omega
    have hlam : (c.cut k).lam[x]? = c.lam[x]? := by simp [Cx.cut, List.getElem?_take, hxk]
    refine ⟨e', by simpa [Cx.cut, List.getElem?_take, hxk] using h1, ?_⟩
    cases e with
    | var d t => obtain ⟨d', t', k1, k2, k3⟩ := h2; exact ⟨d', t', k1, k2, hlam.trans k3⟩
    | ref a => obtain ⟨a', k1, k2⟩ := h2; exact ⟨a', k1, hlam.trans k2⟩
    | row sz xs => obtain ⟨xs', k1, k2, k3, k4⟩ := h2; exact ⟨xs', k1, k2, fun h => hlam.trans (k3 h), by rw [hlam]; exact k4⟩
    | dead => exact ⟨h2.1, hlam.trans h2.2⟩
  news := fun x b hx hb => by
    have h1 := (List.getElem?_eq_some_iff.1 hb).1
    simp only [Cx.cut, List.length_take] at h1
    have hxk : x < k := by omega
    exact hr.news x b hx (by simpa [Cx.cut, List.getElem?_take, hxk] using hb)

def frOf : List (Nat × AV) → Nat → Sl
  | [], _ => .v .undef
  | (t, x) :: r, i => bif Nat.beq i t then .v x else frOf r i

/-- The slots of the list are so. -/
def FrL (s : St) (k : Nat) : List (Nat × AV) → Prop
  | [] => True
  | (t, x) :: r => (s.fr t = .v x ∧ lowA k x = true) ∧ FrL s k r

theorem FrL_spec {s : St} {k : Nat} : ∀ {l : List (Nat × AV)}, FrL s k l → ∀ t, (frOf l t = .v .undef) ∨ ∃ x, frOf l t = .v x ∧ s.fr t = .v x ∧ lowA k x = true
  | [], _, _ => .inl rfl
  | (t', x) :: r, h, t => by
    simp only [frOf]
    by_cases ht : t = t'
    · subst ht
      have : Nat.beq t t = true := Nat.beq_refl t
      simp only [this, cond_true]
      exact .inr ⟨x, rfl, h.1.1, h.1.2⟩
    · simp only [nbeq_ne ht, cond_false]
      exact FrL_spec h.2 t

/-- What is kept of a state: the slots of a list, and the first k entries. -/
theorem Le.cut {n0 : Nat} {s : St} (l : List (Nat × AV)) (k : Nat) {es' : List Ent} (hk : n0 ≤ k) (hl : FrL s k l) (hes : s.es.take k = es') (he : allE (entB k) es' = true) : Le n0 s ⟨s.nt, frOf l, es'⟩ := by
  intro c a hc hce hf
  refine ⟨c.cut k, rfl, hc.cut (by rw [hce, hes]; exact he), by simp [Cx.cut, hce, hes], ⟨hf.size, hf.defers, fun t => ?_⟩, fun c0 hn hc0 hr => hr.cut hc0 (by omega)⟩
  rcases FrL_spec hl t with h | ⟨x, h1, h2, h3⟩
  · simp only [h]; exact .undef _
  · simp only [h1]
    have := hf.slot t
    rw [h2] at this
    exact this.cut h3

/-! ### A function -/

def frA : List AV → Nat → Nat → Sl
  | [], _, _ => .v .undef
  | a :: r, k, i => bif Nat.beq i k then .v a else frA r (k + 1) i

theorem frA_spec : ∀ (l : List AV) (k t : Nat), frA l k t = .v (if k ≤ t then l.getD (t - k) .undef else .undef)
  | [], k, t => by simp [frA]
  | a :: r, k, t => by
    simp only [frA]
    by_cases ht : t = k
    · subst ht
      have : Nat.beq t t = true := Nat.beq_refl t
      simp [this]
    · simp only [nbeq_ne ht, cond_false]
      rw [frA_spec r (k + 1) t]
      rcases Nat.lt_or_ge t k with h | h
      · rw [if_neg (by omega), if_neg (by omega)]
      · rw [if_pos (by omega), if_pos (by omega), show t - k = (t - (k + 1)) + 1 by omega]
        simp

def resAV (tt : TT) (s : St) : ResultVar → Option AV
  | .tmp t => some (s.look [] (.tmp t))
  | .cell p T => xLoad tt s.es T (s.look [] (.tmp p))

def resL (tt : TT) (s : St) : List ResultVar → Option (List AV)
  | [] => some []
  | r :: rs => match resAV tt s r with
    | some v => match resL tt s rs with
      | some vs => some (v :: vs)
      | none => none
    | none => none

def resT : List AV → AV
  | [v] => v
  | vs => .tuple vs

/-- How a function's text ends: the results, the entries. -/
structure Fin (tt : TT) (n0 : Nat) (rs : List ResultVar) (R : AV → List Ent → Prop) (e : Exit) (s : St) : Prop where
  out : (match e with | .normal => True | .ret => True | _ => False) ∧
   ∃ k vs es', n0 ≤ k ∧ resL tt s rs = some vs ∧ lowA k (resT vs) = true ∧ s.es.take k = es' ∧ allE (entB k) es' = true ∧ R (resT vs) es'

theorem results_sound {P : Program} {tt : TT} (hT : TTok P tt) {c : Cx} (hc : CxOK c) {s : St} (hes : c.es = s.es) {a : Act} (hf : FR c a s) : ∀ {rs : List ResultVar} {vs : List AV}, resL tt s rs = some vs →
    ∃ l : List Value, (rs.mapM fun
      | .tmp t => pure (a.tmps.getD t undef)
      | .cell p t => do loadVar t (← asAddr (a.tmps.getD p undef)) : Sem (List Value)).run P c.w = .ok l c.w ∧ l.length = vs.length ∧ ∀ i (h : i < vs.length), VR c vs[i] (l.getD i undef)
  | [], vs, h => by
    simp only [resL, Option.some.injEq] at h
    subst h
    exact ⟨[], by simp, rfl, fun i h => by simp at h⟩
  | r :: rs, vs, h => by
    simp only [resL] at h
    split at h
    case h_2 => cases h
    rename_i v hv
    split at h
    case h_2 => cases h
    rename_i vs' hvs
    simp only [Option.some.injEq] at h
    subst h
    obtain ⟨l, h1, h2, h3⟩ := results_sound hT hc hes hf hvs
    have hone : ∃ x, (match r with
      | .tmp t => pure (a.tmps.getD t undef)
      | .cell p t => do loadVar t (← asAddr (a.tmps.getD p undef)) : Sem Value).run P c.w = .ok x c.w ∧ VR c v x := by
      cases r with
      | tmp t =>
        simp only [resAV, Option.some.injEq] at hv
        subst hv
        exact ⟨_, rfl, look_sound hf (fun p hp => by simp at hp) (.tmp t)⟩
      | cell p T =>
        simp only [resAV] at hv
        rw [← hes] at hv
        obtain ⟨x, k1, k2⟩ := xLoad_sound hT hc hv (look_sound hf (g := []) (fun p hp => by simp at hp) (.tmp p))
        refine ⟨x, ?_, k2⟩
        simp only [Act.eval, Instr.loadAt] at k1
        generalize hpv : a.tmps.getD p undef = pv at k1
        cases pv with
        | pointer q =>
          cases q with
          | some q => simp only [hpv]; simpa [Instr.sureAddr, asAddr] using k1
          | none => simp [Instr.sureAddr] at k1
        | _ => simp [Instr.sureAddr] at k1
    obtain ⟨x, k1, k2⟩ := hone
    refine ⟨x :: l, ?_, by simp [h2], fun i hi => ?_⟩
    · rw [List.mapM_cons]
      simp only [Sem.run_bind] at k1 ⊢
      rw [k1]
      simp only [Result.andThen_ok, h1]
      rfl
    · cases i with
      | zero => exact k2
      | succ i => exact h3 i (by simpa using hi)

/-- All numbers within are of their kinds. -/
inductive InR : D → Prop
  | bool (b : Bool) : InR (.bool b)
  | int {k : IntKind} {n : Int} : k.wrap n = n → InR (.int k n)
  | str {s : ByteArray} : s.size ≤ maxLen → InR (.str s)
  | nil : InR .nil
  | list {xs : List D} : xs.length ≤ maxLen → (∀ i (h : i < xs.length), InR xs[i]) → InR (.list xs)
  | agg {n : Nat} {f : Nat → D} : (∀ i, i < n → InR (f i)) → InR (.agg n f)
  | arr {n es : Nat} {f : Nat → D} : (∀ i, i < n → InR (f i)) → InR (.arr n es f)

theorem DR.inr {w : World} {fz : Nat → Nat} {d : D} {c : Nat → Value} (h : DR w fz d c) : InR d := by
  induction h with
  | bool _ => exact .bool _
  | int _ h => exact .int h
  | str _ h => exact .str h
  | nil _ => exact .nil
  | list0 _ _ => exact .list (Nat.zero_le _) (fun i h => by simp at h)
  | list _ h1 h2 _ _ _ ih => exact .list (Nat.le_trans h1 h2) ih
  | agg _ ih => exact .agg ih
  | arr _ _ ih => exact .arr ih

def InA : AV → Prop
  | .data d => InR d
  | .cptr d => InR d
  | .row _ xs => InR (.list xs)
  | _ => True

def InE : Ent → Prop
  | .var d _ => InR d
  | _ => True

theorem VR.inA {c : Cx} {a : AV} {v : Value} (h : VR c a v) : InA a := by
  cases h with
  | data h => exact h.cells.2.inr
  | cptr h _ => exact h.inr
  | row h _ _ => exact h.cells.2.inr
  | _ => trivial

theorem spec_of {P : Program} {tt : TT} (hT : TTok P tt) {f : FuncId} {fn : Func} {code : Code} {args : List AV} {es : List Ent} {R : AV → List Ent → Prop} (hf : P.funcs[f]? = some fn) (hb : fn.body = some code)
    (hn : (fn.name == "runtime.NumGoroutine") = false) (hnt : args.length ≤ fn.ntmps)
    (h : (∀ a ∈ args, InA a) → (∀ e ∈ es, InE e) → ∀ c0 : Cx, CxOK c0 → c0.es = es → AWP P c0 code (Fin tt c0.es.length fn.results.toList R) ⟨fn.ntmps, frA args 0, es⟩) : Spec P f args es R := by
  refine ⟨⟨fn, hf, by rw [hb]; rfl, hn⟩, fun c0 hc0 hes vals hsz hv => ?_⟩
  have hin : ∀ a ∈ args, InA a := fun a ha => by
    obtain ⟨i, hi, rfl⟩ := List.getElem_of_mem ha
    exact (hv i hi).inA
  have hie : ∀ e ∈ es, InE e := fun e he => by
    obtain ⟨i, hi, rfl⟩ := List.getElem_of_mem he
    have := hc0.ent i es[i] (by rw [hes]; simp [hi])
    cases hes2 : es[i] with
    | var d tok => rw [hes2] at this; obtain ⟨_, _, _, _, _, _, e4, _⟩ := this; exact e4.inr
    | _ => trivial
  refine calls_of_wp hf hb (Code.wp_mono (fun e a w => ?_) (h hin hie c0 hc0 hes c0 _ hc0 (.refl hc0) hes ⟨?_, rfl, fun t => ?_⟩))
  · rintro ⟨c, s, rfl, k1, k2, k3, k4, k5⟩
    obtain ⟨⟨k5, k, vs, es', g1, g2, g3, g4, g5, g6⟩⟩ := k5
    obtain ⟨l, l1, l2, l3⟩ := results_sound hT k1 k3 k4 g2
    have hr : (results fn a.tmps).run P c.w = .ok (if l.length = 1 then l.getD 0 undef else .tuple l.toArray) c.w := by
      unfold results
      rw [Sem.run_bind, Array.mapM_eq_mapM_toList]
      simp only [Sem.run_map]
      refine (congrArg (fun r => Result.andThen (Result.andThen r _) _) l1).trans ?_
      simp only [Result.andThen_ok]
      by_cases hl : l.length = 1
      · obtain ⟨x, rfl⟩ := List.length_eq_one_iff.1 hl
        simp
      · simp [hl]
    have hvr : VR c (resT vs) (if l.length = 1 then l.getD 0 undef else .tuple l.toArray) := by
      match vs, l2, l3 with
      | [], l2, l3 => simp only [resT]; rw [if_neg (by simp at l2; simp [l2])]; exact .tuple (by simp [l2]) (fun i h => by simp at h)
      | [v], l2, l3 => simp only [resT]; rw [if_pos (by simpa using l2)]; exact l3 0 (by simp)
      | v :: v' :: r, l2, l3 =>
        simp only [resT]
        rw [if_neg (by simp at l2; omega)]
        exact .tuple (by simp [l2]) (fun i h => by simpa using l3 i h)
    have hfin : ∃ rv v c', Ending.returned (if l.length = 1 then l.getD 0 undef else .tuple l.toArray) = .returned rv ∧ c'.w = c.w ∧ CxOK c' ∧ Reach c0 c' ∧ VR c' v rv ∧ R v c'.es := by
      refine ⟨_, resT vs, c.cut k, rfl, rfl, k1.cut ?_, k2.cut hc0 g1, hvr.cut g3, ?_⟩
      · rw [k3, g4]; exact g5
      · simp only [Cx.cut]; rw [k3, g4]; exact g6
    cases e with
    | normal => exact ⟨k4.defers, _, hr, hfin⟩
    | ret => exact ⟨k4.defers, _, hr, hfin⟩
    | _ => exact k5.elim
  · simp; omega
  · simp only [frA_spec, Nat.zero_le, if_true, Nat.sub_zero]
    rcases Nat.lt_or_ge t args.length with ht | ht
    · have := hv t ht
      have h1 : (vals ++ Array.replicate (fn.ntmps - vals.size) undef).getD t undef = vals.getD t undef := by
        simp only [Array.getD_eq_getD_getElem?]
        rw [Array.getElem?_append_left (by omega)]
      simp only [h1, List.getD_eq_getElem?_getD, List.getElem?_eq_getElem ht, Option.getD_some]
      exact this
    · simp only [List.getD_eq_getElem?_getD, List.getElem?_eq_none ht, Option.getD_none]
      exact .undef _

end Go.W
