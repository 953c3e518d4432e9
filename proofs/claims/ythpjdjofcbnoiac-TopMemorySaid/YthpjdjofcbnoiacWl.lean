/-
  Code: what is shown of a function's text.
-/
import Derived.Test.YthpjdjofcbnoiacWk
namespace Go.W

/-- The model's state is one of the machine's for which Q holds. -/
def QQ (c0 : Cx) (Q : Exit → St → Prop) (e : Exit) (a : Act) (w : World) : Prop :=
  ∃ c s, c.w = w ∧ CxOK c ∧ Reach c0 c ∧ c.es = s.es ∧ FR c a s ∧ Q e s

def AWP (P : Program) (c0 : Cx) (code : Code) (Q : Exit → St → Prop) (s : St) : Prop :=
  ∀ c a, CxOK c → Reach c0 c → c.es = s.es → FR c a s → code.wp P (QQ c0 Q) a c.w

def thenS (N : St → Prop) (Q : Exit → St → Prop) : Exit → St → Prop
  | .normal, s => N s
  | e, s => Q e s

def blockS (id : Nat) (Q : Exit → St → Prop) : Exit → St → Prop
  | .exit j, s => match Nat.beq j id with
    | true => Q .normal s
    | false => Q (.exit j) s
  | e, s => Q e s

section
variable {P : Program} {c0 : Cx} {Q : Exit → St → Prop} {s : St}

theorem AWP.mono {code : Code} {Q' : Exit → St → Prop} (h : AWP P c0 code Q s) (hq : ∀ e s, Q e s → Q' e s) : AWP P c0 code Q' s :=
  fun c a h1 h2 h3 h4 => wp_mono (h c a h1 h2 h3 h4) fun _ _ _ ⟨c, s, k1, k2, k3, k4, k5, k6⟩ => ⟨c, s, k1, k2, k3, k4, k5, hq _ _ k6⟩

theorem W.seq {x y : Code} (h : AWP P c0 x (thenS (AWP P c0 y Q) Q) s) : AWP P c0 (.seq x y) Q s := fun c a h1 h2 h3 h4 => by
  refine wp_seq (wp_mono (h c a h1 h2 h3 h4) fun e a' w' => ?_)
  rintro ⟨c', s', rfl, k2, k3, k4, k5, k6⟩
  cases e with
  | normal => exact k6 c' a' k2 k3 k4 k5
  | _ => exact ⟨c', s', rfl, k2, k3, k4, k5, k6⟩

theorem W.skip (h : Q .normal s) : AWP P c0 .skip Q s := fun c a h1 h2 h3 h4 => wp_skip ⟨c, s, rfl, h1, h2, h3, h4, h⟩
theorem W.ret (h : Q .ret s) : AWP P c0 .ret Q s := fun c a h1 h2 h3 h4 => wp_ret ⟨c, s, rfl, h1, h2, h3, h4, h⟩
theorem W.exit {id : Nat} (h : Q (.exit id) s) : AWP P c0 (.exit id) Q s := fun c a h1 h2 h3 h4 => wp_exit ⟨c, s, rfl, h1, h2, h3, h4, h⟩

theorem W.cond {x : Operand} {t e : Code} {b : Bool} (hx : s.look [] x = .data (.bool b)) (ht : b = true → AWP P c0 t Q s) (hf : b = false → AWP P c0 e Q s) : AWP P c0 (.cond x t e) Q s := fun c a h1 h2 h3 h4 => by
  have := look_sound h4 (g := []) (fun p hp => by simp at hp) x
  rw [hx] at this
  exact wp_cond_split this.bool (fun hb => ht hb c a h1 h2 h3 h4) (fun hb => hf hb c a h1 h2 h3 h4)

theorem W.block {id : Nat} {x : Code} (h : AWP P c0 x (blockS id Q) s) : AWP P c0 (.block id x) Q s := fun c a h1 h2 h3 h4 => by
  refine wp_block (wp_mono (h c a h1 h2 h3 h4) fun e a' w' => ?_)
  rintro ⟨c', s', rfl, k2, k3, k4, k5, k6⟩
  cases e with
  | exit j =>
    simp only [blockS] at k6
    simp only [Exit.inBlock]
    by_cases hj : j = id
    · subst hj
      have : Nat.beq j j = true := Nat.beq_refl j
      rw [this] at k6
      rw [if_pos rfl]
      exact ⟨c', s', rfl, k2, k3, k4, k5, k6⟩
    · rw [nbeq_ne hj] at k6
      rw [if_neg hj]
      exact ⟨c', s', rfl, k2, k3, k4, k5, k6⟩
  | _ => exact ⟨c', s', rfl, k2, k3, k4, k5, k6⟩

/-- A state of the machine is also one of another. -/
def Le (n0 : Nat) (s s' : St) : Prop := ∀ c a, CxOK c → c.es = s.es → FR c a s →
  ∃ c', c'.w = c.w ∧ CxOK c' ∧ c'.es = s'.es ∧ FR c' a s' ∧ ∀ c0 : Cx, c0.es.length = n0 → CxOK c0 → Reach c0 c → Reach c0 c'

theorem Le.refl (n0 : Nat) (s : St) : Le n0 s s := fun c _ h1 h2 h3 => ⟨c, rfl, h1, h2, h3, fun _ _ _ h => h⟩
theorem Le.trans {n0 : Nat} {s s' s'' : St} (h : Le n0 s s') (h' : Le n0 s' s'') : Le n0 s s'' := fun c a h1 h2 h3 => by
  obtain ⟨c', k1, k2, k3, k4, k5⟩ := h c a h1 h2 h3
  obtain ⟨c'', g1, g2, g3, g4, g5⟩ := h' c' a k2 k3 k4
  exact ⟨c'', g1.trans k1, g2, g3, g4, fun c0 hn hc hr => g5 c0 hn hc (k5 c0 hn hc hr)⟩

theorem W.le {code : Code} {s' : St} (hc0 : CxOK c0) (h : Le c0.es.length s s') (h' : AWP P c0 code Q s') : AWP P c0 code Q s := fun c a h1 h2 h3 h4 => by
  obtain ⟨c', k1, k2, k3, k4, k5⟩ := h c a h1 h3 h4
  have := h' c' a k2 (k5 c0 rfl hc0 h2) k3 k4
  rwa [k1] at this

theorem loop_ix {c : Code} {Q : Exit → Act → World → Prop} {ι : Type} (I : ι → Act → World → Prop) (m : ι → Nat)
    (round : ∀ i a w, I i a w → c.wp P (Exit.then (fun a' w' => ∃ i', m i' < m i ∧ I i' a' w') Q) a w) : ∀ i a w, I i a w → (Code.loop c).wp P Q a w := by
  intro i a w h0 b k cs
  have key : ∀ n i a w, m i = n → I i a w → ∃ e a' w', Q e a' w' ∧ Arrives P (lone (b.at a (.code c :: .inLoop c :: k)) cs w) b k cs e a' w' := by
    intro n
    induction n using Nat.strongRecOn with
    | _ n ih =>
      intro i a w hn hI
      obtain ⟨e, a₁, w₁, hq, harr⟩ := round i a w hI b (.inLoop c :: k) cs
      cases e with
      | normal =>
        obtain ⟨i', hlt, hI₁⟩ := hq
        obtain ⟨e₂, a₂, w₂, hq₂, harr₂⟩ := ih (m i') (hn ▸ hlt) i' a₁ w₁ rfl hI₁
        exact ⟨e₂, a₂, w₂, hq₂, .of_steps (Steps.trans harr (.one step_inLoop)) harr₂⟩
      | exit id => exact ⟨_, a₁, w₁, hq, .pass (x := .inLoop c) rfl (fun _ _ => .inl (by simp)) harr⟩
      | goto l => exact ⟨_, a₁, w₁, hq, .pass (x := .inLoop c) rfl (fun _ _ => .inl (by simp)) harr⟩
      | ret => exact ⟨_, a₁, w₁, hq, .pass (x := .inLoop c) rfl (fun _ _ => .inl (by simp)) harr⟩
      | panic ch => exact ⟨_, a₁, w₁, hq, .pass (x := .inLoop c) rfl (fun _ _ => .inl (by simp)) harr⟩
      | outgrown => exact ⟨_, a₁, w₁, hq, .pass (x := .inLoop c) rfl (fun _ _ => .inl (by simp)) harr⟩
  obtain ⟨e, a', w', hq, harr⟩ := key _ i a w rfl h0
  exact ⟨e, a', w', hq, .of_steps (.one step_loop) harr⟩

theorem W.ents {code : Code} {es' : List Ent} (he : s.es = es') (h : AWP P c0 code Q ⟨s.nt, s.fr, es'⟩) : AWP P c0 code Q s := by
  cases s; subst he; exact h
/-- A loop: at each round's head the state is one of S i, where p i; the number m i goes down. -/
theorem W.loop {code : Code} (hc0 : CxOK c0) {ι : Type} (S : ι → St) (p : ι → Prop) (m : ι → Nat) (i : ι) (hp : p i) (hs : Le c0.es.length s (S i))
    (round : ∀ i, p i → AWP P c0 code (thenS (fun s' => ∃ i', p i' ∧ m i' < m i ∧ Le c0.es.length s' (S i')) Q) (S i)) : AWP P c0 (.loop code) Q s := fun c a h1 h2 h3 h4 => by
  obtain ⟨c', k1, k2, k3, k4, k5⟩ := hs c a h1 h3 h4
  have := loop_ix (P := P) (c := code) (Q := QQ c0 Q) (fun i a w => p i ∧ ∃ c, c.w = w ∧ CxOK c ∧ Reach c0 c ∧ c.es = (S i).es ∧ FR c a (S i)) m (by
    rintro i a w ⟨hp, c, rfl, g2, g3, g4, g5⟩
    refine wp_mono (round i hp c a g2 g3 g4 g5) fun e a' w' => ?_
    rintro ⟨c'', s'', rfl, j2, j3, j4, j5, j6⟩
    cases e with
    | normal =>
      obtain ⟨i', hp', hlt, hle⟩ := j6
      obtain ⟨c3, q1, q2, q3, q4, q5⟩ := hle c'' a' j2 j4 j5
      exact ⟨i', hlt, hp', c3, q1, q2, q5 c0 rfl hc0 j3, q3, q4⟩
    | _ => exact ⟨c'', s'', rfl, j2, j3, j4, j5, j6⟩) i a c'.w ⟨hp, c', rfl, k2, k5 c0 rfl hc0 h2, k3, k4⟩
  rwa [k1] at this

/-- A region in the order of the text. -/
theorem W.region {tt : TT} (hT : TTok P tt) {id : Nat} {l : List Oper} (rs : List Hint) {s' : St} {obs : List Prop} (h : run P tt l.toArray (zipR l rs) s = some (s', obs)) (ho : AllP obs) (hQ : Q .normal s') :
    AWP P c0 (.region id l.toArray false) Q s := fun c a h1 h2 h3 h4 => by
  refine wp_region_lit ?_
  have := run_sound hT (Q := QQ c0 Q) h ho h1 h3 h4 (fun c' a' k1 k2 k3 k4 => ⟨c', s', rfl, k1, h2.trans k2, k3, k4, hQ⟩)
  rwa [zipR_fst] at this

end

/-! ### Cuts -/

def trimTok (k : Nat) : List (List Nat × Nat) → List (List Nat × Nat)
  | [] => []
  | (p, y) :: r => match Nat.blt y k with
    | true => (p, y) :: trimTok k r
    | false => trimTok k r
/-- What is left of it where only the first k entries are. -/
def trim0 (k : Nat) : AV → AV
  | .ptr x p => match Nat.blt x k with
    | true => .ptr x p
    | false => .undef
  | .sl x lo n m => match Nat.blt x k with
    | true => .sl x lo n m
    | false => .undef
  | .row y xs => match Nat.blt y k with
    | true => .row y xs
    | false => .data (.list xs)
  | .func _ _ => .undef
  | .tuple _ => .undef
  | .mp x => match Nat.blt x k with
    | true => .mp x
    | false => .undef
  | .rich d tok => Go.W.rich d (trimTok k tok)
  | .data d => .data d
  | .cptr d => .cptr d
  | .nilptr => .nilptr
  | .nilfunc => .nilfunc
  | .undef => .undef
def trims0 (k : Nat) : List AV → List AV
  | [] => []
  | a :: r => trim0 k a :: trims0 k r
def trim (k : Nat) : AV → AV
  | .func f caps => .func f (trims0 k caps)
  | .tuple vs => .tuple (trims0 k vs)
  | a => trim0 k a
def trims (k : Nat) : List AV → List AV
  | [] => []
  | a :: r => trim k a :: trims k r
def trimE (k : Nat) : Ent → Ent
  | .var d tok => .var d (trimTok k tok)
  | .ref a => .ref (trim k a)
  | .row sz xs => .row sz xs
  | .map l => .map l
  | .dead => .dead
def trimEs (k : Nat) : Nat → List Ent → List Ent
  | 0, _ => []
  | _, [] => []
  | n + 1, e :: r => trimE k e :: trimEs k n r

theorem trims0_map (k : Nat) : ∀ l : List AV, trims0 k l = l.map (trim0 k)
  | [] => rfl
  | a :: r => by simp [trims0, trims0_map k r]
theorem trims_map (k : Nat) : ∀ l : List AV, trims k l = l.map (trim k)
  | [] => rfl
  | a :: r => by simp [trims, trims_map k r]
theorem trimEs_map (k : Nat) : ∀ (n : Nat) (l : List Ent), trimEs k n l = (l.take n).map (trimE k)
  | 0, l => by simp [trimEs]
  | n + 1, [] => by simp [trimEs]
  | n + 1, a :: r => by simp [trimEs, trimEs_map k n r]
theorem trimTok_mem {k : Nat} : ∀ {tok : List (List Nat × Nat)} {p : List Nat} {y : Nat}, (p, y) ∈ trimTok k tok → (p, y) ∈ tok ∧ y < k
  | [], p, y, h => by simp [trimTok] at h
  | (q, z) :: r, p, y, h => by
    simp only [trimTok] at h
    split at h
    · rename_i hz
      rcases List.mem_cons.1 h with h | h
      · simp only [Prod.mk.injEq] at h
        obtain ⟨rfl, rfl⟩ := h
        exact ⟨List.mem_cons_self .., by simpa [Nat.blt_eq] using hz⟩
      · obtain ⟨h1, h2⟩ := trimTok_mem h
        exact ⟨List.mem_cons_of_mem _ h1, h2⟩
    · obtain ⟨h1, h2⟩ := trimTok_mem h
      exact ⟨List.mem_cons_of_mem _ h1, h2⟩

/-- The first k entries alone. -/
def Cx.cut (c : Cx) (k : Nat) : Cx := { c with lam := c.lam.take k, es := trimEs k k c.es }

theorem cut_es {c : Cx} {k x : Nat} (hx : x < k) {e : Ent} (h : c.es[x]? = some e) : (c.cut k).es[x]? = some (trimE k e) := by
  simp [Cx.cut, trimEs_map, List.getElem?_take, hx, h]
theorem cut_lam {c : Cx} {k x : Nat} (hx : x < k) : (c.cut k).lam[x]? = c.lam[x]? := by simp [Cx.cut, List.getElem?_take, hx]
theorem cut_inv {c : Cx} {k x : Nat} {e : Ent} (h : (c.cut k).es[x]? = some e) : x < k ∧ ∃ e0, c.es[x]? = some e0 ∧ e = trimE k e0 := by
  simp only [Cx.cut, trimEs_map, List.getElem?_map, List.getElem?_take] at h
  split at h
  · rename_i hx
    cases he : c.es[x]? with
    | none => rw [he] at h; cases h
    | some e0 => rw [he] at h; simp only [Option.map_some, Option.some.injEq] at h; exact ⟨hx, e0, rfl, h.symm⟩
  · cases h
theorem trimE_gone {k : Nat} {e : Ent} (h : e.gone = true) : (trimE k e).gone = true := by cases e <;> simp_all [Ent.gone, trimE]
theorem trimE_isVar {k : Nat} {e : Ent} (h : e.isVar = false) : (trimE k e).isVar = false := by cases e <;> simp_all [Ent.isVar, trimE]

theorem RowC.cut {c : Cx} {k : Nat} {y : Nat} {xs : List D} {v : Value} (hy : y < k) (h : RowC c y xs v) : RowC (c.cut k) y xs v := by
  intro sz xs' he
  obtain ⟨_, e0, he', h0⟩ := cut_inv he
  cases e0 with
  | row sz0 xs0 =>
    simp only [trimE, Ent.row.injEq] at h0
    obtain ⟨rfl, rfl⟩ := h0
    obtain ⟨h1, h2⟩ := h _ _ he'
    refine ⟨h1, fun hl => ⟨(h2 hl).1, ?_⟩⟩
    have hlam := cut_lam (c := c) hy
    rcases (h2 hl).2 with ⟨h8, h9, h10⟩ | ⟨b, cap, cs, T, h8, h9, h10⟩
    · exact .inl ⟨h8, h9, hlam.trans h10⟩
    · exact .inr ⟨b, cap, cs, T, hlam.trans h8, h9, h10⟩
  | _ => simp [trimE] at h0

theorem VR.cut0 {c : Cx} {k : Nat} {a : AV} {v : Value} (h : VR c a v) : VR (c.cut k) (trim0 k a) v := by
  cases h with
  | undef v => exact .undef v
  | data h => exact .data h
  | nilptr => exact .nilptr
  | cptr h1 h2 => exact .cptr h1 h2
  | nilfunc => exact .nilfunc
  | func => exact .undef _
  | tuple => exact .undef _
  | mp h1 h2 =>
    simp only [trim0]
    split
    · rename_i hx
      have hx := by simpa [Nat.blt_eq] using hx
      exact .mp (cut_es hx h1) ((cut_lam hx).trans h2)
    · exact .undef _
  | ptr h1 h2 h3 =>
    simp only [trim0]
    split
    · rename_i hx
      have hx := by simpa [Nat.blt_eq] using hx
      exact .ptr (cut_es hx h1) h2 ((cut_lam hx).trans h3)
    · exact .undef _
  | refp h1 h2 =>
    simp only [trim0]
    split
    · rename_i hx
      have hx := by simpa [Nat.blt_eq] using hx
      exact .refp (cut_es hx h1) ((cut_lam hx).trans h2)
    · exact .undef _
  | ptrgone h1 h2 =>
    simp only [trim0]
    split
    · rename_i hx
      have hx := by simpa [Nat.blt_eq] using hx
      exact .ptrgone (cut_es hx h1) (trimE_gone h2)
    · exact .undef _
  | slgone h1 h2 =>
    simp only [trim0]
    split
    · rename_i hx
      have hx := by simpa [Nat.blt_eq] using hx
      exact .slgone (cut_es hx h1) (trimE_gone h2)
    · exact .undef _
  | sl h1 h2 h3 h4 h5 h6 h7 =>
    simp only [trim0]
    split
    · rename_i hx
      have hx := by simpa [Nat.blt_eq] using hx
      exact .sl (cut_es hx h1) h2 ((cut_lam hx).trans h3) h4 h5 h6 h7
    · exact .undef _
  | row h1 h2 hv h3 =>
    simp only [trim0]
    split
    · rename_i hx
      have hx := by simpa [Nat.blt_eq] using hx
      exact .row h1 (cut_es hx h2) (trimE_isVar hv) (h3.cut hx)
    · exact .data h1
  | rich h1 h2 =>
    refine VR.mkRich h1 fun p y hp => ?_
    obtain ⟨hp, hy⟩ := trimTok_mem hp
    obtain ⟨g1, ⟨ez, g2, g2'⟩, xs, g3, g4⟩ := h2 p y hp
    exact ⟨g1, ⟨_, cut_es hy g2, trimE_isVar g2'⟩, xs, g3, g4.cut hy⟩

theorem VR.cut {c : Cx} {k : Nat} {a : AV} {v : Value} (h : VR c a v) : VR (c.cut k) (trim k a) v := by
  cases h with
  | func h1 h2 =>
    simp only [trim, trims0_map]
    refine .func (by simpa using h1) fun i hi => ?_
    simp only [List.getElem_map]
    exact (h2 i (by simpa using hi)).cut0
  | tuple h1 h2 =>
    simp only [trim, trims0_map]
    refine .tuple (by simpa using h1) fun i hi => ?_
    simp only [List.getElem_map]
    exact (h2 i (by simpa using hi)).cut0
  | undef v => exact VR.cut0 (.undef v)
  | data h => exact VR.cut0 (.data h)
  | nilptr => exact VR.cut0 .nilptr
  | ptr h1 h2 h3 => exact VR.cut0 (.ptr h1 h2 h3)
  | refp h1 h2 => exact VR.cut0 (.refp h1 h2)
  | ptrgone h1 h2 => exact VR.cut0 (.ptrgone h1 h2)
  | slgone h1 h2 => exact VR.cut0 (.slgone h1 h2)
  | sl h1 h2 h3 h4 h5 h6 h7 => exact VR.cut0 (.sl h1 h2 h3 h4 h5 h6 h7)
  | cptr h1 h2 => exact VR.cut0 (.cptr h1 h2)
  | row h1 h2 hv h3 => exact VR.cut0 (.row h1 h2 hv h3)
  | rich h1 h2 => exact VR.cut0 (.rich h1 h2)
  | nilfunc => exact VR.cut0 .nilfunc
  | mp h1 h2 => exact VR.cut0 (.mp h1 h2)

theorem CxOK.cut {c : Cx} (hc : CxOK c) {k : Nat} : CxOK (c.cut k) := by
  have hlam : ∀ x b, (c.cut k).lam[x]? = some (some b) → c.lam[x]? = some (some b) ∧ x < k := fun x b h => by
    have h1 := (List.getElem?_eq_some_iff.1 h).1
    simp only [Cx.cut, List.length_take] at h1
    have hx : x < k := by omega
    exact ⟨by simpa [Cx.cut, List.getElem?_take, hx] using h, hx⟩
  refine ⟨hc.fr, by simp [Cx.cut, hc.len, trimEs_map], fun x y b h1 h2 => hc.inj x y b (hlam x b h1).1 (hlam y b h2).1, fun x b h => hc.low x b (hlam x b h).1, fun x e he => ?_⟩
  obtain ⟨hx, e0, he', rfl⟩ := cut_inv he
  have hlam' := cut_lam (c := c) hx
  have h0 := hc.ent x e0 he'
  cases e0 with
  | var d tok =>
    obtain ⟨b', cs0, T0, e1, e2, e3, e4, e5, e6⟩ := h0
    refine ⟨b', cs0, T0, hlam'.trans e1, e2, e3, e4, e5, fun p z hz => ?_⟩
    obtain ⟨hz, hzk⟩ := trimTok_mem hz
    obtain ⟨g1, ⟨ez, g2, g2'⟩, xs, g3, g4⟩ := e6 p z hz
    exact ⟨g1, ⟨_, cut_es hzk g2, trimE_isVar g2'⟩, xs, g3, g4.cut hzk⟩
  | ref a =>
    obtain ⟨b', v, T0, e1, e2, e3, e4⟩ := h0
    exact ⟨b', v, T0, hlam'.trans e1, e2, e3.cut, e4⟩
  | row sz xs =>
    rcases h0 with ⟨h0, h0'⟩ | ⟨b', cs0, T0, e1, e2, e3, e4⟩
    · exact .inl ⟨h0, hlam'.trans h0'⟩
    · exact .inr ⟨b', cs0, T0, hlam'.trans e1, e2, e3, e4⟩
  | map l =>
    obtain ⟨b', arr, clock, e1, e2, e3, e4⟩ := h0
    exact ⟨b', arr, clock, hlam'.trans e1, e2, e3, e4⟩
  | dead => trivial

theorem Reach.cut {c0 c : Cx} (hr : Reach c0 c) (hc0 : CxOK c0) {k : Nat} (hk : c0.es.length ≤ k) : Reach c0 (c.cut k) where
  size := hr.size
  rest := hr.rest
  ext := hr.ext
  keep := hr.keep
  frame := hr.frame
  ents := fun x e hx => by
    have hxl := (List.getElem?_eq_some_iff.1 hx).1
    obtain ⟨e', h1, h2⟩ := hr.ents x e hx
    have hxk : x < k := by omega
    have hlam := cut_lam (c := c) hxk
    refine ⟨_, cut_es hxk h1, ?_⟩
    cases e with
    | var d t =>
      rcases h2 with ⟨d', t', rfl, k2, k3⟩ | ⟨k1, k2⟩
      · exact .inl ⟨d', _, rfl, k2, hlam.trans k3⟩
      · exact .inr ⟨trimE_gone k1, by rw [hlam]; exact k2⟩
    | ref a => obtain ⟨a', rfl, k2⟩ := h2; exact ⟨_, rfl, hlam.trans k2⟩
    | row sz xs => obtain ⟨xs', rfl, k2, k3, k4⟩ := h2; exact ⟨xs', rfl, k2, fun h => hlam.trans (k3 h), by rw [hlam]; exact k4⟩
    | map l => obtain ⟨l', rfl, k2⟩ := h2; exact ⟨l', rfl, hlam.trans k2⟩
    | dead => obtain ⟨rfl, k2⟩ := h2; exact ⟨rfl, hlam.trans k2⟩
  news := fun x b hx hb => by
    have h1 := (List.getElem?_eq_some_iff.1 hb).1
    simp only [Cx.cut, List.length_take] at h1
    have hxk : x < k := by omega
    exact hr.news x b hx (by simpa [Cx.cut, List.getElem?_take, hxk] using hb)

def frOf : List (Nat × AV) → Nat → Sl
  | [], _ => .v .undef
  | (t, x) :: r, i => bif Nat.beq i t then .v x else frOf r i

/-- The slots of the list are so. -/
def FrL (s : St) (k : Nat) : List (Nat × AV) → Prop
  | [] => True
  | (t, x) :: r => (s.fr t = .v x ∧ trim k x = x) ∧ FrL s k r

theorem FrL_spec {s : St} {k : Nat} : ∀ {l : List (Nat × AV)}, FrL s k l → ∀ t, (frOf l t = .v .undef) ∨ ∃ x, frOf l t = .v x ∧ s.fr t = .v x ∧ trim k x = x
  | [], _, _ => .inl rfl
  | (t', x) :: r, h, t => by
    simp only [frOf]
    by_cases ht : t = t'
    · subst ht
      have : Nat.beq t t = true := Nat.beq_refl t
      simp only [this, cond_true]
      exact .inr ⟨x, rfl, h.1.1, h.1.2⟩
    · simp only [nbeq_ne ht, cond_false]
      exact FrL_spec h.2 t

/-- What is kept of a state: the slots of a list, and the first k entries. -/
theorem Le.cut {n0 : Nat} {s : St} (l : List (Nat × AV)) (k : Nat) {es' : List Ent} (hk : n0 ≤ k) (hl : FrL s k l) (hes : trimEs k k s.es = es') : Le n0 s ⟨s.nt, frOf l, es'⟩ := by
  intro c a hc hce hf
  refine ⟨c.cut k, rfl, hc.cut, by simp [Cx.cut, hce, hes], ⟨hf.size, hf.defers, fun t => ?_⟩, fun c0 hn hc0 hr => hr.cut hc0 (by omega)⟩
  rcases FrL_spec hl t with h | ⟨x, h1, h2, h3⟩
  · simp only [h]; exact .undef _
  · simp only [h1]
    have := hf.slot t
    rw [h2] at this
    have := this.cut (k := k)
    rwa [h3] at this

/-- Another context over the same world and frame: what it means for the slots. -/
theorem Le.of {n0 : Nat} {s s' : St} (hnt : s'.nt = s.nt) (h : ∀ c, CxOK c → c.es = s.es → ∃ c', c'.w = c.w ∧ CxOK c' ∧ c'.es = s'.es ∧ Reach c c' ∧ ∀ t v, (∀ x, s.fr t = .v x → VR c x v) →
    (∀ t' w x, s.fr t = .maybe t' w x → True) → ∀ x', s'.fr t = .v x' → VR c' x' v) (hv : ∀ t, ∃ x', s'.fr t = .v x') : Le n0 s s' := by
  intro c a hc hce hf
  obtain ⟨c', k1, k2, k3, k4, k5⟩ := h c hc hce
  refine ⟨c', k1, k2, k3, ⟨hf.size.trans hnt.symm, hf.defers, fun t => ?_⟩, fun c0 _ _ hr => hr.trans k4⟩
  obtain ⟨x', hx'⟩ := hv t
  simp only [hx']
  refine k5 t _ (fun x hx => ?_) (fun _ _ _ _ => trivial) x' hx'
  have := hf.slot t
  rw [hx] at this
  exact this

/-! ### A variable is frozen -/

def fzA0 (x : Nat) (d : D) : AV → AV
  | .ptr y p => match Nat.beq y x with
    | true => match d.get p with
      | some v => .cptr v
      | none => .undef
    | false => .ptr y p
  | .sl y lo n k => match Nat.beq y x with
    | true => match d with
      | .arr _ _ f => .data (.list (lst f lo n))
      | _ => .undef
    | false => .sl y lo n k
  | a => a
def fzAs (x : Nat) (d : D) : List AV → List AV
  | [] => []
  | a :: r => fzA0 x d a :: fzAs x d r
def fzA (x : Nat) (d : D) : AV → AV
  | .func f caps => .func f (fzAs x d caps)
  | .tuple vs => .tuple (fzAs x d vs)
  | a => fzA0 x d a
def fzSl (x : Nat) (d : D) : Sl → Sl
  | .v a => .v (fzA x d a)
  | .maybe t w a => .maybe t w (fzA x d a)
theorem fzAs_map (x : Nat) (d : D) : ∀ l : List AV, fzAs x d l = l.map (fzA0 x d)
  | [] => rfl
  | a :: r => by simp [fzAs, fzAs_map x d r]

theorem freeze {c : Cx} (hc : CxOK c) {x : Nat} {d : D} {tok : List (List Nat × Nat)} (hx : c.es[x]? = some (.var d tok)) :
    ∃ c' : Cx, c'.w = c.w ∧ CxOK c' ∧ Reach c c' ∧ c'.es = c.es.set x .dead ∧ ∀ a v, VR c a v → VR c' (fzA x d a) v := by
  have hxl := (List.getElem?_eq_some_iff.1 hx).1
  obtain ⟨b, cs, T, e1, e2, e3, e4, e5, e6⟩ := hc.ent x _ hx
  let c' : Cx := ⟨c.w, fun y => if y = b then cs.size else c.fz y, c.lam, c.es.set x .dead⟩
  have hext : Ext c.w c.fz c'.w c'.fz := fun y => by
    refine ⟨?_, fun _ _ => rfl⟩
    simp only [c']
    split
    · rename_i hy; subst hy; omega
    · exact Nat.le_refl _
  have hlone : ∀ (y b' : Nat), y ≠ x → c.lam[y]? = some (some b') → b' ≠ b := fun y b' hy hb h => hy (hc.inj y x b' hb (h ▸ e1))
  have hr : Reach c c' := {
    size := Nat.le_refl _
    rest := ⟨rfl, rfl, rfl⟩
    ext := hext
    keep := fun b cs T f h => ⟨cs, h, rfl⟩
    frame := fun y _ hy => ⟨rfl, by simp only [c']; rw [if_neg fun h => hy x (by rw [h]; exact e1)]⟩
    ents := fun y e hy => by
      by_cases hyx : y = x
      · subst hyx
        rw [hx] at hy
        simp only [Option.some.injEq] at hy
        subst hy
        exact ⟨.dead, set_nth hxl, .inr ⟨rfl, .inl rfl⟩⟩
      · exact ⟨e, (set_ne hyx).trans hy, EntStep.stay (c := c) (c' := c') rfl e⟩
    news := fun y b hy hb => by
      have h1 := (List.getElem?_eq_some_iff.1 hb).1
      have h2 := hc.len
      simp only [c'] at h1
      omega }
  have h0 : ∀ a v, VR c a v → VR c' (fzA0 x d a) v := fun a v h => by
    cases h with
    | ptr h1 h2 h3 =>
      rename_i y p b' d' tok'
      simp only [fzA0]
      split
      · rename_i hb
        have := Nat.eq_of_beq_eq_true hb
        subst this
        rw [hx] at h1
        simp only [Option.some.injEq, Ent.var.injEq] at h1
        obtain ⟨rfl, rfl⟩ := h1
        rw [e1] at h3
        simp only [Option.some.injEq] at h3
        subst h3
        split
        · rename_i u hu
          have hsz := off_size e4.wf h2 hu
          refine .cptr (((e4.ext hext).at h2 hu).congr fun o ho => ?_) (by simp only [c', if_true]; omega)
          simp only [cellAt, World.cell?, c', e2]
          simp [show d.off p + o < cs.size by omega]
        · exact .undef _
      · exact VR.mono hr (.ptr h1 h2 h3)
    | refp h1 h2 =>
      rename_i y b' a'
      simp only [fzA0]
      split
      · rename_i hb
        have := Nat.eq_of_beq_eq_true hb
        subst this
        rw [hx] at h1
        cases h1
      · exact VR.mono hr (.refp h1 h2)
    | ptrgone h1 h2 =>
      simp only [fzA0]
      split
      · rename_i hb
        have := Nat.eq_of_beq_eq_true hb
        subst this
        exact (gone_var hx h1 h2).elim
      · exact VR.mono hr (.ptrgone h1 h2)
    | slgone h1 h2 =>
      simp only [fzA0]
      split
      · rename_i hb
        have := Nat.eq_of_beq_eq_true hb
        subst this
        exact (gone_var hx h1 h2).elim
      · exact VR.mono hr (.slgone h1 h2)
    | sl h1 h2 h3 h4 h5 h6 h7 =>
      rename_i y lo n k b' o N sz cap f tok' cs' T'
      simp only [fzA0]
      split
      · rename_i hb
        have := Nat.eq_of_beq_eq_true hb
        subst this
        rw [hx] at h1
        simp only [Option.some.injEq, Ent.var.injEq] at h1
        obtain ⟨rfl, rfl⟩ := h1
        rw [e1] at h3
        simp only [Option.some.injEq] at h3
        subst h3
        rw [e2] at h6
        simp only [Option.some.injEq, Obj.cells.injEq] at h6
        obtain ⟨rfl, rfl, _⟩ := h6
        refine .data ?_
        unfold VD
        simp only [D.isAgg]
        have hns : lo * sz + n * sz ≤ cs.size := by
          rw [← Nat.add_mul]
          exact Nat.le_trans (Nat.mul_le_mul_right _ (by omega)) h7
        cases e4 with
        | arr g1 g2 =>
          rcases Nat.eq_zero_or_pos cap with hc0 | hc0
          · have hn0 : n = 0 := by omega
            subst hn0
            exact .list0 rfl h5
          rw [h4.2.2 hc0]
          refine .list (es := sz) (off := lo * sz) (by rw [lst_length]) (by rw [lst_length]; exact h4.1) h5 (fun i hi => ?_) (fun i hi => ?_) (by rw [lst_length]; simp only [c', if_true]; exact hns)
          · rw [lst_get]
            rw [lst_length] at hi
            exact g1 _ (by omega)
          · rw [lst_get]
            rw [lst_length] at hi
            have hl : lo + i < N := by omega
            refine ((g2 _ hl).ext hext).congr fun o ho => ?_
            rw [g1 _ hl] at ho
            have h8 := mul_lt_of (es := sz) hi ho
            have h9 : (lo + i) * sz + o = lo * sz + i * sz + o := by rw [Nat.add_mul]
            have h10 : lo * sz + i * sz + o < cs.size := by omega
            simp only [cellAt, World.cell?, c', e2, h9]
            simp [h10]
      · exact VR.mono hr (.sl h1 h2 h3 h4 h5 h6 h7)
    | undef v => exact .undef v
    | data h => exact VR.mono hr (.data h)
    | nilptr => exact .nilptr
    | cptr h1 h2 => exact VR.mono hr (.cptr h1 h2)
    | nilfunc => exact .nilfunc
    | mp h1 h2 => exact VR.mono hr (.mp h1 h2)
    | func h1 h2 => exact VR.mono hr (.func h1 h2)
    | tuple h1 h2 => exact VR.mono hr (.tuple h1 h2)
    | row h1 h2 hv h3 => exact VR.mono hr (.row h1 h2 hv h3)
    | rich h1 h2 => exact VR.mono hr (.rich h1 h2)
  refine ⟨c', rfl, ⟨fun y o ho => ?_, by simp only [c', List.length_set]; exact hc.len, hc.inj, hc.low, fun y e hy => ?_⟩, hr, rfl, fun a v h => ?_⟩
  · simp only [c'] at ho
    split at ho
    · rename_i hy; subst hy; exact ⟨_, cell_of_block e2 ho⟩
    · exact hc.fr y o ho
  · by_cases hyx : y = x
    · subst hyx
      have hy' : some Ent.dead = some e := (set_nth hxl).symm.trans hy
      simp only [Option.some.injEq] at hy'
      subst hy'
      trivial
    · have hy0 : c.es[y]? = some e := (set_ne hyx).symm.trans hy
      have hE := hc.ent y e hy0
      have hfz : ∀ b', c.lam[y]? = some (some b') → c'.fz b' = c.fz b' := fun b' hb => by simp only [c']; rw [if_neg (hlone y b' hyx hb)]
      cases e with
      | var d1 tok1 =>
        obtain ⟨b', cs0, T0, f1, f2, f3, f4, f5, f6⟩ := hE
        refine ⟨b', cs0, T0, f1, f2, f3, f4.ext hext, (hfz b' f1).trans f5, fun p z hz => ?_⟩
        obtain ⟨g1, ⟨ez, g2, g2'⟩, zs, g3, g4⟩ := f6 p z hz
        obtain ⟨ez', g5, g6⟩ := hr.ents z ez g2
        exact ⟨g1, ⟨ez', g5, g6.notVar g2'⟩, zs, g3, g4.mono hr ⟨g2, g2'⟩⟩
      | ref a =>
        obtain ⟨b', v, T0, f1, f2, f3, f4⟩ := hE
        exact ⟨b', v, T0, f1, f2, f3.mono hr, (hfz b' f1).trans f4⟩
      | row sz0 zs =>
        rcases hE with hE | ⟨b', cs0, T0, f1, f2, f3, f4⟩
        · exact .inl hE
        · exact .inr ⟨b', cs0, T0, f1, f2, (hfz b' f1).trans f3, f4⟩
      | map l =>
        obtain ⟨b', arr, clock, f1, f2, f3, f4⟩ := hE
        exact ⟨b', arr, clock, f1, f2, (hfz b' f1).trans f3, f4.ext hext⟩
      | dead => trivial
  · cases h with
    | func h1 h2 =>
      simp only [fzA, fzAs_map]
      refine .func (by simpa using h1) fun i hi => ?_
      simp only [List.getElem_map]
      exact h0 _ _ (h2 i (by simpa using hi))
    | tuple h1 h2 =>
      simp only [fzA, fzAs_map]
      refine .tuple (by simpa using h1) fun i hi => ?_
      simp only [List.getElem_map]
      exact h0 _ _ (h2 i (by simpa using hi))
    | undef v => exact h0 _ _ (.undef v)
    | data h => exact h0 _ _ (.data h)
    | nilptr => exact h0 _ _ .nilptr
    | ptr h1 h2 h3 => exact h0 _ _ (.ptr h1 h2 h3)
    | refp h1 h2 => exact h0 _ _ (.refp h1 h2)
    | ptrgone h1 h2 => exact h0 _ _ (.ptrgone h1 h2)
    | slgone h1 h2 => exact h0 _ _ (.slgone h1 h2)
    | sl h1 h2 h3 h4 h5 h6 h7 => exact h0 _ _ (.sl h1 h2 h3 h4 h5 h6 h7)
    | cptr h1 h2 => exact h0 _ _ (.cptr h1 h2)
    | row h1 h2 hv h3 => exact h0 _ _ (.row h1 h2 hv h3)
    | rich h1 h2 => exact h0 _ _ (.rich h1 h2)
    | nilfunc => exact h0 _ _ .nilfunc
    | mp h1 h2 => exact h0 _ _ (.mp h1 h2)

/-- A state where a context's values are told otherwise. -/
theorem Le.map {n0 : Nat} {s : St} (g : AV → AV) (gs : Sl → Sl) (hgs : ∀ a, gs (.v a) = .v (g a)) (hgm : ∀ t w a, gs (.maybe t w a) = .maybe t w (g a)) {es' : List Ent}
    (h : ∀ c, CxOK c → c.es = s.es → ∃ c', c'.w = c.w ∧ CxOK c' ∧ Reach c c' ∧ c'.es = es' ∧ ∀ a v, VR c a v → VR c' (g a) v) : Le n0 s ⟨s.nt, fun t => gs (s.fr t), es'⟩ := by
  intro c a hc hce hf
  obtain ⟨c', k1, k2, k3, k4, k5⟩ := h c hc hce
  refine ⟨c', k1, k2, k4, ⟨hf.size, hf.defers, fun t => ?_⟩, fun c0 _ _ hr => hr.trans k3⟩
  have hs := hf.slot t
  simp only
  cases hfr : s.fr t with
  | v x => rw [hfr] at hs; rw [hgs]; exact k5 _ _ hs
  | maybe t' w x => rw [hfr] at hs; rw [hgm]; exact ⟨fun h => k5 _ _ (hs.1 h), hs.2⟩

/-- Variable x is written no more. -/
theorem Le.freeze {n0 : Nat} {s : St} (x : Nat) {d : D} {tok : List (List Nat × Nat)} (hx : s.es[x]? = some (.var d tok)) : Le n0 s ⟨s.nt, fun t => fzSl x d (s.fr t), s.es.set x .dead⟩ :=
  Le.map (fzA x d) (fzSl x d) (fun _ => rfl) (fun _ _ _ => rfl) fun c hc hce => by
    obtain ⟨c', k1, k2, k3, k4, k5⟩ := Go.W.freeze hc (x := x) (d := d) (tok := tok) (by rw [hce]; exact hx)
    exact ⟨c', k1, k2, k3, by rw [k4, hce], k5⟩

/-- A part that is nil is a list that is empty. -/
theorem nilList {c : Cx} (hc : CxOK c) {x : Nat} {d : D} {tok : List (List Nat × Nat)} (hx : c.es[x]? = some (.var d tok)) {p : List Nat} (hp : PathOK d p) (hg : d.get p = some .nil) :
    ∃ c' : Cx, c'.w = c.w ∧ CxOK c' ∧ Reach c c' ∧ c'.es = c.es.set x (.var (d.set p (.list [])) (tokDrop tok p)) ∧ ∀ a v, VR c a v → VR c' a v := by
  have hxl := (List.getElem?_eq_some_iff.1 hx).1
  obtain ⟨b, cs, T, e1, e2, e3, e4, e5, e6⟩ := hc.ent x _ hx
  have hsame : Same d (d.set p (.list [])) := set_same hp hg (by simp [Same])
  let c' : Cx := ⟨c.w, c.fz, c.lam, c.es.set x (.var (d.set p (.list [])) (tokDrop tok p))⟩
  have hr : Reach c c' := {
    size := Nat.le_refl _
    rest := ⟨rfl, rfl, rfl⟩
    ext := .refl _ _
    keep := fun b cs T f h => ⟨cs, h, rfl⟩
    frame := fun y _ hy => ⟨rfl, rfl⟩
    ents := fun y e hy => by
      by_cases hyx : y = x
      · subst hyx
        rw [hx] at hy
        simp only [Option.some.injEq] at hy
        subst hy
        exact ⟨_, set_nth hxl, .inl ⟨_, _, rfl, hsame, rfl⟩⟩
      · exact ⟨e, (set_ne hyx).trans hy, EntStep.stay (c := c) (c' := c') rfl e⟩
    news := fun y b hy hb => by
      have h1 := (List.getElem?_eq_some_iff.1 hb).1
      have h2 := hc.len
      simp only [c'] at h1
      omega }
  refine ⟨c', rfl, ⟨hc.fr, by simp only [c', List.length_set]; exact hc.len, hc.inj, hc.low, fun y e hy => ?_⟩, hr, rfl, fun a v h => h.mono hr⟩
  by_cases hyx : y = x
  · subst hyx
    have hy' : some (Ent.var (d.set p (.list [])) (tokDrop tok p)) = some e := (set_nth hxl).symm.trans hy
    simp only [Option.some.injEq] at hy'
    subst hy'
    have hat := e4.at hp hg
    refine ⟨b, cs, T, e1, e2, by rw [← hsame.size]; exact e3, e4.set hp hg rfl ?_ (fun o _ _ => rfl), e5, fun q z hz => ?_⟩
    · cases hat with
      | nil h => exact .list0 h (Nat.zero_le _)
    · obtain ⟨hz1, hz2⟩ := tokDrop_mem hz
      obtain ⟨g1, ⟨ez, g2, g2'⟩, zs, g3, g4⟩ := e6 q z hz1
      obtain ⟨k5, k6⟩ := get_set_other (u := .list []) e4.wf hp hg g1 g3 hz2
      obtain ⟨k7, k8⟩ := hsame.path g1
      obtain ⟨ez', g5, g6⟩ := hr.ents z ez g2
      refine ⟨k7, ⟨ez', g5, g6.notVar g2'⟩, zs, k5, ?_⟩
      rw [← k8]
      exact g4.mono hr ⟨g2, g2'⟩
  · have hy0 : c.es[y]? = some e := (set_ne hyx).symm.trans hy
    have hE := hc.ent y e hy0
    cases e with
    | var d1 tok1 =>
      obtain ⟨b', cs0, T0, f1, f2, f3, f4, f5, f6⟩ := hE
      refine ⟨b', cs0, T0, f1, f2, f3, f4, f5, fun p z hz => ?_⟩
      obtain ⟨g1, ⟨ez, g2, g2'⟩, zs, g3, g4⟩ := f6 p z hz
      obtain ⟨ez', g5, g6⟩ := hr.ents z ez g2
      exact ⟨g1, ⟨ez', g5, g6.notVar g2'⟩, zs, g3, g4.mono hr ⟨g2, g2'⟩⟩
    | ref a =>
      obtain ⟨b', v, T0, f1, f2, f3, f4⟩ := hE
      exact ⟨b', v, T0, f1, f2, f3.mono hr, f4⟩
    | row sz0 zs => exact hE
    | map l => exact hE
    | dead => trivial

theorem Le.nilList {n0 : Nat} {s : St} (x : Nat) (p : List Nat) {d : D} {tok : List (List Nat × Nat)} (hx : s.es[x]? = some (.var d tok)) (hp : PathOK d p) (hg : d.get p = some .nil) :
    Le n0 s ⟨s.nt, s.fr, s.es.set x (.var (d.set p (.list [])) (tokDrop tok p))⟩ := by
  have := Le.map (n0 := n0) (s := s) id id (fun _ => rfl) (fun _ _ _ => rfl) (es' := s.es.set x (.var (d.set p (.list [])) (tokDrop tok p))) fun c hc hce => by
    obtain ⟨c', k1, k2, k3, k4, k5⟩ := Go.W.nilList hc (x := x) (d := d) (tok := tok) (by rw [hce]; exact hx) hp hg
    exact ⟨c', k1, k2, k3, by rw [k4, hce], k5⟩
  exact this

/-- A part that is nil is a row that is empty: a new entry. -/
theorem nilRow {c : Cx} (hc : CxOK c) {x : Nat} {d : D} {tok : List (List Nat × Nat)} (hx : c.es[x]? = some (.var d tok)) {p : List Nat} (hp : PathOK d p) (hg : d.get p = some .nil) (sz : Nat) :
    ∃ c' : Cx, c'.w = c.w ∧ CxOK c' ∧ Reach c c' ∧ c'.es = c.es.set x (.var (d.set p (.list [])) ((p, c.es.length) :: tokDrop tok p)) ++ [.row sz []] ∧ ∀ a v, VR c a v → VR c' a v := by
  obtain ⟨c1, w1, o1, r1, es1, v1⟩ := nilList hc hx hp hg
  obtain ⟨o2, r2⟩ := addRow o1 sz
  have hxl := (List.getElem?_eq_some_iff.1 hx).1
  have hlen1 : c1.es.length = c.es.length := by rw [es1, List.length_set]
  have hx2 : ({ c1 with lam := c1.lam ++ [none], es := c1.es ++ [.row sz []] } : Cx).es[x]? = some (.var (d.set p (.list [])) (tokDrop tok p)) := by
    simp only
    rw [List.getElem?_append_left (by omega), es1]
    exact set_nth hxl
  let c2 : Cx := { c1 with lam := c1.lam ++ [none], es := c1.es ++ [.row sz []] }
  let c' : Cx := { c2 with es := c2.es.set x (.var (d.set p (.list [])) ((p, c.es.length) :: tokDrop tok p)) }
  have hrow : c2.es[c.es.length]? = some (.row sz []) := by
    simp only [c2]
    rw [List.getElem?_append_right (by omega)]
    simp [hlen1]
  have hlam : c2.lam[c.es.length]? = some none := by
    simp only [c2]
    rw [← hlen1, ← o1.len, List.getElem?_append_right (Nat.le_refl _)]
    simp
  have hxl2 : x < c2.es.length := by simp only [c2, List.length_append]; omega
  have hr : Reach c2 c' := {
    size := Nat.le_refl _
    rest := ⟨rfl, rfl, rfl⟩
    ext := .refl _ _
    keep := fun b cs T f h => ⟨cs, h, rfl⟩
    frame := fun y _ hy => ⟨rfl, rfl⟩
    ents := fun y e hy => by
      by_cases hyx : y = x
      · subst hyx
        rw [hx2] at hy
        simp only [Option.some.injEq] at hy
        subst hy
        exact ⟨_, set_nth hxl2, .inl ⟨_, _, rfl, .refl _, rfl⟩⟩
      · exact ⟨e, (set_ne hyx).trans hy, EntStep.stay (c := c2) (c' := c') rfl e⟩
    news := fun y b hy hb => by
      have h1 := (List.getElem?_eq_some_iff.1 hb).1
      have h2 := o2.len
      simp only [c'] at h1
      simp only [c2] at hy h1 h2
      omega }
  have hokE : ∀ y e, y ≠ x → c2.es[y]? = some e → EntOK c' y e := fun y e hyx hy0 => by
    have hE := o2.ent y e hy0
    cases e with
    | var d1 tok1 =>
      obtain ⟨b', cs0, T0, f1, f2, f3, f4, f5, f6⟩ := hE
      refine ⟨b', cs0, T0, f1, f2, f3, f4, f5, fun p z hz => ?_⟩
      obtain ⟨g1, ⟨ez, g2, g2'⟩, zs, g3, g4⟩ := f6 p z hz
      obtain ⟨ez', g5, g6⟩ := hr.ents z ez g2
      exact ⟨g1, ⟨ez', g5, g6.notVar g2'⟩, zs, g3, g4.mono hr ⟨g2, g2'⟩⟩
    | ref a =>
      obtain ⟨b', v, T0, f1, f2, f3, f4⟩ := hE
      exact ⟨b', v, T0, f1, f2, f3.mono hr, f4⟩
    | row sz0 zs => exact hE
    | map l => exact hE
    | dead => trivial
  refine ⟨c', w1, ⟨o2.fr, by simp only [c', List.length_set]; exact o2.len, o2.inj, o2.low, fun y e hy => ?_⟩, r1.trans (r2.trans hr), ?_, fun a v h => ((v1 a v h).mono r2).mono hr⟩
  · by_cases hyx : y = x
    · subst hyx
      have hy' : some (Ent.var (d.set p (.list [])) ((p, c.es.length) :: tokDrop tok p)) = some e := (set_nth hxl2).symm.trans hy
      simp only [Option.some.injEq] at hy'
      subst hy'
      obtain ⟨b, cs, T, f1, f2, f3, f4, f5, f6⟩ := o2.ent y _ hx2
      refine ⟨b, cs, T, f1, f2, f3, f4, f5, fun q z hz => ?_⟩
      rcases List.mem_cons.1 hz with hz | hz
      · simp only [Prod.mk.injEq] at hz
        obtain ⟨rfl, rfl⟩ := hz
        have hsame : Same d (d.set q (.list [])) := set_same hp hg (by simp [Same])
        obtain ⟨k7, k8⟩ := hsame.path hp
        have hgs := get_set_same (u := .list []) hg
        have hat := f4.at k7 hgs
        refine ⟨k7, ⟨.row sz [], (set_ne (by omega)).trans hrow, rfl⟩, [], hgs, ?_⟩
        -- the cell itself is a nil or empty slice
        obtain ⟨b0, cs0, T0, j1, j2, j3, j4, j5, j6⟩ := hc.ent y _ hx
        have hat0 := j4.at hp hg
        have hlb : c2.lam[y]? = c.lam[y]? := by
          have h1 := r1.ents y _ hx
          obtain ⟨e1, q1, q2⟩ := h1
          rw [es1, set_nth hxl] at q1
          simp only [Option.some.injEq] at q1
          subst q1
          rcases q2 with ⟨_, _, _, _, q3⟩ | ⟨q3, _⟩
          · simp only [c2]
            rw [List.getElem?_append_left (by rw [o1.len]; omega)]
            exact q3
          · cases q3
        have f1' := f1
        rw [show ({ c1 with lam := c1.lam ++ [none], es := c1.es ++ [.row sz []] } : Cx).lam = c2.lam from rfl, hlb, j1] at f1'
        simp only [Option.some.injEq] at f1'
        subst f1'
        have f2' := f2
        simp only [w1] at f2'
        rw [j2] at f2'
        simp only [Option.some.injEq, Obj.cells.injEq] at f2'
        obtain ⟨rfl, rfl, _⟩ := f2'
        intro sz' zs hzz
        have hz' : some (Ent.row sz []) = some (Ent.row sz' zs) := ((set_ne (by omega)).trans hrow).symm.trans hzz
        simp only [Option.some.injEq, Ent.row.injEq] at hz'
        obtain ⟨rfl, rfl⟩ := hz'
        refine ⟨Nat.le_refl _, fun _ => ⟨rfl, .inl ⟨?_, rfl, hlam⟩⟩⟩
        rw [← k8]
        cases hat0 with
        | nil h => exact ⟨_, h⟩
      · obtain ⟨g1, ⟨ez, g2, g2'⟩, zs, g3, g4⟩ := f6 q z hz
        obtain ⟨ez', g5, g6⟩ := hr.ents z ez g2
        exact ⟨g1, ⟨ez', g5, g6.notVar g2'⟩, zs, g3, g4.mono hr ⟨g2, g2'⟩⟩
    · exact hokE y e hyx ((set_ne hyx).symm.trans hy)
  · simp only [c', c2, es1]
    rw [List.set_append_left _ _ (by rw [List.length_set]; omega), List.set_set]

theorem Le.nilRow {n0 : Nat} {s : St} (x : Nat) (p : List Nat) (sz : Nat) {d : D} {tok : List (List Nat × Nat)} (hx : s.es[x]? = some (.var d tok)) (hp : PathOK d p) (hg : d.get p = some .nil) :
    Le n0 s ⟨s.nt, s.fr, s.es.set x (.var (d.set p (.list [])) ((p, s.es.length) :: tokDrop tok p)) ++ [.row sz []]⟩ := by
  have := Le.map (n0 := n0) (s := s) id id (fun _ => rfl) (fun _ _ _ => rfl) (es' := s.es.set x (.var (d.set p (.list [])) ((p, s.es.length) :: tokDrop tok p)) ++ [.row sz []]) fun c hc hce => by
    obtain ⟨c', k1, k2, k3, k4, k5⟩ := Go.W.nilRow hc (x := x) (d := d) (tok := tok) (by rw [hce]; exact hx) hp hg sz
    exact ⟨c', k1, k2, k3, by rw [k4, hce], k5⟩
  exact this

/-- A slot that is nil is a row that is empty: a new entry. -/
theorem Le.slotRow {n0 : Nat} {s : St} (t sz : Nat) (ht : s.fr t = .v (.data .nil)) : Le n0 s ⟨s.nt, fun i => bif Nat.beq i t then .v (.row s.es.length []) else s.fr i, s.es ++ [.row sz []]⟩ := by
  intro c a hc hce hf
  obtain ⟨o1, r1⟩ := addRow hc sz
  refine ⟨{ c with lam := c.lam ++ [none], es := c.es ++ [.row sz []] }, rfl, o1, by simp only [hce], ⟨hf.size, hf.defers, fun i => ?_⟩, fun c0 _ _ hr => hr.trans r1⟩
  have hs := hf.slot i
  by_cases hi : i = t
  · subst hi
    rw [ht] at hs
    have hb : Nat.beq i i = true := Nat.beq_refl i
    simp only [hb, cond_true]
    obtain ⟨av, hv⟩ : ∃ av, a.tmps.getD i undef = .slice av 0 0 := by
      cases hs with
      | data h =>
        have h : DR _ _ _ _ := h
        cases h with
        | nil h => exact ⟨_, h⟩
    rw [hv]
    have hlen : c.es.length = s.es.length := by rw [hce]
    have hrow : (c.es ++ [Ent.row sz []])[s.es.length]? = some (.row sz []) := by
      rw [List.getElem?_append_right (by omega)]; simp [hlen]
    have hlam : (c.lam ++ [none])[s.es.length]? = some none := by
      rw [← hlen, ← hc.len, List.getElem?_append_right (Nat.le_refl _)]; simp
    refine .row (e := .row sz []) ?_ hrow rfl ?_
    · exact DR.list0 rfl (Nat.zero_le _)
    · intro sz' xs' h'
      simp only [hrow, Option.some.injEq, Ent.row.injEq] at h'
      obtain ⟨rfl, rfl⟩ := h'
      exact ⟨Nat.le_refl _, fun _ => ⟨rfl, .inl ⟨⟨av, rfl⟩, rfl, hlam⟩⟩⟩
  · simp only [nbeq_ne hi, cond_false]
    cases hx : s.fr i with
    | v x =>
      rw [hx] at hs
      exact VR.mono r1 hs
    | maybe t' w x =>
      rw [hx] at hs
      exact ⟨fun h => VR.mono r1 (hs.1 h), hs.2⟩

/-- The one entry there is, a row, is an array of our own. -/
theorem Le.rowOwn {s : St} (t sz : Nat) {xs : List D} {f : Nat → D} (hes : s.es = [.row sz xs]) (ht : s.fr t = .v (.row 0 xs)) (hne : xs ≠ []) (hf : ∀ i (h : i < xs.length), xs[i] = f i) (hsz : ∀ i, i < xs.length → (f i).size = sz) (hl : ∀ i, i < xs.length → noList (f i) = true) :
    Le 0 s ⟨s.nt, frOf [(t, .sl 0 0 xs.length xs.length)], [.var (.arr xs.length sz f) []]⟩ := by
  intro c a hc hce hfr
  have hes : c.es = [.row sz xs] := hce.trans hes
  have hs := hfr.slot t
  rw [ht] at hs
  simp only at hs
  have hpos : 0 < xs.length := List.length_pos_iff.2 hne
  have hsh : ∃ b cap cs T, c.lam[0]? = some (some b) ∧ a.tmps.getD t undef = .slice (some ⟨b, 0, none⟩) xs.length cap ∧ c.w.heap[b]? = some (.cells cs T (0, 0)) ∧ cap * sz ≤ cs.size ∧ xs.length ≤ cap ∧ cap ≤ maxLen ∧
      ∀ i, i < xs.length → DR c.w c.fz (f i) (fun o => cellAt c.w b (i * sz + o)) := by
    generalize hg : a.tmps.getD t undef = v at hs
    cases hs with
    | row hd he hv hr =>
      have he0 : c.es[0]? = some (.row sz xs) := by rw [hes]; rfl
      obtain ⟨_, h2⟩ := hr sz xs he0
      obtain ⟨_, h3⟩ := h2 rfl
      rcases h3 with ⟨_, h0, _⟩ | ⟨b, cap, cs, T, h4, h5, h6, h7, h8, h9⟩
      · exact absurd h0 hne
      · subst h5
        refine ⟨b, cap, cs, T, h4, rfl, h6, h7, h8, h9, fun i hi => ?_⟩
        have hd : DR c.w c.fz (.list xs) (fun _ => .slice (some ⟨b, 0, none⟩) xs.length cap) := hd
        cases hd with
        | list0 h _ => simp at hpos
        | @list _ _ b' off cap' es' k1 k2 k3 k4 k5 k6 =>
          simp only [Value.slice.injEq, Option.some.injEq, Addr.mk.injEq] at k1
          obtain ⟨⟨rfl, rfl, _⟩, _, rfl⟩ := k1
          have e1 := k4 i hi
          rw [hf i hi, hsz i hi] at e1
          subst e1
          have := k5 i hi
          rw [hf i hi] at this
          simpa only [Nat.zero_add] using this
  obtain ⟨b, cap, cs, T, h1, h2, h3, h4, h5, h6, h7⟩ := hsh
  have hlen := hc.len
  rw [hes] at hlen
  simp only [List.length_cons, List.length_nil, Nat.zero_add] at hlen
  let fz' : Nat → Nat := fun j => if j = b then 0 else c.fz j
  let c' : Cx := ⟨c.w, fz', c.lam, [.var (.arr xs.length sz f) []]⟩
  have hcell : ∀ i o, i < xs.length → o < sz → cellAt c.w b (i * sz + o) = cs.getD (i * sz + o) undef := fun i o hi ho => by
    have : i * sz + o < cs.size := Nat.lt_of_lt_of_le (mul_lt_of hi ho) (Nat.le_trans (Nat.mul_le_mul_right _ h5) h4)
    unfold cellAt
    rw [cell_of_block h3 this]; rfl
  have hok : CxOK c' := {
    fr := fun j o ho => by
      simp only [c', fz'] at ho
      split at ho
      · omega
      · exact hc.fr j o ho
    len := by simp only [c', List.length_cons, List.length_nil]; exact hlen
    inj := hc.inj
    low := hc.low
    ent := fun x e hx => by
      have hx0 : x = 0 := by
        have := (List.getElem?_eq_some_iff.1 hx).1
        simp only [c', List.length_cons, List.length_nil] at this
        omega
      subst hx0
      simp only [c', List.getElem?_cons_zero, Option.some.injEq] at hx
      subst hx
      refine ⟨b, cs, T, h1, h3, ?_, ?_, by simp only [c', fz', if_true], fun p y hy => by cases hy⟩
      · show xs.length * sz ≤ cs.size
        exact Nat.le_trans (Nat.mul_le_mul_right _ h5) h4
      · refine .arr hsz fun i hi => ?_
        refine ((h7 i hi).noList (hl i hi)).congr fun o ho => ?_
        rw [hsz i hi] at ho
        exact (hcell i o hi ho).symm }
  refine ⟨c', rfl, hok, rfl, ⟨hfr.size, hfr.defers, fun i => ?_⟩, fun c0 hn hc0 hr => ?_⟩
  · by_cases hi : i = t
    · subst hi
      have hb : Nat.beq i i = true := Nat.beq_refl i
      simp only [frOf, hb, cond_true, h2]
      exact .sl (c := c') (lo := 0) (n := xs.length) (k := xs.length) rfl (by omega) h1 ⟨h5, h5, fun _ => by simp⟩ h6 h3 (by simpa using h4)
    · simp only [frOf, nbeq_ne hi, cond_false]
      exact .undef _
  · have hb0 : c0.w.heap.size ≤ b := hr.news 0 b (by omega) h1
    have hz0 : c0.fz b = 0 := hc0.fr.high hb0
    exact {
      size := hr.size
      rest := hr.rest
      ext := fun j => by
        obtain ⟨g1, g2⟩ := hr.ext j
        refine ⟨?_, g2⟩
        simp only [c', fz']
        split
        · rename_i e; subst e; omega
        · exact g1
      keep := hr.keep
      frame := fun j hj hx => by
        obtain ⟨g1, g2⟩ := hr.frame j hj hx
        refine ⟨g1, ?_⟩
        simp only [c', fz']
        rw [if_neg (by omega)]
        exact g2
      ents := fun x e hx => by
        have := (List.getElem?_eq_some_iff.1 hx).1
        omega
      news := fun x j hx hj => hr.news x j hx hj }

/-! ### A test for nil -/

theorem run_eqNil {P : Program} {T e : TypeId} (hu : P.underlying T = some (.slice e)) (w : World) (av : Option Addr) (n cap d : Nat) : (Op.equalIn (d + 1) T (.slice av n cap) (.slice none 0 0)).run P w = .ok av.isNone w := by
  simp only [Op.equalIn, Sem.run_bind, run_underlying hu, Result.andThen_ok]
  cases av <;> simp

theorem W.nilT {P : Program} {tt : TT} (hT : TTok P tt) {c0 : Cx} {Q : Exit → St → Prop} {s : St} {id : Nat} {l1 : List Oper} {o : Oper} {T yT : TypeId} {x : Operand} {d : Nat} (rs : List Hint) {s1 : St} {obs : List Prop} {a : AV} {xs : List D}
    {ti : TI} {e sz by_ : Nat} (hop : o.op = .binOp .eql T x (.const (.slice none 0 0)) yT) (hg : o.guard = none) (hd : o.dst = some d) (hdn : Nat.blt d s1.nt = true) (hti : tt.ti T = some ti) (hk : ti.kind = .slice e sz by_)
    (h : run P tt (l1 ++ [o]).toArray (zipR l1 rs) s = some (s1, obs)) (ho : AllP obs) (hx : s1.look [] x = a) (ha : asList a = some xs)
    (hQ : ∀ b, (b = true → xs = []) → Q .normal (s1.put (some d) (.v (.data (.bool b))) s1.es)) : AWP P c0 (.region id (l1 ++ [o]).toArray false) Q s := fun c act h1 h2 h3 h4 => by
  refine wp_region_lit ?_
  have hz : l1 ++ [o] = (zipR l1 rs).map (·.1) ++ [o] := by rw [zipR_fst]
  have key : ∀ {l : List (Oper × Hint)} {s : St} {obs : List Prop}, run P tt (l1 ++ [o]).toArray l s = some (s1, obs) → AllP obs → ∀ {c : Cx}, CxOK c → c.es = s.es → Reach c0 c → ∀ {act : Act}, FR c act s →
      wpList P (l1 ++ [o]).toArray (QQ c0 Q) (l.map (·.1) ++ [o]) act c.w := by
    intro l
    induction l with
    | nil =>
      intro s obs h ho c hc hes hr act hf
      simp only [run, Option.some.injEq, Prod.mk.injEq] at h
      obtain ⟨rfl, rfl⟩ := h
      refine wpList_step (o := o) (rest := []) fun K hK => ?_
      rw [if_pos (by simp [Region.wanted, hg])]
      have hv := look_sound hf (g := []) (fun p hp => by simp at hp) x
      rw [hx] at hv
      have hdr := asList_VD hv ha
      obtain ⟨av, cap, hav, _, _⟩ := list_shape hdr
      have hu := (tok_slice (hT.ti _ _ hti) hk).1
      have hrun : (execOp act.eval o).run P c.w = .ok (.value (.bool av.isNone)) c.w := by
        have key := run_eqNil (P := P) (T := T) (e := e) hu c.w av xs.length cap 9999
        simp only [execOp, hop, hav]
        simp [eqGuard_plain, Act.eval, binOp, Op.equal, Op.maxDepth, key]
      unfold Oper.wp
      rw [hrun]
      refine hK (act.put o.dst (.bool av.isNone)) c.w ?_
      rw [hd]
      refine ⟨c, s.put (some d) (.v (.data (.bool av.isNone))) s.es, rfl, hc, hr, hes, put_sound (x := .v (.data (.bool av.isNone))) hf (.refl hc) (fun d' hd' => by simp only [Option.some.injEq] at hd'; subst hd'; simpa [Nat.blt_eq] using hdn) (fun _ _ => VR.mkBool _) _, hQ _ fun hn => ?_⟩
      cases hdr with
      | list0 _ _ => rfl
      | list h _ _ _ _ _ =>
        rw [hav] at h
        simp only [Value.slice.injEq] at h
        rw [h.1] at hn
        cases hn
    | cons p l ih =>
      obtain ⟨o', r⟩ := p
      intro s obs h ho c hc hes hr act hf
      simp only [run] at h
      split at h
      case h_2 => cases h
      rename_i s2 ob1 h1
      split at h
      case h_2 => cases h
      rename_i s3 ob2 h2
      simp only [Option.some.injEq, Prod.mk.injEq] at h
      obtain ⟨rfl, rfl⟩ := h
      obtain ⟨o1, o2⟩ := AllP_append ho
      exact wpList_step fun K hK => op_sound hT h1 o1 hc hes hf fun c' a' k1 k2 k3 k4 => hK _ _ (ih h2 o2 k1 k3 (hr.trans k2) k4)
  have := key h ho h1 h3 h2 h4
  rw [zipR_fst] at this
  exact this

/-! ### A function -/

def frA : List AV → Nat → Nat → Sl
  | [], _, _ => .v .undef
  | a :: r, k, i => bif Nat.beq i k then .v a else frA r (k + 1) i

theorem frA_spec : ∀ (l : List AV) (k t : Nat), frA l k t = .v (if k ≤ t then l.getD (t - k) .undef else .undef)
  | [], k, t => by simp [frA]
  | a :: r, k, t => by
    simp only [frA]
    by_cases ht : t = k
    · subst ht
      have : Nat.beq t t = true := Nat.beq_refl t
      simp [this]
    · simp only [nbeq_ne ht, cond_false]
      rw [frA_spec r (k + 1) t]
      rcases Nat.lt_or_ge t k with h | h
      · rw [if_neg (by omega), if_neg (by omega)]
      · rw [if_pos (by omega), if_pos (by omega), show t - k = (t - (k + 1)) + 1 by omega]
        simp

def resAV (tt : TT) (s : St) : ResultVar → Option AV
  | .tmp t => some (s.look [] (.tmp t))
  | .cell p T => xLoad tt s.es T (s.look [] (.tmp p))

def resL (tt : TT) (s : St) : List ResultVar → Option (List AV)
  | [] => some []
  | r :: rs => match resAV tt s r with
    | some v => match resL tt s rs with
      | some vs => some (v :: vs)
      | none => none
    | none => none

def resT : List AV → AV
  | [v] => v
  | vs => .tuple vs

/-- How a function's text ends: the results, the entries. -/
structure Fin (tt : TT) (n0 : Nat) (rs : List ResultVar) (R : AV → List Ent → Prop) (e : Exit) (s : St) : Prop where
  out : (match e with | .normal => True | .ret => True | _ => False) ∧
   ((∃ k vs es', n0 ≤ k ∧ resL tt s rs = some vs ∧ trimEs k k s.es = es' ∧ R (resT (trims k vs)) es') ∨
    ∃ m vs es', (∀ i : Nat, i < n0 → m[i]? = some i) ∧ nodupB m = true ∧ handed m s.es m = some es' ∧ resL tt s rs = some vs ∧ R (resT (pullL m vs)) es')

/-- Some of the entries alone, in another order: those that were there first stay first. -/
theorem Reach.sub {c0 c : Cx} (hr : Reach c0 c) (hc0 : CxOK c0) (hc : CxOK c) {m : List Nat} (hd : nodupB m = true) {es0 : List Ent} (hh : handed m c.es m = some es0) (hm : ∀ i : Nat, i < c0.es.length → m[i]? = some i) : Reach c0 (c.sub m es0) where
  size := hr.size
  rest := hr.rest
  ext := hr.ext
  keep := hr.keep
  frame := hr.frame
  ents := fun x e hx => by
    have hxl := (List.getElem?_eq_some_iff.1 hx).1
    obtain ⟨e', h1, h2⟩ := hr.ents x e hx
    have hmx := hm x hxl
    obtain ⟨e2, k1, k2⟩ := (handed_spec hh).2 x x hmx
    rw [h1] at k1
    simp only [Option.some.injEq] at k1
    subst k1
    have hlam := sub_lam hc hh hmx
    refine ⟨_, k2, ?_⟩
    clear k2
    cases e with
    | var d t =>
      rcases h2 with ⟨d', t', rfl, k2, k3⟩ | ⟨k1, k2⟩
      · exact .inl ⟨d', _, rfl, k2, hlam.trans k3⟩
      · exact .inr ⟨pullE_gone k1, by rw [hlam]; exact k2⟩
    | ref a => obtain ⟨a', rfl, k2⟩ := h2; exact ⟨_, rfl, hlam.trans k2⟩
    | row sz xs => obtain ⟨xs', rfl, k2, k3, k4⟩ := h2; exact ⟨xs', rfl, k2, fun h => hlam.trans (k3 h), by rw [hlam]; exact k4⟩
    | map l => obtain ⟨l', rfl, k2⟩ := h2; exact ⟨l', rfl, hlam.trans k2⟩
    | dead => obtain ⟨rfl, k2⟩ := h2; exact ⟨rfl, hlam.trans k2⟩
  news := fun x b hx hb => by
    have h1 := (List.getElem?_eq_some_iff.1 hb).1
    simp only [Cx.sub, lamsOf, List.length_map] at h1
    have hy := List.getElem?_eq_getElem h1
    rw [sub_lam hc hh hy] at hb
    refine hr.news _ b ?_ hb
    rcases Nat.lt_or_ge m[x] c0.es.length with h | h
    · have := nodupB_inj hd (hm _ h) hy
      omega
    · exact h

theorem results_sound {P : Program} {tt : TT} (hT : TTok P tt) {c : Cx} (hc : CxOK c) {s : St} (hes : c.es = s.es) {a : Act} (hf : FR c a s) : ∀ {rs : List ResultVar} {vs : List AV}, resL tt s rs = some vs →
    ∃ l : List Value, (rs.mapM fun
      | .tmp t => pure (a.tmps.getD t undef)
      | .cell p t => do loadVar t (← asAddr (a.tmps.getD p undef)) : Sem (List Value)).run P c.w = .ok l c.w ∧ l.length = vs.length ∧ ∀ i (h : i < vs.length), VR c vs[i] (l.getD i undef)
  | [], vs, h => by
    simp only [resL, Option.some.injEq] at h
    subst h
    exact ⟨[], by simp, rfl, fun i h => by simp at h⟩
  | r :: rs, vs, h => by
    simp only [resL] at h
    split at h
    case h_2 => cases h
    rename_i v hv
    split at h
    case h_2 => cases h
    rename_i vs' hvs
    simp only [Option.some.injEq] at h
    subst h
    obtain ⟨l, h1, h2, h3⟩ := results_sound hT hc hes hf hvs
    have hone : ∃ x, (match r with
      | .tmp t => pure (a.tmps.getD t undef)
      | .cell p t => do loadVar t (← asAddr (a.tmps.getD p undef)) : Sem Value).run P c.w = .ok x c.w ∧ VR c v x := by
      cases r with
      | tmp t =>
        simp only [resAV, Option.some.injEq] at hv
        subst hv
        exact ⟨_, rfl, look_sound hf (fun p hp => by simp at hp) (.tmp t)⟩
      | cell p T =>
        simp only [resAV] at hv
        rw [← hes] at hv
        obtain ⟨x, k1, k2⟩ := xLoad_sound hT hc hv (look_sound hf (g := []) (fun p hp => by simp at hp) (.tmp p))
        refine ⟨x, ?_, k2⟩
        simp only [Act.eval, Instr.loadAt] at k1
        generalize hpv : a.tmps.getD p undef = pv at k1
        cases pv with
        | pointer q =>
          cases q with
          | some q => simp only [hpv]; simpa [Instr.sureAddr, asAddr] using k1
          | none => simp [Instr.sureAddr] at k1
        | _ => simp [Instr.sureAddr] at k1
    obtain ⟨x, k1, k2⟩ := hone
    refine ⟨x :: l, ?_, by simp [h2], fun i hi => ?_⟩
    · rw [List.mapM_cons]
      simp only [Sem.run_bind] at k1 ⊢
      rw [k1]
      simp only [Result.andThen_ok, h1]
      rfl
    · cases i with
      | zero => exact k2
      | succ i => exact h3 i (by simpa using hi)

/-- All numbers within are of their kinds. -/
inductive InR : D → Prop
  | bool (b : Bool) : InR (.bool b)
  | int {k : IntKind} {n : Int} : k.wrap n = n → InR (.int k n)
  | str {s : ByteArray} : s.size ≤ maxLen → InR (.str s)
  | nil : InR .nil
  | list {xs : List D} : xs.length ≤ maxLen → (∀ i (h : i < xs.length), InR xs[i]) → InR (.list xs)
  | agg {n : Nat} {f : Nat → D} : (∀ i, i < n → InR (f i)) → InR (.agg n f)
  | arr {n es : Nat} {f : Nat → D} : (∀ i, i < n → InR (f i)) → InR (.arr n es f)

theorem DR.inr {w : World} {fz : Nat → Nat} {d : D} {c : Nat → Value} (h : DR w fz d c) : InR d := by
  induction h with
  | bool _ => exact .bool _
  | int _ h => exact .int h
  | str _ h => exact .str h
  | nil _ => exact .nil
  | list0 _ _ => exact .list (Nat.zero_le _) (fun i h => by simp at h)
  | list _ h1 h2 _ _ _ ih => exact .list (Nat.le_trans h1 h2) ih
  | agg _ ih => exact .agg ih
  | arr _ _ ih => exact .arr ih

def InA : AV → Prop
  | .data d => InR d
  | .cptr d => InR d
  | .row _ xs => InR (.list xs)
  | .rich d _ => InR d
  | _ => True

def InE : Ent → Prop
  | .var d _ => InR d
  | _ => True

theorem VR.inA {c : Cx} {a : AV} {v : Value} (h : VR c a v) : InA a := by
  cases h with
  | data h => exact h.cells.2.inr
  | cptr h _ => exact h.inr
  | row h _ _ _ => exact h.cells.2.inr
  | rich h _ => exact h.cells.2.inr
  | _ => trivial

theorem spec_of {P : Program} {tt : TT} (hT : TTok P tt) {f : FuncId} {fn : Func} {code : Code} {args : List AV} {es : List Ent} {R : AV → List Ent → Prop} (hf : P.funcs[f]? = some fn) (hb : fn.body = some code)
    (hn : (fn.name == "runtime.NumGoroutine") = false) (hnt : args.length ≤ fn.ntmps)
    (h : (∀ a ∈ args, InA a) → (∀ e ∈ es, InE e) → ∀ c0 : Cx, CxOK c0 → c0.es = es → AWP P c0 code (Fin tt c0.es.length fn.results.toList R) ⟨fn.ntmps, frA args 0, es⟩) : Spec P f args es R := by
  refine ⟨⟨fn, hf, by rw [hb]; rfl, hn⟩, fun c0 hc0 hes vals hsz hv => ?_⟩
  have hin : ∀ a ∈ args, InA a := fun a ha => by
    obtain ⟨i, hi, rfl⟩ := List.getElem_of_mem ha
    exact (hv i hi).inA
  have hie : ∀ e ∈ es, InE e := fun e he => by
    obtain ⟨i, hi, rfl⟩ := List.getElem_of_mem he
    have := hc0.ent i es[i] (by rw [hes]; simp [hi])
    cases hes2 : es[i] with
    | var d tok => rw [hes2] at this; obtain ⟨_, _, _, _, _, _, e4, _⟩ := this; exact e4.inr
    | _ => trivial
  refine calls_of_wp hf hb (Code.wp_mono (fun e a w => ?_) (h hin hie c0 hc0 hes c0 _ hc0 (.refl hc0) hes ⟨?_, rfl, fun t => ?_⟩))
  · rintro ⟨c, s, rfl, k1, k2, k3, k4, k5⟩
    obtain ⟨⟨k5, k6⟩⟩ := k5
    have k6 : ∃ (l : List Value) (c1 : Cx) (vs : List AV), (fn.results.toList.mapM fun
      | .tmp t => pure (a.tmps.getD t undef)
      | .cell p t => do loadVar t (← asAddr (a.tmps.getD p undef)) : Sem (List Value)).run P c.w = .ok l c.w ∧ c1.w = c.w ∧ CxOK c1 ∧ Reach c0 c1 ∧ l.length = vs.length ∧ (∀ i (h : i < vs.length), VR c1 vs[i] (l.getD i undef)) ∧ R (resT vs) c1.es := by
      rcases k6 with ⟨k, vs0, es', g1, g2, g4, g6⟩ | ⟨m, vs0, es', g1, g2, g3, g4, g6⟩
      · obtain ⟨l, l1, l2', l3'⟩ := results_sound hT k1 k3 k4 g2
        refine ⟨l, c.cut k, trims k vs0, l1, rfl, k1.cut, k2.cut hc0 g1, by rw [trims_map]; simpa using l2', fun i hi => ?_, by simp only [Cx.cut]; rw [k3, g4]; exact g6⟩
        have hi' : i < vs0.length := by rw [trims_map] at hi; simpa using hi
        have : (trims k vs0)[i] = trim k vs0[i] := by simp [trims_map]
        rw [this]
        exact (l3' i hi').cut
      · obtain ⟨l, l1, l2', l3'⟩ := results_sound hT k1 k3 k4 g4
        have hh : handed m c.es m = some es' := by rw [k3]; exact g3
        refine ⟨l, c.sub m es', pullL m vs0, l1, rfl, k1.sub g2 hh, k2.sub hc0 k1 g2 hh g1, by rw [pullL_map]; simpa using l2', fun i hi => ?_, g6⟩
        have hi' : i < vs0.length := by rw [pullL_map] at hi; simpa using hi
        have : (pullL m vs0)[i] = pull m vs0[i] := by simp [pullL_map]
        rw [this]
        exact (l3' i hi').pull k1 hh
    obtain ⟨l, c1, vs, l1, j1, j2, j3, l2, l3, g6⟩ := k6
    have hr : (results fn a.tmps).run P c.w = .ok (if l.length = 1 then l.getD 0 undef else .tuple l.toArray) c.w := by
      unfold results
      rw [Sem.run_bind, Array.mapM_eq_mapM_toList]
      simp only [Sem.run_map]
      refine (congrArg (fun r => Result.andThen (Result.andThen r _) _) l1).trans ?_
      simp only [Result.andThen_ok]
      by_cases hl : l.length = 1
      · obtain ⟨x, rfl⟩ := List.length_eq_one_iff.1 hl
        simp
      · simp [hl]
    have hvr : VR c1 (resT vs) (if l.length = 1 then l.getD 0 undef else .tuple l.toArray) := by
      match vs, l2, l3 with
      | [], l2, l3 => simp only [resT]; rw [if_neg (by simp at l2; simp [l2])]; exact .tuple (by simp [l2]) (fun i h => by simp at h)
      | [v], l2, l3 => simp only [resT]; rw [if_pos (by simpa using l2)]; exact l3 0 (by simp)
      | v :: v' :: r, l2, l3 =>
        simp only [resT]
        rw [if_neg (by simp at l2; omega)]
        exact .tuple (by simp [l2]) (fun i h => by simpa using l3 i h)
    have hfin : ∃ rv v c', Ending.returned (if l.length = 1 then l.getD 0 undef else .tuple l.toArray) = .returned rv ∧ c'.w = c.w ∧ CxOK c' ∧ Reach c0 c' ∧ VR c' v rv ∧ R v c'.es := by
      exact ⟨_, resT vs, c1, rfl, j1, j2, j3, hvr, g6⟩
    cases e with
    | normal => exact ⟨k4.defers, _, hr, hfin⟩
    | ret => exact ⟨k4.defers, _, hr, hfin⟩
    | _ => exact k5.elim
  · simp; omega
  · simp only [frA_spec, Nat.zero_le, if_true, Nat.sub_zero]
    rcases Nat.lt_or_ge t args.length with ht | ht
    · have := hv t ht
      have h1 : (vals ++ Array.replicate (fn.ntmps - vals.size) undef).getD t undef = vals.getD t undef := by
        simp only [Array.getD_eq_getD_getElem?]
        rw [Array.getElem?_append_left (by omega)]
      simp only [h1, List.getD_eq_getElem?_getD, List.getElem?_eq_getElem ht, Option.getD_some]
      exact this
    · simp only [List.getD_eq_getElem?_getD, List.getElem?_eq_none ht, Option.getD_none]
      exact .undef _

end Go.W
