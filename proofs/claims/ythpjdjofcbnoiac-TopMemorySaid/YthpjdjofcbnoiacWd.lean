/-
  Frames; what each operation does to abstract values.
-/
import Derived.Test.YthpjdjofcbnoiacWc
namespace Go.W

inductive Sl where
  | v (a : AV)
  | maybe (t : Nat) (want : Bool) (a : AV)

def Sl.er (d : Nat) : Sl → Sl
  | .v a => .v a
  | .maybe t w a => bif Nat.beq t d then .v .undef else .maybe t w a

structure St where
  nt : Nat
  fr : Nat → Sl
  es : List Ent

def St.put (s : St) (d : Option Nat) (x : Sl) (es : List Ent) : St :=
  match d with
  | some d => { nt := s.nt, fr := fun i => bif Nat.beq i d then x else (s.fr i).er d, es := es }
  | none => { s with es := es }

def beqB : Bool → Bool → Bool
  | true, true => true
  | false, false => true
  | _, _ => false

def inRange : IntKind → Int → Bool
  | .i64, n => decide (-9223372036854775808 ≤ n) && decide (n < 9223372036854775808)
  | .u8, n => decide (0 ≤ n) && decide (n < 256)
  | .i32, n => decide (-2147483648 ≤ n) && decide (n < 2147483648)
  | _, _ => false

def ofValue : Value → AV
  | .bool b => .data (.bool b)
  | .int k n => match inRange k n with
    | true => .data (.int k n)
    | false => .undef
  | .string s => match Nat.ble s.size 1000000 with
    | true => .data (.str s)
    | false => .undef
  | .pointer none => .nilptr
  | .slice none 0 0 => .data .nil
  | .nilFunc => .nilfunc
  | _ => .undef

abbrev GL := List (Nat × Bool)

def isG (t : Nat) (w : Bool) : GL → Bool
  | (t', w') :: r => match Nat.beq t t' with
    | true => match beqB w w' with
      | true => true
      | false => isG t w r
    | false => isG t w r
  | [] => false

def slook (g : GL) : Sl → AV
  | .v a => a
  | .maybe t w a => match isG t w g with
    | true => a
    | false => .undef

def St.look (s : St) (g : GL) : Operand → AV
  | .tmp t => slook g (s.fr t)
  | .const v => ofValue v
  | .func f => .func f []
  | .global _ => .undef

/-- The frame is the machine's. -/
structure FR (c : Cx) (a : Act) (s : St) : Prop where
  size : a.tmps.size = s.nt
  defers : a.defers = []
  slot : ∀ t, match s.fr t with
    | .v x => VR c x (a.tmps.getD t undef)
    | .maybe t' w x => (a.tmps.getD t' undef = .bool w → VR c x (a.tmps.getD t undef)) ∧ (a.tmps.getD t' undef ≠ .bool w → a.tmps.getD t undef = undef)

theorem inRange_wrap {k : IntKind} {n : Int} (h : inRange k n = true) : k.wrap n = n := by
  cases k <;> simp [inRange] at h <;> simp [IntKind.wrap, IntKind.bits, IntKind.signed] <;> omega

theorem beqB_eq {a b : Bool} (h : beqB a b = true) : a = b := by cases a <;> cases b <;> simp_all [beqB]

theorem isG_spec {t : Nat} {w : Bool} : ∀ {g : GL}, isG t w g = true → (t, w) ∈ g
  | [], h => by simp [isG] at h
  | (t', w') :: r, h => by
    simp only [isG] at h
    split at h
    · rename_i h1
      have := Nat.eq_of_beq_eq_true h1
      subst this
      split at h
      · rename_i h2
        have := beqB_eq h2
        subst this
        exact List.mem_cons_self ..
      · exact List.mem_cons_of_mem _ (isG_spec h)
    · exact List.mem_cons_of_mem _ (isG_spec h)

def GOK (a : Act) (g : GL) : Prop := ∀ p ∈ g, a.tmps.getD p.1 undef = .bool p.2

theorem ofValue_VR (c : Cx) (v : Value) : VR c (ofValue v) v := by
  unfold ofValue
  split
  · exact .data (.bool rfl)
  · split
    · rename_i h; exact .data (.int rfl (inRange_wrap h))
    · exact .undef _
  · split
    · rename_i h; exact .data (.str rfl (by have := Nat.le_of_ble_eq_true h; unfold maxLen; omega))
    · exact .undef _
  · exact .nilptr
  · exact .data (.nil rfl)
  · exact .nilfunc
  · exact .undef _

theorem look_sound {c : Cx} {a : Act} {s : St} (h : FR c a s) {g : GL} (hg : GOK a g) (o : Operand) : VR c (s.look g o) (a.eval o) := by
  cases o with
  | tmp t =>
    have h1 := h.slot t
    simp only [St.look, Act.eval]
    cases hs : s.fr t with
    | v x => simp only [hs] at h1; exact h1
    | maybe t' w x =>
      simp only [hs] at h1
      simp only [slook]
      cases hi : isG t' w g with
      | true => exact h1.1 (hg _ (isG_spec hi))
      | false => exact .undef _
  | const v => exact ofValue_VR c v
  | global g => exact .undef _
  | func f => exact .func (caps := []) (cs := #[]) rfl (fun i h => by simp at h)

theorem put_sound {c c' : Cx} {a : Act} {s : St} (h : FR c a s) (hr : Reach c c') {d : Option Nat} {x : Sl} {val : Value} (hd : ∀ d', d = some d' → d' < s.nt)
    (hx : ∀ d', d = some d' → match x with
      | .v x => VR c' x val
      | .maybe t' w x => t' ≠ d' ∧ (a.tmps.getD t' undef = .bool w → VR c' x val) ∧ (a.tmps.getD t' undef ≠ .bool w → val = undef)) (es : List Ent) : FR c' (a.put d val) (s.put d x es) := by
  cases d with
  | none =>
    refine ⟨h.size, h.defers, fun t => ?_⟩
    have h1 := h.slot t
    simp only [St.put, Act.put]
    cases hs : s.fr t with
    | v x => simp only [hs] at h1; exact h1.mono hr
    | maybe t' w x => simp only [hs] at h1; exact ⟨fun h2 => (h1.1 h2).mono hr, h1.2⟩
  | some d =>
    have hlt := hd d rfl
    have hx := hx d rfl
    rw [← h.size] at hlt
    have hsame : (a.put (some d) val).tmps.getD d undef = val := by simp [Act.put, hlt]
    have hother : ∀ t, t ≠ d → (a.put (some d) val).tmps.getD t undef = a.tmps.getD t undef := fun t ht => by
      simp [Act.put, Array.getElem?_setIfInBounds_ne (Ne.symm ht)]
    refine ⟨by simp [Act.put, h.size, St.put], h.defers, fun t => ?_⟩
    have h1 := h.slot t
    simp only [St.put]
    by_cases ht : t = d
    · subst ht
      have : Nat.beq t t = true := Nat.beq_refl t
      simp only [this, cond_true]
      cases x with
      | v x => simp only at hx ⊢; rw [hsame]; exact hx
      | maybe t' w x => simp only at hx ⊢; rw [hsame, hother t' hx.1]; exact hx.2
    · simp only [nbeq_ne ht, cond_false]
      cases hs : s.fr t with
      | v x => simp only [hs] at h1; simp only [Sl.er]; rw [hother t ht]; exact h1.mono hr
      | maybe t' w x =>
        simp only [hs] at h1
        simp only [Sl.er]
        by_cases ht' : t' = d
        · subst ht'
          have : Nat.beq t' t' = true := Nat.beq_refl t'
          simp only [this, cond_true]
          exact .undef _
        · simp only [nbeq_ne ht', cond_false]
          rw [hother t ht, hother t' ht']
          exact ⟨fun h2 => (h1.1 h2).mono hr, h1.2⟩

/-! ### Reading types -/

theorem tok_info {P : Program} {t : TypeId} {x : TI} (h : tokB P t x = true) : ∃ i ds, P.info? t = some i ∧ P.underlying t = some ds ∧ i.size = x.sz := by
  unfold tokB at h
  split at h
  · rename_i i ds h1 h2
    simp only [Bool.and_eq_true] at h
    exact ⟨i, ds, h1, h2, Nat.eq_of_beq_eq_true h.1⟩
  · cases h

theorem tok_agg {P : Program} {t : TypeId} {x : TI} (h : tokB P t x = true) (w : World) : (isAgg t).run P w = .ok x.agg w ∧ (sizeOf t).run P w = .ok x.sz w := by
  obtain ⟨i, ds, h1, h2, h3⟩ := tok_info h
  refine ⟨?_, by simp [sizeOf, typeInfo, h1, h3]⟩
  unfold tokB at h
  simp only [h1, h2, Bool.and_eq_true] at h
  have h4 := h.2
  unfold isAgg
  rw [Sem.run_bind, run_underlying h2 w]
  cases hk : x.kind <;> simp only [hk] at h4 <;> cases ds <;> simp_all

theorem tok_kind {P : Program} {t : TypeId} {x : TI} (h : tokB P t x = true) :
    (∀ k, x.kind = .int k → P.underlying t = some (.int k)) ∧ (x.kind = .bool → P.underlying t = some .bool) ∧ (x.kind = .str → P.underlying t = some .string) := by
  obtain ⟨i, ds, h1, h2, h3⟩ := tok_info h
  unfold tokB at h
  simp only [h1, h2, Bool.and_eq_true] at h
  have h4 := h.2
  refine ⟨fun k hk => ?_, fun hk => ?_, fun hk => ?_⟩ <;> simp only [hk] at h4 <;> cases ds <;> simp_all

theorem tok_struct {P : Program} {t : TypeId} {x : TI} (h : tokB P t x = true) {fs : List (Nat × Nat × TypeId)} (hk : x.kind = .struct fs) :
    ∃ fields : Array Field, P.underlying t = some (.struct fields) ∧ fields.size = fs.length ∧ (∀ (i o s ty : Nat), fs[i]? = some (o, s, ty) → ∃ f, fields[i]? = some f ∧ f.offset = o ∧ f.type = ty ∧ ∀ w, (sizeOf f.type).run P w = .ok s w) ∧
      (x.eq = true → (∀ f ∈ fields.toList, f.name ≠ "_") ∧ P.stoodInHeld t = false ∧ P.eqGuardType P.depth t = false) := by
  obtain ⟨i, ds, h1, h2, h3⟩ := tok_info h
  unfold tokB at h
  simp only [h1, h2, hk, Bool.and_eq_true] at h
  have h4 := h.2
  cases ds <;> simp only [Bool.false_eq_true, Bool.and_eq_true] at h4
  rename_i fields
  obtain ⟨⟨_, h4⟩, h7⟩ := h4
  have h5 := eq_of_beq h4
  refine ⟨fields, h2, by simpa using congrArg List.length h5, fun i o s ty hi => ?_, fun he => ?_⟩
  · have h6 := congrArg (·[i]?) h5
    simp only [List.getElem?_map, hi, Option.map_some] at h6
    cases hf : fields.toList[i]? with
    | none => simp [hf] at h6
    | some f =>
      simp only [hf, Option.map_some, Option.some.injEq, Prod.mk.injEq] at h6
      refine ⟨f, by simpa using hf, h6.1, h6.2.2, fun w => ?_⟩
      cases hq : P.info? f.type with
      | none => simp [hq] at h6
      | some i => simp [hq] at h6; simp [sizeOf, typeInfo, hq, h6.2.1]
  · simp [he] at h7
    refine ⟨fun f hf => ?_, h7.1.2, h7.2⟩
    obtain ⟨i, hi, rfl⟩ := List.getElem_of_mem hf
    simpa using h7.1.1 i (by simpa using hi)

theorem tok_array {P : Program} {t : TypeId} {x : TI} (h : tokB P t x = true) {len es e : Nat} (hk : x.kind = .array len es e) :
    P.underlying t = some (.array len e) ∧ (∀ w, (sizeOf e).run P w = .ok es w) ∧ (∃ i, P.info? e = some i ∧ i.size = es) ∧ (x.eq = true → P.eqGuardType P.depth t = false) := by
  obtain ⟨i, ds, h1, h2, h3⟩ := tok_info h
  unfold tokB at h
  simp only [h1, h2, hk, Bool.and_eq_true] at h
  have h4 := h.2
  cases ds <;> simp only [Bool.false_eq_true, Bool.and_eq_true] at h4
  rename_i n e'
  obtain ⟨⟨⟨⟨_, h4⟩, h5⟩, h6⟩, h7⟩ := h4
  have := Nat.eq_of_beq_eq_true h4
  subst this
  have := Nat.eq_of_beq_eq_true h5
  subst this
  have h5 := eq_of_beq h6
  cases hq : P.info? e with
  | none => simp [hq] at h5
  | some i =>
    simp [hq] at h5
    exact ⟨h2, fun w => by simp [sizeOf, typeInfo, hq, h5], ⟨i, rfl, h5⟩, fun he => by simpa [he] using h7⟩

theorem tok_slice {P : Program} {t : TypeId} {x : TI} (h : tokB P t x = true) {e es b : Nat} (hk : x.kind = .slice e es b) :
    P.underlying t = some (.slice e) ∧ x.agg = false ∧ ∃ i, P.info? e = some i ∧ i.size = es ∧ i.bytes = b := by
  obtain ⟨i, ds, h1, h2, h3⟩ := tok_info h
  unfold tokB at h
  simp only [h1, h2, hk, Bool.and_eq_true] at h
  have h4 := h.2
  cases ds <;> simp only [Bool.false_eq_true, Bool.and_eq_true] at h4
  rename_i e'
  have := Nat.eq_of_beq_eq_true h4.1.2
  subst this
  refine ⟨h2, by simpa using h4.1.1, ?_⟩
  have h5 := eq_of_beq h4.2
  cases hq : P.info? e with
  | none => simp [hq] at h5
  | some i => simp [hq] at h5; exact ⟨i, rfl, h5.1, h5.2⟩

end Go.W
