/-
  Types as the machine sees them; what each operation does to abstract values, and that the model's operation does the same.
-/
import Derived.Test.YthpjdjofcbnoiacWb
import Derived.Deep.MidRow
namespace Go.W

inductive TK where
  | int (k : IntKind)
  | bool
  | str
  | ptr
  | other
  | struct (fs : List (Nat × Nat × TypeId))
  | array (len es e : Nat)
  | slice (elem es by_ : Nat)
  | map (k e : TypeId)

structure TI where
  agg : Bool
  sz : Nat
  kind : TK
  eq : Bool

structure TT where
  ti : TypeId → Option TI
  zero : TypeId → Option D

def tokB (P : Program) (t : TypeId) (x : TI) : Bool :=
  match P.info? t, P.underlying t with
  | some i, some ds => Nat.beq i.size x.sz && (match x.kind, ds with
     | .struct fs, .struct fields => x.agg && ((fields.toList.map fun f => (f.offset, (P.info? f.type).map (·.size), f.type)) == fs.map fun (o, s, t) => (o, some s, t)) &&
         (!x.eq || (fields.toList.all (fun f => f.name != "_") && !P.stoodInHeld t && !P.eqGuardType P.depth t))
     | .struct _, _ => false
     | .array len es e, .array len' e' => x.agg && Nat.beq len len' && Nat.beq e e' && ((P.info? e).map (·.size) == some es) && (!x.eq || !P.eqGuardType P.depth t)
     | .array _ _ _, _ => false
     | .slice e es b, .slice e' => !x.agg && Nat.beq e e' && ((P.info? e').map (fun i => (i.size, i.bytes)) == some (es, b))
     | .slice _ _ _, _ => false
     | .int k, .int k' => !x.agg && k == k'
     | .int _, _ => false
     | .bool, .bool => !x.agg
     | .bool, _ => false
     | .str, .string => !x.agg
     | .str, _ => false
     | .ptr, .pointer _ => !x.agg && (match i.zero with | some (.pointer none) => true | _ => false)
     | .ptr, _ => false
     | .map k e, .map k' e' => !x.agg && Nat.beq k k' && Nat.beq e e' && (match i.zero with | some (.map none) => true | _ => false)
     | .map _ _, _ => false
     | .other, .struct _ => false
     | .other, .array _ _ => false
     | .other, _ => !x.agg)
  | _, _ => false

/-- The cells of a datum that holds no list. -/
def flatTo (f : Nat → List Value) : Nat → List Value
  | 0 => []
  | n + 1 => flatTo f n ++ f n
def D.flat : D → List Value
  | .bool b => [.bool b]
  | .int k n => [.int k n]
  | .str s => [.string s]
  | .nil => [.slice none 0 0]
  | .list _ => [.slice none 0 0]
  | .agg n f => flatTo (fun i => (f i).flat) n
  | .arr n _ f => flatTo (fun i => (f i).flat) n
def flatV (d : D) : Value := if d.isAgg then .agg d.flat.toArray else d.flat.headD undef
def FlatOK : D → Prop
  | .int k n => k.wrap n = n
  | .str s => s.size ≤ maxLen
  | .list xs => xs = []
  | .agg n f => ∀ i, i < n → FlatOK (f i)
  | .arr n es f => ∀ i, i < n → (f i).size = es ∧ FlatOK (f i)
  | .bool _ => True
  | .nil => True

def allTo : Nat → (Nat → Bool) → Bool
  | 0, _ => true
  | n + 1, p => allTo n p && p n

theorem allTo_spec {n : Nat} {p : Nat → Bool} : allTo n p = true ↔ ∀ i, i < n → p i = true := by
  induction n with
  | zero => simp [allTo]
  | succ n ih =>
    simp only [allTo, Bool.and_eq_true, ih]
    constructor
    · rintro ⟨h1, h2⟩ i hi
      rcases Nat.lt_or_ge i n with h | h
      · exact h1 i h
      · have : i = n := by omega
        subst this; exact h2
    · intro h
      exact ⟨fun i hi => h i (by omega), h n (by omega)⟩

/-- The zero datum lies as the type does. -/
def zB (ti : TI) (z : D) : Bool :=
  match ti.kind, z with
  | .struct fs, .agg n f => Nat.beq n fs.length && allTo n fun i => match fs[i]? with
    | some (o, s, _) => Nat.beq o (sumTo (fun j => (f j).size) i) && Nat.beq s (f i).size
    | none => false
  | .array len es _, .arr n s _ => Nat.beq n len && Nat.beq s es
  | .struct _, _ => false
  | .array _ _ _, _ => false
  | _, z => !z.isAgg

structure TTok (P : Program) (tt : TT) : Prop where
  ti : ∀ t x, tt.ti t = some x → tokB P t x = true
  zero : ∀ t d, tt.zero t = some d → (P.info? t).bind (·.zero) = some (flatV d) ∧ FlatOK d ∧ ∃ ti, tt.ti t = some ti ∧ zB ti d = true

theorem flat_length {d : D} : FlatOK d → d.flat.length = d.size := by
  refine D.ind (m := fun d => FlatOK d → d.flat.length = d.size) ?_ ?_ ?_ ?_ ?_ ?_ ?_ d
  case _ => intro b _; rfl
  case _ => intro k n _; rfl
  case _ => intro b _; rfl
  case _ => intro _; rfl
  case _ => intro b _; rfl
  case _ =>
    intro n f ih h
    simp only [D.flat, D.size]
    have : ∀ k, k ≤ n → (flatTo (fun i => (f i).flat) k).length = sumTo (fun i => (f i).size) k := by
      intro k
      induction k with
      | zero => intro _; rfl
      | succ k ihk => intro hk; simp only [flatTo, sumTo, List.length_append]; rw [ihk (by omega), ih k (h k (by omega))]
    exact this n (Nat.le_refl _)
  case _ =>
    intro n es f ih h
    simp only [D.flat, D.size]
    have : ∀ k, k ≤ n → (flatTo (fun i => (f i).flat) k).length = k * es := by
      intro k
      induction k with
      | zero => intro _; simp [flatTo]
      | succ k ihk => intro hk; simp only [flatTo, List.length_append]; rw [ihk (by omega), ih k (h k (by omega)).2, (h k (by omega)).1, Nat.add_mul]; omega
    exact this n (Nat.le_refl _)

theorem flatTo_at (f : Nat → List Value) (g : Nat → Nat) (n : Nat) (hl : ∀ i, i < n → (f i).length = g i) {i o : Nat} (hi : i < n) (ho : o < g i) :
    (flatTo f n).getD (sumTo g i + o) undef = (f i).getD o undef := by
  have hlen : ∀ k, k ≤ n → (flatTo f k).length = sumTo g k := by
    intro k
    induction k with
    | zero => intro _; rfl
    | succ k ihk => intro hk; simp only [flatTo, sumTo, List.length_append]; rw [ihk (by omega), hl k (by omega)]
  have : ∀ k, k ≤ n → i < k → (flatTo f k).getD (sumTo g i + o) undef = (f i).getD o undef := by
    intro k
    induction k with
    | zero => intro _ h; omega
    | succ k ihk =>
      intro hk hik
      simp only [flatTo, List.getD_eq_getElem?_getD]
      rcases Nat.lt_or_ge i k with h | h
      · rw [List.getElem?_append_left (by rw [hlen k (by omega)]; exact sumTo_lt g h ho)]
        simpa [List.getD_eq_getElem?_getD] using ihk (by omega) h
      · have : i = k := by omega
        subst this
        rw [List.getElem?_append_right (by rw [hlen i (by omega)]; omega), hlen i (by omega)]
        congr 2
        omega
  exact this n (Nat.le_refl _) hi

theorem sumTo_const (es : Nat) : ∀ i, sumTo (fun _ => es) i = i * es
  | 0 => by simp [sumTo]
  | i + 1 => by simp only [sumTo, sumTo_const es i, Nat.add_mul]; omega

theorem DR_flat (w : World) (fz : Nat → Nat) {d : D} : FlatOK d → DR w fz d (fun o => d.flat.getD o undef) := by
  refine D.ind (m := fun d => FlatOK d → DR w fz d (fun o => d.flat.getD o undef)) ?_ ?_ ?_ ?_ ?_ ?_ ?_ d
  case _ => intro b _; exact .bool rfl
  case _ => intro k n h; exact .int rfl h
  case _ => intro s h; exact .str rfl h
  case _ => intro _; exact .nil rfl
  case _ => intro xs h; subst h; exact .list0 rfl (Nat.zero_le _)
  case _ =>
    intro n f ih h
    refine .agg fun i hi => (ih i (h i hi)).congr fun o ho => ?_
    exact flatTo_at (fun i => (f i).flat) (fun i => (f i).size) n (fun i hi => flat_length (h i hi)) hi ho
  case _ =>
    intro n es f ih h
    refine .arr (fun i hi => (h i hi).1) fun i hi => (ih i (h i hi).2).congr fun o ho => ?_
    have := flatTo_at (fun i => (f i).flat) (fun _ => es) n (fun i hi => by rw [flat_length (h i hi).2, (h i hi).1]) hi (o := o) ((h i hi).1 ▸ ho)
    rw [sumTo_const] at this
    exact this

theorem VD_flat (w : World) (fz : Nat → Nat) {d : D} (h : FlatOK d) : VD w fz d (flatV d) := by
  unfold VD flatV
  cases hd : d.isAgg with
  | true =>
    simp only [if_true]
    exact ⟨_, rfl, by simp [flat_length h], (DR_flat w fz h).congr fun o _ => by simp⟩
  | false =>
    simp only [Bool.false_eq_true, if_false]
    cases d <;> simp [D.isAgg] at hd
    · exact .bool rfl
    · exact .int rfl h
    · exact .str rfl h
    · exact .nil rfl
    · simp only [FlatOK] at h; subst h; exact .list0 rfl (Nat.zero_le _)

theorem DR.one {w : World} {fz : Nat → Nat} {d : D} {c : Nat → Value} (h : DR w fz d c) : ∀ o, o < d.size → (c o).oneCell' = true := by
  have z : ∀ {o : Nat}, o < 1 → o = 0 := by omega
  induction h with
  | bool h => intro o ho; rw [z ho, h]; rfl
  | int h _ => intro o ho; rw [z ho, h]; rfl
  | str h _ => intro o ho; rw [z ho, h]; rfl
  | nil h => intro o ho; rw [z ho, h]; rfl
  | list0 h _ => intro o ho; rw [z ho, h]; rfl
  | list h _ _ _ _ _ _ => intro o ho; rw [z ho, h]; rfl
  | @agg n f c _ ih =>
    intro o ho
    simp only [D.size] at ho
    have : ∀ k, k ≤ n → o < sumTo (fun i => (f i).size) k → (c o).oneCell' = true := by
      intro k
      induction k with
      | zero => intro _ h; simp [sumTo] at h
      | succ k ihk =>
        intro hk h
        simp only [sumTo] at h
        rcases Nat.lt_or_ge o (sumTo (fun i => (f i).size) k) with h' | h'
        · exact ihk (by omega) h'
        · have := ih k (by omega) (o - sumTo (fun i => (f i).size) k) (by omega)
          dsimp only at this
          rwa [show sumTo (fun j => (f j).size) k + (o - sumTo (fun i => (f i).size) k) = o by omega] at this
    exact this n (Nat.le_refl _) ho
  | @arr n es f c hes _ ih =>
    intro o ho
    simp only [D.size] at ho
    have hpos : 0 < es := by
      rcases Nat.eq_zero_or_pos es with h | h
      · subst h; simp at ho
      · exact h
    have h1 : o / es < n := Nat.div_lt_of_lt_mul (by rw [Nat.mul_comm]; exact ho)
    have h2 := ih (o / es) h1 (o % es) (by rw [hes _ h1]; exact Nat.mod_lt _ hpos)
    dsimp only at h2
    rwa [Nat.div_add_mod' o es] at h2

end Go.W
