/-
  Operations on values.
-/
import Derived.Test.YthpjdjofcbnoiacWg
import Derived.Laws.StructEq
import Derived.ChangeKeysEq
namespace Go.W

def kEq : IntKind → IntKind → Bool
  | .i64, .i64 => true
  | .u8, .u8 => true
  | .i32, .i32 => true
  | _, _ => false
theorem kEq_eq {k k' : IntKind} (h : kEq k k' = true) : k = k' := by cases k <;> cases k' <;> simp_all [kEq]

theorem wrap_wrap (k : IntKind) (n : Int) : k.wrap (k.wrap n) = k.wrap n := by
  cases k <;> simp only [IntKind.wrap, IntKind.bits, IntKind.signed] <;> simp <;> omega

/-- Bits, as a number. -/
def bitsOf (op : BinOp) (k : IntKind) (x y : Int) : Int :=
  match op with
  | .and => k.wrap (BitVec.ofInt k.bits x &&& BitVec.ofInt k.bits y).toNat
  | .or => k.wrap (BitVec.ofInt k.bits x ||| BitVec.ofInt k.bits y).toNat
  | _ => 0

def xInts (op : BinOp) (k : IntKind) (a b : Int) : Option (AV × List Prop) :=
  match op with
  | .add => some (.data (.int k (k.wrap (a + b))), [])
  | .sub => some (.data (.int k (k.wrap (a - b))), [])
  | .mul => some (.data (.int k (k.wrap (a * b))), [])
  | .and => some (.data (.int k (bitsOf .and k a b)), [])
  | .or => some (.data (.int k (bitsOf .or k a b)), [])
  | .rem => some (.data (.int k (a.tmod b)), [b ≠ 0, k.wrap (a.tmod b) = a.tmod b])
  | .quo => some (.data (.int k (k.wrap (a.tdiv b))), [b ≠ 0])
  | .eql => some (.data (.bool (a == b)), [])
  | .neq => some (.data (.bool (!(a == b))), [])
  | .lss => some (.data (.bool (decide (a < b))), [])
  | .leq => some (.data (.bool (decide (a ≤ b))), [])
  | .gtr => some (.data (.bool (decide (b < a))), [])
  | .geq => some (.data (.bool (decide (b ≤ a))), [])
  | _ => none

theorem VR.mkInt {c : Cx} {k : IntKind} {n : Int} (h : k.wrap n = n) : VR c (.data (.int k n)) (.int k n) := .data (.int rfl h)
theorem VR.mkBool {c : Cx} (b : Bool) : VR c (.data (.bool b)) (.bool b) := .data (.bool rfl)

theorem eqGuard_int {P : Program} (op : BinOp) (T : TypeId) (x y : Operand) (k k' : IntKind) (a b : Int) (w : World) : (eqGuard op T x y (.int k a) (.int k' b)).run P w = .ok () w := by
  unfold eqGuard; split <;> rfl

theorem xInts_sound {P : Program} {c : Cx} {op : BinOp} {k : IntKind} {a b : Int} {r : AV} {obs : List Prop} (h : xInts op k a b = some (r, obs)) (ho : AllP obs) (T : TypeId) :
    ∃ val, (binOp op T (.int k a) (.int k b)).run P c.w = .ok val c.w ∧ VR c r val := by
  cases op <;> simp only [xInts, Option.some.injEq, Prod.mk.injEq, reduceCtorEq] at h <;> obtain ⟨rfl, rfl⟩ := h
  case rem => exact ⟨_, by simp [binOp, Op.intDiv, ho.1], .mkInt ho.2.1⟩
  case quo => exact ⟨_, by simp [binOp, Op.intDiv, ho.1], .mkInt (wrap_wrap _ _)⟩
  case eql => exact ⟨_, by simp [binOp, Op.intCmp], .mkBool _⟩
  case neq => exact ⟨_, by simp [binOp, Op.intCmp]; rfl, .mkBool _⟩
  case lss => exact ⟨_, by simp [binOp, Op.intCmp], .mkBool _⟩
  case leq => exact ⟨_, by simp [binOp, Op.intCmp], .mkBool _⟩
  case gtr => exact ⟨_, by simp [binOp, Op.intCmp], .mkBool _⟩
  case geq => exact ⟨_, by simp [binOp, Op.intCmp], .mkBool _⟩
  case and => exact ⟨_, by simp [binOp, Op.intBits]; rfl, .mkInt (wrap_wrap _ _)⟩
  case or => exact ⟨_, by simp [binOp, Op.intBits]; rfl, .mkInt (wrap_wrap _ _)⟩
  all_goals exact ⟨_, by simp [binOp, Op.intArith], .mkInt (wrap_wrap _ _)⟩

/-! ### Equality of structs and arrays -/

def eqD : D → D → Bool
  | .bool a, .bool b => a == b
  | .int _ a, .int _ b => a == b
  | .str a, .str b => a.toList == b.toList
  | .agg n f, .agg _ g => allTo n fun i => eqD (f i) (g i)
  | .arr n _ f, .arr _ _ g => allTo n fun i => eqD (f i) (g i)
  | _, _ => false

/-- Is the type one of both data? -/
def eqT (tt : TT) : Nat → TypeId → D → D → Bool
  | 0, _, _, _ => false
  | n + 1, T, d, e => match tt.ti T with
    | none => false
    | some ti => fits d ti && fits e ti && match ti.kind, d, e with
      | .int _, .int k _, .int k' _ => kEq k k'
      | .bool, .bool _, .bool _ => true
      | .str, .str _, .str _ => true
      | .struct fs, .agg m f, .agg m' g => ti.eq && Nat.beq m fs.length && Nat.beq m' fs.length && allTo m fun i => match fs[i]? with
        | some (off, _, ty) => Nat.beq (sumTo (fun j => (f j).size) i) off && Nat.beq (sumTo (fun j => (g j).size) i) off && eqT tt n ty (f i) (g i)
        | none => false
      | .array len es ty, .arr m s f, .arr m' s' g => ti.eq && Nat.beq m len && Nat.beq m' len && Nat.beq s es && Nat.beq s' es && allTo m fun i => eqT tt n ty (f i) (g i)
      | _, _, _ => false

/-- A part of an aggregate is the datum's part. -/
theorem run_part {P : Program} {T : TypeId} {agg : Bool} {sz : Nat} {w : World} (h1 : (isAgg T).run P w = .ok agg w) (h2 : (sizeOf T).run P w = .ok sz w) {fz : Nat → Nat} {d : D} {cs : Array Value} {off : Nat}
    (hd : DR w fz d (fun o => cs.getD (off + o) undef)) (ha : d.isAgg = agg) (hs : d.size = sz) (hb : off + sz ≤ cs.size) : ∃ v, (part T cs off).run P w = .ok v w ∧ VD w fz d v := by
  unfold part
  cases hag : d.isAgg with
  | true =>
    rw [hag] at ha; subst ha
    refine ⟨.agg (cs.extract off (off + sz)), by simp [h1, h2], ?_⟩
    unfold VD
    simp only [hag]
    refine ⟨_, rfl, by simp; omega, hd.congr fun o ho => ?_⟩
    simp [show o < sz by omega]
    rw [Array.getElem?_extract]
    simp [show o < min (off + sz) cs.size - off by omega]
  | false =>
    rw [hag] at ha; subst ha
    have := size_leaf hag
    have hlt : off < cs.size := by omega
    refine ⟨cs.getD off undef, by simp [h1, hlt], ?_⟩
    unfold VD
    simp only [hag]
    refine hd.congr fun o ho => ?_
    have : o = 0 := by omega
    subst this; rfl

theorem VD.agg {w : World} {fz : Nat → Nat} {d : D} {v : Value} (hd : d.isAgg = true) (h : VD w fz d v) : ∃ cs, v = .agg cs ∧ cs.size = d.size ∧ DR w fz d (fun o => cs.getD o undef) := by
  unfold VD at h; simpa only [hd] using h

theorem eqT_fits {tt : TT} {n : Nat} {T : TypeId} {d e : D} (h : eqT tt n T d e = true) : ∃ ti, tt.ti T = some ti ∧ d.isAgg = ti.agg ∧ d.size = ti.sz ∧ e.isAgg = ti.agg ∧ e.size = ti.sz := by
  cases n with
  | zero => simp [eqT] at h
  | succ n =>
    simp only [eqT] at h
    split at h
    · cases h
    rename_i ti hti
    simp only [Bool.and_eq_true] at h
    obtain ⟨f1, f2⟩ := fits_spec h.1.1
    obtain ⟨f3, f4⟩ := fits_spec h.1.2
    exact ⟨ti, hti, f1, f2, f3, f4⟩

/-- Two parts of aggregates, as their data. -/
theorem run_parts {P : Program} {tt : TT} (hT : TTok P tt) {n : Nat} {T : TypeId} {d e : D} (h : eqT tt n T d e = true) {w : World} {fz : Nat → Nat} {xs ys : Array Value} {o o' : Nat}
    (h1 : DR w fz d (fun k => xs.getD (o + k) undef)) (h2 : DR w fz e (fun k => ys.getD (o' + k) undef)) (b1 : o + d.size ≤ xs.size) (b2 : o' + e.size ≤ ys.size) :
    ∃ u v, (part T xs o).run P w = .ok u w ∧ (part T ys o').run P w = .ok v w ∧ VD w fz d u ∧ VD w fz e v := by
  obtain ⟨ti, hti, f1, f2, f3, f4⟩ := eqT_fits h
  obtain ⟨g1, g2⟩ := tok_agg (hT.ti _ _ hti) w
  obtain ⟨u, p1, p2⟩ := run_part g1 g2 h1 f1 f2 (by omega)
  obtain ⟨v, p3, p4⟩ := run_part g1 g2 h2 f3 f4 (by omega)
  exact ⟨u, v, p1, p3, p2, p4⟩

theorem run_eqFieldsW {P : Program} {w : World} (m : Nat) (xs ys : Array Value) (q : Nat → Bool) : ∀ (l : List Field) (k : Nat),
    (∀ i f, l[i]? = some f → f.name ≠ "_" ∧ ∃ u v, (part f.type xs f.offset).run P w = .ok u w ∧ (part f.type ys f.offset).run P w = .ok v w ∧ (Op.equalIn m f.type u v).run P w = .ok (q (k + i)) w) →
    ∃ b, (Op.eqFields m xs ys l).run P w = .ok b w ∧ (b = true ↔ ∀ i, i < l.length → q (k + i) = true)
  | [], k, _ => ⟨true, by simp [Op.eqFields], by simp⟩
  | f :: l, k, h => by
    obtain ⟨h1, u, v, h2, h3, h4⟩ := h 0 f rfl
    obtain ⟨b, h5, h6⟩ := run_eqFieldsW m xs ys q l (k + 1) fun i g hi => by
      have := h (i + 1) g (by simpa using hi)
      rwa [show k + (i + 1) = k + 1 + i by omega] at this
    simp only [Op.eqFields, h1, ne_eq, not_false_eq_true, if_true, Sem.run_bind, h2, h3, h4, Result.andThen_ok, Nat.add_zero]
    cases hq : q k with
    | false =>
      refine ⟨false, by simp, ?_⟩
      simp only [Bool.false_eq_true, false_iff]
      intro h0
      have := h0 0 (by simp)
      simp [hq] at this
    | true =>
      refine ⟨b, by simpa using h5, ?_⟩
      rw [h6]
      constructor
      · intro h0 i hi
        cases i with
        | zero => simpa using hq
        | succ i => rw [show k + (i + 1) = k + 1 + i by omega]; exact h0 i (by simpa using hi)
      · intro h0 i hi
        have := h0 (i + 1) (by simpa using hi)
        rwa [show k + (i + 1) = k + 1 + i by omega] at this

theorem run_eqItemsW {P : Program} {w : World} (m : Nat) (e : TypeId) (c : Nat) (xs ys : Array Value) (q : Nat → Bool) : ∀ (l : List Nat),
    (∀ i ∈ l, ∃ u v, (part e xs (i * c)).run P w = .ok u w ∧ (part e ys (i * c)).run P w = .ok v w ∧ (Op.equalIn m e u v).run P w = .ok (q i) w) →
    ∃ b, (Op.eqItems m e c xs ys l).run P w = .ok b w ∧ (b = true ↔ ∀ i ∈ l, q i = true)
  | [], _ => ⟨true, by simp [Op.eqItems], by simp⟩
  | j :: l, h => by
    obtain ⟨u, v, h2, h3, h4⟩ := h j (List.mem_cons_self ..)
    obtain ⟨b, h5, h6⟩ := run_eqItemsW m e c xs ys q l fun i hi => h i (List.mem_cons_of_mem _ hi)
    simp only [Op.eqItems, Sem.run_bind, h2, h3, h4, Result.andThen_ok]
    cases hq : q j with
    | false => exact ⟨false, by simp, by simp [hq]⟩
    | true => exact ⟨b, by simpa using h5, by rw [h6]; simp [hq]⟩

theorem DR.int' {w : World} {fz : Nat → Nat} {k : IntKind} {n : Int} {v : Value} (h : DR w fz (.int k n) (fun _ => v)) : v = .int k n ∧ k.wrap n = n := by
  cases h with
  | int h1 h2 => exact ⟨h1, h2⟩
theorem DR.bool' {w : World} {fz : Nat → Nat} {b : Bool} {v : Value} (h : DR w fz (.bool b) (fun _ => v)) : v = .bool b := by
  cases h with
  | bool h1 => exact h1
theorem DR.str' {w : World} {fz : Nat → Nat} {s : ByteArray} {v : Value} (h : DR w fz (.str s) (fun _ => v)) : v = .string s ∧ s.size ≤ maxLen := by
  cases h with
  | str h1 h2 => exact ⟨h1, h2⟩

theorem eq_sound {P : Program} {tt : TT} (hT : TTok P tt) {w : World} {fz : Nat → Nat} : ∀ (n m : Nat) (T : TypeId) (d e : D) (u v : Value), n ≤ m → eqT tt n T d e = true → VD w fz d u → VD w fz e v →
    (Op.equalIn m T u v).run P w = .ok (eqD d e) w
  | 0, _, _, _, _, _, _, _, h, _, _ => by simp [eqT] at h
  | n + 1, 0, _, _, _, _, _, hm, _, _, _ => by omega
  | n + 1, m + 1, T, d, e, u, v, hm, h, hu, hv => by
    obtain ⟨ti, hti, f1, f2, f3, f4⟩ := eqT_fits h
    have htok := hT.ti _ _ hti
    have hk := tok_kind htok
    simp only [eqT, hti, Bool.and_eq_true] at h
    replace h := h.2
    split at h
    · rename_i k0 k a k' b hki
      have := kEq_eq h
      subst this
      obtain ⟨hu, _⟩ := (hu.leaf rfl).int'
      obtain ⟨hv, _⟩ := (hv.leaf rfl).int'
      subst hu; subst hv
      rw [run_equalIn_int _ _ _ _ _ _ _ (hk.1 _ hki)]
      rfl
    · rename_i a b hki
      have hu := (hu.leaf rfl).bool'
      have hv := (hv.leaf rfl).bool'
      subst hu; subst hv
      rw [run_equalIn_bool' _ _ _ _ _ (hk.2.1 hki)]
      rfl
    · rename_i a b hki
      obtain ⟨hu, _⟩ := (hu.leaf rfl).str'
      obtain ⟨hv, _⟩ := (hv.leaf rfl).str'
      subst hu; subst hv
      rw [run_equalIn_string _ _ _ _ _ (hk.2.2 hki)]
      rfl
    · rename_i fs k f k' g hki
      simp only [Bool.and_eq_true, allTo_spec] at h
      obtain ⟨⟨⟨he, h1⟩, h2⟩, h3⟩ := h
      have := Nat.eq_of_beq_eq_true h1
      subst this
      have := Nat.eq_of_beq_eq_true h2
      subst this
      obtain ⟨fields, hu1, hfl, hfa, hq⟩ := tok_struct htok hki
      obtain ⟨q1, q2, q3⟩ := hq he
      obtain ⟨xs, rfl, sx, rx⟩ := hu.agg rfl
      obtain ⟨ys, rfl, sy, ry⟩ := hv.agg rfl
      have hfo : P.fieldsOf T = fields := by simp [Program.fieldsOf, hu1]
      rw [run_equalIn_struct w m T xs ys (by rw [hfo]; exact hu1) q2, hfo]
      obtain ⟨b, r1, r2⟩ := run_eqFieldsW (P := P) (w := w) m xs ys (fun i => eqD (f i) (g i)) fields.toList 0 fun i fl hi => by
        have hil : i < fs.length := by
          have := (List.getElem?_eq_some_iff.1 hi).1
          simpa [hfl] using this
        have hb := h3 i hil
        split at hb
        case h_2 => cases hb
        rename_i off sz ty hfs
        simp only [Bool.and_eq_true] at hb
        obtain ⟨⟨b1, b2⟩, b3⟩ := hb
        obtain ⟨fl', k1, k2, k3, _⟩ := hfa i off sz ty hfs
        have : fl' = fl := by
          have : fields.toList[i]? = some fl' := by simpa using k1
          rw [this] at hi; simpa using hi
        subst this
        refine ⟨q1 _ (List.mem_of_getElem? hi), ?_⟩
        rw [k2, k3]
        cases rx with
        | agg rx =>
          cases ry with
          | agg ry =>
            have hx := rx i hil
            have hy := ry i hil
            rw [Nat.eq_of_beq_eq_true b1] at hx
            rw [Nat.eq_of_beq_eq_true b2] at hy
            have l1 := sumTo_mono (fun j => (f j).size) (show i + 1 ≤ fs.length from hil)
            have l2 := sumTo_mono (fun j => (g j).size) (show i + 1 ≤ fs.length from hil)
            simp only [sumTo, Nat.eq_of_beq_eq_true b1] at l1
            simp only [sumTo, Nat.eq_of_beq_eq_true b2] at l2
            simp only [D.size] at sx sy
            obtain ⟨u, v, p1, p2, p3, p4⟩ := run_parts hT b3 hx hy (by omega) (by omega)
            refine ⟨u, v, p1, p2, ?_⟩
            rw [Nat.zero_add]
            exact eq_sound hT n m ty _ _ u v (by omega) b3 p3 p4
      rw [r1]
      congr 1
      rw [Bool.eq_iff_iff, r2]
      simp only [eqD, allTo_spec, Nat.zero_add, Array.length_toList, hfl]
    · rename_i len es ty k s f k' s' g hki
      simp only [Bool.and_eq_true, allTo_spec] at h
      obtain ⟨⟨⟨⟨⟨he, h1⟩, h2⟩, h4⟩, h5⟩, h3⟩ := h
      have := Nat.eq_of_beq_eq_true h1
      subst this
      have := Nat.eq_of_beq_eq_true h2
      subst this
      have := Nat.eq_of_beq_eq_true h4
      subst this
      have := Nat.eq_of_beq_eq_true h5
      subst this
      obtain ⟨g1, g2, ⟨i0, g3, g4⟩, _⟩ := tok_array htok hki
      obtain ⟨xs, rfl, sx, rx⟩ := hu.agg rfl
      obtain ⟨ys, rfl, sy, ry⟩ := hv.agg rfl
      rw [run_equalIn_array w m xs ys g1 g3]
      have hc : P.cellsOf ty = s' := by simp [Program.cellsOf, g3, g4]
      rw [hc]
      obtain ⟨b, r1, r2⟩ := run_eqItemsW (P := P) (w := w) m ty s' xs ys (fun i => eqD (f i) (g i)) (List.range k') fun i hi => by
        have hil : i < k' := by simpa using hi
        have b3 := h3 i hil
        cases rx with
        | arr rs rx =>
          cases ry with
          | arr rs' ry =>
            have hx := rx i hil
            have hy := ry i hil
            have l1 := rs i hil
            have l2 := rs' i hil
            have l3 := mul_le_of (es := s') hil
            simp only [D.size] at sx sy
            obtain ⟨u, v, p1, p2, p3, p4⟩ := run_parts hT b3 hx hy (by omega) (by omega)
            exact ⟨u, v, p1, p2, eq_sound hT n m ty _ _ u v (by omega) b3 p3 p4⟩
      rw [r1]
      congr 1
      rw [Bool.eq_iff_iff, r2]
      simp only [eqD, allTo_spec, List.mem_range]
    · cases h

/-! ### Parts of values -/

def xIndexV (tt : TT) (T : TypeId) (x ix : AV) : Option (AV × List Prop) :=
  match ix with
  | .data (.int _ n) => match x with
    | .data (.arr m s f) => match tt.ti T with
      | none => none
      | some ti => match ti.kind with
        | .array len es e => match tt.ti e with
          | none => none
          | some te => match Nat.beq len m with
            | false => none
            | true => match Nat.beq es s with
              | false => none
              | true => match fits (f n.toNat) te with
                | false => none
                | true => some (.data (f n.toNat), [0 ≤ n ∧ n < (len : Int)])
        | _ => none
    | .data (.str s) => match tt.ti T with
      | none => none
      | some ti => match ti.kind with
        | .str => some (.data (.int .u8 (s.data.getD n.toNat 0).toNat), [0 ≤ n ∧ n < (s.size : Int)])
        | _ => none
    | _ => none
  | _ => none

theorem u8_wrap (b : UInt8) : IntKind.u8.wrap (b.toNat : Int) = b.toNat := by
  have := b.toNat_lt
  simp [IntKind.wrap, IntKind.bits, IntKind.signed]
  omega

theorem xIndexV_sound {P : Program} {tt : TT} (hT : TTok P tt) {c : Cx} {T : TypeId} {x ix a : AV} {obs : List Prop} (h : xIndexV tt T x ix = some (a, obs)) (ho : AllP obs) {xv iv : Value}
    (hx : VR c x xv) (hi : VR c ix iv) : ∃ val, (Instr.index T xv iv).run P c.w = .ok val c.w ∧ VR c a val := by
  unfold xIndexV at h
  split at h
  case h_2 => cases h
  rename_i k n
  obtain ⟨rfl, _⟩ := hi.int
  split at h
  · rename_i m s f
    split at h
    · cases h
    rename_i ti hti
    have htok := hT.ti _ _ hti
    split at h
    case h_2 => cases h
    rename_i len es e hk
    split at h
    · cases h
    rename_i te hte
    split at h
    · cases h
    rename_i hm
    split at h
    · cases h
    rename_i hs
    split at h
    · cases h
    rename_i hf
    have := Nat.eq_of_beq_eq_true hm
    subst this
    have := Nat.eq_of_beq_eq_true hs
    subst this
    simp only [Option.some.injEq, Prod.mk.injEq] at h
    obtain ⟨rfl, rfl⟩ := h
    obtain ⟨⟨o1, o2⟩, _⟩ := ho
    obtain ⟨g1, g2, _, _⟩ := tok_array htok hk
    obtain ⟨f1, f2⟩ := fits_spec hf
    have hte' := tok_agg (hT.ti _ _ hte) c.w
    cases hx with
    | data hx =>
      obtain ⟨cs, rfl, h4, h5⟩ := hx.agg rfl
      cases h5 with
      | arr h6 h7 =>
        have hin : n.toNat < len := by omega
        have hes := h6 _ hin
        have hle := mul_le_of (es := es) hin
        simp only [D.size] at h4
        have hsz : te.sz = es := by omega
        obtain ⟨v, r1, r2⟩ := run_part (d := f n.toNat) (off := n.toNat * es) hte'.1 hte'.2 (h7 _ hin) f1 f2 (by omega)
        refine ⟨v, ?_, .data r2⟩
        simp [Instr.index, asIntOf, run_underlying g1, o1, o2, g2]
        exact r1
  · rename_i s
    split at h
    · cases h
    rename_i ti hti
    have htok := hT.ti _ _ hti
    split at h
    case h_2 => cases h
    rename_i hk
    simp only [Option.some.injEq, Prod.mk.injEq] at h
    obtain ⟨rfl, rfl⟩ := h
    obtain ⟨⟨o1, o2⟩, _⟩ := ho
    obtain ⟨rfl, _⟩ := hx.str
    have g1 := (tok_kind htok).2.2 hk
    have hin : n.toNat < s.size := by omega
    refine ⟨_, ?_, .mkInt (u8_wrap _)⟩
    simp [Instr.index, asIntOf, run_underlying g1, o1, hin]
    rfl
  · cases h

def xFieldV (tt : TT) (T : TypeId) (x : AV) (i : Nat) : Option AV :=
  match x with
  | .data (.agg n f) => match tt.ti T with
    | none => none
    | some ti => match ti.kind with
      | .struct fs => match fs[i]? with
        | some (off, _, ty) => match tt.ti ty with
          | none => none
          | some te => match Nat.blt i n with
            | false => none
            | true => match Nat.beq (sumTo (fun j => (f j).size) i) off with
              | false => none
              | true => match fits (f i) te with
                | false => none
                | true => some (.data (f i))
        | none => none
      | _ => none
  | _ => none

theorem xFieldV_sound {P : Program} {tt : TT} (hT : TTok P tt) {c : Cx} {T : TypeId} {x a : AV} {i : Nat} (h : xFieldV tt T x i = some a) {xv : Value} (hx : VR c x xv) :
    ∃ val, (Instr.field T xv i).run P c.w = .ok val c.w ∧ VR c a val := by
  unfold xFieldV at h
  split at h
  case h_2 => cases h
  rename_i n f
  split at h
  · cases h
  rename_i ti hti
  have htok := hT.ti _ _ hti
  split at h
  case h_2 => cases h
  rename_i fs hk
  split at h
  case h_2 => cases h
  rename_i off sz ty hi
  split at h
  · cases h
  rename_i te hte
  split at h
  · cases h
  rename_i hin
  split at h
  · cases h
  rename_i hoff
  split at h
  · cases h
  rename_i hf
  simp only [Option.some.injEq] at h
  subst h
  have hin : i < n := by simpa [Nat.blt_eq] using hin
  have hoff := Nat.eq_of_beq_eq_true hoff
  obtain ⟨fields, g1, _, g2, _⟩ := tok_struct htok hk
  obtain ⟨fd, g3, g4, g5, _⟩ := g2 i off sz ty hi
  obtain ⟨f1, f2⟩ := fits_spec hf
  have hte' := tok_agg (hT.ti _ _ hte) c.w
  cases hx with
  | data hx =>
    obtain ⟨cs, rfl, h4, h5⟩ := hx.agg rfl
    cases h5 with
    | agg h7 =>
      have hle := sumTo_le (fun j => (f j).size) hin
      simp only [D.size] at h4
      obtain ⟨v, r1, r2⟩ := run_part (d := f i) (off := off) hte'.1 hte'.2 (by have := h7 i hin; rwa [hoff] at this) f1 f2 (by omega)
      refine ⟨v, ?_, .data r2⟩
      simp [Instr.field, run_underlying g1, g3, asAgg, g4, g5]
      exact r1

/-! ### Building -/

def D.width : D → Nat
  | .agg n _ => n
  | .arr n _ _ => n
  | _ => 0

theorem set_nil (d u : D) : d.set [] u = u := by cases d <;> simp [D.set]

def buildTo (z : D) : List (Nat × AV) → Option D
  | [] => some z
  | (i, .data u) :: r => match z.get [i] with
    | some old => match Nat.beq old.size u.size with
      | true => match Nat.blt i z.width with
        | true => buildTo (z.set [i] u) r
        | false => none
      | false => none
    | none => none
  | (i, .rich u _) :: r => match z.get [i] with
    | some old => match Nat.beq old.size u.size with
      | true => match Nat.blt i z.width with
        | true => buildTo (z.set [i] u) r
        | false => none
      | false => none
    | none => none
  | (i, .row _ xs) :: r => match z.get [i] with
    | some old => match Nat.beq old.size 1 with
      | true => match Nat.blt i z.width with
        | true => buildTo (z.set [i] (.list xs)) r
        | false => none
      | false => none
    | none => none
  | _ => none

theorem fold_set (off : Nat) : ∀ (vs : List Value) (j0 : Nat) (cs : Array Value), off + j0 + vs.length ≤ cs.size →
    ((vs.zipIdx j0).foldl (fun cs (c, j) => cs.setIfInBounds (off + j) c) cs).size = cs.size ∧
    ∀ k, ((vs.zipIdx j0).foldl (fun cs (c, j) => cs.setIfInBounds (off + j) c) cs).getD k undef = if off + j0 ≤ k ∧ k < off + j0 + vs.length then vs.getD (k - (off + j0)) undef else cs.getD k undef
  | [], j0, cs, _ => ⟨rfl, fun k => by
    rw [if_neg (by simp)]
    rfl⟩
  | v :: vs, j0, cs, h => by
    simp only [List.length_cons] at h
    have ih := fold_set off vs (j0 + 1) (cs.setIfInBounds (off + j0) v) (by simp; omega)
    simp only [List.zipIdx_cons, List.foldl_cons]
    refine ⟨ih.1.trans (by simp), fun k => ?_⟩
    rw [ih.2 k]
    rcases Nat.lt_or_ge k (off + j0) with h1 | h1
    · rw [if_neg (by omega), if_neg (by omega)]
      simp [Array.getElem?_setIfInBounds_ne (show off + j0 ≠ k by omega)]
    · rcases Nat.eq_or_lt_of_le h1 with h2 | h2
      · subst h2
        rw [if_neg (by omega), if_pos (by simp)]
        simp [show off + j0 < cs.size by omega]
      · rcases Nat.lt_or_ge k (off + j0 + (vs.length + 1)) with h3 | h3
        · rw [if_pos (by omega), if_pos (by simp; omega)]
          rw [show k - (off + j0) = (k - (off + (j0 + 1))) + 1 by omega]
          simp
        · rw [if_neg (by omega), if_neg (by simp; omega)]
          simp [Array.getElem?_setIfInBounds_ne (show off + j0 ≠ k by omega)]

theorem fill_one {place : Nat → Option (Nat × Nat)} {cs : Array Value} {i off : Nat} {v : Value} {rest : List (Nat × Value)} (hp : place i = some (off, v.cells.size)) (hb : off + v.cells.size ≤ cs.size) :
    ∃ cs', Instr.fill place cs ((i, v) :: rest) = Instr.fill place cs' rest ∧ cs'.size = cs.size ∧
      ∀ k, cs'.getD k undef = if off ≤ k ∧ k < off + v.cells.size then v.cells.getD (k - off) undef else cs.getD k undef := by
  have h := fold_set off v.cells.toList 0 cs (by simp; omega)
  refine ⟨v.cells.zipIdx.foldl (fun cs (c, j) => cs.setIfInBounds (off + j) c) cs, ?_, ?_, fun k => ?_⟩
  · simp only [Instr.fill, hp]
    rw [if_neg (by simp; omega)]
  · rw [← Array.foldl_toList]
    simpa using h.1
  · rw [← Array.foldl_toList]
    have := h.2 k
    simp only [Nat.add_zero] at this
    simpa using this

/-- Where the parts of a struct or an array lie. -/
def PlaceOK (place : Nat → Option (Nat × Nat)) (z : D) : Prop :=
  match z with
  | .agg n f => ∀ i, i < n → place i = some (sumTo (fun j => (f j).size) i, (f i).size)
  | .arr n es _ => ∀ i, i < n → place i = some (i * es, es)
  | _ => False

theorem set1_place {place : Nat → Option (Nat × Nat)} {z old u : D} {i : Nat} (hp : PlaceOK place z) (hg : z.get [i] = some old) (hs : old.size = u.size) : PlaceOK place (z.set [i] u) := by
  cases z with
  | agg n f =>
    simp only [D.get, Option.some.injEq] at hg
    simp only [D.set, PlaceOK, set_nil] at *
    have hsz : ∀ j, (bif Nat.beq j i then u else f j).size = (f j).size := by
      intro j
      by_cases hj : j = i
      · subst hj
        have hb : Nat.beq j j = true := Nat.beq_refl j
        simp only [hb, cond_true, hg, hs]
      · simp only [nbeq_ne hj, cond_false]
    have : (fun j => (bif Nat.beq j i then u else f j).size) = fun j => (f j).size := funext hsz
    intro j hj
    rw [hp j hj, hsz j, this]
  | arr n es f => simpa only [D.set, PlaceOK] using hp
  | _ => simp [D.get] at hg

/-- The rows that stand in what is built. -/
def buildTok : List (Nat × AV) → List (List Nat × Nat) → List (List Nat × Nat)
  | [], t => t
  | (i, .rich _ tk) :: r, t => buildTok r (tokPre [i] tk (tokDrop t [i]))
  | (i, .row y _) :: r, t => buildTok r (([i], y) :: tokDrop t [i])
  | (i, _) :: r, t => buildTok r (tokDrop t [i])

/-- Tokens behind a part that is set. -/
theorem TokOK.set1 {c : Cx} {z u old : D} {i : Nat} {tok tk : List (List Nat × Nat)} {f f' : Nat → Value} {v : Value} (hz : TokOK c z tok f) (hu : TokOK c u tk (fun o => v.cells.getD o undef)) (hw : z.WF) (huw : u.WF) (hp : PathOK z [i]) (hg : z.get [i] = some old) (hs : old.size = u.size)
    (hin : ∀ o, o < u.size → f' (z.off [i] + o) = v.cells.getD o undef) (hout : ∀ o, (o < z.off [i] ∨ z.off [i] + u.size ≤ o) → f' o = f o) : TokOK c (z.set [i] u) (tokPre [i] tk (tokDrop tok [i])) f' := by
  have hoff : ∀ j q, j ≠ i → (z.set [i] u).off (j :: q) = z.off (j :: q) := by
    intro j q hj
    cases z with
    | agg n g =>
      have hg : g i = old := by simpa [D.get] using hg
      simp only [D.set, D.off, set_nil, nbeq_ne hj, cond_false]
      congr 1
      have : ∀ k, sumTo (fun j => (bif Nat.beq j i then u else g j).size) k = sumTo (fun j => (g j).size) k := by
        intro k
        have : (fun j => (bif Nat.beq j i then u else g j).size) = fun j => (g j).size := by
          funext j
          by_cases hji : j = i
          · subst hji; rw [Nat.beq_refl, cond_true, hg, hs]
          · rw [nbeq_ne hji, cond_false]
        rw [this]
      exact this j
    | arr n es g => simp only [D.set, D.off, set_nil, nbeq_ne hj, cond_false]
    | _ => rfl
  have hoffi : (z.set [i] u).off [i] = z.off [i] := by
    cases z with
    | agg n g =>
      have hg : g i = old := by simpa [D.get] using hg
      simp only [D.set, D.off, off_nil, set_nil]
      congr 1
      have : (fun j => (bif Nat.beq j i then u else g j).size) = fun j => (g j).size := by
        funext j
        by_cases hji : j = i
        · subst hji; rw [Nat.beq_refl, cond_true, hg, hs]
        · rw [nbeq_ne hji, cond_false]
      rw [this]
    | arr n es g => simp only [D.set, D.off, off_nil]
    | _ => rfl
  have hpi : PathOK (z.set [i] u) [i] := by
    cases z with
    | agg n g => exact ⟨hp.1, by simp [PathOK]⟩
    | arr n es g => exact ⟨hp.1, by simp [PathOK]⟩
    | _ => exact hp
  intro q y hq
  rcases tokPre_mem hq with ⟨q', rfl, hq'⟩ | hq
  · obtain ⟨t1, t2, xs, t3, t4⟩ := hu q' y hq'
    have hgs := get_set_same (u := u) hg
    obtain ⟨j1, j2, _, j4⟩ := path_app (q := q') hgs
    have hb := off_size huw t1 t3
    have hb : u.off q' + 1 ≤ u.size := hb
    refine ⟨j4 hpi t1, t2, xs, by rw [j1]; exact t3, ?_⟩
    rw [j2, hoffi, hin _ (by omega)]
    exact t4
  · obtain ⟨hq1, hq2⟩ := tokDrop_mem hq
    obtain ⟨t1, t2, xs, t3, t4⟩ := hz q y hq1
    obtain ⟨k1, k2⟩ := get_set_other (u := u) hw hp hg t1 t3 hq2
    have hne : ∃ j q'', q = j :: q'' ∧ j ≠ i := by
      cases q with
      | nil =>
        simp only [D.get, Option.some.injEq] at t3
        subst t3
        simp [D.get] at hg
      | cons j q'' =>
        refine ⟨j, q'', rfl, fun h => ?_⟩
        subst h
        simp [pre] at hq2
    obtain ⟨j, q'', rfl, hji⟩ := hne
    refine ⟨?_, t2, xs, k1, ?_⟩
    · cases z with
      | agg n g => simp only [D.set, PathOK, nbeq_ne hji, cond_false] at t1 ⊢; exact t1
      | arr n es g => simp only [D.set, PathOK, nbeq_ne hji, cond_false] at t1 ⊢; exact t1
      | _ => exact t1
    · rw [hoff j q'' hji, hout _ (by omega)]
      exact t4

theorem buildTo_sound {c : Cx} {place : Nat → Option (Nat × Nat)} : ∀ {parts : List (Nat × AV)} {z d : D} {cs : Array Value} {vs : List (Nat × Value)}, buildTo z parts = some d → PlaceOK place z →
    cs.size = z.size → DR c.w c.fz z (fun o => cs.getD o undef) → parts.length = vs.length → (∀ i (h : i < parts.length) (h' : i < vs.length), parts[i].1 = vs[i].1 ∧ VR c parts[i].2 vs[i].2) →
    ∃ cs', Instr.fill place cs vs = some cs' ∧ cs'.size = d.size ∧ DR c.w c.fz d (fun o => cs'.getD o undef) ∧ d.isAgg = z.isAgg ∧ ∀ tok, TokOK c z tok (fun o => cs.getD o undef) → TokOK c d (buildTok parts tok) (fun o => cs'.getD o undef)
  | [], z, d, cs, vs, h, _, hsz, hd, hl, _ => by
    simp only [buildTo, Option.some.injEq] at h
    subst h
    cases vs with
    | nil => exact ⟨cs, rfl, hsz, hd, rfl, fun _ h => h⟩
    | cons v vs => simp at hl
  | (i, a) :: r, z, d, cs, vs, h, hp, hsz, hd, hl, hv => by
    cases vs with
    | nil => simp at hl
    | cons v vs =>
      obtain ⟨iv, v⟩ := v
      have h0 := hv 0 (by simp) (by simp)
      simp only [List.getElem_cons_zero] at h0
      obtain ⟨rfl, h0⟩ := h0
      have step : ∀ (u old : D) (tk : List (List Nat × Nat)), VD c.w c.fz u v → TokOK c u tk (fun o => v.cells.getD o undef) → z.get [i] = some old → old.size = u.size → Nat.blt i z.width = true → buildTo (z.set [i] u) r = some d →
          ∃ cs', Instr.fill place cs ((i, v) :: vs) = some cs' ∧ cs'.size = d.size ∧ DR c.w c.fz d (fun o => cs'.getD o undef) ∧ d.isAgg = z.isAgg ∧ ∀ tok, TokOK c z tok (fun o => cs.getD o undef) → TokOK c d (buildTok r (tokPre [i] tk (tokDrop tok [i]))) (fun o => cs'.getD o undef) := by
        intro u old tk hu htk hg hs hlt hb
        obtain ⟨u1, u2⟩ := hu.cells
        have hpath : PathOK z [i] ∧ place i = some (z.off [i], v.cells.size) := by
          cases z with
          | agg n f =>
            have hlt : i < n := by simpa [Nat.blt_eq, D.width] using hlt
            have h2 : f i = old := by simpa [D.get] using hg
            exact ⟨⟨hlt, by simp [PathOK]⟩, by rw [hp i hlt, u1, ← hs, h2]; simp [D.off]⟩
          | arr n es f =>
            have hlt : i < n := by simpa [Nat.blt_eq, D.width] using hlt
            have h2 : f i = old := by simpa [D.get] using hg
            cases hd with
            | arr he _ => exact ⟨⟨hlt, by simp [PathOK]⟩, by rw [hp i hlt, u1, ← hs, ← h2, he i hlt]; simp [D.off]⟩
          | _ => simp [D.get] at hg
        obtain ⟨hpath, hplace⟩ := hpath
        have hin := off_size hd.wf hpath hg
        obtain ⟨cs', e1, e2, e3⟩ := fill_one (cs := cs) (rest := vs) hplace (by omega)
        have hsz' : (z.set [i] u).size = z.size := by
          cases z with
          | agg n f =>
            have h3 := set1_place hp hg hs
            simp only [D.set, PlaceOK, set_nil] at h3 hp
            simp only [D.set, D.size, set_nil]
            have : ∀ k, k ≤ n → sumTo (fun j => (bif Nat.beq j i then u else f j).size) k = sumTo (fun j => (f j).size) k := by
              intro k
              induction k with
              | zero => intro _; rfl
              | succ k ihk =>
                intro hk
                have h4 := h3 k (by omega)
                rw [hp k (by omega)] at h4
                simp only [Option.some.injEq, Prod.mk.injEq] at h4
                simp only [sumTo]
                omega
            exact this n (Nat.le_refl _)
          | arr n es f => simp only [D.set, D.size]
          | _ => simp [D.get] at hg
        have hd' : DR c.w c.fz (z.set [i] u) (fun o => cs'.getD o undef) := by
          refine hd.set hpath hg hs ?_ fun o ho ho' => ?_
          · refine u2.congr fun o ho => ?_
            rw [e3, if_pos (by omega), show z.off [i] + o - z.off [i] = o by omega]
          · rw [e3, if_neg (by omega)]
        obtain ⟨cs'', g1, g2, g3, g4, g5⟩ := buildTo_sound (c := c) (place := place) (vs := vs) hb (set1_place hp hg hs) (by omega) hd' (by simpa using hl) (fun k hk hk' => by
          have := hv (k + 1) (by simpa using hk) (by simpa using hk')
          simpa using this)
        refine ⟨cs'', e1.trans g1, g2, g3, g4.trans ?_, fun tok ht => g5 _ (ht.set1 htk hd.wf u2.wf hpath hg hs (fun o ho => ?_) fun o ho => ?_)⟩
        · cases z <;> simp [D.set, D.isAgg]
          all_goals simp [D.get] at hg
        · rw [e3, if_pos (by omega), show z.off [i] + o - z.off [i] = o by omega]
        · rw [e3, if_neg (by omega)]
      cases a with
      | data u =>
        simp only [buildTo] at h
        split at h
        case h_2 => cases h
        rename_i old hg
        split at h
        case h_2 => cases h
        rename_i hs
        split at h
        case h_2 => cases h
        rename_i hlt
        cases h0 with
        | data h0 => exact step u old [] h0 (fun _ _ h => by simp at h) hg (Nat.eq_of_beq_eq_true hs) hlt h
      | rich u tk =>
        simp only [buildTo] at h
        split at h
        case h_2 => cases h
        rename_i old hg
        split at h
        case h_2 => cases h
        rename_i hs
        split at h
        case h_2 => cases h
        rename_i hlt
        cases h0 with
        | rich h0 ht => exact step u old tk h0 ht hg (Nat.eq_of_beq_eq_true hs) hlt h
      | row y xs =>
        simp only [buildTo] at h
        split at h
        case h_2 => cases h
        rename_i old hg
        split at h
        case h_2 => cases h
        rename_i hs
        split at h
        case h_2 => cases h
        rename_i hlt
        cases h0 with
        | row h0 h1 h2 h3 =>
          refine step (.list xs) old [([], y)] h0 (fun q z hq => ?_) hg (Nat.eq_of_beq_eq_true hs) hlt h
          simp only [List.mem_cons, Prod.mk.injEq, List.not_mem_nil, or_false] at hq
          obtain ⟨rfl, rfl⟩ := hq
          refine ⟨by simp [PathOK], ⟨_, h1, h2⟩, xs, rfl, ?_⟩
          have hcell : v.cells = #[v] := (DR.leaf_cells rfl (h0.leaf rfl)).1
          simp only [hcell]
          exact h3
      | _ => simp [buildTo] at h

end Go.W
