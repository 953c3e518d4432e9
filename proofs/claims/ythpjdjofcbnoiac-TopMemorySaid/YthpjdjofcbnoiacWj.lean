/-
  The machine's operation, and that the model's does the same.
-/
import Derived.Test.YthpjdjofcbnoiacWr
namespace Go.W

/-- An arm of && or ||: it may have been skipped if the other is taken. -/
def pickArg (s : St) (g : GL) (t : Nat) (w : Bool) : Operand → AV
  | .tmp u => match s.fr u with
    | .maybe t' w' v => match beqB w w' with
      | true => match Nat.beq t' t with
        | true => v
        | false => slook g (.maybe t' w' v)
      | false => slook g (.maybe t' w' v)
    | .v a => a
  | o => s.look g o

def xPick (s : St) (g : GL) (c a b : Operand) : Option AV :=
  match c with
  | .tmp t => match s.look g (.tmp t) with
    | .data (.bool x) => match pickArg s g t true a with
      | .data (.bool y) => match pickArg s g t false b with
        | .data (.bool z) => some (.data (.bool (bif x then y else z)))
        | _ => none
      | _ => none
    | _ => none
  | _ => none

def xCmp (op : BinOp) (b : Bool) : Option (AV × List Prop) :=
  match op with
  | .eql => some (.data (.bool b), [])
  | .neq => some (.data (.bool (!b)), [])
  | _ => none

def xPtrs (tt : TT) (op : BinOp) (T : TypeId) (b : Bool) : Option (AV × List Prop) :=
  match tt.ti T with
  | none => none
  | some ti => match ti.kind with
    | .ptr => xCmp op b
    | _ => none

def xBin (tt : TT) (op : BinOp) (T : TypeId) (x y : AV) : Option (AV × List Prop) :=
  match x, y with
  | .data (.int k a), .data (.int k' b) => match kEq k k' with
    | true => xInts op k a b
    | false => none
  | .data (.bool a), .data (.bool b) => match tt.ti T with
    | none => none
    | some ti => match ti.kind, op with
      | .bool, .eql => some (.data (.bool (a == b)), [])
      | .bool, .neq => some (.data (.bool (!(a == b))), [])
      | _, _ => none
  | .data (.str a), .data (.str b) => match op with
    | .eql => some (.data (.bool (a.toList == b.toList)), [])
    | .neq => some (.data (.bool (!(a.toList == b.toList))), [])
    | .add => some (.data (.str (a ++ b)), [a.size + b.size ≤ 1000000])
    | _ => none
  | .data (.agg n f), .data (.agg m g) => match eqT tt 12 T (.agg n f) (.agg m g) with
    | true => xCmp op (eqD (.agg n f) (.agg m g))
    | false => none
  | .data (.arr n a f), .data (.arr m b g) => match eqT tt 12 T (.arr n a f) (.arr m b g) with
    | true => xCmp op (eqD (.arr n a f) (.arr m b g))
    | false => none
  | .nilptr, .nilptr => xPtrs tt op T true
  | .nilptr, .ptr _ _ => xPtrs tt op T false
  | .ptr _ _, .nilptr => xPtrs tt op T false
  | .nilptr, .cptr _ => xPtrs tt op T false
  | .cptr _, .nilptr => xPtrs tt op T false
  | _, _ => none

/-- What is said of a call ahead: what it hands back; if it is handed entries, which, and what they are behind it; if it is guarded, whether it is made. -/
structure Hint where
  r : AV
  m : List Nat := []
  e : Option (List Ent) := none
  g : Option Bool := none
  told : Option (Nat × AV) := none
/-- Slot t holds this (which is to be shown). -/
abbrev Hint.is (t : Nat) (v : AV) : Hint := { r := .undef, told := some (t, v) }
abbrev Hint.undef : Hint := { r := .undef }
abbrev Hint.data (d : D) : Hint := { r := .data d }
abbrev Hint.cptr (d : D) : Hint := { r := .cptr d }
abbrev Hint.nilptr : Hint := { r := .nilptr }
abbrev Hint.tuple (vs : List AV) : Hint := { r := .tuple vs }
/-- A call that is handed the entries m; they (and new ones) are es behind it. -/
abbrev Hint.on (m : List Nat) (es : List Ent) (r : AV) : Hint := { r := r, m := m, e := some es }
abbrev Hint.take (h : Hint) : Hint := { h with g := some true }
abbrev Hint.skip (r : AV) : Hint := { r := r, g := some false }

def xLen (es : List Ent) (x : AV) : Option (AV × List Prop) :=
  match x with
  | .sl y _ n _ => match es[y]? with
    | some (.var _ _) => some (.data (.int .i64 n), [])
    | _ => none
  | .data (.list xs) => some (.data (.int .i64 xs.length), [])
  | .data .nil => some (.data (.int .i64 0), [])
  | .row _ xs => some (.data (.int .i64 xs.length), [])
  | _ => none

def xMinMax (b : Builtin) (x y : AV) : Option AV :=
  match x, y with
  | .data (.int k m), .data (.int k' n) => match kEq k k' with
    | true => match b with
      | .max => some (.data (.int k (if m < n then n else m)))
      | .min => some (.data (.int k (if n < m then n else m)))
      | _ => none
    | false => none
  | _, _ => none

/-- A call that is handed entries. -/
def xCallE (P : Program) (es : List Ent) (f : FuncId) (args : List AV) (r : AV) (m : List Nat) (es1 : List Ent) : Option (AV × List Ent × List Prop) :=
  match nodupB m with
  | false => none
  | true => match handed m es m with
    | none => none
    | some es0 => some (push es.length m r, setAll es m (pushEs es.length m es1), [Fn P f (pullL m args) es0 r es1])

def execCall (P : Program) (g : GL) (s : St) (r : Hint) (c : Call) : Option (AV × List Ent × List Prop) :=
  match c.callee with
  | .value f => match s.look g f with
    | .func h caps => match r.e with
      | some es1 => xCallE P s.es h (c.args.toList.map (s.look g) ++ caps) r.r r.m es1
      | none => match xCall P s.es h ((c.args.toList.map fun x => dropRow (s.look g x)) ++ caps) r.r with
        | some (v, obs) => some (v, s.es, obs)
        | none => none
    | _ => none
  | _ => none

/-- One of our arrays is laid into a variable: it is a row from then on. -/
def xStoreOwn (tt : TT) (es : List Ent) (T : TypeId) (x v : AV) : Option (List Ent × List Prop) :=
  match v with
  | .sl z 0 n k => match es[z]? with
    | some (.var (.arr _ sz f) []) => match xStore tt (es.set z (.row sz (lst f 0 n))) T x (.row z (lst f 0 n)) with
      | some (es', obs) => some (es', (0 < k) :: obs)
      | none => none
    | _ => none
  | _ => none

def argsOf (s : St) (g : GL) (args : Array Operand) : List AV := args.toList.map fun x => dropRow (s.look g x)

def partsOf (s : St) (g : GL) (parts : Array (Nat × Operand)) : List (Nat × AV) := parts.toList.map fun (i, x) => (i, s.look g x)

def exec0 (P : Program) (tt : TT) (g : GL) (s : St) (r : Hint) (o : Op) : Option (AV × List Ent × List Prop) :=
  match o with
  | .move x => some (s.look g x, s.es, [])
  | .assign x => some (s.look g x, s.es, [])
  | .pick c a b => match xPick s g c a b with
    | some v => some (v, s.es, [])
    | none => none
  | .nilCheck x => match s.look g x with
    | .ptr y p => some (.ptr y p, s.es, [])
    | .cptr d => some (.cptr d, s.es, [])
    | _ => none
  | .fieldAddr T x i => match xField tt s.es T (s.look g x) i with
    | some v => some (v, s.es, [])
    | none => none
  | .indexAddr T x i => match xIndexAddr tt s.es T (s.look g x) (s.look g i) with
    | some (v, obs) => some (v, s.es, obs)
    | none => none
  | .load T x => match xLoad tt s.es T (s.look g x) with
    | some v => some (v, s.es, [])
    | none => none
  | .store T x v => match g with
    | [] => match xStore tt s.es T (s.look g x) (s.look g v) with
      | some (es, obs) => some (.undef, es, obs)
      | none => match xStoreOwn tt s.es T (s.look g x) (s.look g v) with
        | some (es, obs) => some (.undef, es, obs)
        | none => none
    | _ :: _ => none
  | .alloc T => match g with
    | [] => match tt.zero T with
      | some d => some (.ptr s.es.length [], s.es ++ [.var d []], [])
      | none => match refZ tt T with
        | true => some (.ptr s.es.length [], s.es ++ [.ref .undef], [])
        | false => none
    | _ :: _ => none
  | .makeMap _ none => match g with
    | [] => some (.mp s.es.length, s.es ++ [.map []], [])
    | _ :: _ => none
  | .lookup T x ix false => match xLookup tt s.es T (s.look g x) (dropRow (s.look g ix)) with
    | some (v, obs) => some (v, s.es, obs)
    | none => none
  | .mapUpdate T m k x => match g with
    | [] => match xMapUpd tt s.es T (s.look g m) (dropRow (s.look g k)) (dropRow (s.look g x)) with
      | some (es, obs) => some (.undef, es, obs)
      | none => none
    | _ :: _ => none
  | .box _ x => match g with
    | [] => match s.look g x with
      | .data d => some (.ptr s.es.length [], s.es ++ [.var d []], [])
      | .row y xs => some (.ptr s.es.length [], s.es ++ [.var (.list xs) [([], y)]], [])
      | .rich d tok => some (.ptr s.es.length [], s.es ++ [.var d tok], [])
      | a => match refOK a with
        | true => some (.ptr s.es.length [], s.es ++ [.ref a], [])
        | false => none
    | _ :: _ => none
  | .build T parts => match tt.zero T with
    | some z => match z.isAgg with
      | true => match buildTo z (partsOf s g parts) with
        | some d => some (Go.W.rich d (buildTok (partsOf s g parts) []), s.es, [])
        | none => none
      | false => none
    | none => none
  | .buildSlice T len parts => match len with
    | 0 => match parts.size with
      | 0 => match tt.ti T with
        | some ti => match ti.kind with
          | .slice _ _ _ => some (.data .nil, s.es, [])
          | _ => none
        | none => none
      | _ => none
    | len + 1 => match xBuildS tt T (len + 1) (partsOf s g parts) with
      | some v => some (v, s.es, [])
      | none => none
  | .slice T x lo hi mx => match xSlice tt s.es T (s.look g x) (lo.map (s.look g)) (hi.map (s.look g)) (mx.map (s.look g)) with
    | some (v, obs) => some (v, s.es, obs)
    | none => none
  | .binOp op T x y _ => match xBin tt op T (s.look g x) (s.look g y) with
    | some (v, obs) => some (v, s.es, obs)
    | none => none
  | .unOp .not _ x => match s.look g x with
    | .data (.bool b) => some (.data (.bool (!b)), s.es, [])
    | _ => none
  | .unOp .neg _ x => match s.look g x with
    | .data (.int k n) => some (.data (.int k (k.wrap (0 - n))), s.es, [])
    | _ => none
  | .index T x i => match xIndexV tt T (dropRow (s.look g x)) (s.look g i) with
    | some (v, obs) => some (v, s.es, obs)
    | none => none
  | .field T x i => match xFieldV tt T (dropRow (s.look g x)) i with
    | some v => some (v, s.es, [])
    | none => none
  | .extract x i => match s.look g x with
    | .tuple vs => match vs[i]? with
      | some v => some (v, s.es, [])
      | none => none
    | _ => none
  | .convert src dst x => match tt.ti src with
    | none => none
    | some _ => match s.look g x with
      | .data (.int _ n) => match tt.ti dst with
        | some ti => match ti.kind with
          | .int k => some (.data (.int k (k.wrap n)), s.es, [])
          | _ => none
        | none => none
      | u => match xBytes tt src dst u with
        | some (v, obs) => some (v, s.es, obs)
        | none => none
  | .makeFunc (.func f) first caps => match first.size with
    | 0 => some (.func f (caps.toList.map (s.look g)), s.es, [])
    | _ => none
  | .call c => match c.callee with
    | .value f => match r.e with
      | some _ => match g with
        | [] => execCall P [] s r c
        | _ :: _ => none
      | none => match s.look g f with
        | .func h caps => match xCall P s.es h (argsOf s g c.args ++ caps) r.r with
          | some (v, obs) => some (v, s.es, obs)
          | none => none
        | _ => none
    | .builtin .len => match c.argTypes.toList with
      | t :: _ => match tt.ti t with
        | some ti => match ti.kind with
          | .slice _ _ _ => match c.args.toList with
            | [x] => match xLen s.es (s.look g x) with
              | some (v, obs) => some (v, s.es, obs)
              | none => none
            | _ => none
          | .str => match c.args.toList with
            | [x] => match s.look g x with
              | .data (.str b) => some (.data (.int .i64 b.size), s.es, [])
              | _ => none
            | _ => none
          | _ => none
        | none => none
      | [] => none
    | .builtin .append => match g with
      | [] => match c.argTypes.toList with
        | [t, t'] => match c.args.toList with
          | [x, y] => match xAppend tt s.es t t' (s.look [] x) (s.look [] y) with
            | some (v, es, obs) => some (v, es, obs)
            | none => match xAppendOwn tt s.es t t' (s.look [] x) (s.look [] y) with
              | some (v, es, obs) => some (v, es, obs)
              | none => none
          | _ => none
        | _ => none
      | _ => none
    | .builtin .clear => match g with
      | [] => match c.argTypes.toList with
        | [t] => match c.args.toList with
          | [x] => match xClear tt s.es t (s.look [] x) with
            | some (es, obs) => some (.undef, es, obs)
            | none => none
          | _ => none
        | _ => none
      | _ => none
    | .builtin b => match c.args.toList with
      | [x, y] => match xMinMax b (s.look g x) (s.look g y) with
        | some v => some (v, s.es, [])
        | none => none
      | _ => none
    | _ => none
  | _ => none

theorem cast_wrap {n : Nat} (h : n ≤ maxLen) : IntKind.i64.wrap (n : Int) = n := by
  unfold maxLen at h
  simp [IntKind.wrap, IntKind.bits, IntKind.signed]
  omega

theorem pickArg_sound {c : Cx} {a : Act} {s : St} (hf : FR c a s) {g : GL} (hg : GOK a g) {t : Nat} {w : Bool} (hw : a.tmps.getD t undef = .bool w) (o : Operand) : VR c (pickArg s g t w o) (a.eval o) := by
  cases o with
  | tmp u =>
    have hs := hf.slot u
    have hl := look_sound hf hg (.tmp u)
    simp only [pickArg, St.look, Act.eval] at *
    cases hfr : s.fr u with
    | v x => rw [hfr] at hs; exact hs
    | maybe t' w' v =>
      rw [hfr] at hs hl
      simp only at hs ⊢
      split
      · rename_i h1
        split
        · rename_i h2
          have := Nat.eq_of_beq_eq_true h2
          subst this
          have := beqB_eq h1
          subst this
          exact hs.1 hw
        · exact hl
      · exact hl
  | const v => exact look_sound hf hg (.const v)
  | global v => exact look_sound hf hg (.global v)
  | func v => exact look_sound hf hg (.func v)

theorem xPick_sound {c : Cx} {a : Act} {s : St} (hf : FR c a s) {g : GL} (hg : GOK a g) {x y z : Operand} {v : AV} (h : xPick s g x y z = some v) (P : Program) :
    ∃ val, (do pure (.value (if ← asBool (a.eval x) then a.eval y else a.eval z)) : Sem Next).run P c.w = .ok (.value val) c.w ∧ VR c v val := by
  unfold xPick at h
  split at h
  case h_2 => cases h
  rename_i t
  split at h
  case h_2 => cases h
  rename_i b hb
  have h1 := look_sound hf hg (.tmp t)
  rw [hb] at h1
  have h1 := h1.bool
  have h1' : a.tmps.getD t undef = .bool b := h1
  split at h
  case h_2 => cases h
  rename_i b1 e1
  split at h
  case h_2 => cases h
  rename_i b2 e2
  simp only [Option.some.injEq] at h
  subst h
  refine ⟨.bool (bif b then b1 else b2), ?_, .mkBool _⟩
  rw [h1]
  cases b
  · have := pickArg_sound hf hg h1' z
    rw [e2] at this
    simp [asBool, this.bool]
  · have := pickArg_sound hf hg h1' y
    rw [e1] at this
    simp [asBool, this.bool]

theorem eqGuard_plain {P : Program} (op : BinOp) (T : TypeId) (x y : Operand) (u v : Value) (w : World) (hu : (match u with | .agg _ => false | .nilIface => false | _ => true) = true) : (eqGuard op T x y u v).run P w = .ok () w := by
  unfold eqGuard
  cases op <;> cases u <;> simp at hu <;> rfl

theorem tok_ptr {P : Program} {t : TypeId} {x : TI} (h : tokB P t x = true) (hk : x.kind = .ptr) : ∃ e, P.underlying t = some (.pointer e) := by
  obtain ⟨i, ds, h1, h2, h3⟩ := tok_info h
  unfold tokB at h
  simp only [h1, h2, hk, Bool.and_eq_true] at h
  have h4 := h.2
  cases ds <;> simp_all

theorem xPtrs_sound {P : Program} {tt : TT} (hT : TTok P tt) {c : Cx} {op : BinOp} {T : TypeId} {b : Bool} {v : AV} {obs : List Prop} (h : xPtrs tt op T b = some (v, obs)) {xo yo : Operand} {p q : Option Addr}
    (hb : b = (p.isNone && q.isNone)) (hpq : p = none ∨ q = none) : ∃ val, (do eqGuard op T xo yo (.pointer p) (.pointer q); binOp op T (.pointer p) (.pointer q) : Sem Value).run P c.w = .ok val c.w ∧ VR c v val := by
  unfold xPtrs at h
  split at h
  · cases h
  rename_i ti hti
  split at h
  case h_2 => cases h
  rename_i hk
  obtain ⟨e, hu⟩ := tok_ptr (hT.ti _ _ hti) hk
  have key0 : ∀ d, (Op.equalIn (d + 1) T (.pointer p) (.pointer q)).run P c.w = .ok b c.w := by
    intro d
    subst hb
    simp only [Op.equalIn, Sem.run_bind, run_underlying hu, Result.andThen_ok]
    rcases hpq with rfl | rfl
    · simp
    · cases p <;> simp
  have key := key0 9999
  unfold xCmp at h
  split at h
  · simp only [Option.some.injEq, Prod.mk.injEq] at h
    obtain ⟨rfl, rfl⟩ := h
    exact ⟨_, by simp [eqGuard_plain, binOp, Op.equal, Op.maxDepth, key], .mkBool _⟩
  · simp only [Option.some.injEq, Prod.mk.injEq] at h
    obtain ⟨rfl, rfl⟩ := h
    exact ⟨_, by simp [eqGuard_plain, binOp, Op.equal, Op.maxDepth, key], .mkBool _⟩
  · cases h

theorem eqT_guard {P : Program} {tt : TT} (hT : TTok P tt) {n : Nat} {T : TypeId} {d e : D} (h : eqT tt n T d e = true) (hd : d.isAgg = true) : P.eqGuardType P.depth T = false := by
  cases n with
  | zero => simp [eqT] at h
  | succ n =>
    obtain ⟨ti, hti, _⟩ := eqT_fits h
    have htok := hT.ti _ _ hti
    simp only [eqT, hti, Bool.and_eq_true] at h
    have h2 := h.2
    split at h2
    · simp [D.isAgg] at hd
    · simp [D.isAgg] at hd
    · simp [D.isAgg] at hd
    · simp only [Bool.and_eq_true] at h2
      obtain ⟨_, _, _, _, hq⟩ := tok_struct htok (by assumption)
      exact (hq h2.1.1.1).2.2
    · simp only [Bool.and_eq_true] at h2
      obtain ⟨_, _, _, hq⟩ := tok_array htok (by assumption)
      exact hq h2.1.1.1.1.1
    · cases h2

theorem xEq_sound {P : Program} {tt : TT} (hT : TTok P tt) {c : Cx} {op : BinOp} {T : TypeId} {d e : D} {v : AV} {obs : List Prop} (ht : eqT tt 12 T d e = true) (h : xCmp op (eqD d e) = some (v, obs)) {xo yo : Operand} {xv yv : Value}
    (hd : d.isAgg = true) (he : e.isAgg = true) (hq : P.eqGuardType P.depth T = false) (hx : VR c (.data d) xv) (hy : VR c (.data e) yv) : ∃ val, (do eqGuard op T xo yo xv yv; binOp op T xv yv : Sem Value).run P c.w = .ok val c.w ∧ VR c v val := by
  cases hx with
  | data hx =>
    cases hy with
    | data hy =>
      have key := eq_sound hT 12 10000 T d e xv yv (by omega) ht hx hy
      obtain ⟨xs, rfl, _, _⟩ := hx.agg hd
      obtain ⟨ys, rfl, _, _⟩ := hy.agg he
      unfold xCmp at h
      split at h
      · simp only [Option.some.injEq, Prod.mk.injEq] at h
        obtain ⟨rfl, rfl⟩ := h
        exact ⟨_, by simp [run_eqGuard_agg _ _ _ _ _ _ _ hq, run_eql_struct, key], .mkBool _⟩
      · simp only [Option.some.injEq, Prod.mk.injEq] at h
        obtain ⟨rfl, rfl⟩ := h
        exact ⟨_, by simp [run_eqGuard_agg _ _ _ _ _ _ _ hq, run_neq_struct, key], .mkBool _⟩
      · cases h

theorem VR.ptr' {c : Cx} {x : Nat} {p : List Nat} {v : Value} (h : VR c (.ptr x p) v) : ∃ a, v = .pointer (some a) := by
  cases h with
  | ptr _ _ _ => exact ⟨_, rfl⟩
  | refp _ _ => exact ⟨_, rfl⟩
  | ptrgone _ _ => exact ⟨_, rfl⟩
theorem VR.cptr' {c : Cx} {d : D} {v : Value} (h : VR c (.cptr d) v) : ∃ a, v = .pointer (some a) := by
  cases h with
  | cptr _ _ => exact ⟨_, rfl⟩
theorem VR.nilptr' {c : Cx} {v : Value} (h : VR c .nilptr v) : v = .pointer none := by
  cases h with
  | nilptr => rfl

theorem xBin_sound {P : Program} {tt : TT} (hT : TTok P tt) {c : Cx} {op : BinOp} {T : TypeId} {x y v : AV} {obs : List Prop} (h : xBin tt op T x y = some (v, obs)) (ho : AllP obs) {xo yo : Operand} {xv yv : Value}
    (hx : VR c x xv) (hy : VR c y yv) : ∃ val, (do eqGuard op T xo yo xv yv; binOp op T xv yv : Sem Value).run P c.w = .ok val c.w ∧ VR c v val := by
  unfold xBin at h
  split at h
  · rename_i k a k' b
    split at h
    case h_2 => cases h
    rename_i hk
    have := kEq_eq hk
    subst this
    obtain ⟨rfl, _⟩ := hx.int
    obtain ⟨rfl, _⟩ := hy.int
    obtain ⟨val, h1, h2⟩ := xInts_sound (P := P) (c := c) h ho T
    exact ⟨val, by simp [eqGuard_int, h1], h2⟩
  · rename_i a b
    have hx := hx.bool
    have hy := hy.bool
    subst hx; subst hy
    split at h
    · cases h
    rename_i ti hti
    have hk := (tok_kind (hT.ti _ _ hti)).2.1
    split at h
    · rename_i hb
      have := hk hb
      simp only [Option.some.injEq, Prod.mk.injEq] at h
      obtain ⟨rfl, rfl⟩ := h
      exact ⟨_, by simp [eqGuard_plain, binOp, Op.equal, Op.maxDepth, run_equalIn_bool _ 9999 _ _ _ this], .mkBool _⟩
    · rename_i hb
      have := hk hb
      simp only [Option.some.injEq, Prod.mk.injEq] at h
      obtain ⟨rfl, rfl⟩ := h
      exact ⟨_, by simp [eqGuard_plain, binOp, Op.equal, Op.maxDepth, run_equalIn_bool _ 9999 _ _ _ this], .mkBool _⟩
    · cases h
  · rename_i a b
    obtain ⟨rfl, _⟩ := hx.str
    obtain ⟨rfl, _⟩ := hy.str
    split at h
    · simp only [Option.some.injEq, Prod.mk.injEq] at h
      obtain ⟨rfl, rfl⟩ := h
      exact ⟨_, by simp [eqGuard_plain, binOp, Op.stringOp], .mkBool _⟩
    · simp only [Option.some.injEq, Prod.mk.injEq] at h
      obtain ⟨rfl, rfl⟩ := h
      exact ⟨_, by simp [eqGuard_plain, binOp, Op.stringOp], .mkBool _⟩
    · simp only [Option.some.injEq, Prod.mk.injEq] at h
      obtain ⟨rfl, rfl⟩ := h
      have h1 := ho.1
      refine ⟨.string (a ++ b), ?_, .data (.str rfl (by unfold maxLen; simp; omega))⟩
      have : ¬ ((a.size + b.size : Nat) : Int) > IntKind.i64.max := by simp [IntKind.max, IntKind.signed, IntKind.bits]; omega
      simp only [Sem.run_bind, eqGuard_plain (P := P) .add T xo yo (.string a) (.string b) c.w rfl, Result.andThen_ok, binOp, Op.stringOp]
      rw [if_neg this]
      rfl
    · cases h
  · split at h
    case h_2 => cases h
    rename_i ht
    exact xEq_sound hT ht h rfl rfl (eqT_guard hT ht rfl) hx hy
  · split at h
    case h_2 => cases h
    rename_i ht
    exact xEq_sound hT ht h rfl rfl (eqT_guard hT ht rfl) hx hy
  · have := hx.nilptr'
    subst this
    have := hy.nilptr'
    subst this
    exact xPtrs_sound hT h rfl (.inl rfl)
  · have := hx.nilptr'
    subst this
    obtain ⟨a, rfl⟩ := hy.ptr'
    exact xPtrs_sound hT h rfl (.inl rfl)
  · have := hy.nilptr'
    subst this
    obtain ⟨a, rfl⟩ := hx.ptr'
    exact xPtrs_sound hT h rfl (.inr rfl)
  · have := hx.nilptr'
    subst this
    obtain ⟨a, rfl⟩ := hy.cptr'
    exact xPtrs_sound hT h rfl (.inl rfl)
  · have := hy.nilptr'
    subst this
    obtain ⟨a, rfl⟩ := hx.cptr'
    exact xPtrs_sound hT h rfl (.inr rfl)
  · cases h

theorem xLen_sound {P : Program} {tt : TT} (hT : TTok P tt) {c : Cx} {t : TypeId} {ti : TI} (hti : tt.ti t = some ti) {e es b : Nat} (hk : ti.kind = .slice e es b) {x v : AV} {obs : List Prop} (h : xLen c.es x = some (v, obs))
    {xv : Value} (hx : VR c x xv) (ty : TypeId) (rest : List TypeId) : ∃ val, (Builtin.len_ (t :: rest).toArray ty #[xv]).run P c.w = .ok val c.w ∧ VR c v val := by
  have hu := (tok_slice (hT.ti _ _ hti) hk).1
  have key : ∀ xs : List D, VD c.w c.fz (.list xs) xv → ∃ a cap, xv = .slice a xs.length cap ∧ xs.length ≤ maxLen := by
    intro xs h
    cases h.leaf rfl with
    | list0 h _ => exact ⟨_, _, h, Nat.zero_le _⟩
    | list h h2 h3 => exact ⟨_, _, h, Nat.le_trans h2 h3⟩
  have fin : ∀ (a : Option Addr) (n cap : Nat), xv = .slice a n cap → n ≤ maxLen → ∃ val, (Builtin.len_ (t :: rest).toArray ty #[xv]).run P c.w = .ok val c.w ∧ VR c (.data (.int .i64 n)) val := by
    intro a n cap hx hn
    subst hx
    exact ⟨_, by simp [Builtin.len_, run_underlying hu, goInt], .mkInt (cast_wrap hn)⟩
  unfold xLen at h
  split at h
  · split at h
    case h_2 => cases h
    rename_i hy
    simp only [Option.some.injEq, Prod.mk.injEq] at h
    obtain ⟨rfl, rfl⟩ := h
    cases hx with
    | slgone h1 h2 => exact (gone_var hy h1 h2).elim
    | sl h1 h2 h3 h4 h5 h6 h7 => exact fin _ _ _ rfl (by omega)
  · simp only [Option.some.injEq, Prod.mk.injEq] at h
    obtain ⟨rfl, rfl⟩ := h
    cases hx with
    | data hx => obtain ⟨a, cap, h1, h2⟩ := key _ hx; exact fin a _ cap h1 h2
  · simp only [Option.some.injEq, Prod.mk.injEq] at h
    obtain ⟨rfl, rfl⟩ := h
    cases hx with
    | data hx => cases hx.leaf rfl with
      | nil h => exact fin _ _ _ h (Nat.zero_le _)
  · simp only [Option.some.injEq, Prod.mk.injEq] at h
    obtain ⟨rfl, rfl⟩ := h
    cases hx with
    | row hx _ _ _ => obtain ⟨a, cap, h1, h2⟩ := key _ hx; exact fin a _ cap h1 h2
  · cases h

theorem VD_box {w : World} {fz : Nat → Nat} {d : D} {v : Value} (h : VD w fz d v) : v.cells.size = d.size ∧ DR w fz d (fun o => v.cells.getD o undef) := h.cells

theorem ref_cells {c : Cx} {a : AV} {v : Value} (ha : refOK a = true) (h : VR c a v) : v.cells = #[v] := by
  cases h <;> simp [refOK] at ha <;> rfl

theorem run_map_places {P : Program} (w : World) : ∀ (l : List Field) (fs : List (Nat × Nat × TypeId)), l.length = fs.length →
    (∀ (i o s ty : Nat), fs[i]? = some (o, s, ty) → ∃ f, l[i]? = some f ∧ f.offset = o ∧ ∀ w, (sizeOf f.type).run P w = .ok s w) →
    (l.mapM fun f => Prod.mk f.offset <$> sizeOf f.type).run P w = .ok (fs.map fun (o, s, _) => (o, s)) w
  | [], [], _, _ => by simp
  | [], _ :: _, h, _ => by simp at h
  | _ :: _, [], h, _ => by simp at h
  | f :: l, (o, s, ty) :: fs, h, hf => by
    obtain ⟨f', h1, h2, h3⟩ := hf 0 o s ty rfl
    simp at h1
    subst h1
    have ih := run_map_places w l fs (by simpa using h) (fun i o s ty hi => by
      obtain ⟨f', h1, h2⟩ := hf (i + 1) o s ty (by simpa using hi)
      exact ⟨f', by simpa using h1, h2⟩)
    simp [List.mapM_cons, h3, ih, h2]

theorem build_sound {P : Program} {tt : TT} (hT : TTok P tt) {c : Cx} {T : TypeId} {z d : D} (hz : tt.zero T = some z) (hag : z.isAgg = true)
    {parts : List (Nat × AV)} (h : buildTo z parts = some d) {vs : Array (Nat × Value)} (hl : parts.length = vs.size)
    (hv : ∀ i (h : i < parts.length) (h' : i < vs.size), parts[i].1 = vs[i].1 ∧ VR c parts[i].2 vs[i].2) : ∃ val, (Instr.build T vs).run P c.w = .ok val c.w ∧ VR c (Go.W.rich d (buildTok parts [])) val := by
  obtain ⟨z1, z2, ti, hti, hzb⟩ := hT.zero _ _ hz
  have htok := hT.ti _ _ hti
  have hzv : (zeroValue T).run P c.w = .ok (flatV z) c.w := by
    unfold zeroValue typeInfo
    cases hq : P.info? T with
    | none => simp [hq] at z1
    | some i => simp [hq] at z1; simp [hq, z1]
  have hvd := VD_flat c.w c.fz z2
  obtain ⟨cs0, hcs0, hsz0, hd0⟩ := hvd.agg hag
  have hfin : ∀ place : Nat → Option (Nat × Nat), PlaceOK place z → ∃ cs', Instr.fill place cs0 vs.toList = some cs' ∧ VR c (Go.W.rich d (buildTok parts [])) (.agg cs') := by
    intro place hp
    obtain ⟨cs', e1, e2, e3, e4, e5⟩ := buildTo_sound (c := c) (vs := vs.toList) h hp hsz0 hd0 (by rw [hl]; simp) (fun i hi hi' => by
      have := hv i hi (by simpa using hi')
      simpa using this)
    refine ⟨cs', e1, VR.mkRich ?_ (e5 [] fun _ _ h => by simp at h)⟩
    unfold VD
    rw [e4, hag]
    exact ⟨cs', rfl, e2, e3⟩
  unfold zB at hzb
  split at hzb
  · rename_i fs n f hk
    simp only [Bool.and_eq_true, allTo_spec] at hzb
    have hn := Nat.eq_of_beq_eq_true hzb.1
    subst hn
    obtain ⟨fields, g1, g0, g2, _⟩ := tok_struct htok hk
    have hmap := run_map_places (P := P) c.w fields.toList fs (by simpa using g0) (fun i o s ty hi => by
      obtain ⟨fd, k1, k2, _, k3⟩ := g2 i o s ty hi
      exact ⟨fd, by simpa using k1, k2, k3⟩)
    obtain ⟨cs', e1, e2⟩ := hfin ((fs.map fun (o, s, _) => (o, s)).toArray[·]?) (fun i hi => by
      have h1 := hzb.2 i hi
      split at h1
      · rename_i o s ty hfs
        simp only [Bool.and_eq_true] at h1
        simp [hfs, Nat.eq_of_beq_eq_true h1.1, Nat.eq_of_beq_eq_true h1.2]
      · cases h1)
    refine ⟨.agg cs', ?_, e2⟩
    simp [Instr.build, hzv, run_underlying g1, hcs0, Value.cells, Array.mapM_eq_mapM_toList, hmap]
    simp at e1
    simp [e1]
  · rename_i len es e n s f hk
    simp only [Bool.and_eq_true] at hzb
    have := Nat.eq_of_beq_eq_true hzb.1
    subst this
    have := Nat.eq_of_beq_eq_true hzb.2
    subst this
    obtain ⟨g1, g2, _, _⟩ := tok_array htok hk
    obtain ⟨cs', e1, e2⟩ := hfin (fun i => some (i * s, s)) (fun i hi => rfl)
    refine ⟨.agg cs', ?_, e2⟩
    simp [Instr.build, hzv, run_underlying g1, hcs0, Value.cells, g2]
    simp [e1]
  · cases hzb
  · cases hzb
  · rw [hag] at hzb; cases hzb

theorem xMinMax_sound {P : Program} {c : Cx} {b : Builtin} {x y v : AV} (h : xMinMax b x y = some v) {xv yv : Value} (hx : VR c x xv) (hy : VR c y yv) (ts : Array TypeId) (ty : TypeId) :
    ∃ val, ((match b with | .max => Builtin.max_ ts ty #[xv, yv] | _ => Builtin.min_ ts ty #[xv, yv]) : Sem Value).run P c.w = .ok val c.w ∧ VR c v val ∧ (b = .max ∨ b = .min) := by
  unfold xMinMax at h
  split at h
  case h_2 => cases h
  rename_i k m k' n
  split at h
  case h_2 => cases h
  rename_i hk
  have := kEq_eq hk
  subst this
  obtain ⟨rfl, h1⟩ := hx.int
  obtain ⟨rfl, h2⟩ := hy.int
  split at h
  · simp only [Option.some.injEq] at h
    subst h
    exact ⟨_, by simp [Builtin.max_, Builtin.max2], .mkInt (by split <;> assumption), .inl rfl⟩
  · simp only [Option.some.injEq] at h
    subst h
    exact ⟨_, by simp [Builtin.min_, Builtin.min2], .mkInt (by split <;> assumption), .inr rfl⟩
  · cases h

theorem execCall_sound {P : Program} {g : GL} {s : St} {r : Hint} {o : Oper} {cl : Call} (hop : o.op = .call cl) {v : AV} {es' : List Ent} {obs : List Prop} (h : execCall P g s r cl = some (v, es', obs)) (ho : AllP obs)
    {c : Cx} (hc : CxOK c) (hes : c.es = s.es) {a : Act} (hf : FR c a s) (hg : GOK a g) : OpS P o a c v es' := by
  have look : ∀ x, VR c (s.look g x) (a.eval x) := look_sound hf hg
  unfold execCall at h
  split at h
  case h_2 => cases h
  rename_i f hcal
  have hx := look f
  split at h
  case h_2 => cases h
  rename_i k caps hl
  rw [hl] at hx
  generalize hfv : a.eval f = fv at hx
  cases hx with
  | @func _ _ cs h1 h2 =>
    have args : ∀ (tr : AV → AV), (∀ {a v}, VR c a v → VR c (tr a) v) → ((cl.args.toList.map fun x => tr (s.look g x)) ++ caps).length = (cl.args.map a.eval ++ cs).size ∧
        ∀ i (h : i < ((cl.args.toList.map fun x => tr (s.look g x)) ++ caps).length), VR c ((cl.args.toList.map fun x => tr (s.look g x)) ++ caps)[i] ((cl.args.map a.eval ++ cs).getD i Go.undef) := by
      intro tr htr
      refine ⟨by simp [h1], fun i hi => ?_⟩
      simp only [List.length_append] at hi
      have hsz : (cl.args.toList.map fun x => tr (s.look g x)).length = cl.args.size := by simp
      rcases Nat.lt_or_ge i (cl.args.toList.map fun x => tr (s.look g x)).length with hlt | hge
      · rw [List.getElem_append_left hlt]
        have hlt' : i < cl.args.size := by rw [hsz] at hlt; exact hlt
        simp only [List.getElem_map, Array.getElem_toList]
        have : (cl.args.map a.eval ++ cs).getD i Go.undef = a.eval cl.args[i] := by
          simp [Array.getD, show i < cl.args.size + cs.size by omega, Array.getElem_append, hlt']
        rw [this]
        exact htr (look _)
      · rw [List.getElem_append_right hge]
        have := h2 (i - (cl.args.toList.map fun x => tr (s.look g x)).length) (by omega)
        have he : (cl.args.map a.eval ++ cs).getD i Go.undef = cs.getD (i - (cl.args.toList.map fun x => tr (s.look g x)).length) Go.undef := by
          rw [hsz]
          simp only [Array.getD_eq_getD_getElem?]
          rw [Array.getElem?_append_right (by simp; omega)]
          simp
        rw [he]
        exact this
    have hrun : FnOK P k → (execOp a.eval o).run P c.w = .ok (.enter k (cl.args.map a.eval ++ cs)) c.w := fun hk => by
      simp [execOp, hop, resolve, hcal, hfv, Deferred.ofValue, invoke, run_callFunc hk]
    split at h
    · rename_i es1 _
      unfold xCallE at h
      split at h
      · cases h
      rename_i hnd
      split at h
      · cases h
      rename_i es0 hh
      simp only [Option.some.injEq, Prod.mk.injEq] at h
      obtain ⟨rfl, rfl, rfl⟩ := h
      have hfn := ho.1
      obtain ⟨k1, k2⟩ := args id id
      have hcall := Fn.call hfn hc hnd (by rw [hes]; exact hh) rfl (vals := cl.args.map a.eval ++ cs) k1.symm k2
      intro next Q hn
      unfold Oper.wp
      rw [hrun hfn.1]
      refine hcall.mono fun e w' => ?_
      rintro ⟨rv, c', rfl, rfl, g1, g2, g3, g4⟩
      exact hn rv c' g1 g2 (by rw [g4, hes]) (by rw [← hes]; exact g3)
    · split at h
      case h_2 => cases h
      rename_i v' ob hpl
      simp only [Option.some.injEq, Prod.mk.injEq] at h
      obtain ⟨rfl, rfl, rfl⟩ := h
      rw [← hes] at hpl
      obtain ⟨k1, k2⟩ := args dropRow (fun h => h.dropRow)
      have hc2 := xCall_sound hc hpl ho (vals := cl.args.map a.eval ++ cs) k1.symm k2
      intro next Q hn
      unfold Oper.wp
      rw [hrun hc2.1]
      refine hc2.2.mono fun e w' => ?_
      rintro ⟨rv, c', rfl, rfl, g1, g2, g3, g4⟩
      exact hn rv c' g1 g2 (g4.trans hes) g3

/-- One of our arrays becomes a row. -/
theorem ownRow {c : Cx} (hc : CxOK c) {z N sz n k : Nat} {f : Nat → D} (hz : c.es[z]? = some (.var (.arr N sz f) [])) {v : Value} (hv : VR c (.sl z 0 n k) v) (hk : 0 < k) :
    ∃ c1 : Cx, c1.w = c.w ∧ CxOK c1 ∧ Reach c c1 ∧ c1.es = c.es.set z (.row sz (lst f 0 n)) ∧ VR c1 (.row z (lst f 0 n)) v := by
  cases hv with
  | slgone h1 h2 => exact (gone_var hz h1 h2).elim
  | sl h1 h2 h3 h4 h5 h6 h7 =>
    rename_i b o N' s' cap f' tok' cs T'
    rw [hz] at h1
    simp only [Option.some.injEq, Ent.var.injEq, D.arr.injEq] at h1
    obtain ⟨⟨rfl, rfl, rfl⟩, rfl⟩ := h1
    have ho := h4.2.2 (by omega)
    simp only [Nat.zero_mul] at ho
    subst ho
    obtain ⟨b', cs', T2, e1, e2, e3, e4, e5, e6⟩ := hc.ent z _ hz
    rw [h3] at e1
    simp only [Option.some.injEq] at e1
    subst e1
    rw [h6] at e2
    simp only [Option.some.injEq, Obj.cells.injEq] at e2
    obtain ⟨rfl, rfl, _⟩ := e2
    cases e4 with
    | arr g1 g2 =>
      have hzl := (List.getElem?_eq_some_iff.1 hz).1
      have hns : n * sz ≤ cs.size := Nat.le_trans (Nat.mul_le_mul_right _ (by omega)) h7
      let c1 : Cx := ⟨c.w, fun x => if x = b then n * sz else c.fz x, c.lam, c.es.set z (.row sz (lst f 0 n))⟩
      have hext : Ext c.w c.fz c1.w c1.fz := fun x => by
        refine ⟨?_, fun _ _ => rfl⟩
        simp only [c1]
        split
        · rename_i hx; subst hx; omega
        · exact Nat.le_refl _
      have hlone : ∀ (x b' : Nat), x ≠ z → c.lam[x]? = some (some b') → b' ≠ b := fun x b' hx hb h => hx (hc.inj x z b' hb (h ▸ h3))
      have hr : Reach c c1 := {
        size := Nat.le_refl _
        rest := ⟨rfl, rfl, rfl⟩
        ext := hext
        keep := fun b cs T f h => ⟨cs, h, rfl⟩
        frame := fun x _ hx => ⟨rfl, by simp only [c1]; rw [if_neg fun h => hx z (by rw [h]; exact h3)]⟩
        ents := fun x e hx => by
          by_cases hxz : x = z
          · subst hxz
            rw [hz] at hx
            simp only [Option.some.injEq] at hx
            subst hx
            exact ⟨.row sz (lst f 0 n), set_nth hzl, .inr ⟨rfl, .inl rfl⟩⟩
          · exact ⟨e, (set_ne hxz).trans hx, EntStep.stay (c := c) (c' := c1) rfl e⟩
        news := fun x b hx hb => by
          have h1 := (List.getElem?_eq_some_iff.1 hb).1
          have h2 := hc.len
          simp only [c1] at h1
          omega }
      refine ⟨c1, rfl, ⟨fun x o ho => ?_, by simp only [c1, List.length_set]; exact hc.len, hc.inj, hc.low, fun x e hx => ?_⟩, hr, rfl, ?_⟩
      · simp only [c1] at ho
        split at ho
        · rename_i hx; subst hx; exact ⟨_, cell_of_block h6 (by omega)⟩
        · exact hc.fr x o ho
      · by_cases hxz : x = z
        · subst hxz
          have hx' : some (Ent.row sz (lst f 0 n)) = some e := (set_nth hzl).symm.trans hx
          simp only [Option.some.injEq] at hx'
          subst hx'
          exact .inr ⟨b, cs, T', h3, h6, by simp [c1, lst_length], by rw [lst_length]; exact hns⟩
        · have hx0 : c.es[x]? = some e := (set_ne hxz).symm.trans hx
          have h0 := hc.ent x e hx0
          have hfz : ∀ b', c.lam[x]? = some (some b') → c1.fz b' = c.fz b' := fun b' hb => by simp only [c1]; rw [if_neg (hlone x b' hxz hb)]
          cases e with
          | var d tok =>
            obtain ⟨b', cs0, T0, e1, e2, e3, e4, e5, e6⟩ := h0
            refine ⟨b', cs0, T0, e1, e2, e3, e4.ext hext, (hfz b' e1).trans e5, fun p y hy => ?_⟩
            obtain ⟨g1, ⟨ez, g2, g2'⟩, zs, g3, g4⟩ := e6 p y hy
            obtain ⟨ez', g5, g6⟩ := hr.ents y ez g2
            exact ⟨g1, ⟨ez', g5, g6.notVar g2'⟩, zs, g3, g4.mono hr ⟨g2, g2'⟩⟩
          | ref a =>
            obtain ⟨b', v, T0, e1, e2, e3, e4⟩ := h0
            exact ⟨b', v, T0, e1, e2, e3.mono hr, (hfz b' e1).trans e4⟩
          | row sz0 zs =>
            rcases h0 with h0 | ⟨b', cs0, T0, e1, e2, e3, e4⟩
            · exact .inl h0
            · exact .inr ⟨b', cs0, T0, e1, e2, (hfz b' e1).trans e3, e4⟩
          | map l =>
            obtain ⟨b', arr, clock, e1, e2, e3, e4⟩ := h0
            exact ⟨b', arr, clock, e1, e2, (hfz b' e1).trans e3, e4.ext hext⟩
          | dead => trivial
      · refine .row (e := .row sz (lst f 0 n)) ?_ (set_nth hzl) rfl ?_
        · unfold VD
          simp only [D.isAgg]
          refine .list (es := sz) (off := 0) (by rw [lst_length]) (by rw [lst_length]; exact h4.1) h5 (fun i hi => ?_) (fun i hi => ?_) (by simp [c1, lst_length])
          · rw [lst_get]
            rw [lst_length] at hi
            exact g1 _ (by omega)
          · rw [lst_get]
            rw [lst_length] at hi
            have hl : 0 + i < N := by omega
            refine ((g2 _ hl).ext hext).congr fun o ho => ?_
            rw [g1 _ hl] at ho
            have h8 := mul_lt_of (es := sz) hi ho
            have h10 : i * sz + o < cs.size := by omega
            simp only [cellAt, World.cell?, c1, h6, Nat.zero_add]
            simp [h10]
        · intro sz' zs hzz
          have hz' : some (Ent.row sz (lst f 0 n)) = some (Ent.row sz' zs) := (set_nth hzl).symm.trans hzz
          simp only [Option.some.injEq, Ent.row.injEq] at hz'
          obtain ⟨rfl, rfl⟩ := hz'
          refine ⟨Nat.le_refl _, fun _ => ⟨rfl, .inr ⟨b, cap, cs, T', h3, by rw [lst_length], h6, by simpa using h7, by rw [lst_length]; exact h4.1, h5⟩⟩⟩

theorem xStoreOwn_sound {P : Program} {tt : TT} (hT : TTok P tt) {c : Cx} (hc : CxOK c) {T : TypeId} {x v : AV} {es' : List Ent} {obs : List Prop} (h : xStoreOwn tt c.es T x v = some (es', obs)) (ho : AllP obs)
    {xv vv : Value} (hx : VR c x xv) (hv : VR c v vv) : ∃ c', (Instr.storeAt T xv vv).run P c.w = .ok () c'.w ∧ CxOK c' ∧ Reach c c' ∧ c'.es = es' := by
  unfold xStoreOwn at h
  split at h
  case h_2 => cases h
  rename_i z n k
  split at h
  case h_2 => cases h
  rename_i N sz f hz
  split at h
  case h_2 => cases h
  rename_i es1 ob hs
  simp only [Option.some.injEq, Prod.mk.injEq] at h
  obtain ⟨rfl, rfl⟩ := h
  obtain ⟨c1, k1, k2, k3, k4, k5⟩ := ownRow hc hz hv ho.1
  obtain ⟨c2, j1, j2, j3, j4⟩ := xStore_sound (P := P) hT k2 (by rw [k4]; exact hs) ho.2 (hx.mono k3) k5
  exact ⟨c2, by rw [← k1]; exact j1, j2, k3.trans j3, j4⟩

theorem exec0_sound {P : Program} {tt : TT} (hT : TTok P tt) {g : GL} {s : St} {r : Hint} {o : Oper} {v : AV} {es' : List Ent} {obs : List Prop} (h : exec0 P tt g s r o.op = some (v, es', obs)) (ho : AllP obs)
    {c : Cx} (hc : CxOK c) (hes : c.es = s.es) {a : Act} (hf : FR c a s) (hg : GOK a g) : OpS P o a c v es' := by
  have look : ∀ x, VR c (s.look g x) (a.eval x) := look_sound hf hg
  have val : ∀ {v : AV} {es' : List Ent}, es' = s.es → (∃ val, (execOp a.eval o).run P c.w = .ok (.value val) c.w ∧ VR c v val) → OpS P o a c v es' := fun he h => by rw [he, ← hes]; exact .val hc h
  unfold exec0 at h
  split at h
  · -- move
    rename_i x hop
    simp only [Option.some.injEq, Prod.mk.injEq] at h
    obtain ⟨rfl, rfl, rfl⟩ := h
    exact val rfl ⟨a.eval x, by simp [execOp, hop], look x⟩
  · -- assign
    rename_i x hop
    simp only [Option.some.injEq, Prod.mk.injEq] at h
    obtain ⟨rfl, rfl, rfl⟩ := h
    exact val rfl ⟨a.eval x, by simp [execOp, hop], look x⟩
  · -- pick
    rename_i x y z hop
    split at h
    case h_2 => cases h
    rename_i u hu
    simp only [Option.some.injEq, Prod.mk.injEq] at h
    obtain ⟨rfl, rfl, rfl⟩ := h
    obtain ⟨w, h1, h2⟩ := xPick_sound hf hg hu P
    exact val rfl ⟨w, by simp only [execOp, hop]; exact h1, h2⟩
  · -- nilCheck
    rename_i x hop
    have hx := look x
    split at h
    · rename_i y p hl
      simp only [Option.some.injEq, Prod.mk.injEq] at h
      obtain ⟨rfl, rfl, rfl⟩ := h
      rw [hl] at hx
      refine val rfl ⟨a.eval x, ?_, hx⟩
      generalize hxv : a.eval x = xv at hx
      cases hx <;> simp [execOp, hop, hxv]
    · rename_i d hl
      simp only [Option.some.injEq, Prod.mk.injEq] at h
      obtain ⟨rfl, rfl, rfl⟩ := h
      rw [hl] at hx
      refine val rfl ⟨a.eval x, ?_, hx⟩
      generalize hxv : a.eval x = xv at hx
      cases hx <;> simp [execOp, hop, hxv]
    · cases h
  · -- fieldAddr
    rename_i T x i hop
    split at h
    case h_2 => cases h
    rename_i u hu
    simp only [Option.some.injEq, Prod.mk.injEq] at h
    obtain ⟨rfl, rfl, rfl⟩ := h
    obtain ⟨w, h1, h2⟩ := xField_sound hT (c := c) (by rw [hes]; exact hu) (look x)
    exact val rfl ⟨w, by simp [execOp, hop, h1], h2⟩
  · -- indexAddr
    rename_i T x i hop
    split at h
    case h_2 => cases h
    rename_i u ob hu
    simp only [Option.some.injEq, Prod.mk.injEq] at h
    obtain ⟨rfl, rfl, rfl⟩ := h
    obtain ⟨w, h1, h2⟩ := xIndexAddr_sound hT (c := c) (by rw [hes]; exact hu) ho (look x) (look i)
    exact val rfl ⟨w, by simp [execOp, hop, h1], h2⟩
  · -- load
    rename_i T x hop
    split at h
    case h_2 => cases h
    rename_i u hu
    simp only [Option.some.injEq, Prod.mk.injEq] at h
    obtain ⟨rfl, rfl, rfl⟩ := h
    obtain ⟨w, h1, h2⟩ := xLoad_sound hT hc (by rw [hes]; exact hu) (look x)
    exact val rfl ⟨w, by simp [execOp, hop, h1], h2⟩
  · -- store
    rename_i T x y hop
    split at h
    case h_2 => cases h
    have fin : (∃ c', (Instr.storeAt T (a.eval x) (a.eval y)).run P c.w = .ok () c'.w ∧ CxOK c' ∧ Reach c c' ∧ c'.es = es') → OpS P o a c .undef es' := by
      rintro ⟨c', h1, h2, h3, h4⟩ next Q hn
      unfold Oper.wp
      have : (execOp a.eval o).run P c.w = .ok .skip c'.w := by simp [execOp, hop, h1]
      rw [this]
      exact hn undef c' h2 h3 h4 (.undef _)
    split at h
    · rename_i es1 ob hu
      simp only [Option.some.injEq, Prod.mk.injEq] at h
      obtain ⟨rfl, rfl, rfl⟩ := h
      exact fin (xStore_sound hT hc (by rw [hes]; exact hu) ho (look x) (look y))
    · split at h
      case h_2 => cases h
      rename_i es1 ob hu
      simp only [Option.some.injEq, Prod.mk.injEq] at h
      obtain ⟨rfl, rfl, rfl⟩ := h
      exact fin (xStoreOwn_sound hT hc (by rw [hes]; exact hu) ho (look x) (look y))
  · -- alloc
    rename_i T hop
    split at h
    case h_2 => cases h
    split at h
    · rename_i d hz
      simp only [Option.some.injEq, Prod.mk.injEq] at h
      obtain ⟨rfl, rfl, rfl⟩ := h
      obtain ⟨z1, z2, _⟩ := hT.zero _ _ hz
      have hzv : (zeroValue T).run P c.w = .ok (flatV d) c.w := by
        unfold zeroValue typeInfo
        cases hq : P.info? T with
        | none => simp [hq] at z1
        | some i => simp [hq] at z1; simp [hq, z1]
      obtain ⟨k1, k2⟩ := (VD_flat c.w c.fz z2).cells
      obtain ⟨c', h1, h2, h3, h4, h5⟩ := addVar hc (tok := []) T k1 k2 (fun p y hp => by simp at hp)
      intro next Q hn
      unfold Oper.wp
      have : (execOp a.eval o).run P c.w = .ok (.value (.pointer (some ⟨c.w.heap.size, 0, none⟩))) c'.w := by
        simp [execOp, hop, Instr.alloc, hzv, newVar, newRow, h1]
      rw [this]
      exact hn _ c' h2 h3 (by rw [h4, hes]) (by rw [← hes]; exact h5)
    · split at h
      case h_2 => cases h
      rename_i hm
      simp only [Option.some.injEq, Prod.mk.injEq] at h
      obtain ⟨rfl, rfl, rfl⟩ := h
      obtain ⟨i, zv, i1, i2, i3⟩ := refZ_spec hT hm
      have hzv : (zeroValue T).run P c.w = .ok zv c.w := by
        unfold zeroValue typeInfo
        simp [i1, i2]
      obtain ⟨c', h1, h2, h3, h4, h5⟩ := addRef hc T (VR.undef (c := c) zv)
      intro next Q hn
      unfold Oper.wp
      have : (execOp a.eval o).run P c.w = .ok (.value (.pointer (some ⟨c.w.heap.size, 0, none⟩))) c'.w := by
        simp [execOp, hop, Instr.alloc, hzv, newVar, newRow, h1, i3]
      rw [this]
      exact hn _ c' h2 h3 (by rw [h4, hes]) (by rw [← hes]; exact h5)
  · -- makeMap
    rename_i T hop
    split at h
    case h_2 => cases h
    simp only [Option.some.injEq, Prod.mk.injEq] at h
    obtain ⟨rfl, rfl, rfl⟩ := h
    obtain ⟨c', h1, h2, h3, h4, h5⟩ := addMap hc
    intro next Q hn
    unfold Oper.wp
    have : (execOp a.eval o).run P c.w = .ok (.value (.map (some c.w.heap.size))) c'.w := by
      simp [execOp, hop, Instr.makeMap, newObj, h1]
      rfl
    rw [this]
    exact hn _ c' h2 h3 (by rw [h4, hes]) (by rw [← hes]; exact h5)
  · -- lookup
    rename_i T x ix hop
    split at h
    case h_2 => cases h
    rename_i u ob hu
    simp only [Option.some.injEq, Prod.mk.injEq] at h
    obtain ⟨rfl, rfl, rfl⟩ := h
    obtain ⟨w, h1, h2⟩ := xLookup_sound hT hc (by rw [hes]; exact hu) ho (look x) (look ix).dropRow
    exact val rfl ⟨w, by simp [execOp, hop, h1], h2⟩
  · -- mapUpdate
    rename_i T m k x hop
    split at h
    case h_2 => cases h
    split at h
    case h_2 => cases h
    rename_i es1 ob hu
    simp only [Option.some.injEq, Prod.mk.injEq] at h
    obtain ⟨rfl, rfl, rfl⟩ := h
    obtain ⟨c', h1, h2, h3, h4⟩ := xMapUpd_sound hT hc (by rw [hes]; exact hu) ho (look m) (look k).dropRow (look x).dropRow
    intro next Q hn
    unfold Oper.wp
    have : (execOp a.eval o).run P c.w = .ok .skip c'.w := by simp [execOp, hop, h1]
    rw [this]
    exact hn undef c' h2 h3 h4 (.undef _)
  · -- box
    rename_i T x hop
    split at h
    case h_2 => cases h
    have hx := look x
    have fin : ∀ {v' : AV} {es1 : List Ent}, (∃ c' : Cx, c'.w = c.w.alloc (.cells (a.eval x).cells T) ∧ CxOK c' ∧ Reach c c' ∧ c'.es = es1 ∧ VR c' v' (.pointer (some ⟨c.w.heap.size, 0, none⟩))) → OpS P o a c v' es1 := by
      rintro v' es1 ⟨c', h1, h2, h3, h4, h5⟩ next Q hn
      unfold Oper.wp
      have : (execOp a.eval o).run P c.w = .ok (.value (.pointer (some ⟨c.w.heap.size, 0, none⟩))) c'.w := by
        simp [execOp, hop, Instr.box, newVar, newRow, h1]
      rw [this]
      exact hn _ c' h2 h3 h4 h5
    split at h
    · rename_i d hl
      simp only [Option.some.injEq, Prod.mk.injEq] at h
      obtain ⟨rfl, rfl, rfl⟩ := h
      rw [hl] at hx
      cases hx with
      | data hx =>
        obtain ⟨k1, k2⟩ := hx.cells
        obtain ⟨c', h1, h2, h3, h4, h5⟩ := addVar hc (tok := []) T k1 k2 (fun p y hp => by simp at hp)
        exact fin ⟨c', h1, h2, h3, by rw [h4, hes], by rw [← hes]; exact h5⟩
    · rename_i y xs hl
      simp only [Option.some.injEq, Prod.mk.injEq] at h
      obtain ⟨rfl, rfl, rfl⟩ := h
      rw [hl] at hx
      cases hx with
      | @row _ _ _ e hx hy hv hr =>
        obtain ⟨k1, k2⟩ := hx.cells
        have hcell : (a.eval x).cells = #[a.eval x] := (DR.leaf_cells rfl (hx.leaf rfl)).1
        obtain ⟨c', h1, h2, h3, h4, h5⟩ := addVar hc (tok := [([], y)]) T k1 k2 (fun p z hp => by
          simp only [List.mem_cons, Prod.mk.injEq, List.not_mem_nil, or_false] at hp
          obtain ⟨rfl, rfl⟩ := hp
          refine ⟨by simp [PathOK], ⟨e, hy, hv⟩, xs, by simp [D.get], ?_⟩
          rw [hcell]
          exact hr)
        exact fin ⟨c', h1, h2, h3, by rw [h4, hes], by rw [← hes]; exact h5⟩
    · rename_i d tok hl
      simp only [Option.some.injEq, Prod.mk.injEq] at h
      obtain ⟨rfl, rfl, rfl⟩ := h
      rw [hl] at hx
      cases hx with
      | rich hx ht =>
        obtain ⟨k1, k2⟩ := hx.cells
        obtain ⟨c', h1, h2, h3, h4, h5⟩ := addVar hc (tok := tok) T k1 k2 ht
        exact fin ⟨c', h1, h2, h3, by rw [h4, hes], by rw [← hes]; exact h5⟩
    · rename_i u _ _ _
      split at h
      case h_2 => cases h
      rename_i hrf
      simp only [Option.some.injEq, Prod.mk.injEq] at h
      obtain ⟨rfl, rfl, rfl⟩ := h
      have hcell := ref_cells hrf hx
      obtain ⟨c', h1, h2, h3, h4, h5⟩ := addRef hc T hx
      exact fin ⟨c', by rw [hcell]; exact h1, h2, h3, by rw [h4, hes], by rw [← hes]; exact h5⟩
  · -- build
    rename_i T parts hop
    split at h
    case h_2 => cases h
    rename_i z hz
    split at h
    case h_2 => cases h
    rename_i hag
    split at h
    case h_2 => cases h
    rename_i d hd
    simp only [Option.some.injEq, Prod.mk.injEq] at h
    obtain ⟨rfl, rfl, rfl⟩ := h
    obtain ⟨w, h1, h2⟩ := build_sound (P := P) hT (c := c) hz hag hd (vs := parts.map fun (i, x) => (i, a.eval x)) (by simp [partsOf]) (fun i hi hi' => by
      simp only [partsOf, List.getElem_map, Array.getElem_map, Array.getElem_toList]
      exact ⟨trivial, look _⟩)
    exact val rfl ⟨w, by simp [execOp, hop, h1], h2⟩
  · -- buildSlice
    rename_i T len parts hop
    split at h
    · split at h
      case h_2 => cases h
      rename_i hps
      split at h
      case h_2 => cases h
      rename_i ti hti
      split at h
      case h_2 => cases h
      rename_i e sz by_ hk
      simp only [Option.some.injEq, Prod.mk.injEq] at h
      obtain ⟨rfl, rfl, rfl⟩ := h
      have hp0 : parts = #[] := Array.size_eq_zero_iff.1 hps
      subst hp0
      obtain ⟨w, c', h1, h2, h3, h4, h5⟩ := buildSlice0_sound (P := P) hT hc hti hk
      intro next Q hn
      unfold Oper.wp
      have : (execOp a.eval o).run P c.w = .ok (.value w) c'.w := by simp [execOp, hop, h1]
      rw [this]
      exact hn w c' h2 h3 (h4.trans hes) h5
    split at h
    case h_2 => cases h
    rename_i v' hv
    simp only [Option.some.injEq, Prod.mk.injEq] at h
    obtain ⟨rfl, rfl, rfl⟩ := h
    obtain ⟨w, c', h1, h2, h3, h4, h5⟩ := xBuildS_sound (P := P) hT hc hv (vs := parts.map fun (i, x) => (i, a.eval x)) (by simp [partsOf]) (fun i hi hi' => by
      simp only [partsOf, List.getElem_map, Array.getElem_map, Array.getElem_toList]
      exact ⟨trivial, look _⟩)
    intro next Q hn
    unfold Oper.wp
    have : (execOp a.eval o).run P c.w = .ok (.value w) c'.w := by simp [execOp, hop, h1]
    rw [this]
    exact hn w c' h2 h3 (h4.trans hes) h5
  · -- slice
    rename_i T x lo hi mx hop
    split at h
    case h_2 => cases h
    rename_i u ob hu
    simp only [Option.some.injEq, Prod.mk.injEq] at h
    obtain ⟨rfl, rfl, rfl⟩ := h
    have lookO : ∀ y : Option Operand, VRo c (y.map (s.look g)) (y.map a.eval) := fun y => by
      cases y with
      | none => exact trivial
      | some y => exact look y
    obtain ⟨w, h1, h2⟩ := xSlice_sound (P := P) hT (c := c) (by rw [hes]; exact hu) ho (look x) (lookO lo) (lookO hi) (lookO mx)
    exact val rfl ⟨w, by simp [execOp, hop, h1], h2⟩
  · -- binOp
    rename_i op T x y yT hop
    split at h
    case h_2 => cases h
    rename_i u ob hu
    simp only [Option.some.injEq, Prod.mk.injEq] at h
    obtain ⟨rfl, rfl, rfl⟩ := h
    obtain ⟨w, h1, h2⟩ := xBin_sound (P := P) hT (c := c) (xo := x) (yo := y) hu ho (look x) (look y)
    exact val rfl ⟨w, by simp only [execOp, hop, Sem.run_bind]; simp only [Sem.run_bind] at h1; rw [h1]; rfl, h2⟩
  · -- not
    rename_i T x hop
    have hx := look x
    split at h
    case h_2 => cases h
    rename_i b hl
    simp only [Option.some.injEq, Prod.mk.injEq] at h
    obtain ⟨rfl, rfl, rfl⟩ := h
    rw [hl] at hx
    exact val rfl ⟨_, by simp [execOp, hop, hx.bool, Op.unary], .mkBool _⟩
  · -- neg
    rename_i T x hop
    have hx := look x
    split at h
    case h_2 => cases h
    rename_i k n hl
    simp only [Option.some.injEq, Prod.mk.injEq] at h
    obtain ⟨rfl, rfl, rfl⟩ := h
    rw [hl] at hx
    exact val rfl ⟨_, by simp only [execOp, hop, hx.int.1, Op.unary, Op.intArith]; rfl, .mkInt (wrap_wrap _ _)⟩
  · -- index
    rename_i T x i hop
    split at h
    case h_2 => cases h
    rename_i u ob hu
    simp only [Option.some.injEq, Prod.mk.injEq] at h
    obtain ⟨rfl, rfl, rfl⟩ := h
    obtain ⟨w, h1, h2⟩ := xIndexV_sound (P := P) hT (c := c) hu ho (look x).dropRow (look i)
    exact val rfl ⟨w, by simp [execOp, hop, h1], h2⟩
  · -- field
    rename_i T x i hop
    split at h
    case h_2 => cases h
    rename_i u hu
    simp only [Option.some.injEq, Prod.mk.injEq] at h
    obtain ⟨rfl, rfl, rfl⟩ := h
    obtain ⟨w, h1, h2⟩ := xFieldV_sound (P := P) hT (c := c) hu (look x).dropRow
    exact val rfl ⟨w, by simp [execOp, hop, h1], h2⟩
  · -- extract
    rename_i x i hop
    have hx := look x
    split at h
    case h_2 => cases h
    rename_i vs hl
    split at h
    case h_2 => cases h
    rename_i u hu
    simp only [Option.some.injEq, Prod.mk.injEq] at h
    obtain ⟨rfl, rfl, rfl⟩ := h
    rw [hl] at hx
    generalize hxe : a.eval x = xv at hx
    cases hx with
    | @tuple _ cs h1 h2 =>
      have hi := (List.getElem?_eq_some_iff.1 hu).1
      have := h2 i hi
      refine val rfl ⟨cs.getD i undef, ?_, ?_⟩
      · have hi' : i < cs.size := by omega
        simp [execOp, hop, hxe, Instr.extract, hi']
      · rw [(List.getElem?_eq_some_iff.1 hu).2] at this; exact this
  · -- convert
    rename_i T dst x hop
    have hx := look x
    split at h
    · cases h
    rename_i ts hts
    split at h
    case h_2 =>
      split at h
      case h_2 => cases h
      rename_i v' ob hv
      simp only [Option.some.injEq, Prod.mk.injEq] at h
      obtain ⟨rfl, rfl, rfl⟩ := h
      obtain ⟨w, h1, h2⟩ := xBytes_sound (P := P) hT hc hv ho hx
      exact val rfl ⟨w, by simp [execOp, hop, h1], h2⟩
    rename_i k n hl
    split at h
    case h_2 => cases h
    rename_i ti hti
    split at h
    case h_2 => cases h
    rename_i k' hk
    simp only [Option.some.injEq, Prod.mk.injEq] at h
    obtain ⟨rfl, rfl, rfl⟩ := h
    rw [hl] at hx
    have hu := (tok_kind (hT.ti _ _ hti)).1 _ hk
    obtain ⟨_, ds, _, hsu, _⟩ := tok_info (hT.ti _ _ hts)
    refine val rfl ⟨_, ?_, .mkInt (wrap_wrap _ _)⟩
    simp [execOp, hop, hx.int.1, convert, run_underlying hu, run_underlying hsu, Conv.intToInt]
  · -- makeFunc
    rename_i f first caps hop
    split at h
    case h_2 => cases h
    rename_i hfs
    simp only [Option.some.injEq, Prod.mk.injEq] at h
    obtain ⟨rfl, rfl, rfl⟩ := h
    have hf0 : first = #[] := Array.size_eq_zero_iff.1 hfs
    subst hf0
    refine val rfl ⟨_, by simp [execOp, hop, Instr.makeFunc], .func (cs := caps.map a.eval) (by simp) (fun i hi => ?_)⟩
    simp only [List.getElem_map, Array.getElem_toList]
    have hi' : i < caps.size := by simpa using hi
    simp [hi']
    exact look _
  · -- call
    rename_i cl hop
    split at h
    · rename_i f hcal
      split at h
      · split at h
        case h_2 => cases h
        exact execCall_sound hop h ho hc hes hf hg
      · rename_i hre
        refine execCall_sound (g := g) (r := r) hop ?_ ho hc hes hf hg
        unfold execCall
        simp only [hcal, hre]
        exact h
    · rename_i hcal
      split at h
      case h_2 => cases h
      rename_i t rest hat
      split at h
      case h_2 => cases h
      rename_i ti hti
      have hat' : cl.argTypes = (t :: rest).toArray := by rw [← hat]
      split at h
      · rename_i e es b hk
        split at h
        case h_2 => cases h
        rename_i x hax
        have hax' : cl.args = #[x] := by rw [← Array.toArray_toList (xs := cl.args), hax]
        split at h
        case h_2 => cases h
        rename_i u ob hu
        simp only [Option.some.injEq, Prod.mk.injEq] at h
        obtain ⟨rfl, rfl, rfl⟩ := h
        rw [← hes] at hu
        obtain ⟨w, h1, h2⟩ := xLen_sound (P := P) hT hti hk hu (look x) o.type rest
        refine val rfl ⟨w, ?_, h2⟩
        simp only [execOp, hop, resolve, hcal, Sem.run_bind, Sem.run_pure, Result.andThen_ok, invoke, builtin, hat', hax']
        simp only [List.map_toArray, List.map_cons, List.map_nil]
        rw [h1]
        rfl
      · rename_i hk
        split at h
        case h_2 => cases h
        rename_i x hax
        have hax' : cl.args = #[x] := by rw [← Array.toArray_toList (xs := cl.args), hax]
        have hx := look x
        split at h
        case h_2 => cases h
        rename_i b hl
        simp only [Option.some.injEq, Prod.mk.injEq] at h
        obtain ⟨rfl, rfl, rfl⟩ := h
        rw [hl] at hx
        have hu := (tok_kind (hT.ti _ _ hti)).2.2 hk
        refine val rfl ⟨_, ?_, .mkInt (cast_wrap hx.str.2)⟩
        simp only [execOp, hop, resolve, hcal, Sem.run_bind, Sem.run_pure, Result.andThen_ok, invoke, builtin, hat', hax']
        simp [Builtin.len_, run_underlying hu, hx.str.1, goInt]
      · cases h
    · rename_i hcal
      split at h
      case h_2 => cases h
      split at h
      case h_2 => cases h
      rename_i t t' hat
      have hat' : cl.argTypes = #[t, t'] := by rw [← Array.toArray_toList (xs := cl.argTypes), hat]
      split at h
      case h_2 => cases h
      rename_i x y hax
      have hax' : cl.args = #[x, y] := by rw [← Array.toArray_toList (xs := cl.args), hax]
      have fin : ∀ {v' : AV} {es1 : List Ent}, (∃ val c', (Builtin.append_ #[t, t'] o.type #[a.eval x, a.eval y]).run P c.w = .ok val c'.w ∧ CxOK c' ∧ Reach c c' ∧ c'.es = es1 ∧ VR c' v' val) → OpS P o a c v' es1 := by
        rintro v' es1 ⟨w, c', h1, h2, h3, h4, h5⟩ next Q hn
        unfold Oper.wp
        have : (execOp a.eval o).run P c.w = .ok (.value w) c'.w := by
          simp only [execOp, hop, resolve, hcal, Sem.run_bind, Sem.run_pure, Result.andThen_ok, invoke, builtin, hat', hax']
          simp only [List.map_toArray, List.map_cons, List.map_nil]
          rw [h1]
          rfl
        rw [this]
        exact hn w c' h2 h3 h4 h5
      split at h
      · rename_i u es1 ob hu
        simp only [Option.some.injEq, Prod.mk.injEq] at h
        obtain ⟨rfl, rfl, rfl⟩ := h
        rw [← hes] at hu
        exact fin (xAppend_sound (P := P) hT hc (ty := o.type) hu ho (look x) (look y))
      · split at h
        case h_2 => cases h
        rename_i u es1 ob hu
        simp only [Option.some.injEq, Prod.mk.injEq] at h
        obtain ⟨rfl, rfl, rfl⟩ := h
        rw [← hes] at hu
        exact fin (xAppendOwn_sound (P := P) hT hc (ty := o.type) hu ho (look x) (look y))
    · rename_i hcal
      split at h
      case h_2 => cases h
      split at h
      case h_2 => cases h
      rename_i t hat
      have hat' : cl.argTypes = #[t] := by rw [← Array.toArray_toList (xs := cl.argTypes), hat]
      split at h
      case h_2 => cases h
      rename_i x hax
      have hax' : cl.args = #[x] := by rw [← Array.toArray_toList (xs := cl.args), hax]
      split at h
      case h_2 => cases h
      rename_i es1 ob hu
      simp only [Option.some.injEq, Prod.mk.injEq] at h
      obtain ⟨rfl, rfl, rfl⟩ := h
      rw [← hes] at hu
      obtain ⟨c', h1, h2, h3, h4⟩ := xClear_sound (P := P) hT hc (ty := o.type) hu ho (look x)
      intro next Q hn
      unfold Oper.wp
      have : (execOp a.eval o).run P c.w = .ok (.value (.tuple #[])) c'.w := by
        simp only [execOp, hop, resolve, hcal, Sem.run_bind, Sem.run_pure, Result.andThen_ok, invoke, builtin, hat', hax']
        simp only [List.map_toArray, List.map_cons, List.map_nil]
        rw [h1]
        rfl
      rw [this]
      exact hn _ c' h2 h3 h4 (.undef _)
    · rename_i b _ _ _ hcal
      split at h
      case h_2 => cases h
      rename_i x y hax
      have hax' : cl.args = #[x, y] := by rw [← Array.toArray_toList (xs := cl.args), hax]
      split at h
      case h_2 => cases h
      rename_i u hu
      simp only [Option.some.injEq, Prod.mk.injEq] at h
      obtain ⟨rfl, rfl, rfl⟩ := h
      obtain ⟨w, h1, h2, h3⟩ := xMinMax_sound (P := P) hu (look x) (look y) cl.argTypes o.type
      refine val rfl ⟨w, ?_, h2⟩
      rcases h3 with rfl | rfl
      · simp only [execOp, hop, resolve, hcal, Sem.run_bind, Sem.run_pure, Result.andThen_ok, invoke, builtin, hax']
        simp only [List.map_toArray, List.map_cons, List.map_nil]
        simp only at h1
        rw [h1]
        rfl
      · simp only [execOp, hop, resolve, hcal, Sem.run_bind, Sem.run_pure, Result.andThen_ok, invoke, builtin, hax']
        simp only [List.map_toArray, List.map_cons, List.map_nil]
        simp only at h1
        rw [h1]
        rfl
    · cases h
  · cases h

/-! ### What it gives, told otherwise -/

def retell (r : Hint) : Option (AV × List Ent × List Prop) → Option (AV × List Ent × List Prop)
  | none => none
  | some (v, es, obs) => match r.told with
    | none => some (v, es, obs)
    | some (_, v') => some (v', es, (v = v') :: obs)

def exec (P : Program) (tt : TT) (g : GL) (s : St) (r : Hint) (o : Op) : Option (AV × List Ent × List Prop) := retell r (exec0 P tt g s r o)

theorem retell_inv {r : Hint} {x : Option (AV × List Ent × List Prop)} {v : AV} {es : List Ent} {obs : List Prop} (h : retell r x = some (v, es, obs)) :
    ∃ v0 obs0, x = some (v0, es, obs0) ∧ (∀ e, retell r (some (v0, e, obs0)) = some (v, e, obs)) ∧ (AllP obs → v0 = v ∧ AllP obs0) := by
  cases x with
  | none => cases h
  | some y =>
    obtain ⟨v0, e0, o0⟩ := y
    unfold retell at h
    simp only [] at h
    split at h
    · rename_i hr
      simp only [Option.some.injEq, Prod.mk.injEq] at h
      obtain ⟨rfl, rfl, rfl⟩ := h
      exact ⟨_, _, rfl, fun e => by simp only [retell, hr], fun h => ⟨rfl, h⟩⟩
    · rename_i t v' hr
      simp only [Option.some.injEq, Prod.mk.injEq] at h
      obtain ⟨rfl, rfl, rfl⟩ := h
      exact ⟨_, _, rfl, fun e => by simp only [retell, hr], fun h => h⟩
theorem retell_map (r : Hint) (x : Option (AV × List Ent × List Prop)) (e2 : List Ent) : retell r (x.map fun (v, _, obs) => (v, e2, obs)) = (retell r x).map fun (v, _, obs) => (v, e2, obs) := by
  cases x with
  | none => rfl
  | some y =>
    obtain ⟨v0, e0, o0⟩ := y
    simp only [Option.map_some, retell]
    cases r.told <;> rfl

theorem exec_sound {P : Program} {tt : TT} (hT : TTok P tt) {g : GL} {s : St} {r : Hint} {o : Oper} {v : AV} {es' : List Ent} {obs : List Prop} (h : exec P tt g s r o.op = some (v, es', obs)) (ho : AllP obs)
    {c : Cx} (hc : CxOK c) (hes : c.es = s.es) {a : Act} (hf : FR c a s) (hg : GOK a g) : OpS P o a c v es' := by
  obtain ⟨v0, ob0, h0, _, hob⟩ := retell_inv h
  obtain ⟨rfl, ho0⟩ := hob ho
  exact exec0_sound hT h0 ho0 hc hes hf hg

end Go.W
