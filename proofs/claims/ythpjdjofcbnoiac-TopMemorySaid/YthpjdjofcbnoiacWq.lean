/-
  Slices of lists, and of arrays of our own.
-/
import Derived.Test.YthpjdjofcbnoiacWp
namespace Go.W

/-! ### x[i:j] -/

def takeO : Option AV → List D → Option (List D × Prop)
  | none, xs => some (xs, True)
  | some (.data (.int _ h)), xs => some (xs.take h.toNat, 0 ≤ h ∧ h ≤ xs.length)
  | _, _ => none
def loN : Option AV → Option Nat
  | none => some 0
  | some (.data (.int _ l)) => some l.toNat
  | _ => none
def hiN (n : Nat) : Option AV → Option Nat
  | none => some n
  | some (.data (.int _ h)) => some h.toNat
  | _ => none
def loP : Option AV → Prop
  | some (.data (.int _ l)) => 0 ≤ l
  | _ => True
def dropO : Option AV → List D → List D
  | some (.data (.int _ l)), xs => xs.drop l.toNat
  | _, xs => xs
def takeO' : Option AV → List D → List D
  | some (.data (.int _ l)), xs => xs.take l.toNat
  | _, xs => xs
def subO (lo : Option AV) (n : Nat) : Nat :=
  match lo with
  | some (.data (.int _ l)) => n - l.toNat
  | _ => n
def addO (a : Nat) (lo : Option AV) : Nat :=
  match lo with
  | some (.data (.int _ l)) => addLo a l.toNat
  | _ => a

def xSlice (tt : TT) (es : List Ent) (T : TypeId) (x : AV) (lo hi mx : Option AV) : Option (AV × List Prop) :=
  match mx with
  | some m => match tt.ti T with
    | none => none
    | some ti => match ti.kind with
      | .slice _ sz _ => match loN lo with
        | none => none
        | some l => match hi with
          | some (.data (.int _ h)) => match m with
            | .data (.int _ j) => match x with
              | .sl y _ n _ => match es[y]? with
                | some (.var (.arr _ s _) _) => match Nat.beq s sz with
                  | false => none
                  | true => some (.undef, [loP lo ∧ (l : Int) ≤ h ∧ h ≤ j ∧ j ≤ (n : Int)])
                | _ => none
              | _ => none
            | _ => none
          | _ => none
      | _ => none
  | none => match tt.ti T with
    | none => none
    | some ti => match ti.kind with
      | .slice _ sz _ => match loN lo with
        | none => none
        | some l => match x with
          | .sl y a n k => match es[y]? with
            | some (.var (.arr N s _) _) => match Nat.beq s sz with
              | false => none
              | true => match hiN n hi with
                | none => none
                | some h => some (.sl y (addO a lo) (subO lo h) (subO lo k), [loP lo ∧ loP hi ∧ l ≤ h ∧ (h ≤ n ∨ (h ≤ k ∧ a + h ≤ N))])
            | _ => none
          | x => match asList x with
            | none => none
            | some xs => match hiN xs.length hi with
              | none => none
              | some h => some (.data (.list (dropO lo (takeO' hi xs))), [loP lo ∧ loP hi ∧ l ≤ h ∧ h ≤ xs.length, ∀ d ∈ xs, d.size = sz])
      | _ => none

def boundV (n : Nat) : Option Value → Nat → Prop
  | none, h => h = n
  | some v, h => ∃ k, v = .int k (h : Int)

theorem run_sliceAt {P : Program} {T e : TypeId} {sz : Nat} (hu : P.underlying T = some (.slice e)) (w : World) (hs : (sizeOf e).run P w = .ok sz w) (a : Option Addr) (n cap : Nat) (lo hi : Option Value) (l h : Nat) (hl : boundV 0 lo l) (hh : boundV n hi h)
    (h1 : l ≤ h) (hhc : h ≤ cap) : (Instr.sliceAt T (.slice a n cap) lo hi none).run P w = .ok (.slice (if cap = l then a else a.map (·.add (l * sz))) (h - l) (cap - l)) w := by
  cases lo with
  | none =>
    simp only [boundV] at hl
    subst hl
    cases hi with
    | none =>
      simp only [boundV] at hh
      subst hh
      simp [Instr.sliceAt, run_underlying hu, Instr.slice, Instr.sliceBounds, hs]
    | some v =>
      obtain ⟨k, rfl⟩ := hh
      simp [Instr.sliceAt, run_underlying hu, Instr.slice, Instr.sliceBounds, Instr.sliceBound, asIntOf, hs, hhc]
  | some u =>
    obtain ⟨k', rfl⟩ := hl
    cases hi with
    | none =>
      simp only [boundV] at hh
      subst hh
      simp [Instr.sliceAt, run_underlying hu, Instr.slice, Instr.sliceBounds, Instr.sliceBound, asIntOf, hs, h1]
    | some v =>
      obtain ⟨k, rfl⟩ := hh
      simp [Instr.sliceAt, run_underlying hu, Instr.slice, Instr.sliceBounds, Instr.sliceBound, asIntOf, hs, hhc, h1]

theorem run_sliceAt3 {P : Program} {T e : TypeId} {sz : Nat} (hu : P.underlying T = some (.slice e)) (w : World) (hs : (sizeOf e).run P w = .ok sz w) (a : Option Addr) (n cap : Nat) (lo : Option Value) (l : Nat) (k k' : IntKind) (h j : Nat) (hl : boundV 0 lo l)
    (h1 : l ≤ h) (h2 : h ≤ j) (h3 : j ≤ cap) : ∃ v, (Instr.sliceAt T (.slice a n cap) lo (some (.int k (h : Int))) (some (.int k' (j : Int)))).run P w = .ok v w := by
  have hhc : h ≤ cap := by omega
  cases lo with
  | none =>
    simp only [boundV] at hl
    subst hl
    simp [Instr.sliceAt, run_underlying hu, Instr.slice, Instr.sliceBounds, Instr.sliceBound, asIntOf, hs, hhc, h3, h2]
  | some u =>
    obtain ⟨k', rfl⟩ := hl
    simp [Instr.sliceAt, run_underlying hu, Instr.slice, Instr.sliceBounds, Instr.sliceBound, asIntOf, hs, hhc, h1, h2, h3]

/-- Operands that may be absent. -/
def VRo (c : Cx) : Option AV → Option Value → Prop
  | none, none => True
  | some a, some v => VR c a v
  | _, _ => False

theorem VRo.bound {c : Cx} {n : Nat} {a : Option AV} {v : Option Value} (h : VRo c a v) {m : Nat} (hm : hiN n a = some m) (hp : loP a) : boundV n v m := by
  cases a with
  | none => cases v with
    | none => simp only [hiN, Option.some.injEq] at hm; exact hm.symm
    | some v => exact h.elim
  | some a => cases v with
    | none => exact h.elim
    | some v =>
      have h : VR c a v := h
      unfold hiN at hm
      split at hm
      · rename_i he; cases he
      · rename_i k i he
        simp only [Option.some.injEq] at hm he
        subst hm
        subst he
        obtain ⟨rfl, _⟩ := h.int
        have hp : 0 ≤ i := hp
        exact ⟨k, by rw [Int.toNat_of_nonneg hp]⟩
      · cases hm

theorem loN_hiN (a : Option AV) : loN a = hiN 0 a := by unfold loN hiN; split <;> first | rfl | (split <;> first | rfl | simp_all)

theorem subO_eq {lo : Option AV} {l : Nat} (h : loN lo = some l) (n : Nat) : subO lo n = n - l := by
  unfold loN at h
  split at h
  · simp only [Option.some.injEq] at h; subst h; rfl
  · simp only [Option.some.injEq] at h; subst h; rfl
  · cases h
theorem addO_eq {lo : Option AV} {l : Nat} (h : loN lo = some l) (n : Nat) : addO n lo = n + l := by
  unfold loN at h
  split at h
  · simp only [Option.some.injEq] at h; subst h; rfl
  · simp only [Option.some.injEq] at h; subst h; exact addLo_eq _ _
  · cases h
theorem dropO_eq {lo : Option AV} {l : Nat} (h : loN lo = some l) (xs : List D) : dropO lo xs = xs.drop l := by
  unfold loN at h
  split at h
  · simp only [Option.some.injEq] at h; subst h; rfl
  · simp only [Option.some.injEq] at h; subst h; rfl
  · cases h
theorem takeO_eq {hi : Option AV} {xs : List D} {h : Nat} (hh : hiN xs.length hi = some h) : takeO' hi xs = xs.take h := by
  unfold hiN at hh
  split at hh
  · simp only [Option.some.injEq] at hh; subst hh; simp [takeO']
  · simp only [Option.some.injEq] at hh; subst hh; rfl
  · cases hh

theorem list_shape {w : World} {fz : Nat → Nat} {xs : List D} {v : Value} (h : DR w fz (.list xs) (fun _ => v)) : ∃ a cap, v = .slice a xs.length cap ∧ xs.length ≤ cap ∧ cap ≤ maxLen := by
  cases h with
  | list0 h hm => exact ⟨_, _, h, Nat.zero_le _, hm⟩
  | list h h1 h2 _ _ _ => exact ⟨_, _, h, h1, h2⟩

theorem xSlice_sound {P : Program} {tt : TT} (hT : TTok P tt) {c : Cx} {T : TypeId} {x a : AV} {lo hi mx : Option AV} {obs : List Prop} (h : xSlice tt c.es T x lo hi mx = some (a, obs)) (ho : AllP obs) {xv : Value} {lv hv mv : Option Value}
    (hx : VR c x xv) (hlo : VRo c lo lv) (hhi : VRo c hi hv) (hmx : VRo c mx mv) : ∃ val, (Instr.sliceAt T xv lv hv mv).run P c.w = .ok val c.w ∧ VR c a val := by
  unfold xSlice at h
  split at h
  · rename_i m
    cases mv with
    | none => exact hmx.elim
    | some mv =>
    split at h
    · cases h
    rename_i ti hti
    have htok := hT.ti _ _ hti
    split at h
    case h_2 => cases h
    rename_i e sz by_ hk
    obtain ⟨hu, _, i, hi1, hsz, _⟩ := tok_slice htok hk
    have hso : (sizeOf e).run P c.w = .ok sz c.w := by simp [sizeOf, typeInfo, hi1, hsz]
    split at h
    · cases h
    rename_i l hl
    split at h
    case h_2 => cases h
    rename_i kh hn
    split at h
    case h_2 => cases h
    rename_i kj jn
    split at h
    case h_2 => cases h
    rename_i y a0 n k
    split at h
    case h_2 => cases h
    rename_i N s f tok hy
    split at h
    · cases h
    rename_i hs
    have := Nat.eq_of_beq_eq_true hs
    subst this
    simp only [Option.some.injEq, Prod.mk.injEq] at h
    obtain ⟨rfl, rfl⟩ := h
    obtain ⟨⟨o1, o2, o3, o4⟩, _⟩ := ho
    cases hv with
    | none => exact hhi.elim
    | some hv =>
    have hh : VR c (.data (.int kh hn)) hv := hhi
    have hj : VR c (.data (.int kj jn)) mv := hmx
    obtain ⟨rfl, _⟩ := hh.int
    obtain ⟨rfl, _⟩ := hj.int
    obtain ⟨hn', rfl⟩ : ∃ m : Nat, hn = (m : Int) := ⟨hn.toNat, by omega⟩
    obtain ⟨jn', rfl⟩ : ∃ m : Nat, jn = (m : Int) := ⟨jn.toNat, by omega⟩
    cases hx with
    | slgone h1 h2 => exact (gone_var hy h1 h2).elim
    | sl h1 h2 h3 h4 h5 h6 h7 =>
      rename_i b o N' s' cap f' tok' cs T'
      obtain ⟨v, hv⟩ := run_sliceAt3 hu c.w hso _ n cap lv l kh kj hn' jn' (hlo.bound (by rw [← loN_hiN]; exact hl) o1) (by omega) (by omega) (by omega)
      exact ⟨v, hv, .undef v⟩
  cases mv with
  | some _ => exact hmx.elim
  | none =>
  split at h
  · cases h
  rename_i ti hti
  have htok := hT.ti _ _ hti
  split at h
  case h_2 => cases h
  rename_i e sz by_ hk
  obtain ⟨hu, _, i, hi1, hsz, _⟩ := tok_slice htok hk
  have hso : (sizeOf e).run P c.w = .ok sz c.w := by simp [sizeOf, typeInfo, hi1, hsz]
  split at h
  · cases h
  rename_i l hl
  split at h
  · rename_i y a0 n k
    split at h
    case h_2 => cases h
    rename_i N s f tok hy
    split at h
    · cases h
    rename_i hs
    have := Nat.eq_of_beq_eq_true hs
    subst this
    split at h
    · cases h
    rename_i h0 hh
    simp only [Option.some.injEq, Prod.mk.injEq] at h
    obtain ⟨rfl, rfl⟩ := h
    obtain ⟨⟨o1, o2, o3, o4⟩, _⟩ := ho
    cases hx with
    | slgone h1 h2 => exact (gone_var hy h1 h2).elim
    | sl h1 h2 h3 h4 h5 h6 h7 =>
      rename_i b o N' s' cap f' tok' cs T'
      rw [hy] at h1
      simp only [Option.some.injEq, Ent.var.injEq, D.arr.injEq] at h1
      obtain ⟨⟨rfl, rfl, rfl⟩, rfl⟩ := h1
      refine ⟨_, run_sliceAt hu c.w hso _ n cap lv hv l h0 (hlo.bound (by rw [← loN_hiN]; exact hl) o1) (hhi.bound hh o2) o3 (by have := h4.1; have := h4.2.1; rcases o4 with o4 | o4 <;> omega), ?_⟩
      rw [addO_eq hl, subO_eq hl, subO_eq hl]
      by_cases hc : cap = l
      · rw [if_pos hc]
        exact .sl hy (by omega) h3 ⟨by omega, by omega, fun h => by omega⟩ (by omega) h6 (by rw [show a0 + l + (cap - l) = a0 + cap by omega]; exact h7)
      · rw [if_neg hc]
        simp only [Option.map_some, Addr.add_mid]
        refine .sl hy (by omega) h3 ⟨by omega, by omega, fun h => ?_⟩ (by omega) h6 (by rw [show a0 + l + (cap - l) = a0 + cap by omega]; exact h7)
        rw [h4.2.2 (by omega), Nat.add_mul]
  · split at h
    · cases h
    rename_i xs hxs
    split at h
    · cases h
    rename_i h0 hh
    simp only [Option.some.injEq, Prod.mk.injEq] at h
    obtain ⟨rfl, rfl⟩ := h
    obtain ⟨⟨o1, o2, o3, o4⟩, o5, _⟩ := ho
    have hd := asList_VD hx hxs
    obtain ⟨av, cap, rfl, hcap, hmax⟩ := list_shape hd
    refine ⟨_, run_sliceAt hu c.w hso _ xs.length cap lv hv l h0 (hlo.bound (by rw [← loN_hiN]; exact hl) o1) (hhi.bound hh o2) o3 (by omega), ?_⟩
    rw [takeO_eq hh, dropO_eq hl]
    have hlen : ((xs.take h0).drop l).length = h0 - l := by simp; omega
    refine .data ?_
    unfold VD
    simp only [D.isAgg]
    rcases Nat.eq_zero_or_pos (h0 - l) with hz | hz
    · have : (xs.take h0).drop l = [] := List.length_eq_zero_iff.1 (by omega)
      rw [this, hz]
      exact .list0 rfl (by omega)
    · cases hd with
      | list0 h1 _ => simp at o4; omega
      | @list _ _ b off cap' es h1 h2 h3 h4 h5 h6 =>
        simp only [Value.slice.injEq] at h1
        obtain ⟨rfl, _, rfl⟩ := h1
        have hes : es = sz := by
          have h0 : 0 < xs.length := by omega
          rw [← h4 0 h0]; exact o5 _ (List.getElem_mem h0)
        subst hes
        rw [if_neg (by omega)]
        simp only [Option.map_some, Addr.add_mid]
        refine .list (es := es) (off := off + l * es) (by rw [hlen]) (by rw [hlen]; omega) (by omega) (fun i hi => ?_) (fun i hi => ?_) ?_
        · simp only [List.getElem_drop, List.getElem_take]; exact h4 _ _
        · simp only [List.getElem_drop, List.getElem_take]
          rw [hlen] at hi
          have := h5 (l + i) (by omega)
          refine this.congr fun o _ => ?_
          congr 1
          rw [Nat.add_mul]; omega
        · rw [hlen]
          have : l * es + (h0 - l) * es ≤ xs.length * es := by rw [← Nat.add_mul]; exact Nat.mul_le_mul_right _ (by omega)
          omega

/-! ### Arrays of our own -/

def inR (lo n j : Nat) : Bool := match Nat.ble lo j with
  | true => Nat.blt j (lo + n)
  | false => false
theorem inR_spec {lo n j : Nat} : inR lo n j = true ↔ lo ≤ j ∧ j < lo + n := by
  unfold inR
  split
  · rename_i h; have := Nat.le_of_ble_eq_true h; simp [Nat.blt_eq]; intro _; exact this
  · rename_i h
    simp only [Bool.false_eq_true, false_iff]
    rintro ⟨h1, _⟩
    rw [Nat.ble_eq_true_of_le h1] at h; cases h

/-- Cells of one of our arrays are written. -/
theorem writeOwn {c : Cx} (hc : CxOK c) {y b N sz : Nat} {f f' : Nat → D} {cs : Array Value} {T : TypeId} (hy : c.es[y]? = some (.var (.arr N sz f) [])) (hl : c.lam[y]? = some (some b)) (hb : c.w.heap[b]? = some (.cells cs T (0, 0))) {o : Nat} {vs : List Value}
    (hfit : o + vs.length ≤ cs.size) (hf : ∀ i, i < N → (f' i).size = sz ∧ DR c.w c.fz (f' i) (fun k => (splice cs o vs).getD (i * sz + k) undef)) (hs : ∀ i, i < N → Same (f i) (f' i)) :
    ∃ c', c'.w = c.w.setRow b (splice cs o vs) ∧ CxOK c' ∧ Reach c c' ∧ c'.es = c.es.set y (.var (.arr N sz f') []) := by
  obtain ⟨b', cs', T', e1, e2, e3, e4, e5, e6⟩ := hc.ent y _ hy
  rw [hl] at e1
  simp only [Option.some.injEq] at e1
  subst e1
  rw [hb] at e2
  simp only [Option.some.injEq, Obj.cells.injEq] at e2
  obtain ⟨rfl, rfl, _⟩ := e2
  have hsp := splice_size hfit
  obtain ⟨o1, o2⟩ := over hc (e' := .var (.arr N sz f') []) (cs' := splice cs o vs) hy hl hb hsp e5 (.inl ⟨_, _, rfl, ⟨rfl, rfl, hs⟩, rfl⟩) (fun hr => by
    refine ⟨b, _, T, hl, setRow_heap _ _ _ _ _ _ hb, by rw [hsp]; exact e3, ?_, e5, fun q z hz => by simp at hz⟩
    exact .arr (fun i hi => (hf i hi).1) fun i hi => (hf i hi).2.ext hr.ext)
  exact ⟨_, rfl, o1, o2, rfl⟩

/-- Ones of one make. -/
theorem DR.same {w w' : World} {fz fz' : Nat → Nat} {d e : D} {c c' : Nat → Value} (_ : DR w fz d c) (_ : DR w' fz' e c') (h : Same d e) : Same d e := h

def xClear (tt : TT) (es : List Ent) (T : TypeId) (x : AV) : Option (List Ent × List Prop) :=
  match tt.ti T with
  | none => none
  | some ti => match ti.kind with
    | .slice e sz _ => match tt.zero e with
      | none => none
      | some z0 => match Nat.beq z0.size sz with
        | false => none
        | true => match x with
          | .sl y lo n _ => match es[y]? with
            | some (.var (.arr N s f) []) => match Nat.beq s sz with
              | false => none
              | true => some (es.set y (.var (.arr N s fun j => bif inR lo n j then z0 else f j) []), [∀ j, j < N → Same (f j) z0])
            | _ => none
          | _ => none
    | _ => none

theorem zeroCells_getD (z : Array Value) (n i o : Nat) (hi : i < n) (ho : o < z.size) : (Builtin.zeroCells z n).toList.getD (i * z.size + o) undef = z.getD o undef := by
  have h1 := mul_lt_of (es := z.size) hi ho
  have h2 : (i * z.size + o) % z.size = o := by rw [Nat.mul_comm, Nat.mul_add_mod]; exact Nat.mod_eq_of_lt ho
  simp [Builtin.zeroCells, h1, h2, ho]

theorem xClear_sound {P : Program} {tt : TT} (hT : TTok P tt) {c : Cx} (hc : CxOK c) {T ty : TypeId} {x : AV} {es' : List Ent} {obs : List Prop} (h : xClear tt c.es T x = some (es', obs)) (ho : AllP obs) {xv : Value} (hx : VR c x xv) :
    ∃ c', (Builtin.clear_ #[T] ty #[xv]).run P c.w = .ok (.tuple #[]) c'.w ∧ CxOK c' ∧ Reach c c' ∧ c'.es = es' := by
  unfold xClear at h
  split at h
  · cases h
  rename_i ti hti
  split at h
  case h_2 => cases h
  rename_i e sz by_ hk
  obtain ⟨hu, _, i, hi, hsz, _⟩ := tok_slice (hT.ti _ _ hti) hk
  split at h
  · cases h
  rename_i z0 hz
  split at h
  · cases h
  rename_i hz0
  have hz0 := Nat.eq_of_beq_eq_true hz0
  obtain ⟨z1, z2, _⟩ := hT.zero _ _ hz
  rw [hi] at z1
  have z1 : i.zero = some (flatV z0) := z1
  obtain ⟨f1, f2⟩ := (VD_flat c.w c.fz z2).cells
  split at h
  case h_2 => cases h
  rename_i y lo n k
  split at h
  case h_2 => cases h
  rename_i N s f hy
  split at h
  · cases h
  rename_i hs
  have := Nat.eq_of_beq_eq_true hs
  subst this
  simp only [Option.some.injEq, Prod.mk.injEq] at h
  obtain ⟨rfl, rfl⟩ := h
  have hsame := ho.1
  cases hx with
  | slgone h1 h2 => exact (gone_var hy h1 h2).elim
  | sl h1 h2 h3 h4 h5 h6 h7 =>
    rename_i b o N' s' cap f' tok' cs T'
    rw [hy] at h1
    simp only [Option.some.injEq, Ent.var.injEq, D.arr.injEq] at h1
    obtain ⟨⟨rfl, rfl, rfl⟩, rfl⟩ := h1
    obtain ⟨b', cs', T2, e1, e2, e3, e4, e5, e6⟩ := hc.ent y _ hy
    rw [h3] at e1
    simp only [Option.some.injEq] at e1
    subst e1
    rw [h6] at e2
    simp only [Option.some.injEq, Obj.cells.injEq] at e2
    obtain ⟨rfl, rfl, _⟩ := e2
    cases e4 with
    | arr g1 g2 =>
      have hcz : (flatV z0).cells.size = s := by omega
      have hzl : (Builtin.zeroCells (flatV z0).cells n).toList.length = n * s := by rw [Array.length_toList, size_zeroCells, hcz]
      rcases Nat.eq_zero_or_pos n with hn | hn
      · subst hn
        refine ⟨{ c with es := c.es.set y (.var (.arr N s fun j => bif inR lo 0 j then z0 else f j) []) }, by simp [Builtin.clear_, run_underlying hu], ?_⟩
        have : (fun j => bif inR lo 0 j then z0 else f j) = f := by
          funext j
          have : inR lo 0 j = false := by
            cases hq : inR lo 0 j with
            | false => rfl
            | true => have := inR_spec.1 hq; omega
          rw [this]; rfl
        rw [this, set_self hy]
        exact ⟨hc, .refl hc, rfl⟩
      · have ho' := h4.2.2 (by omega)
        subst ho'
        have hfit : lo * s + (Builtin.zeroCells (flatV z0).cells n).toList.length ≤ cs.size := by
          rw [hzl, ← Nat.add_mul]
          exact Nat.le_trans (Nat.mul_le_mul_right _ (by omega)) h7
        have hst := run_storeCells_at P b (lo * s) T' (Builtin.zeroCells (flatV z0).cells n).toList 0 cs c.w h6 (by simpa using hfit) (fun v hv => by
          obtain ⟨j, hj, rfl⟩ := List.getElem_of_mem hv
          rw [hzl] at hj
          have hs0 : 0 < s := by
            rcases Nat.eq_zero_or_pos s with h0 | h0
            · subst h0; simp at hj
            · exact h0
          have h8 := f2.one (j % s) (by rw [hz0]; exact Nat.mod_lt _ hs0)
          have h9 := zeroCells_getD (flatV z0).cells n (j / s) (j % s) (Nat.div_lt_of_lt_mul (by rw [Nat.mul_comm]; exact hj)) (by rw [hcz]; exact Nat.mod_lt _ hs0)
          rw [hcz, Nat.div_add_mod' j s, List.getD_eq_getElem?_getD, List.getElem?_eq_getElem (by rw [hzl]; exact hj)] at h9
          simp only [Option.getD_some] at h9
          rw [h9]; exact h8)
        simp only [Nat.add_zero] at hst
        obtain ⟨c', k1, k2, k3, k4⟩ := writeOwn hc (f' := fun j => bif inR lo n j then z0 else f j) hy h3 h6 hfit (fun j hj => by
          have hgd := splice_getD (cs := cs) (o := lo * s) (vs := (Builtin.zeroCells (flatV z0).cells n).toList) hfit
          cases hq : inR lo n j with
          | true =>
            simp only [cond_true]
            obtain ⟨q1, q2⟩ := inR_spec.1 hq
            refine ⟨hz0, f2.congr fun o hoo => ?_⟩
            rw [hz0] at hoo
            have l1 := mul_lt_of (es := s) (i := j - lo) (n := n) (by omega) hoo
            have l2 : j * s = lo * s + (j - lo) * s := by rw [← Nat.add_mul]; congr 1; omega
            rw [hgd, if_pos (by rw [hzl]; omega), show j * s + o - lo * s = (j - lo) * s + o by omega]
            have := zeroCells_getD (flatV z0).cells n (j - lo) o (by omega) (by omega)
            rw [hcz] at this
            exact this
          | false =>
            simp only [cond_false]
            have q : ¬ (lo ≤ j ∧ j < lo + n) := fun h => by rw [inR_spec.2 h] at hq; cases hq
            refine ⟨g1 j hj, (g2 j hj).congr fun o hoo => ?_⟩
            rw [g1 j hj] at hoo
            rw [hgd, if_neg]
            rw [hzl]
            rintro ⟨r1, r2⟩
            apply q
            rw [← Nat.add_mul] at r2
            constructor
            · apply Nat.le_of_lt_succ
              apply Nat.lt_of_mul_lt_mul_right (a := s)
              rw [Nat.succ_mul]; omega
            · apply Nat.lt_of_mul_lt_mul_right (a := s)
              omega) (fun j hj => by
          cases hq : inR lo n j with
          | true => exact hsame j hj
          | false => exact .refl _)
        refine ⟨c', ?_, k2, k3, k4⟩
        rw [k1]
        have hn' : n ≠ 0 := by omega
        cases n with
        | zero => omega
        | succ n =>
          simp [Builtin.clear_, run_underlying hu, zeroValue, typeInfo, hi, z1] at hst ⊢
          rw [hst]
          simp [splice]

/-- What is put behind a part of an array of our own, within it. -/
def xAppendOwn (tt : TT) (es : List Ent) (t t' : TypeId) (s x : AV) : Option (AV × List Ent × List Prop) :=
  match Nat.beq t t' with
  | false => none
  | true => match tt.ti t with
    | none => none
    | some ti => match ti.kind with
      | .slice _ sz _ => match s with
        | .sl y 0 n k => match x with
          | .sl y' lo m _ => match Nat.beq y y' with
            | false => none
            | true => match es[y]? with
              | some (.var (.arr N s f) []) => match Nat.beq s sz with
                | false => none
                | true => some (.sl y 0 (n + m) k, es.set y (.var (.arr N s fun j => bif inR n m j then f (lo + (j - n)) else f j) []), [n + m ≤ k, n + m ≤ N, ∀ i j, i < N → j < N → Same (f i) (f j)])
              | _ => none
          | _ => none
        | _ => none
      | _ => none

theorem xAppendOwn_sound {P : Program} {tt : TT} (hT : TTok P tt) {c : Cx} (hc : CxOK c) {t t' ty : TypeId} {s x v : AV} {es' : List Ent} {obs : List Prop} (h : xAppendOwn tt c.es t t' s x = some (v, es', obs)) (ho : AllP obs) {sv xv : Value} (hs : VR c s sv) (hx : VR c x xv) :
    ∃ val c', (Builtin.append_ #[t, t'] ty #[sv, xv]).run P c.w = .ok val c'.w ∧ CxOK c' ∧ Reach c c' ∧ c'.es = es' ∧ VR c' v val := by
  unfold xAppendOwn at h
  split at h
  · cases h
  rename_i htt
  have := Nat.eq_of_beq_eq_true htt
  subst this
  split at h
  · cases h
  rename_i ti hti
  split at h
  case h_2 => cases h
  rename_i e sz by_ hk
  obtain ⟨hu, _, i, hi, hsz, _⟩ := tok_slice (hT.ti _ _ hti) hk
  split at h
  case h_2 => cases h
  rename_i y n k
  split at h
  case h_2 => cases h
  rename_i y' lo m k'
  split at h
  · cases h
  rename_i hyy
  have := Nat.eq_of_beq_eq_true hyy
  subst this
  split at h
  case h_2 => cases h
  rename_i N s f hy
  split at h
  · cases h
  rename_i hss
  have := Nat.eq_of_beq_eq_true hss
  subst this
  simp only [Option.some.injEq, Prod.mk.injEq] at h
  obtain ⟨rfl, rfl, rfl⟩ := h
  obtain ⟨o1, o2, o3, _⟩ := ho
  subst hsz
  cases hs with
  | slgone h1 h2 => exact (gone_var hy h1 h2).elim
  | sl h1 h2 h3 h4 h5 h6 h7 =>
    rename_i b o N' s' cap f' tok' cs T'
    rw [hy] at h1
    simp only [Option.some.injEq, Ent.var.injEq, D.arr.injEq] at h1
    obtain ⟨⟨rfl, rfl, rfl⟩, rfl⟩ := h1
    cases hx with
    | slgone h1 h2 => exact (gone_var hy h1 h2).elim
    | sl h1' h2' h3' h4' h5' h6' h7' =>
      rename_i b' o' N' s' cap' f' tok' cs' T2
      rw [hy] at h1'
      simp only [Option.some.injEq, Ent.var.injEq, D.arr.injEq] at h1'
      obtain ⟨⟨rfl, rfl, rfl⟩, rfl⟩ := h1'
      rw [h3] at h3'
      simp only [Option.some.injEq] at h3'
      subst h3'
      rw [h6] at h6'
      simp only [Option.some.injEq, Obj.cells.injEq] at h6'
      obtain ⟨rfl, rfl, _⟩ := h6'
      obtain ⟨b', cs', T2, e1, e2, e3, e4, e5, e6⟩ := hc.ent y _ hy
      rw [h3] at e1
      simp only [Option.some.injEq] at e1
      subst e1
      rw [h6] at e2
      simp only [Option.some.injEq, Obj.cells.injEq] at e2
      obtain ⟨rfl, rfl, _⟩ := e2
      cases e4 with
      | arr g1 g2 =>
        rcases Nat.eq_zero_or_pos m with hm | hm
        · subst hm
          have hsame : (fun j => bif inR n 0 j then f (lo + (j - n)) else f j) = f := by
            funext j
            have : inR n 0 j = false := by
              cases hq : inR n 0 j with
              | false => rfl
              | true => have := inR_spec.1 hq; omega
            rw [this]; rfl
          rw [hsame, set_self hy]
          refine ⟨_, c, run_append_zero c.w t ty e i hu hi _ n cap h4.1 _ cap', hc, .refl hc, rfl, ?_⟩
          exact .sl hy (by omega) h3 ⟨by omega, by omega, h4.2.2⟩ h5 h6 h7
        · have ho := h4.2.2 (by omega)
          have ho' := h4'.2.2 (by omega)
          simp only [Nat.zero_mul] at ho
          subst ho; subst ho'
          have hnews : (rowOf c.w b (lo * i.size) (m * i.size)).length = m * i.size := rowOf_length _ _ _ _
          have hin : lo * i.size + m * i.size ≤ cs.size := by rw [← Nat.add_mul]; exact Nat.le_trans (Nat.mul_le_mul_right _ (by omega)) h7'
          have hcell : ∀ j, j < m * i.size → c.w.cell? ⟨b, lo * i.size + j, none⟩ = some (cellAt c.w b (lo * i.size + j)) := fun j hj => by
            simp [cellAt, World.cell?, h6, show lo * i.size + j < cs.size by omega]
          have hat : ∀ j, j < cs.size → cellAt c.w b j = cs.getD j undef := fun j hj => by simp [cellAt, World.cell?, h6, hj]
          have hfit : n * i.size + (rowOf c.w b (lo * i.size) (m * i.size)).length ≤ cs.size := by
            rw [hnews, ← Nat.add_mul]
            exact Nat.le_trans (Nat.mul_le_mul_right _ (by omega)) h7
          have hone : ∀ u ∈ rowOf c.w b (lo * i.size) (m * i.size), u.oneCell' = true := by
            intro u hu
            simp only [rowOf, List.mem_map, List.mem_range] at hu
            obtain ⟨j, hj, rfl⟩ := hu
            have hs0 : 0 < i.size := by
              rcases Nat.eq_zero_or_pos i.size with h0 | h0
              · rw [h0] at hj; simp at hj
              · exact h0
            have hq : j / i.size < m := Nat.div_lt_of_lt_mul (by rw [Nat.mul_comm]; exact hj)
            have h8 := (g2 (lo + j / i.size) (by omega)).one (j % i.size) (by rw [g1 _ (by omega)]; exact Nat.mod_lt _ hs0)
            have h9 := Nat.div_add_mod' j i.size
            rw [Nat.add_mul, show lo * i.size + j / i.size * i.size + j % i.size = lo * i.size + j by omega] at h8
            rw [hat _ (by omega)]
            exact h8
          have hr := run_append_roomT (P := P) c.w t ty e T' i hu hi b n cap cs h6 ⟨b, lo * i.size, none⟩ m cap' (rowOf c.w b (lo * i.size) (m * i.size)) hnews (rowOf_cells hcell) hone (by omega) hfit
          have hgd := splice_getD (cs := cs) (o := n * i.size) (vs := rowOf c.w b (lo * i.size) (m * i.size)) hfit
          obtain ⟨c', k1, k2, k3, k4⟩ := writeOwn hc (f' := fun j => bif inR n m j then f (lo + (j - n)) else f j) hy h3 h6 hfit (fun j hj => by
            cases hq : inR n m j with
            | true =>
              simp only [cond_true]
              obtain ⟨q1, q2⟩ := inR_spec.1 hq
              have hlt : lo + (j - n) < N := by omega
              refine ⟨g1 _ hlt, (g2 _ hlt).congr fun o hoo => ?_⟩
              rw [g1 _ hlt] at hoo
              have l1 := mul_lt_of (es := i.size) (i := j - n) (n := m) (by omega) hoo
              have l2 : j * i.size = n * i.size + (j - n) * i.size := by rw [← Nat.add_mul]; congr 1; omega
              rw [hgd, if_pos (by rw [hnews]; omega), show j * i.size + o - n * i.size = (j - n) * i.size + o by omega, rowOf_getD _ _ _ _ _ l1, hat _ (by omega), Nat.add_mul, Nat.add_assoc]
            | false =>
              simp only [cond_false]
              have q : ¬ (n ≤ j ∧ j < n + m) := fun h => by rw [inR_spec.2 h] at hq; cases hq
              refine ⟨g1 j hj, (g2 j hj).congr fun o hoo => ?_⟩
              rw [g1 j hj] at hoo
              rw [hgd, if_neg]
              rw [hnews]
              rintro ⟨r1, r2⟩
              apply q
              rw [← Nat.add_mul] at r2
              constructor
              · apply Nat.le_of_lt_succ
                apply Nat.lt_of_mul_lt_mul_right (a := i.size)
                rw [Nat.succ_mul]; omega
              · apply Nat.lt_of_mul_lt_mul_right (a := i.size)
                omega) (fun j hj => by
            cases hq : inR n m j with
            | true =>
              obtain ⟨q1, q2⟩ := inR_spec.1 hq
              exact o3 _ _ hj (by omega)
            | false => exact .refl _)
          refine ⟨.slice (some ⟨b, 0, none⟩) (n + m) cap, c', by rw [k1]; exact hr, k2, k3, k4, ?_⟩
          have hyl := (List.getElem?_eq_some_iff.1 hy).1
          obtain ⟨cs2, h8, h9⟩ := k3.keep b cs T' _ h6
          have hlam : c'.lam[y]? = some (some b) := by
            obtain ⟨e', j1, j2⟩ := k3.ents y _ hy
            rw [k4, set_nth hyl] at j1
            simp only [Option.some.injEq] at j1
            subst j1
            rcases j2 with ⟨_, _, _, _, j3⟩ | ⟨j3, _⟩
            · exact j3.trans h3
            · cases j3
          exact .sl (by rw [k4]; exact set_nth hyl) (by omega) hlam ⟨by omega, by omega, fun _ => by simp⟩ h5 h8 (by omega)

/-- A slice of no parts. -/
theorem buildSlice0_sound {P : Program} {tt : TT} (hT : TTok P tt) {c : Cx} (hc : CxOK c) {T : TypeId} {ti : TI} {e sz by_ : Nat} (hti : tt.ti T = some ti) (hk : ti.kind = .slice e sz by_) :
    ∃ val c', (Instr.buildSlice T 0 #[]).run P c.w = .ok val c'.w ∧ CxOK c' ∧ Reach c c' ∧ c'.es = c.es ∧ VR c' (.data .nil) val := by
  obtain ⟨hu, _, i, hi, hsz, _⟩ := tok_slice (hT.ti _ _ hti) hk
  have hg : Grow c.w c.fz (c.w.alloc (.cells #[] e)) c.fz := {
    size := by simp
    rest := ⟨rfl, rfl, rfl⟩
    old := fun b hb => ⟨heap_alloc_old _ _ hb, rfl⟩
    fr := fun b o ho => by
      obtain ⟨v, hv⟩ := hc.fr b o ho
      have hbl : b < c.w.heap.size := by
        rcases Nat.lt_or_ge b c.w.heap.size with h | h
        · exact h
        · have := hc.fr.high h; omega
      exact ⟨v, by simp only [World.cell?, heap_alloc_old c.w (.cells #[] e) hbl]; exact hv⟩ }
  exact ⟨.slice (some ⟨c.w.heap.size, 0, none⟩) 0 0, { c with w := c.w.alloc (.cells #[] e), fz := c.fz }, by simp [Instr.buildSlice, run_underlying hu, sizeOf, typeInfo, hi, Instr.fill, newRow]; rw [show Array.map (fun _ => (default : Value)) (Array.range 0) = #[] from Array.eq_empty_of_size_eq_zero (by simp)], hg.ok hc, hg.reach hc, rfl, .data (.nil rfl)⟩

end Go.W
