/-
  The other operations that leave the world as it is.
-/
import Derived.Test.YthpjdjofcbnoiacWf
namespace Go.W

/-! ### Addresses -/

def xField (tt : TT) (es : List Ent) (T : TypeId) (x : AV) (i : Nat) : Option AV :=
  match tt.ti T with
  | none => none
  | some ti => match ti.kind with
    | .struct fs => match fs[i]? with
      | some (off, sz, _) => match Nat.beq sz 0 with
        | true => none
        | false => match x with
          | .ptr y p => match es[y]? with
            | some (.var d _) => match d.get p with
              | some (.agg n f) => match Nat.blt i n with
                | true => match Nat.beq (sumTo (fun j => (f j).size) i) off with
                  | true => some (.ptr y (p ++ [i]))
                  | false => none
                | false => none
              | _ => none
            | _ => none
          | .cptr (.agg n f) => match Nat.blt i n with
            | true => match Nat.beq (sumTo (fun j => (f j).size) i) off with
              | true => some (.cptr (f i))
              | false => none
            | false => none
          | _ => none
      | none => none
    | _ => none

theorem snoc_agg {d : D} {p : List Nat} {n : Nat} {f : Nat → D} {i : Nat} (hp : PathOK d p) (hg : d.get p = some (.agg n f)) (hi : i < n) :
    PathOK d (p ++ [i]) ∧ d.off (p ++ [i]) = d.off p + sumTo (fun j => (f j).size) i ∧ d.get (p ++ [i]) = some (f i) := by
  induction p generalizing d with
  | nil =>
    simp only [D.get, Option.some.injEq] at hg; subst hg
    simp [PathOK, D.off, D.get, hi]
  | cons k p ih =>
    cases d with
    | agg m g => 
      have := ih hp.2 hg
      simp only [List.cons_append, PathOK, D.off, D.get]
      exact ⟨⟨hp.1, this.1⟩, by rw [this.2.1]; omega, this.2.2⟩
    | arr m es g =>
      have := ih hp.2 hg
      simp only [List.cons_append, PathOK, D.off, D.get]
      exact ⟨⟨hp.1, this.1⟩, by rw [this.2.1]; omega, this.2.2⟩
    | _ => simp [D.get] at hg

theorem snoc_arr {d : D} {p : List Nat} {n es : Nat} {f : Nat → D} {i : Nat} (hp : PathOK d p) (hg : d.get p = some (.arr n es f)) (hi : i < n) :
    PathOK d (p ++ [i]) ∧ d.off (p ++ [i]) = d.off p + i * es ∧ d.get (p ++ [i]) = some (f i) := by
  induction p generalizing d with
  | nil =>
    simp only [D.get, Option.some.injEq] at hg; subst hg
    simp [PathOK, D.off, D.get, hi]
  | cons k p ih =>
    cases d with
    | agg m g => 
      have := ih hp.2 hg
      simp only [List.cons_append, PathOK, D.off, D.get]
      exact ⟨⟨hp.1, this.1⟩, by rw [this.2.1]; omega, this.2.2⟩
    | arr m es g =>
      have := ih hp.2 hg
      simp only [List.cons_append, PathOK, D.off, D.get]
      exact ⟨⟨hp.1, this.1⟩, by rw [this.2.1]; omega, this.2.2⟩
    | _ => simp [D.get] at hg

theorem run_fieldAt {P : Program} {T : TypeId} {ti : TI} (h : tokB P T ti = true) {fs : List (Nat × Nat × TypeId)} (hk : ti.kind = .struct fs) {i off sz ty : Nat} (hi : fs[i]? = some (off, sz, ty)) (hs : sz ≠ 0)
    (w : World) (b o : Nat) : (Instr.fieldAt T (.pointer (some ⟨b, o, none⟩)) i).run P w = .ok (.pointer (some ⟨b, o + off, none⟩)) w := by
  obtain ⟨fields, h1, _, h2, _⟩ := tok_struct h hk
  obtain ⟨f, h3, h4, _, h5⟩ := h2 i off sz ty hi
  simp [Instr.fieldAt, run_underlying h1, h3, Instr.sureAddr, fieldPlace, h5, hs, h4, Addr.add_mid]

theorem xField_sound {P : Program} {tt : TT} (hT : TTok P tt) {c : Cx} {T : TypeId} {x a : AV} {i : Nat} (h : xField tt c.es T x i = some a) {xv : Value} (hx : VR c x xv) :
    ∃ val, (Instr.fieldAt T xv i).run P c.w = .ok val c.w ∧ VR c a val := by
  unfold xField at h
  split at h
  · cases h
  rename_i ti hti
  have htok := hT.ti _ _ hti
  split at h
  case h_2 => cases h
  rename_i fs hk
  split at h
  case h_2 => cases h
  rename_i off sz ty hi
  split at h
  · cases h
  rename_i hs
  have hs : sz ≠ 0 := fun h0 => by subst h0; simp at hs
  split at h
  · rename_i y p
    split at h
    case h_2 => cases h
    rename_i d tok hy
    split at h
    case h_2 => cases h
    rename_i n f hg
    split at h
    case h_2 => cases h
    rename_i hin
    split at h
    case h_2 => cases h
    rename_i hoff
    simp only [Option.some.injEq] at h
    subst h
    have hin : i < n := by simpa [Nat.blt_eq] using hin
    have hoff := Nat.eq_of_beq_eq_true hoff
    cases hx with
    | ptrgone h1 h2 => exact (gone_var hy h1 h2).elim
    | refp h1 h2 => rw [hy] at h1; cases h1
    | ptr h1 h2 h3 =>
      rw [hy] at h1
      simp only [Option.some.injEq, Ent.var.injEq] at h1
      obtain ⟨rfl, rfl⟩ := h1
      obtain ⟨k1, k2, k3⟩ := snoc_agg h2 hg hin
      refine ⟨_, run_fieldAt htok hk hi hs c.w _ _, ?_⟩
      rw [← hoff, ← k2]
      exact .ptr hy k1 h3
  · rename_i n f
    split at h
    case h_2 => cases h
    rename_i hin
    split at h
    case h_2 => cases h
    rename_i hoff
    simp only [Option.some.injEq] at h
    subst h
    have hin : i < n := by simpa [Nat.blt_eq] using hin
    have hoff := Nat.eq_of_beq_eq_true hoff
    cases hx with
    | @cptr _ b o h1 h2 =>
      refine ⟨_, run_fieldAt htok hk hi hs c.w _ _, ?_⟩
      cases h1 with
      | agg h1 =>
        have hle := sumTo_le (fun j => (f j).size) hin
        simp only [D.size] at h2
        refine .cptr ?_ (by omega)
        have := h1 i hin
        rw [← hoff]
        simpa only [Nat.add_assoc] using this
  · cases h

def addLo : Nat → Nat → Nat
  | 0, i => i
  | lo + 1, i => lo + 1 + i
theorem addLo_eq (lo i : Nat) : addLo lo i = lo + i := by cases lo <;> simp [addLo]
theorem off_nil (d : D) : d.off [] = 0 := by cases d <;> rfl

/-- Numbers as places. -/
def xIndexAddr (tt : TT) (es : List Ent) (T : TypeId) (x ix : AV) : Option (AV × List Prop) :=
  match ix with
  | .data (.int _ n) => match tt.ti T with
    | none => none
    | some ti => match ti.kind with
      | .array len sz _ => match x with
        | .ptr y p => match es[y]? with
          | some (.var d _) => match d.get p with
            | some (.arr m s _) => match Nat.beq len m with
              | true => match Nat.beq sz s with
                | true => some (.ptr y (p ++ [n.toNat]), [0 ≤ n ∧ n < (len : Int)])
                | false => none
              | false => none
            | _ => none
          | _ => none
        | .cptr (.arr m s f) => match Nat.beq len m with
          | true => match Nat.beq sz s with
            | true => some (.cptr (f n.toNat), [0 ≤ n ∧ n < (len : Int)])
            | false => none
          | false => none
        | _ => none
      | .slice _ sz _ => match x with
        | .data (.list xs) => some (.cptr (xs.getD n.toNat default), [0 ≤ n ∧ n < (xs.length : Int), ∀ x ∈ xs, x.size = sz])
        | .row _ xs => some (.cptr (xs.getD n.toNat default), [0 ≤ n ∧ n < (xs.length : Int), ∀ x ∈ xs, x.size = sz])
        | .sl y lo m _ => match es[y]? with
          | some (.var (.arr _ s _) _) => match Nat.beq s sz with
            | true => some (.ptr y [addLo lo n.toNat], [0 ≤ n ∧ n < (m : Int)])
            | false => none
          | _ => none
        | _ => none
      | _ => none
  | _ => none

theorem VD.leaf {w : World} {fz : Nat → Nat} {d : D} {v : Value} (hd : d.isAgg = false) (h : VD w fz d v) : DR w fz d (fun _ => v) := by
  unfold VD at h; simpa only [hd] using h

theorem VR.int {c : Cx} {k : IntKind} {n : Int} {v : Value} (h : VR c (.data (.int k n)) v) : v = .int k n ∧ k.wrap n = n := by
  cases h with
  | data h => cases h.leaf rfl with
    | int h1 h2 => exact ⟨h1, h2⟩
theorem VR.bool {c : Cx} {b : Bool} {v : Value} (h : VR c (.data (.bool b)) v) : v = .bool b := by
  cases h with
  | data h => cases h.leaf rfl with
    | bool h1 => exact h1
theorem VR.str {c : Cx} {s : ByteArray} {v : Value} (h : VR c (.data (.str s)) v) : v = .string s ∧ s.size ≤ maxLen := by
  cases h with
  | data h => cases h.leaf rfl with
    | str h1 h2 => exact ⟨h1, h2⟩

theorem run_indexAt_slice {P : Program} {T : TypeId} {ti : TI} (h : tokB P T ti = true) {e sz by_ : Nat} (hk : ti.kind = .slice e sz by_) (w : World) (a : Addr) (len cap : Nat) (k : IntKind) (n : Int)
    (h0 : 0 ≤ n) (h1 : n < (len : Int)) : (Instr.indexAt T (.slice (some a) len cap) (.int k n)).run P w = .ok (.pointer (some (a.add (n.toNat * sz)))) w := by
  obtain ⟨h2, _, i, h3, h4, _⟩ := tok_slice h hk
  simp [Instr.indexAt, asIntOf, run_underlying h2, h0, h1, sizeOf, typeInfo, h3, h4]

theorem run_indexAt_array {P : Program} {T : TypeId} {ti : TI} (h : tokB P T ti = true) {len sz e : Nat} (hk : ti.kind = .array len sz e) (w : World) (b o : Nat) (k : IntKind) (n : Int)
    (h0 : 0 ≤ n) (h1 : n < (len : Int)) : (Instr.indexAt T (.pointer (some ⟨b, o, none⟩)) (.int k n)).run P w = .ok (.pointer (some ⟨b, o + n.toNat * sz, none⟩)) w := by
  obtain ⟨h2, h3, _, _⟩ := tok_array h hk
  simp [Instr.indexAt, asIntOf, run_underlying h2, h0, h1, h3, Instr.sureAddr, Addr.add_mid]

theorem list_at {c : Cx} {xs : List D} {v : Value} (h : VD c.w c.fz (.list xs) v) {n : Int} {sz : Nat} (h0 : 0 ≤ n) (h1 : n < (xs.length : Int)) (hs : ∀ x ∈ xs, x.size = sz) :
    ∃ b o cap, v = .slice (some ⟨b, o, none⟩) xs.length cap ∧ VR c (.cptr (xs.getD n.toNat default)) (.pointer (some ⟨b, o + n.toNat * sz, none⟩)) := by
  cases h.leaf rfl with
  | list0 _ _ => simp at h1; omega
  | @list _ _ b off cap es h2 h3 h4 h5 h6 h7 =>
    refine ⟨b, off, cap, h2, ?_⟩
    have hi : n.toNat < xs.length := by omega
    have hes : es = sz := by rw [← h5 _ hi]; exact hs _ (List.getElem_mem hi)
    subst hes
    have hgd : xs.getD n.toNat default = xs[n.toNat] := by simp [List.getD_eq_getElem?_getD, List.getElem?_eq_getElem hi]
    rw [hgd]
    have := mul_le_of (es := es) hi
    exact .cptr (h6 _ hi) (by rw [h5 _ hi]; omega)

theorem xIndexAddr_sound {P : Program} {tt : TT} (hT : TTok P tt) {c : Cx} {T : TypeId} {x ix a : AV} {obs : List Prop} (h : xIndexAddr tt c.es T x ix = some (a, obs)) (ho : AllP obs) {xv iv : Value}
    (hx : VR c x xv) (hi : VR c ix iv) : ∃ val, (Instr.indexAt T xv iv).run P c.w = .ok val c.w ∧ VR c a val := by
  unfold xIndexAddr at h
  split at h
  case h_2 => cases h
  rename_i k n
  obtain ⟨rfl, _⟩ := hi.int
  split at h
  · cases h
  rename_i ti hti
  have htok := hT.ti _ _ hti
  split at h
  · rename_i len sz e hk
    split at h
    · rename_i y p
      split at h
      case h_2 => cases h
      rename_i d tok hy
      split at h
      case h_2 => cases h
      rename_i m s f hg
      split at h
      case h_2 => cases h
      rename_i hm
      split at h
      case h_2 => cases h
      rename_i hs
      have := Nat.eq_of_beq_eq_true hm
      subst this
      have := Nat.eq_of_beq_eq_true hs
      subst this
      simp only [Option.some.injEq, Prod.mk.injEq] at h
      obtain ⟨rfl, rfl⟩ := h
      obtain ⟨⟨o1, o2⟩, _⟩ := ho
      cases hx with
      | ptrgone h1 h2 => exact (gone_var hy h1 h2).elim
      | refp h1 h2 => rw [hy] at h1; cases h1
      | ptr h1 h2 h3 =>
        rw [hy] at h1
        simp only [Option.some.injEq, Ent.var.injEq] at h1
        obtain ⟨rfl, rfl⟩ := h1
        obtain ⟨k1, k2, k3⟩ := snoc_arr h2 hg (i := n.toNat) (by omega)
        refine ⟨_, run_indexAt_array htok hk c.w _ _ k n o1 o2, ?_⟩
        rw [← k2]
        exact .ptr hy k1 h3
    · rename_i m s f
      split at h
      case h_2 => cases h
      rename_i hm
      split at h
      case h_2 => cases h
      rename_i hs
      have := Nat.eq_of_beq_eq_true hm
      subst this
      have := Nat.eq_of_beq_eq_true hs
      subst this
      simp only [Option.some.injEq, Prod.mk.injEq] at h
      obtain ⟨rfl, rfl⟩ := h
      obtain ⟨⟨o1, o2⟩, _⟩ := ho
      cases hx with
      | @cptr _ b o h1 h2 =>
        refine ⟨_, run_indexAt_array htok hk c.w _ _ k n o1 o2, ?_⟩
        cases h1 with
        | arr h0 h1 =>
          have hin : n.toNat < len := by omega
          have hle := mul_le_of (es := sz) hin
          simp only [D.size] at h2
          have := h1 n.toNat hin
          refine .cptr ?_ (by rw [h0 _ hin]; omega)
          simpa only [Nat.add_assoc] using this
    · cases h
  · rename_i e sz by_ hk
    split at h
    · simp only [Option.some.injEq, Prod.mk.injEq] at h
      obtain ⟨rfl, rfl⟩ := h
      obtain ⟨⟨o1, o2⟩, o3, _⟩ := ho
      cases hx with
      | data hx =>
        obtain ⟨b, o, cap, rfl, hr⟩ := list_at hx o1 o2 o3
        exact ⟨_, by rw [run_indexAt_slice htok hk c.w _ _ _ k n o1 o2, Addr.add_mid], hr⟩
    · simp only [Option.some.injEq, Prod.mk.injEq] at h
      obtain ⟨rfl, rfl⟩ := h
      obtain ⟨⟨o1, o2⟩, o3, _⟩ := ho
      cases hx with
      | row hx _ _ _ =>
        obtain ⟨b, o, cap, rfl, hr⟩ := list_at hx o1 o2 o3
        exact ⟨_, by rw [run_indexAt_slice htok hk c.w _ _ _ k n o1 o2, Addr.add_mid], hr⟩
    · rename_i y lo m _
      split at h
      case h_2 => cases h
      rename_i N s f tok hy
      split at h
      case h_2 => cases h
      rename_i hs
      have := Nat.eq_of_beq_eq_true hs
      subst this
      simp only [Option.some.injEq, Prod.mk.injEq] at h
      obtain ⟨rfl, rfl⟩ := h
      obtain ⟨⟨o1, o2⟩, _⟩ := ho
      cases hx with
      | slgone h1 h2 => exact (gone_var hy h1 h2).elim
      | sl h1 h2 h3 h4 h5 h6 h7 =>
        rw [hy] at h1
        simp only [Option.some.injEq, Ent.var.injEq, D.arr.injEq] at h1
        obtain ⟨⟨rfl, rfl, rfl⟩, rfl⟩ := h1
        refine ⟨_, run_indexAt_slice htok hk c.w _ _ _ k n o1 o2, ?_⟩
        rw [Addr.add_mid, h4.2.2 (by omega), addLo_eq]
        have := VR.ptr (c := c) (p := [lo + n.toNat]) hy ⟨by omega, by simp [PathOK]⟩ h3
        have h8 : (D.arr N s f).off [lo + n.toNat] = lo * s + n.toNat * s := by simp only [D.off, off_nil, Nat.add_zero, Nat.add_mul]
        rw [h8] at this
        exact this
    · cases h
  · cases h

end Go.W
