/-
  Contracts; one operation.
-/
import Derived.Test.YthpjdjofcbnoiacWh
namespace Go.W

/-- The first n. -/
def lst (f : Nat → D) : Nat → Nat → List D
  | _, 0 => []
  | i, n + 1 => f i :: lst f (i + 1) n

theorem lst_length (f : Nat → D) : ∀ i n, (lst f i n).length = n
  | _, 0 => rfl
  | i, n + 1 => by simp [lst, lst_length f (i + 1) n]
theorem lst_get (f : Nat → D) : ∀ i n k (h : k < (lst f i n).length), (lst f i n)[k] = f (i + k)
  | _, 0, k, h => by simp [lst] at h
  | i, n + 1, 0, h => rfl
  | i, n + 1, k + 1, h => by
    simp only [lst, List.getElem_cons_succ]
    rw [lst_get f (i + 1) n k]
    congr 1; omega

/-- The function is there, and has a body. -/
def FnOK (P : Program) (f : FuncId) : Prop := ∃ fn, P.funcs[f]? = some fn ∧ fn.body.isNone = false ∧ (fn.name == "runtime.NumGoroutine") = false

/-- WHAT A CALL DOES: with these arguments, where the entries are these: it returns; R holds of the result and the entries. -/
def Spec (P : Program) (f : FuncId) (args : List AV) (es : List Ent) (R : AV → List Ent → Prop) : Prop :=
  FnOK P f ∧ ∀ c : Cx, CxOK c → c.es = es → ∀ vals : Array Value, vals.size = args.length → (∀ i (h : i < args.length), VR c args[i] (vals.getD i undef)) →
    Calls P f vals c.w fun e w' => ∃ rv v c', e = .returned rv ∧ c'.w = w' ∧ CxOK c' ∧ Reach c c' ∧ VR c' v rv ∧ R v c'.es

/-- A call that only computes. -/
def Pure (P : Program) (f : FuncId) (args : List AV) (r : AV) : Prop := Spec P f args [] fun v es => v = r ∧ es = []

def dropRow : AV → AV
  | .row _ xs => .data (.list xs)
  | .rich d _ => .data d
  | a => a

def plain0 : AV → Bool
  | .data _ => true
  | .cptr _ => true
  | .nilptr => true
  | .nilfunc => true
  | _ => false
def plains : List AV → Bool
  | [] => true
  | a :: r => match plain0 a with
    | true => plains r
    | false => false
def plain : AV → Bool
  | .data _ => true
  | .cptr _ => true
  | .nilptr => true
  | .nilfunc => true
  | .func _ caps => plains caps
  | _ => false

theorem plains_spec : ∀ {l : List AV}, plains l = true → ∀ a ∈ l, plain0 a = true
  | a :: r, h, b, hb => by
    simp only [plains] at h
    split at h
    · rename_i ha
      rcases List.mem_cons.1 hb with rfl | hb
      · exact ha
      · exact plains_spec h b hb
    · cases h

def allPlain : List AV → Bool
  | [] => true
  | a :: r => match plain a with
    | true => allPlain r
    | false => false

theorem allPlain_spec : ∀ {l : List AV}, allPlain l = true → ∀ a ∈ l, plain a = true
  | a :: r, h, b, hb => by
    simp only [allPlain] at h
    split at h
    · rename_i ha
      rcases List.mem_cons.1 hb with rfl | hb
      · exact ha
      · exact allPlain_spec h b hb
    · cases h

theorem VR.dropRow {c : Cx} {a : AV} {v : Value} (h : VR c a v) : VR c (dropRow a) v := by
  cases h with
  | row h _ _ _ => exact .data h
  | rich h _ => exact .data h
  | ptrgone h1 h2 => exact .ptrgone h1 h2
  | slgone h1 h2 => exact .slgone h1 h2
  | undef v => exact .undef v
  | data h => exact .data h
  | nilptr => exact .nilptr
  | ptr h1 h2 h3 => exact .ptr h1 h2 h3
  | refp h1 h2 => exact .refp h1 h2
  | cptr h1 h2 => exact .cptr h1 h2
  | sl h1 h2 h3 h4 h5 h6 h7 => exact .sl h1 h2 h3 h4 h5 h6 h7
  | func h1 h2 => exact .func h1 h2
  | nilfunc => exact .nilfunc
  | mp h1 h2 => exact .mp h1 h2
  | tuple h1 h2 => exact .tuple h1 h2

theorem VR.bare0 {w : World} {fz : Nat → Nat} {lam lam' : List (Option Nat)} {es es' : List Ent} {a : AV} {v : Value} (hp : plain0 a = true) (h : VR ⟨w, fz, lam, es⟩ a v) : VR ⟨w, fz, lam', es'⟩ a v := by
  cases h with
  | data h => exact .data h
  | nilptr => exact .nilptr
  | cptr h1 h2 => exact .cptr h1 h2
  | nilfunc => exact .nilfunc
  | _ => simp [plain0] at hp

theorem VR.bare {w : World} {fz : Nat → Nat} {lam lam' : List (Option Nat)} {es es' : List Ent} {a : AV} {v : Value} (hp : plain a = true) (h : VR ⟨w, fz, lam, es⟩ a v) : VR ⟨w, fz, lam', es'⟩ a v := by
  cases h with
  | data h => exact .data h
  | nilptr => exact .nilptr
  | cptr h1 h2 => exact .cptr h1 h2
  | nilfunc => exact .nilfunc
  | @func f caps cs h1 h2 => exact .func h1 fun i hi => (h2 i hi).bare0 (plains_spec hp _ (List.getElem_mem hi))
  | _ => simp [plain] at hp

theorem VR.of_empty {w : World} {fz : Nat → Nat} {c : Cx} (hc : c.es = []) {a : AV} {v : Value} (h : VR c a v) : ∀ lam es, VR ⟨c.w, c.fz, lam, es⟩ a v := by
  intro lam es
  induction h with
  | undef v => exact .undef v
  | data h => exact .data h
  | nilptr => exact .nilptr
  | ptr h1 _ _ => rw [hc] at h1; simp at h1
  | refp h1 _ => rw [hc] at h1; simp at h1
  | cptr h1 h2 => exact .cptr h1 h2
  | row _ h2 _ _ => rw [hc] at h2; simp at h2
  | rich h ht =>
    refine .rich h fun p y hp => ?_
    obtain ⟨_, ⟨e, h2, _⟩, _⟩ := ht p y hp
    rw [hc] at h2; simp at h2
  | ptrgone h1 _ => rw [hc] at h1; simp at h1
  | slgone h1 _ => rw [hc] at h1; simp at h1
  | sl h1 _ _ _ _ _ _ => rw [hc] at h1; simp at h1
  | func h1 _ ih => exact .func h1 ih
  | nilfunc => exact .nilfunc
  | mp h1 _ => rw [hc] at h1; simp at h1
  | tuple h1 _ ih => exact .tuple h1 ih

theorem CxOK.empty {w : World} {fz : Nat → Nat} (h : FrOK w fz) : CxOK ⟨w, fz, [], []⟩ :=
  ⟨h, rfl, fun x y b hx => by simp at hx, fun x b hx => by simp at hx, fun x e hx => by simp at hx⟩

/-- A pure contract, at whatever context. -/
theorem Pure.call {P : Program} {f : FuncId} {args : List AV} {r : AV} (h : Pure P f args r) {c : Cx} (hc : CxOK c) (hp : allPlain args = true) {vals : Array Value} (hs : vals.size = args.length)
    (hv : ∀ i (h : i < args.length), VR c args[i] (vals.getD i undef)) :
    Calls P f vals c.w fun e w' => ∃ rv c', e = .returned rv ∧ c'.w = w' ∧ CxOK c' ∧ Reach c c' ∧ VR c' r rv ∧ c'.es = c.es := by
  have h0 := h.2 ⟨c.w, c.fz, [], []⟩ (.empty hc.fr) rfl vals hs fun i hi => (hv i hi).bare (allPlain_spec hp _ (List.getElem_mem hi))
  refine h0.mono fun e w' => ?_
  rintro ⟨rv, v, c', rfl, rfl, h1, h2, h3, rfl, h4⟩
  have hlam : c'.lam = [] := by have := h1.len; rw [h4] at this; exact List.length_eq_zero_iff.1 this
  have g : Grow c.w c.fz c'.w c'.fz := ⟨h2.size, h2.rest, fun b hb => h2.frame b hb (fun x hx => by simp at hx), h1.fr⟩
  exact ⟨rv, { c with w := c'.w, fz := c'.fz }, rfl, rfl, g.ok hc, g.reach hc, h3.of_empty (w := c'.w) (fz := c'.fz) h4 _ _, rfl⟩

/-- All that lies there is frozen. -/
def fzAll (w : World) (b : Nat) : Nat :=
  match w.heap[b]? with
  | some (.cells cs _ _) => cs.size
  | _ => 0

theorem fzAll_ok (w : World) : FrOK w (fzAll w) := by
  intro b o ho
  unfold fzAll at ho
  split at ho
  · rename_i cs T f hb
    exact ⟨cs[o], by simp [World.cell?, hb, ho]⟩
  · omega

theorem fzAll_lt {w : World} {b o : Nat} {v : Value} (h : w.cell? ⟨b, o, none⟩ = some v) : o < fzAll w b := by
  simp only [World.cell?] at h
  unfold fzAll
  split at h
  · rename_i cs T f hb
    rw [hb]
    simp only [Option.isSome_none, Bool.false_eq_true, if_false] at h
    exact (Array.getElem?_eq_some_iff.1 h).1
  · cases h


/-- It holds no list. -/
def noList : D → Bool
  | .list _ => false
  | .agg n f => allTo n fun i => noList (f i)
  | .arr n _ f => allTo n fun i => noList (f i)
  | _ => true
def flatA1 : AV → Bool
  | .data d => noList d
  | .undef => true
  | .nilptr => true
  | _ => false
def flatAs : List AV → Bool
  | [] => true
  | a :: r => match flatA1 a with
    | true => flatAs r
    | false => false
def flatA : AV → Bool
  | .tuple vs => flatAs vs
  | .data d => noList d
  | .undef => true
  | .nilptr => true
  | _ => false

theorem DR.noList {w w' : World} {fz fz' : Nat → Nat} {d : D} {c : Nat → Value} (h : DR w fz d c) : noList d = true → DR w' fz' d c := by
  induction h with
  | bool h => intro _; exact .bool h
  | int h hw => intro _; exact .int h hw
  | str h hs => intro _; exact .str h hs
  | nil h => intro _; exact .nil h
  | list0 _ _ => intro h; simp [Go.W.noList] at h
  | list _ _ _ _ _ _ => intro h; simp [Go.W.noList] at h
  | agg h ih => intro hn; simp only [Go.W.noList, allTo_spec] at hn; exact .agg fun i hi => ih i hi (hn i hi)
  | arr h1 h ih => intro hn; simp only [Go.W.noList, allTo_spec] at hn; exact .arr h1 fun i hi => ih i hi (hn i hi)

theorem VD.noList {w w' : World} {fz fz' : Nat → Nat} {d : D} {v : Value} (h : VD w fz d v) (hn : noList d = true) : VD w' fz' d v := by
  unfold VD at *
  split
  · rename_i hd; simp only [hd] at h; obtain ⟨cs, h1, h2, h3⟩ := h; exact ⟨cs, h1, h2, h3.noList hn⟩
  · rename_i hd; simp only [hd] at h; exact h.noList hn

theorem VR.flat1 {c c' : Cx} {a : AV} {v : Value} (h : VR c a v) (hf : flatA1 a = true) : VR c' a v := by
  cases h with
  | data h => exact .data (h.noList hf)
  | undef v => exact .undef v
  | nilptr => exact .nilptr
  | _ => simp [flatA1] at hf

theorem flatAs_spec : ∀ {l : List AV}, flatAs l = true → ∀ a ∈ l, flatA1 a = true
  | a :: r, h, b, hb => by
    simp only [flatAs] at h
    split at h
    · rename_i ha
      rcases List.mem_cons.1 hb with rfl | hb
      · exact ha
      · exact flatAs_spec h b hb
    · cases h

theorem VR.flat {c c' : Cx} {a : AV} {v : Value} (h : VR c a v) (hf : flatA a = true) : VR c' a v := by
  cases h with
  | data h => exact .data (h.noList hf)
  | undef v => exact .undef v
  | nilptr => exact .nilptr
  | tuple h1 h2 => exact .tuple h1 fun i hi => (h2 i hi).flat1 (flatAs_spec hf _ (List.getElem_mem hi))
  | _ => simp [flatA] at hf

/-- A pointer to what is only read is one to what is frozen. -/
def froz1 (es : List Ent) : AV → Option AV
  | .ptr x p => match es[x]? with
    | some (.var d _) => match d.get p with
      | some v => some (.cptr v)
      | none => none
    | _ => none
  | .data d => some (.data d)
  | .cptr d => some (.cptr d)
  | .nilptr => some .nilptr
  | .nilfunc => some .nilfunc
  | .func f [] => some (.func f [])
  | .sl x lo n _ => match es[x]? with
    | some (.var (.arr _ _ f) _) => some (.data (.list (lst f lo n)))
    | _ => none
  | .row _ xs => some (.data (.list xs))
  | .rich d _ => some (.data d)
  | _ => none
def frozs (es : List Ent) : List AV → Option (List AV)
  | [] => some []
  | a :: r => match froz1 es a with
    | none => none
    | some a' => match frozs es r with
      | none => none
      | some r' => some (a' :: r')
def froz (es : List Ent) : AV → Option AV
  | .func f caps => match frozs es caps with
    | some caps' => some (.func f caps')
    | none => none
  | a => froz1 es a
def frozL (es : List Ent) : List AV → Option (List AV)
  | [] => some []
  | a :: r => match froz es a with
    | none => none
    | some a' => match frozL es r with
      | none => none
      | some r' => some (a' :: r')

theorem froz1_app {es : List Ent} {a b : AV} (h : froz1 es a = some b) (e : Ent) : froz1 (es ++ [e]) a = some b := by
  unfold froz1 at h ⊢
  split at h
  · split at h
    · rename_i hx
      have hl := (List.getElem?_eq_some_iff.1 hx).1
      simp only [List.getElem?_append_left hl, hx]
      exact h
    · cases h
  case h_7 =>
    split at h
    · rename_i hx
      have hl := (List.getElem?_eq_some_iff.1 hx).1
      simp only [List.getElem?_append_left hl, hx]
      exact h
    · cases h
  all_goals exact h
theorem frozs_app : ∀ {es : List Ent} {l m : List AV}, frozs es l = some m → ∀ e : Ent, frozs (es ++ [e]) l = some m
  | es, [], m, h, e => h
  | es, a :: r, m, h, e => by
    simp only [frozs] at h ⊢
    split at h
    · cases h
    rename_i a' ha
    simp only [froz1_app ha e]
    split at h
    · cases h
    rename_i r' hr
    simp only [frozs_app hr e]
    exact h
theorem froz_app {es : List Ent} {a b : AV} (h : froz es a = some b) (e : Ent) : froz (es ++ [e]) a = some b := by
  unfold froz at h ⊢
  split at h
  · split at h
    · rename_i hx
      simp only [frozs_app hx e]
      exact h
    · cases h
  · exact froz1_app h e
theorem frozL_app : ∀ {es : List Ent} {l m : List AV}, frozL es l = some m → ∀ e : Ent, frozL (es ++ [e]) l = some m
  | es, [], m, h, e => h
  | es, a :: r, m, h, e => by
    simp only [frozL] at h ⊢
    split at h
    · cases h
    rename_i a' ha
    simp only [froz_app ha e]
    split at h
    · cases h
    rename_i r' hr
    simp only [frozL_app hr e]
    exact h

theorem Ext.all {w : World} {fz : Nat → Nat} (h : FrOK w fz) : Ext w fz w (fzAll w) := fun b => by
  refine ⟨?_, fun _ _ => rfl⟩
  rcases Nat.eq_zero_or_pos (fz b) with h0 | h0
  · omega
  · obtain ⟨v, hv⟩ := h b (fz b - 1) (by omega)
    have := fzAll_lt hv
    omega

theorem VR.froz1 {c : Cx} (hc : CxOK c) {a a' : AV} {v : Value} (h : VR c a v) (hf : froz1 c.es a = some a') : VR ⟨c.w, fzAll c.w, [], []⟩ a' v := by
  have he := Ext.all hc.fr
  cases h with
  | data h => simp only [Go.W.froz1, Option.some.injEq] at hf; subst hf; exact .data (h.ext he)
  | nilptr => simp only [Go.W.froz1, Option.some.injEq] at hf; subst hf; exact .nilptr
  | nilfunc => simp only [Go.W.froz1, Option.some.injEq] at hf; subst hf; exact .nilfunc
  | cptr h1 h2 => simp only [Go.W.froz1, Option.some.injEq] at hf; subst hf; exact .cptr (h1.ext he) (Nat.le_trans h2 (he _).1)
  | func h1 h2 =>
    rename_i f caps cs
    cases caps with
    | nil => simp only [Go.W.froz1, Option.some.injEq] at hf; subst hf; exact .func h1 (fun i hi => by simp at hi)
    | cons a r => simp [Go.W.froz1] at hf
  | refp h1 h2 => simp only [Go.W.froz1, h1] at hf; cases hf
  | ptrgone h1 h2 =>
    rename_i x p e a
    cases e with
    | var _ _ => cases h2
    | ref _ => cases h2
    | map _ => cases h2
    | row _ _ => simp only [Go.W.froz1, h1] at hf; cases hf
    | dead => simp only [Go.W.froz1, h1] at hf; cases hf
  | slgone h1 h2 =>
    rename_i x lo n k e
    cases e with
    | var _ _ => cases h2
    | ref _ => cases h2
    | map _ => cases h2
    | row _ _ => simp only [Go.W.froz1, h1] at hf; cases hf
    | dead => simp only [Go.W.froz1, h1] at hf; cases hf
  | ptr h1 h2 h3 =>
    rename_i x p b d tok
    simp only [Go.W.froz1, h1] at hf
    split at hf
    case h_2 => cases hf
    rename_i u hu
    simp only [Option.some.injEq] at hf
    subst hf
    obtain ⟨b', cs, T, e1, e2, e3, e4, e5, e6⟩ := hc.ent x _ h1
    rw [h3] at e1
    simp only [Option.some.injEq] at e1
    subst e1
    have hsz := off_size e4.wf h2 hu
    refine .cptr (((e4.ext he).at h2 hu).congr fun o ho => ?_) ?_
    · simp only [cellAt, World.cell?, e2]
      simp [show d.off p + o < cs.size by omega]
    · simp only [fzAll, e2]; omega
  | row h1 _ _ _ => simp only [Go.W.froz1, Option.some.injEq] at hf; subst hf; exact .data (h1.ext he)
  | rich h1 _ => simp only [Go.W.froz1, Option.some.injEq] at hf; subst hf; exact .data (h1.ext he)
  | sl h1 h2 h3 h4 h5 h6 h7 =>
    rename_i x lo n k b o N sz cap f tok cs T
    simp only [Go.W.froz1, h1, Option.some.injEq] at hf
    subst hf
    obtain ⟨b', cs', T', e1, e2, e3, e4, e5, e6⟩ := hc.ent x _ h1
    rw [h3] at e1
    simp only [Option.some.injEq] at e1
    subst e1
    rw [h6] at e2
    simp only [Option.some.injEq, Obj.cells.injEq] at e2
    obtain ⟨rfl, rfl, _⟩ := e2
    refine .data ?_
    unfold VD
    simp only [D.isAgg]
    have hns : lo * sz + n * sz ≤ cs.size := by
      rw [← Nat.add_mul]
      exact Nat.le_trans (Nat.mul_le_mul_right _ (by omega)) h7
    cases e4 with
    | arr g1 g2 =>
      rcases Nat.eq_zero_or_pos cap with hc0 | hc0
      · have hn0 : n = 0 := by omega
        subst hn0
        exact .list0 rfl h5
      rw [h4.2.2 hc0]
      refine .list (es := sz) (off := lo * sz) (by rw [lst_length]) (by rw [lst_length]; exact h4.1) h5 (fun i hi => ?_) (fun i hi => ?_) (by rw [lst_length]; simp only [fzAll, h6]; exact hns)
      · rw [lst_get]
        rw [lst_length] at hi
        exact g1 _ (by omega)
      · rw [lst_get]
        rw [lst_length] at hi
        have hl : lo + i < N := by omega
        refine ((g2 _ hl).ext he).congr fun o ho => ?_
        rw [g1 _ hl] at ho
        have h8 := mul_lt_of (es := sz) hi ho
        have h9 : (lo + i) * sz + o = lo * sz + i * sz + o := by rw [Nat.add_mul]
        have h10 : lo * sz + i * sz + o < cs.size := by omega
        simp only [cellAt, World.cell?, h6, h9]
        simp [h10]
  | _ => simp [Go.W.froz1] at hf

theorem frozs_spec {es : List Ent} : ∀ {l m : List AV}, frozs es l = some m → m.length = l.length ∧ ∀ i (h : i < l.length) (h' : i < m.length), froz1 es l[i] = some m[i]
  | [], m, h => by simp only [frozs, Option.some.injEq] at h; subst h; exact ⟨rfl, fun i hi => by simp at hi⟩
  | a :: r, m, h => by
    simp only [frozs] at h
    split at h
    · cases h
    rename_i a' ha
    split at h
    · cases h
    rename_i r' hr
    simp only [Option.some.injEq] at h
    subst h
    obtain ⟨h1, h2⟩ := frozs_spec hr
    refine ⟨by simp [h1], fun i hi hi' => ?_⟩
    cases i with
    | zero => exact ha
    | succ i => exact h2 i (by simpa using hi) (by simpa using hi')

theorem VR.froz {c : Cx} (hc : CxOK c) {a a' : AV} {v : Value} (h : VR c a v) (hf : froz c.es a = some a') : VR ⟨c.w, fzAll c.w, [], []⟩ a' v := by
  unfold Go.W.froz at hf
  split at hf
  · rename_i f caps
    split at hf
    case h_2 => cases hf
    rename_i caps' hcaps
    simp only [Option.some.injEq] at hf
    subst hf
    obtain ⟨l1, l2⟩ := frozs_spec hcaps
    cases h with
    | func h1 h2 => exact .func (l1.trans h1) fun i hi => (h2 i (by omega)).froz1 hc (l2 i (by omega) hi)
  · exact h.froz1 hc hf

theorem frozL_spec {es : List Ent} : ∀ {l m : List AV}, frozL es l = some m → m.length = l.length ∧ ∀ i (h : i < l.length) (h' : i < m.length), froz es l[i] = some m[i]
  | [], m, h => by simp only [frozL, Option.some.injEq] at h; subst h; exact ⟨rfl, fun i hi => by simp at hi⟩
  | a :: r, m, h => by
    simp only [frozL] at h
    split at h
    · cases h
    rename_i a' ha
    split at h
    · cases h
    rename_i r' hr
    simp only [Option.some.injEq] at h
    subst h
    obtain ⟨h1, h2⟩ := frozL_spec hr
    refine ⟨by simp [h1], fun i hi hi' => ?_⟩
    cases i with
    | zero => exact ha
    | succ i => exact h2 i (by simpa using hi) (by simpa using hi')

/-- A pure contract, where what is pointed at is only read. -/
theorem Pure.callF {P : Program} {f : FuncId} {args args' : List AV} {r : AV} (h : Pure P f args' r) {c : Cx} (hc : CxOK c) (hf : frozL c.es args = some args') (hr : flatA r = true) {vals : Array Value} (hs : vals.size = args.length)
    (hv : ∀ i (h : i < args.length), VR c args[i] (vals.getD i undef)) :
    Calls P f vals c.w fun e w' => ∃ rv c', e = .returned rv ∧ c'.w = w' ∧ CxOK c' ∧ Reach c c' ∧ VR c' r rv ∧ c'.es = c.es := by
  obtain ⟨l1, l2⟩ := frozL_spec hf
  have h0 := h.2 ⟨c.w, fzAll c.w, [], []⟩ (.empty (fzAll_ok c.w)) rfl vals (by omega) fun i hi => (hv i (by omega)).froz hc (l2 i (by omega) hi)
  refine h0.mono fun e w' => ?_
  rintro ⟨rv, v, c', rfl, rfl, h1, h2, h3, rfl, h4⟩
  have hold : ∀ b, b < c.w.heap.size → c'.w.heap[b]? = c.w.heap[b]? := fun b hb => (h2.frame b hb (fun x hx => by simp at hx)).1
  have g : Grow c.w c.fz c'.w c.fz := ⟨h2.size, h2.rest, fun b hb => ⟨hold b hb, rfl⟩, fun b o ho => by
    obtain ⟨v, hv⟩ := hc.fr b o ho
    have hb : b < c.w.heap.size := by
      rcases Nat.lt_or_ge b c.w.heap.size with h | h
      · exact h
      · have := hc.fr.high h; omega
    exact ⟨v, by simp only [World.cell?, hold b hb]; exact hv⟩⟩
  exact ⟨rv, { c with w := c'.w, fz := c.fz }, rfl, rfl, g.ok hc, g.reach hc, h3.flat hr, rfl⟩

def xCall (P : Program) (es : List Ent) (f : FuncId) (args : List AV) (r : AV) : Option (AV × List Prop) :=
  match allPlain args with
  | true => some (r, [Pure P f args r])
  | false => match flatA r with
    | false => none
    | true => match frozL es args with
      | some args' => some (r, [Pure P f args' r])
      | none => none

theorem xCall_app {P : Program} {es : List Ent} {f : FuncId} {args : List AV} {r : AV} {x : AV × List Prop} (h : xCall P es f args r = some x) (e : Ent) : xCall P (es ++ [e]) f args r = some x := by
  unfold xCall at h ⊢
  split at h
  · exact h
  split at h
  · cases h
  split at h
  · rename_i hf
    simp only [frozL_app hf e]
    exact h
  · cases h

theorem xCall_sound {P : Program} {c : Cx} (hc : CxOK c) {f : FuncId} {args : List AV} {r v : AV} {obs : List Prop} (h : xCall P c.es f args r = some (v, obs)) (ho : AllP obs) {vals : Array Value} (hs : vals.size = args.length)
    (hv : ∀ i (h : i < args.length), VR c args[i] (vals.getD i undef)) :
    FnOK P f ∧ Calls P f vals c.w fun e w' => ∃ rv c', e = .returned rv ∧ c'.w = w' ∧ CxOK c' ∧ Reach c c' ∧ VR c' v rv ∧ c'.es = c.es := by
  unfold xCall at h
  split at h
  · rename_i hpl
    simp only [Option.some.injEq, Prod.mk.injEq] at h
    obtain ⟨rfl, rfl⟩ := h
    exact ⟨ho.1.1, Pure.call ho.1 hc hpl hs hv⟩
  split at h
  · cases h
  rename_i hfl
  split at h
  · rename_i hf
    simp only [Option.some.injEq, Prod.mk.injEq] at h
    obtain ⟨rfl, rfl⟩ := h
    exact ⟨ho.1.1, Pure.callF ho.1 hc hf hfl hs hv⟩
  · cases h

theorem run_callFunc {P : Program} {f : FuncId} (h : FnOK P f) (args : Array Value) (w : World) : (callFunc f args).run P w = .ok (.enter f args) w := by
  obtain ⟨fn, h1, h2, h3⟩ := h
  simp only [callFunc, Sem.run_bind, run_program, Result.andThen_ok, h1, h3, h2]
  rfl

/-- One operation comes to v, the entries being es'. -/
def OpS (P : Program) (o : Oper) (a : Act) (c : Cx) (v : AV) (es' : List Ent) : Prop :=
  ∀ next Q, (∀ val c', CxOK c' → Reach c c' → c'.es = es' → VR c' v val → next (a.put o.dst val) c'.w) → o.wp P a c.w next Q

theorem OpS.val {P : Program} {o : Oper} {a : Act} {c : Cx} {v : AV} (hc : CxOK c) (h : ∃ val, (execOp a.eval o).run P c.w = .ok (.value val) c.w ∧ VR c v val) : OpS P o a c v c.es := by
  obtain ⟨val, h1, h2⟩ := h
  intro next Q hn
  unfold Oper.wp
  rw [h1]
  exact hn val c hc (.refl hc) rfl h2

/-- A new entry. -/
theorem addEnt {c : Cx} (hc : CxOK c) {cs : Array Value} {T : TypeId} {e : Ent}
    (he : ∀ c' : Cx, c'.w = c.w.alloc (.cells cs T) → c'.fz = c.fz → c'.lam = c.lam ++ [some c.w.heap.size] → c'.es = c.es ++ [e] → Reach c c' → EntOK c' c.es.length e) :
    ∃ c' : Cx, c'.w = c.w.alloc (.cells cs T) ∧ c'.fz = c.fz ∧ c'.lam = c.lam ++ [some c.w.heap.size] ∧ c'.es = c.es ++ [e] ∧ CxOK c' ∧ Reach c c' := by
  have hfz : c.fz c.w.heap.size = 0 := hc.fr.high (Nat.le_refl _)
  have hold : ∀ b, b < c.w.heap.size → (c.w.alloc (.cells cs T)).heap[b]? = c.w.heap[b]? := fun b hb => heap_alloc_old _ _ hb
  have hlamold : ∀ x, x < c.es.length → (c.lam ++ [some c.w.heap.size])[x]? = c.lam[x]? := fun x hx => List.getElem?_append_left (by rw [hc.len]; exact hx)
  have hlamnew : (c.lam ++ [some c.w.heap.size])[c.es.length]? = some (some c.w.heap.size) := by
    rw [List.getElem?_append_right (by rw [hc.len]; exact Nat.le_refl _), hc.len]; simp
  have hlam : ∀ (x b : Nat), (c.lam ++ [some c.w.heap.size])[x]? = some (some b) → (x < c.es.length ∧ c.lam[x]? = some (some b)) ∨ (x = c.es.length ∧ b = c.w.heap.size) := by
    intro x b hx
    have hl := (List.getElem?_eq_some_iff.1 hx).1
    simp [hc.len] at hl
    rcases Nat.lt_or_ge x c.es.length with h | h
    · rw [hlamold x h] at hx; exact .inl ⟨h, hx⟩
    · have : x = c.es.length := by omega
      subst this
      rw [hlamnew] at hx
      simp at hx
      exact .inr ⟨rfl, hx.symm⟩
  refine ⟨⟨c.w.alloc (.cells cs T), c.fz, c.lam ++ [some c.w.heap.size], c.es ++ [e]⟩, rfl, rfl, rfl, rfl, ?_⟩
  have hr : Reach c ⟨c.w.alloc (.cells cs T), c.fz, c.lam ++ [some c.w.heap.size], c.es ++ [e]⟩ := {
    size := by simp
    rest := ⟨rfl, rfl, rfl⟩
    ext := fun b => ⟨Nat.le_refl _, fun o ho => by
      have hb : b < c.w.heap.size := by
        rcases Nat.lt_or_ge b c.w.heap.size with h | h
        · exact h
        · have := hc.fr.high h; omega
      simp only [World.cell?, hold b hb]⟩
    keep := fun b cs0 T0 f h0 => ⟨cs0, (hold b (Array.getElem?_eq_some_iff.1 h0).1).trans h0, rfl⟩
    frame := fun b hb _ => ⟨hold b hb, rfl⟩
    ents := fun x ex hx => by
      have hxl := (List.getElem?_eq_some_iff.1 hx).1
      refine ⟨ex, by simp only [List.getElem?_append_left hxl, hx], EntStep.stay (c := c) (c' := ⟨c.w.alloc (.cells cs T), c.fz, c.lam ++ [some c.w.heap.size], c.es ++ [e]⟩) (hlamold x hxl) ex⟩
    news := fun x b hx hb => by
      rcases hlam x b hb with h | h
      · omega
      · omega }
  refine ⟨⟨fun b o ho => ?_, by simp [hc.len], fun x y b hx hy => ?_, fun x b hx => ?_, fun x ex hx => ?_⟩, hr⟩
  · obtain ⟨v, hv⟩ := hc.fr b o ho
    have hb : b < c.w.heap.size := by
      rcases Nat.lt_or_ge b c.w.heap.size with h | h
      · exact h
      · have := hc.fr.high h; simp only at ho; omega
    exact ⟨v, by simp only [World.cell?, hold b hb]; exact hv⟩
  · rcases hlam x b hx with ⟨h1, h2⟩ | ⟨h1, h2⟩ <;> rcases hlam y b hy with ⟨h3, h4⟩ | ⟨h3, h4⟩
    · exact hc.inj x y b h2 h4
    · have := hc.low x b h2; omega
    · have := hc.low y b h4; omega
    · omega
  · rcases hlam x b hx with ⟨h1, h2⟩ | ⟨h1, h2⟩
    · have := hc.low x b h2; simp; omega
    · simp; omega
  · have hxl := (List.getElem?_eq_some_iff.1 hx).1
    simp only [List.length_append, List.length_cons, List.length_nil] at hxl
    rcases Nat.lt_or_ge x c.es.length with h | h
    · simp only [List.getElem?_append_left h] at hx
      have h0 := hc.ent x ex hx
      have hlx := hlamold x h
      cases ex with
      | var d tok =>
        obtain ⟨b', cs0, T0, e1, e2, e3, e4, e5, e6⟩ := h0
        refine ⟨b', cs0, T0, hlx.trans e1, (hold b' (hc.low x b' e1)).trans e2, e3, e4.ext hr.ext, e5, fun p z hz => ?_⟩
        obtain ⟨g1, ⟨ez, g2, g2'⟩, xs, g3, g4⟩ := e6 p z hz
        obtain ⟨ez', g5, g6⟩ := hr.ents z ez g2
        exact ⟨g1, ⟨ez', g5, g6.notVar g2'⟩, xs, g3, g4.mono hr ⟨g2, g2'⟩⟩
      | ref a =>
        obtain ⟨b', v, T0, e1, e2, e3, e4⟩ := h0
        exact ⟨b', v, T0, hlx.trans e1, (hold b' (hc.low x b' e1)).trans e2, e3.mono hr, e4⟩
      | row sz xs =>
        rcases h0 with ⟨h0, h0'⟩ | ⟨b', cs0, T0, e1, e2, e3, e4⟩
        · exact .inl ⟨h0, hlx.trans h0'⟩
        · exact .inr ⟨b', cs0, T0, hlx.trans e1, (hold b' (hc.low x b' e1)).trans e2, e3, e4⟩
      | map l =>
        obtain ⟨b', arr, clock, e1, e2, e3, e4⟩ := h0
        exact ⟨b', arr, clock, hlx.trans e1, (hold b' (hc.low x b' e1)).trans e2, e3, e4.ext hr.ext⟩
      | dead => trivial
    · have : x = c.es.length := by omega
      subst this
      simp at hx
      subst hx
      exact he _ rfl rfl rfl rfl hr

/-- A new variable. -/
theorem addVar {c : Cx} (hc : CxOK c) {cs : Array Value} (T : TypeId) {d : D} {tok : List (List Nat × Nat)} (hsz' : cs.size = d.size) (hd : DR c.w c.fz d (fun o => cs.getD o undef))
    (ht : ∀ p y, (p, y) ∈ tok → PathOK d p ∧ (∃ e, c.es[y]? = some e ∧ e.isVar = false) ∧ ∃ xs, d.get p = some (.list xs) ∧ RowC c y xs (cs.getD (d.off p) undef)) :
    ∃ c' : Cx, c'.w = c.w.alloc (.cells cs T) ∧ CxOK c' ∧ Reach c c' ∧ c'.es = c.es ++ [.var d tok] ∧ VR c' (.ptr c.es.length []) (.pointer (some ⟨c.w.heap.size, 0, none⟩)) := by
  have hsz : d.size ≤ cs.size := by omega
  obtain ⟨c', h1, h2, h3, h4, h5, h6⟩ := addEnt hc (cs := cs) (T := T) (e := .var d tok) (fun c' h1 h2 h3 h4 hr => by
    refine ⟨c.w.heap.size, cs, T, ?_, by rw [h1]; exact heap_alloc_new _ _, hsz, by have := hd.ext hr.ext; rwa [h1] at this ⊢, by rw [h2]; exact hc.fr.high (Nat.le_refl _), fun p y hp => ?_⟩
    · rw [h3, List.getElem?_append_right (by rw [hc.len]; exact Nat.le_refl _), hc.len]; simp
    · obtain ⟨g1, ⟨e, g2, g2'⟩, xs, g3, g4⟩ := ht p y hp
      obtain ⟨e', g5, g6⟩ := hr.ents y e g2
      exact ⟨g1, ⟨e', g5, g6.notVar g2'⟩, xs, g3, g4.mono hr ⟨g2, g2'⟩⟩)
  refine ⟨c', h1, h5, h6, h4, ?_⟩
  have := VR.ptr (c := c') (x := c.es.length) (p := []) (b := c.w.heap.size) (d := d) (tok := tok) (by rw [h4]; simp) (by simp [PathOK]) (by
    rw [h3, List.getElem?_append_right (by rw [hc.len]; exact Nat.le_refl _), hc.len]; simp)
  have h0 : d.off [] = 0 := by cases d <;> rfl
  rwa [h0] at this

theorem addRef {c : Cx} (hc : CxOK c) {v : Value} (T : TypeId) {a : AV} (hv : VR c a v) :
    ∃ c' : Cx, c'.w = c.w.alloc (.cells #[v] T) ∧ CxOK c' ∧ Reach c c' ∧ c'.es = c.es ++ [.ref a] ∧ VR c' (.ptr c.es.length []) (.pointer (some ⟨c.w.heap.size, 0, none⟩)) := by
  obtain ⟨c', h1, h2, h3, h4, h5, h6⟩ := addEnt hc (cs := #[v]) (T := T) (e := .ref a) (fun c' h1 h2 h3 h4 hr => by
    refine ⟨c.w.heap.size, v, T, ?_, by rw [h1]; exact heap_alloc_new _ _, hv.mono hr, by rw [h2]; exact hc.fr.high (Nat.le_refl _)⟩
    rw [h3, List.getElem?_append_right (by rw [hc.len]; exact Nat.le_refl _), hc.len]; simp)
  refine ⟨c', h1, h5, h6, h4, ?_⟩
  exact VR.refp (c := c') (x := c.es.length) (b := c.w.heap.size) (a := a) (by rw [h4]; simp) (by
    rw [h3, List.getElem?_append_right (by rw [hc.len]; exact Nat.le_refl _), hc.len]; simp)

end Go.W
