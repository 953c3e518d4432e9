/-
  Maps whose keys are structs of whole numbers.
-/
import Derived.Test.YthpjdjofcbnoiacWq
import Derived.MapKept
namespace Go.W

def intD : D → Bool
  | .int _ _ => true
  | _ => false
def intsB : D → Bool
  | .agg n f => allTo n fun i => intD (f i)
  | _ => false
theorem intD_size {d : D} (h : intD d = true) : d.size = 1 := by cases d <;> simp_all [intD, D.size]
theorem sum_ints {f : Nat → D} : ∀ {n : Nat}, (∀ i, i < n → intD (f i) = true) → sumTo (fun i => (f i).size) n = n
  | 0, _ => rfl
  | n + 1, h => by
    simp only [sumTo]
    rw [sum_ints fun i hi => h i (by omega), intD_size (h n (by omega))]

/-- The place of the key, and what stands there. -/
def findD (k : D) : List (D × D) → Nat → Option (Nat × D)
  | [], _ => none
  | p :: l, i => bif eqD k p.1 then some (i, p.2) else findD k l (i + 1)
def lookD (kvs : List (D × D)) (k z : D) : D := match findD k kvs 0 with
  | some (_, d) => d
  | none => z
def setD (kvs : List (D × D)) (k v : D) : List (D × D) := match findD k kvs 0 with
  | some (j, _) => kvs.set j (k, v)
  | none => kvs ++ [(k, v)]

theorem findD_some {k : D} : ∀ {l : List (D × D)} {i j : Nat} {d : D}, findD k l i = some (j, d) → ∃ n p, j = i + n ∧ l[n]? = some p ∧ p.2 = d ∧ eqD k p.1 = true
  | p :: l, i, j, d, h => by
    simp only [findD] at h
    cases hb : eqD k p.1 with
    | true =>
      rw [hb] at h
      simp only [cond_true, Option.some.injEq, Prod.mk.injEq] at h
      exact ⟨0, p, by omega, rfl, h.2, hb⟩
    | false =>
      rw [hb] at h
      simp only [cond_false] at h
      obtain ⟨n, q, h1, h2, h3, h4⟩ := findD_some h
      exact ⟨n + 1, q, by omega, by simpa using h2, h3, h4⟩

theorem MapOK.at {w : World} {fz : Nat → Nat} : ∀ {l : List (D × D)} {m : List MapEntry} {n : Nat} {p : D × D}, MapOK w fz l m → l[n]? = some p → ∃ e, m[n]? = some e ∧ VD w fz p.1 e.key ∧ VD w fz p.2 e.val
  | (k, v) :: l, e :: m, 0, p, ⟨h, _⟩, hp => by
    simp only [List.getElem?_cons_zero, Option.some.injEq] at hp
    subst hp
    exact ⟨e, rfl, h⟩
  | (k, v) :: l, e :: m, n + 1, p, ⟨_, h⟩, hp => by
    obtain ⟨e', h1, h2⟩ := MapOK.at (n := n) h (by simpa using hp)
    exact ⟨e', by simpa using h1, h2⟩
  | [], [], n, p, _, hp => by simp at hp
  | (_, _) :: _, [], _, _, h, _ => h.elim
  | [], _ :: _, _, _, h, _ => h.elim
theorem MapOK.put {w : World} {fz : Nat → Nat} {k v : D} {kv vv : Value} (hk : VD w fz k kv) (hv : VD w fz v vv) : ∀ {l : List (D × D)} {m : List MapEntry} (j : Nat), MapOK w fz l m → MapOK w fz (l.set j (k, v)) (m.modify j fun e => { e with key := kv, val := vv })
  | (_, _) :: l, e :: m, 0, ⟨_, h⟩ => ⟨⟨hk, hv⟩, h⟩
  | (_, _) :: l, e :: m, j + 1, ⟨h0, h⟩ => by
    have := MapOK.put hk hv j h
    simp only [List.set_cons_succ, List.modify_succ_cons]
    exact ⟨h0, this⟩
  | [], [], j, _ => by simp [MapOK]
  | (_, _) :: _, [], _, h => h.elim
  | [], _ :: _, _, h => h.elim
theorem MapOK.push {w : World} {fz : Nat → Nat} {k v : D} {e : MapEntry} (hk : VD w fz k e.key) (hv : VD w fz v e.val) : ∀ {l : List (D × D)} {m : List MapEntry}, MapOK w fz l m → MapOK w fz (l ++ [(k, v)]) (m ++ [e])
  | (_, _) :: l, _ :: m, ⟨h0, h⟩ => ⟨h0, MapOK.push hk hv h⟩
  | [], [], _ => ⟨⟨hk, hv⟩, trivial⟩
  | (_, _) :: _, [], h => h.elim
  | [], _ :: _, h => h.elim

theorem run_findAsking {P : Program} {tt : TT} (hT : TTok P tt) {w : World} {fz : Nat → Nat} {kt : TypeId} {k : D} {kv : Value} (hk : VD w fz k kv) : ∀ {l : List (D × D)} {m : List MapEntry} (i : Nat), MapOK w fz l m → (∀ p ∈ l, eqT tt 12 kt k p.1 = true) →
    ∃ r, (Instr.findAsking kt kv m i).run P w = .ok r w ∧ ((findD k l i = none ∧ r = none) ∨ ∃ j d v, findD k l i = some (j, d) ∧ r = some (j, v) ∧ VD w fz d v)
  | [], [], i, _, _ => ⟨none, by simp [Instr.findAsking], .inl ⟨rfl, rfl⟩⟩
  | (a, b) :: l, e :: m, i, ⟨⟨h1, h2⟩, h⟩, hq => by
    have he := eq_sound hT 12 10000 kt k a kv e.key (by omega) (hq (a, b) (List.mem_cons_self ..)) hk h1
    have he : (Op.equal kt kv e.key).run P w = .ok (eqD k a) w := he
    cases hb : eqD k a with
    | true =>
      refine ⟨some (i, e.val), ?_, .inr ⟨i, b, e.val, ?_, rfl, h2⟩⟩
      · simp [Instr.findAsking, he, hb]
      · simp [findD, hb]
    | false =>
      obtain ⟨r, h3, h4⟩ := run_findAsking hT hk (i + 1) h fun p hp => hq p (List.mem_cons_of_mem _ hp)
      refine ⟨r, ?_, ?_⟩
      · simp [Instr.findAsking, he, hb, h3]
      · simpa only [findD, hb, cond_false] using h4
  | (_, _) :: _, [], _, h, _ => h.elim
  | [], _ :: _, _, h, _ => h.elim

theorem run_findKeyW {P : Program} {k : TypeId} {fs : Array Field} (hu : P.underlying k = some (.struct fs)) (x : Value) (es : List MapEntry) (w : World) :
    (Instr.findKey k x es).run P w = (Instr.findAsking k x es).run P w := by
  cases es with
  | nil => simp [Instr.findKey, run_underlying hu, Instr.findNow, Instr.findAsking]
  | cons e es => simp [Instr.findKey, run_underlying hu, Instr.findNow, Instr.sameNow]

/-- The key is a struct of whole numbers, of that type. -/
def keyB (tt : TT) (kt : TypeId) (k : D) : Bool := eqT tt 12 kt k k && intsB k

theorem keyB_struct {P : Program} {tt : TT} (hT : TTok P tt) {kt : TypeId} {k : D} (h : keyB tt kt k = true) :
    ∃ (fs : List (Nat × Nat × TypeId)) (fields : Array Field) (f : Nat → D), k = .agg fs.length f ∧ P.underlying kt = some (.struct fields) ∧ fields.size = fs.length ∧ (∀ i, i < fs.length → intD (f i) = true) ∧ (∀ f ∈ fields.toList, f.name ≠ "_") ∧
      ∀ i g, fields[i]? = some g → i < fs.length ∧ g.offset = i ∧ eqT tt 11 g.type (f i) (f i) = true ∧ ∃ q, P.underlying g.type = some (.int q) := by
  unfold keyB at h
  simp only [Bool.and_eq_true] at h
  obtain ⟨h1, h2⟩ := h
  have h1 : eqT tt (11 + 1) kt k k = true := h1
  rw [eqT] at h1
  split at h1
  · cases h1
  rename_i ti hti
  simp only [Bool.and_eq_true] at h1
  cases k with
  | agg n f =>
    obtain ⟨_, h1⟩ := h1
    split at h1
    all_goals first
      | (rename_i heq1 heq2; cases heq1; done)
      | skip
    all_goals try cases h1
    rename_i fs m g m' g' hk e1 e2
    cases e1; cases e2
    simp only [Bool.and_eq_true] at h1
    obtain ⟨⟨⟨g0, g1⟩, _⟩, g2⟩ := h1
    have := Nat.eq_of_beq_eq_true g1
    subst this
    obtain ⟨fields, k1, k2, k3, k4⟩ := tok_struct (hT.ti _ _ hti) hk
    have hint := allTo_spec.1 (show allTo fs.length (fun i => intD (f i)) = true from h2)
    refine ⟨fs, fields, f, rfl, k1, k2, hint, (k4 g0).1, fun i g hg => ?_⟩
    have hi : i < fs.length := by rw [← k2]; exact (Array.getElem?_eq_some_iff.1 hg).1
    have h5 := allTo_spec.1 g2 i hi
    rw [List.getElem?_eq_getElem hi] at h5
    obtain ⟨⟨o, s, ty⟩, hfi⟩ : ∃ p, fs[i] = p := ⟨_, rfl⟩
    rw [hfi] at h5
    simp only [Bool.and_eq_true] at h5
    obtain ⟨g', e1, e2, e3, _⟩ := k3 i o s ty (by rw [List.getElem?_eq_getElem hi, hfi])
    rw [hg] at e1
    cases e1
    have ho := Nat.eq_of_beq_eq_true h5.1.1
    rw [sum_ints fun j hj => hint j (by omega)] at ho
    rw [e3]
    refine ⟨hi, by omega, h5.2, ?_⟩
    have h6 := h5.2
    have h7 := hint i hi
    cases hf : f i with
    | int q v =>
      rw [hf] at h6
      have h6 : eqT tt (10 + 1) ty (.int q v) (.int q v) = true := h6
      rw [eqT] at h6
      split at h6
      · cases h6
      rename_i t2 ht2
      simp only [Bool.and_eq_true] at h6
      have h8 := h6.2
      cases hk2 : t2.kind with
      | int q2 => exact ⟨q2, (tok_kind (hT.ti _ _ ht2)).1 q2 hk2⟩
      | _ => rw [hk2] at h8; cases h8
    | _ => rw [hf] at h7; cases h7
  | _ => cases h2

/-- Keys that are alike are the same value. -/
theorem key_same {P : Program} {tt : TT} (hT : TTok P tt) {kt : TypeId} {k k' : D} (hb : keyB tt kt k = true) (hb' : intsB k' = true) (hq : eqT tt 12 kt k k' = true) (he : eqD k k' = true) {w : World} {fz : Nat → Nat} {u v : Value} (hu : VD w fz k u) (hv : VD w fz k' v) :
    v = u ∧ Instr.sameBits 10000 v u = true := by
  obtain ⟨fs, fields, f, rfl, k1, k2, k3, k4, k5⟩ := keyB_struct hT hb
  cases k' with
  | agg n' f' =>
    have hint' := allTo_spec.1 (show allTo n' (fun i => intD (f' i)) = true from hb')
    have hn : n' = fs.length ∧ ∀ i, i < fs.length → ∃ q a a', f i = .int q a ∧ f' i = .int q a' := by
      have hq : eqT tt (11 + 1) kt (.agg fs.length f) (.agg n' f') = true := hq
      rw [eqT] at hq
      split at hq
      · cases hq
      rename_i ti hti
      simp only [Bool.and_eq_true] at hq
      have hq2 := hq.2
      cases hk : ti.kind with
      | struct fs2 =>
           rw [hk] at hq2
           simp only [Bool.and_eq_true] at hq2
           obtain ⟨⟨⟨_, g1⟩, g2⟩, g3⟩ := hq2
           have g1 := Nat.eq_of_beq_eq_true g1
           have g2 := Nat.eq_of_beq_eq_true g2
           refine ⟨by omega, fun i hi => ?_⟩
           have h5 := allTo_spec.1 g3 i hi
           have h6 := k3 i hi
           have h7 := hint' i (by omega)
           rw [List.getElem?_eq_getElem (by omega)] at h5
           obtain ⟨⟨o, s, ty⟩, hfi⟩ : ∃ p, fs2[i]'(by omega) = p := ⟨_, rfl⟩
           rw [hfi] at h5
           simp only [Bool.and_eq_true] at h5
           have h8 := h5.2
           cases hf : f i with
           | int q a =>
             cases hf' : f' i with
             | int q' a' =>
               rw [hf, hf'] at h8
               have h8 : eqT tt (10 + 1) ty (.int q a) (.int q' a') = true := h8
               rw [eqT] at h8
               split at h8
               · cases h8
               rename_i t2 ht2
               simp only [Bool.and_eq_true] at h8
               have h9 := h8.2
               cases hk2 : t2.kind with
               | int q2 =>
                 rw [hk2] at h9
                 have := kEq_eq h9
                 subst this
                 exact ⟨_, _, _, rfl, rfl⟩
               | _ => rw [hk2] at h9; cases h9
             | _ => rw [hf'] at h7; cases h7
           | _ => rw [hf] at h6; cases h6
      | _ => rw [hk] at hq2; cases hq2
    obtain ⟨rfl, hcell⟩ := hn
    have he := allTo_spec.1 (show allTo fs.length (fun i => eqD (f i) (f' i)) = true from he)
    obtain ⟨cs, rfl, s1, d1⟩ := hu.agg rfl
    obtain ⟨cs', rfl, s2, d2⟩ := hv.agg rfl
    have z1 : (D.agg fs.length f).size = fs.length := sum_ints k3
    have z2 : (D.agg fs.length f').size = fs.length := sum_ints hint'
    rw [z1] at s1
    rw [z2] at s2
    have hc : ∀ i, i < fs.length → ∃ q a, cs.getD i undef = .int q a ∧ cs'.getD i undef = .int q a := fun i hi => by
      obtain ⟨q, a, a', e1, e2⟩ := hcell i hi
      have h3 := he i hi
      rw [e1, e2] at h3
      have h3 : a = a' := by simpa [eqD] using h3
      subst h3
      cases d1 with
      | agg d1 =>
        cases d2 with
        | agg d2 =>
          have c1 := d1 i hi
          have c2 := d2 i hi
          rw [sum_ints fun j hj => k3 j (by omega), e1] at c1
          rw [sum_ints fun j hj => hint' j (by omega), e2] at c2
          refine ⟨q, a, ?_, ?_⟩
          · cases c1 with
            | int c1 _ => simpa using c1
          · cases c2 with
            | int c2 _ => simpa using c2
    have hcc : cs' = cs := by
      refine Array.ext (by omega) fun i h1 h2 => ?_
      obtain ⟨q, a, e1, e2⟩ := hc i (by omega)
      have e1 : cs[i] = .int q a := by simpa [h2] using e1
      have e2 : cs'[i] = .int q a := by simpa [h1] using e2
      rw [e1, e2]
    subst hcc
    refine ⟨rfl, ?_⟩
    show Instr.sameBits (9999 + 1) (.agg cs') (.agg cs') = true
    unfold Instr.sameBits
    simp only [beq_self_eq_true, Bool.true_and, List.all_eq_true]
    intro p hp
    obtain ⟨i, hi, e⟩ := List.getElem_of_mem hp
    rw [List.length_zip] at hi
    rw [List.getElem_zip] at e
    have hi' : i < cs'.size := by simpa using hi
    obtain ⟨q, a, e1, _⟩ := hc i (by omega)
    have e1 : cs'[i] = .int q a := by simpa [hi'] using e1
    subst e
    simp only [Array.getElem_toList, e1]
    simp [Instr.sameBits]
  | _ => cases hb'

theorem run_checkKeyW {P : Program} {tt : TT} (hT : TTok P tt) {kt : TypeId} {k : D} (hb : keyB tt kt k = true) {w : World} {fz : Nat → Nat} {u : Value} (hu : VD w fz k u) (em : Bool) : (Instr.checkKey em 10000 kt u).run P w = .ok () w := by
  obtain ⟨fs, fields, f, rfl, k1, k2, k3, k4, k5⟩ := keyB_struct hT hb
  obtain ⟨cs, rfl, s1, d1⟩ := hu.agg rfl
  have z1 : (D.agg fs.length f).size = fs.length := sum_ints k3
  rw [z1] at s1
  have each : ∀ g ∈ fields.toList, g.name ≠ "_" ∧ ∃ v, (part g.type cs g.offset).run P w = .ok v w ∧ (Instr.checkKey em 9999 g.type v).run P w = .ok () w := fun g hg => by
    obtain ⟨i, hi, e⟩ := List.getElem_of_mem hg
    have hgi : fields[i]? = some g := by
      have hi' : i < fields.size := by simpa using hi
      rw [Array.getElem?_eq_getElem hi']
      simpa using e
    obtain ⟨h1, h2, h3, q, h4⟩ := k5 i g hgi
    refine ⟨k4 g hg, ?_⟩
    cases d1 with
    | agg d1 =>
      have c1 := d1 i h1
      rw [sum_ints fun j hj => k3 j (by omega)] at c1
      obtain ⟨v, _, p1, _, p2, _⟩ := run_parts hT h3 (xs := cs) (ys := cs) (o := i) (o' := i) c1 c1 (by rw [intD_size (k3 i h1)]; omega) (by rw [intD_size (k3 i h1)]; omega)
      refine ⟨v, by rw [h2]; exact p1, ?_⟩
      show (Instr.checkKey em (9998 + 1) g.type v).run P w = .ok () w
      rw [Instr.checkKey]
      simp only [Sem.run_bind, run_underlying h4, Result.andThen_ok]
      cases v <;> simp
  show (Instr.checkKey em (9999 + 1) kt (.agg cs)).run P w = .ok () w
  rw [Instr.checkKey]
  simp only [Sem.run_bind, run_underlying k1, Result.andThen_ok]
  rw [← Array.forIn_toList]
  generalize fields.toList = L at each
  induction L with
  | nil => simp
  | cons g L ih =>
    obtain ⟨hn, v, p1, p2⟩ := each g (by simp)
    simp only [List.forIn_cons, Sem.run_bind, hn, ne_eq, not_false_eq_true, if_true, Result.andThen_ok, p1, p2, Sem.run_pure]
    exact ih fun y hy => each y (by simp [hy])

/-! ### The operations -/

def keysOK (tt : TT) (kt : TypeId) (k : D) (kvs : List (D × D)) : Prop := ∀ p ∈ kvs, eqT tt 12 kt k p.1 = true ∧ intsB p.1 = true

def mapTI (tt : TT) (T : TypeId) : Option (TypeId × TypeId) := match tt.ti T with
  | none => none
  | some ti => match ti.kind with
    | .map k e => some (k, e)
    | _ => none

def xLookup (tt : TT) (es : List Ent) (T : TypeId) (x ix : AV) : Option (AV × List Prop) :=
  match mapTI tt T with
  | none => none
  | some (kt, et) => match x with
    | .mp y => match es[y]? with
      | some (.map kvs) => match ix with
        | .data k => match keyB tt kt k with
          | true => match tt.zero et with
            | some z => match z.isAgg with
              | false => some (.data (lookD kvs k z), [keysOK tt kt k kvs])
              | true => none
            | none => none
          | false => none
        | _ => none
      | _ => none
    | _ => none

def xMapUpd (tt : TT) (es : List Ent) (T : TypeId) (x ix v : AV) : Option (List Ent × List Prop) :=
  match mapTI tt T with
  | none => none
  | some (kt, _) => match x with
    | .mp y => match es[y]? with
      | some (.map kvs) => match ix with
        | .data k => match keyB tt kt k with
          | true => match v with
            | .data d => some (es.set y (.map (setD kvs k d)), [keysOK tt kt k kvs])
            | _ => none
          | false => none
        | _ => none
      | _ => none
    | _ => none

theorem mapTI_spec {P : Program} {tt : TT} (hT : TTok P tt) {T kt et : TypeId} (h : mapTI tt T = some (kt, et)) : P.underlying T = some (.map kt et) ∧ ∃ i, P.info? T = some i ∧ i.zero = some (.map none) := by
  unfold mapTI at h
  split at h
  · cases h
  rename_i ti hti
  split at h
  case h_2 => cases h
  rename_i k e hk
  simp only [Option.some.injEq, Prod.mk.injEq] at h
  obtain ⟨rfl, rfl⟩ := h
  obtain ⟨i, ds, h1, h2, h3⟩ := tok_info (hT.ti _ _ hti)
  have h := hT.ti _ _ hti
  unfold tokB at h
  simp only [h1, h2, hk, Bool.and_eq_true] at h
  have h4 := h.2
  cases ds <;> simp only [Bool.false_eq_true, Bool.and_eq_true] at h4
  rename_i k' e'
  obtain ⟨⟨⟨_, g1⟩, g2⟩, g3⟩ := h4
  have g1 := Nat.eq_of_beq_eq_true g1
  have g2 := Nat.eq_of_beq_eq_true g2
  subst g1; subst g2
  refine ⟨h2, i, h1, ?_⟩
  split at g3
  · assumption
  · cases g3

/-- What may be held in a variable by itself. -/
def refZ (tt : TT) (T : TypeId) : Bool := match tt.ti T with
  | none => false
  | some ti => match ti.kind with
    | .map _ _ => true
    | .ptr => true
    | _ => false
theorem refZ_spec {P : Program} {tt : TT} (hT : TTok P tt) {T : TypeId} (h : refZ tt T = true) : ∃ i v, P.info? T = some i ∧ i.zero = some v ∧ v.cells = #[v] := by
  unfold refZ at h
  split at h
  · cases h
  rename_i ti hti
  split at h
  · rename_i k e hk
    obtain ⟨_, i, i1, i2⟩ := mapTI_spec hT (kt := k) (et := e) (T := T) (by unfold mapTI; simp only [hti, hk])
    exact ⟨i, _, i1, i2, rfl⟩
  · rename_i hk
    obtain ⟨i, ds, h1, h2, h3⟩ := tok_info (hT.ti _ _ hti)
    have h := hT.ti _ _ hti
    unfold tokB at h
    simp only [h1, h2, hk, Bool.and_eq_true] at h
    have h4 := h.2
    cases ds <;> simp only [Bool.false_eq_true, Bool.and_eq_true] at h4
    have g3 := h4.2
    split at g3
    · rename_i hz; exact ⟨i, _, h1, hz, rfl⟩
    · cases g3
  · cases h

theorem VR.mp' {c : Cx} {y : Nat} {v : Value} (h : VR c (.mp y) v) : ∃ b kvs, v = .map (some b) ∧ c.es[y]? = some (.map kvs) ∧ c.lam[y]? = some (some b) := by
  cases h with
  | mp h1 h2 => exact ⟨_, _, rfl, h1, h2⟩
theorem VR.data' {c : Cx} {d : D} {v : Value} (h : VR c (.data d) v) : VD c.w c.fz d v := by
  cases h with
  | data h => exact h

theorem xLookup_sound {P : Program} {tt : TT} (hT : TTok P tt) {c : Cx} (hc : CxOK c) {T : TypeId} {x ix v : AV} {obs : List Prop} (h : xLookup tt c.es T x ix = some (v, obs)) (ho : AllP obs) {xv iv : Value} (hx : VR c x xv) (hi : VR c ix iv) :
    ∃ val, (Instr.lookup T xv iv false).run P c.w = .ok val c.w ∧ VR c v val := by
  unfold xLookup at h
  split at h
  · cases h
  rename_i kt et hti
  obtain ⟨u1, _⟩ := mapTI_spec hT hti
  split at h
  case h_2 => cases h
  rename_i y
  split at h
  case h_2 => cases h
  rename_i kvs hy
  split at h
  case h_2 => cases h
  rename_i k
  split at h
  case h_2 => cases h
  rename_i hkb
  split at h
  case h_2 => cases h
  rename_i z hz
  split at h
  case h_2 => cases h
  simp only [Option.some.injEq, Prod.mk.injEq] at h
  obtain ⟨rfl, rfl⟩ := h
  obtain ⟨b, kvs', rfl, e1, e2⟩ := hx.mp'
  have hk := hi.data'
  obtain ⟨b', arr, clock, g1, g2, g3, g4⟩ := hc.ent y _ hy
  rw [e2] at g1
  simp only [Option.some.injEq] at g1
  subst g1
  have hoo : keysOK tt kt k kvs := ho.1
  obtain ⟨fs, fields, f, _, k1, _⟩ := keyB_struct hT hkb
  obtain ⟨r, h1, h2⟩ := run_findAsking hT hk 0 g4 fun p hp => (hoo p hp).1
  have hck := run_checkKeyW hT hkb hk arr.isEmpty
  obtain ⟨z1, z2, _⟩ := hT.zero _ _ hz
  have hzv : (zeroValue et).run P c.w = .ok (flatV z) c.w := by
    unfold zeroValue typeInfo
    cases hq : P.info? et with
    | none => simp [hq] at z1
    | some i => simp [hq] at z1; simp [hq, z1]
  have hfk : (Instr.findKey kt iv arr.toList).run P c.w = .ok r c.w := by rw [run_findKeyW k1]; exact h1
  rcases h2 with ⟨f1, rfl⟩ | ⟨j, d, vv, f1, rfl, f2⟩
  · refine ⟨flatV z, ?_, ?_⟩
    · simp [Instr.lookup, run_underlying u1, MapKept.run_getObj_map g2, hck, hfk, hzv]
    · have : lookD kvs k z = z := by unfold lookD; rw [f1]
      rw [this]
      exact .data (VD_flat c.w c.fz z2)
  · refine ⟨vv, ?_, ?_⟩
    · simp [Instr.lookup, run_underlying u1, MapKept.run_getObj_map g2, hck, hfk]
    · have : lookD kvs k z = d := by unfold lookD; rw [f1]
      rw [this]
      exact .data f2

/-- An object that is no row is put in a map's place. -/
theorem overMap {c : Cx} (hc : CxOK c) {y b : Nat} {kvs kvs' : List (D × D)} {arr arr' : Array MapEntry} {clock clock' : Nat} (hy : c.es[y]? = some (.map kvs)) (hl : c.lam[y]? = some (some b)) (hb : c.w.heap[b]? = some (.map arr clock))
    (hz : c.fz b = 0) (hm : MapOK c.w c.fz kvs' arr'.toList) :
    ∃ c' : Cx, c'.w = { c.w with heap := c.w.heap.setIfInBounds b (.map arr' clock') } ∧ CxOK c' ∧ Reach c c' ∧ c'.es = c.es.set y (.map kvs') := by
  have hyl : y < c.es.length := (List.getElem?_eq_some_iff.1 hy).1
  have hbl : b < c.w.heap.size := (Array.getElem?_eq_some_iff.1 hb).1
  let w' : World := { c.w with heap := c.w.heap.setIfInBounds b (.map arr' clock') }
  have hother : ∀ b', b' ≠ b → w'.heap[b']? = c.w.heap[b']? := fun b' hne => by
    show (c.w.heap.setIfInBounds b (.map arr' clock'))[b']? = _
    rw [Array.getElem?_setIfInBounds_ne (Ne.symm hne)]
  have hself : w'.heap[b]? = some (.map arr' clock') := by
    show (c.w.heap.setIfInBounds b (.map arr' clock'))[b]? = _
    rw [Array.getElem?_setIfInBounds_self_of_lt hbl]
  have hsz : w'.heap.size = c.w.heap.size := by
    show (c.w.heap.setIfInBounds b (.map arr' clock')).size = _
    rw [Array.size_setIfInBounds]
  have hcell : ∀ b' o, w'.cell? ⟨b', o, none⟩ = c.w.cell? ⟨b', o, none⟩ := fun b' o => by
    by_cases e : b' = b
    · subst e
      simp only [World.cell?, hself, hb]
    · simp only [World.cell?, hother b' e]
  have hext : Ext c.w c.fz w' c.fz := fun b' => ⟨Nat.le_refl _, fun o _ => hcell b' o⟩
  let c' : Cx := { c with w := w', es := c.es.set y (.map kvs') }
  have hr : Reach c c' := {
    size := Nat.le_of_eq hsz.symm
    rest := ⟨rfl, rfl, rfl⟩
    ext := hext
    keep := fun b' cs0 T0 f h0 => by
      by_cases hbb : b' = b
      · subst hbb
        rw [hb] at h0; cases h0
      · exact ⟨cs0, (hother b' hbb).trans h0, rfl⟩
    frame := fun b' _ hn => by
      have hne : b' ≠ b := fun h => hn y (h ▸ hl)
      exact ⟨hother b' hne, rfl⟩
    ents := fun x ex hx => by
      by_cases hxy : x = y
      · subst hxy
        rw [hy] at hx
        simp only [Option.some.injEq] at hx
        subst hx
        exact ⟨.map kvs', by simp [c', hyl], ⟨kvs', rfl, rfl⟩⟩
      · exact ⟨ex, by simp [c', List.getElem?_set_ne (Ne.symm hxy), hx], EntStep.stay (c := c) (c' := c') rfl ex⟩
    news := fun x b' hx hb' => by
      have h1 := (List.getElem?_eq_some_iff.1 hb').1
      have h2 := hc.len
      simp only [c'] at h1
      omega }
  refine ⟨c', rfl, ⟨fun b' o ho => ?_, by simp [c', hc.len], hc.inj, fun x b' h => by show b' < w'.heap.size; rw [hsz]; exact hc.low x b' h, fun x ex hx => ?_⟩, hr, rfl⟩
  · obtain ⟨v, hv⟩ := hc.fr b' o ho
    exact ⟨v, (hcell b' o).trans hv⟩
  · by_cases hxy : x = y
    · subst hxy
      have hx' : some (Ent.map kvs') = some ex := (set_nth hyl).symm.trans hx
      simp only [Option.some.injEq] at hx'
      subst hx'
      exact ⟨b, arr', clock', hl, hself, hz, hm.ext hext⟩
    · have hx0 : c.es[x]? = some ex := (set_ne hxy).symm.trans hx
      have h0 := hc.ent x ex hx0
      have hne : ∀ b', c.lam[x]? = some (some b') → b' ≠ b := fun b' h h' => hxy (hc.inj x y b (h' ▸ h) hl)
      cases ex with
      | var d tok =>
        obtain ⟨b', cs0, T0, e1, e2, e3, e4, e5, e6⟩ := h0
        refine ⟨b', cs0, T0, e1, (hother b' (hne b' e1)).trans e2, e3, e4.ext hext, e5, fun p z hz => ?_⟩
        obtain ⟨g1, ⟨ez, g2, g2'⟩, xs, g3, g4⟩ := e6 p z hz
        obtain ⟨ez', g5, g6⟩ := hr.ents z ez g2
        exact ⟨g1, ⟨ez', g5, g6.notVar g2'⟩, xs, g3, g4.mono hr ⟨g2, g2'⟩⟩
      | ref a =>
        obtain ⟨b', v, T0, e1, e2, e3, e4⟩ := h0
        exact ⟨b', v, T0, e1, (hother b' (hne b' e1)).trans e2, e3.mono hr, e4⟩
      | row sz xs =>
        rcases h0 with h0 | ⟨b', cs0, T0, e1, e2, e3, e4⟩
        · exact .inl h0
        · exact .inr ⟨b', cs0, T0, e1, (hother b' (hne b' e1)).trans e2, e3, e4⟩
      | map l =>
        obtain ⟨b', arr1, clock1, e1, e2, e3, e4⟩ := h0
        exact ⟨b', arr1, clock1, e1, (hother b' (hne b' e1)).trans e2, e3, e4.ext hext⟩
      | dead => trivial

/-- A new map. -/
theorem addMap {c : Cx} (hc : CxOK c) : ∃ c' : Cx, c'.w = c.w.alloc (.map #[] 0) ∧ CxOK c' ∧ Reach c c' ∧ c'.es = c.es ++ [.map []] ∧ VR c' (.mp c.es.length) (.map (some c.w.heap.size)) := by
  have hold : ∀ b, b < c.w.heap.size → (c.w.alloc (.map #[] 0)).heap[b]? = c.w.heap[b]? := fun b hb => heap_alloc_old _ _ hb
  have hlamold : ∀ x, x < c.es.length → (c.lam ++ [some c.w.heap.size])[x]? = c.lam[x]? := fun x hx => List.getElem?_append_left (by rw [hc.len]; exact hx)
  have hlamnew : (c.lam ++ [some c.w.heap.size])[c.es.length]? = some (some c.w.heap.size) := by
    rw [List.getElem?_append_right (by rw [hc.len]; exact Nat.le_refl _), hc.len]; simp
  have hlam : ∀ (x b : Nat), (c.lam ++ [some c.w.heap.size])[x]? = some (some b) → (x < c.es.length ∧ c.lam[x]? = some (some b)) ∨ (x = c.es.length ∧ b = c.w.heap.size) := by
    intro x b hx
    have hl := (List.getElem?_eq_some_iff.1 hx).1
    simp [hc.len] at hl
    rcases Nat.lt_or_ge x c.es.length with h | h
    · rw [hlamold x h] at hx; exact .inl ⟨h, hx⟩
    · have : x = c.es.length := by omega
      subst this
      rw [hlamnew] at hx
      simp at hx
      exact .inr ⟨rfl, hx.symm⟩
  let c' : Cx := ⟨c.w.alloc (.map #[] 0), c.fz, c.lam ++ [some c.w.heap.size], c.es ++ [.map []]⟩
  have hext : Ext c.w c.fz c'.w c'.fz := fun b => ⟨Nat.le_refl _, fun o ho => by
    have hb : b < c.w.heap.size := by
      rcases Nat.lt_or_ge b c.w.heap.size with h | h
      · exact h
      · have := hc.fr.high h; omega
    simp only [c', World.cell?, hold b hb]⟩
  have hr : Reach c c' := {
    size := by simp [c']
    rest := ⟨rfl, rfl, rfl⟩
    ext := hext
    keep := fun b cs0 T0 f h0 => ⟨cs0, (hold b (Array.getElem?_eq_some_iff.1 h0).1).trans h0, rfl⟩
    frame := fun b hb _ => ⟨hold b hb, rfl⟩
    ents := fun x ex hx => by
      have hxl := (List.getElem?_eq_some_iff.1 hx).1
      refine ⟨ex, by simp only [c', List.getElem?_append_left hxl, hx], EntStep.stay (c := c) (c' := c') (hlamold x hxl) ex⟩
    news := fun x b hx hb => by
      rcases hlam x b hb with h | h
      · omega
      · omega }
  have hnew : c'.es[c.es.length]? = some (.map []) := by simp [c']
  refine ⟨c', rfl, ⟨fun b o ho => ?_, by simp [c', hc.len], fun x y b hx hy => ?_, fun x b hx => ?_, fun x ex hx => ?_⟩, hr, rfl, .mp hnew hlamnew⟩
  · obtain ⟨v, hv⟩ := hc.fr b o ho
    have hb : b < c.w.heap.size := by
      rcases Nat.lt_or_ge b c.w.heap.size with h | h
      · exact h
      · have := hc.fr.high h; simp only [c'] at ho; omega
    exact ⟨v, by simp only [c', World.cell?, hold b hb]; exact hv⟩
  · rcases hlam x b hx with ⟨h1, h2⟩ | ⟨h1, h2⟩ <;> rcases hlam y b hy with ⟨h3, h4⟩ | ⟨h3, h4⟩
    · exact hc.inj x y b h2 h4
    · have := hc.low x b h2; omega
    · have := hc.low y b h4; omega
    · omega
  · rcases hlam x b hx with ⟨h1, h2⟩ | ⟨h1, h2⟩
    · have := hc.low x b h2; simp [c']; omega
    · simp [c']; omega
  · have hxl := (List.getElem?_eq_some_iff.1 hx).1
    simp only [c', List.length_append, List.length_cons, List.length_nil] at hxl
    rcases Nat.lt_or_ge x c.es.length with h | h
    · simp only [c', List.getElem?_append_left h] at hx
      have h0 := hc.ent x ex hx
      have hlx := hlamold x h
      cases ex with
      | var d tok =>
        obtain ⟨b', cs0, T0, e1, e2, e3, e4, e5, e6⟩ := h0
        refine ⟨b', cs0, T0, hlx.trans e1, (hold b' (hc.low x b' e1)).trans e2, e3, e4.ext hr.ext, e5, fun p z hz => ?_⟩
        obtain ⟨g1, ⟨ez, g2, g2'⟩, xs, g3, g4⟩ := e6 p z hz
        obtain ⟨ez', g5, g6⟩ := hr.ents z ez g2
        exact ⟨g1, ⟨ez', g5, g6.notVar g2'⟩, xs, g3, g4.mono hr ⟨g2, g2'⟩⟩
      | ref a =>
        obtain ⟨b', v, T0, e1, e2, e3, e4⟩ := h0
        exact ⟨b', v, T0, hlx.trans e1, (hold b' (hc.low x b' e1)).trans e2, e3.mono hr, e4⟩
      | row sz xs =>
        rcases h0 with ⟨h0, h0'⟩ | ⟨b', cs0, T0, e1, e2, e3, e4⟩
        · exact .inl ⟨h0, hlx.trans h0'⟩
        · exact .inr ⟨b', cs0, T0, hlx.trans e1, (hold b' (hc.low x b' e1)).trans e2, e3, e4⟩
      | map l =>
        obtain ⟨b', arr, clock, e1, e2, e3, e4⟩ := h0
        exact ⟨b', arr, clock, hlx.trans e1, (hold b' (hc.low x b' e1)).trans e2, e3, e4.ext hr.ext⟩
      | dead => trivial
    · have : x = c.es.length := by omega
      subst this
      rw [hnew] at hx
      simp only [Option.some.injEq] at hx
      subst hx
      exact ⟨c.w.heap.size, #[], 0, hlamnew, heap_alloc_new _ _, hc.fr.high (Nat.le_refl _), trivial⟩

theorem xMapUpd_sound {P : Program} {tt : TT} (hT : TTok P tt) {c : Cx} (hc : CxOK c) {T : TypeId} {x ix v : AV} {es' : List Ent} {obs : List Prop} (h : xMapUpd tt c.es T x ix v = some (es', obs)) (ho : AllP obs) {xv iv vv : Value} (hx : VR c x xv) (hi : VR c ix iv) (hv : VR c v vv) :
    ∃ c' : Cx, (Instr.mapUpdate T xv iv vv).run P c.w = .ok () c'.w ∧ CxOK c' ∧ Reach c c' ∧ c'.es = es' := by
  unfold xMapUpd at h
  split at h
  · cases h
  rename_i kt et hti
  obtain ⟨u1, _⟩ := mapTI_spec hT hti
  split at h
  case h_2 => cases h
  rename_i y
  split at h
  case h_2 => cases h
  rename_i kvs hy
  split at h
  case h_2 => cases h
  rename_i k
  split at h
  case h_2 => cases h
  rename_i hkb
  split at h
  case h_2 => cases h
  rename_i d
  simp only [Option.some.injEq, Prod.mk.injEq] at h
  obtain ⟨rfl, rfl⟩ := h
  obtain ⟨b, kvs', rfl, e1, e2⟩ := hx.mp'
  have hk := hi.data'
  have hd := hv.data'
  obtain ⟨b', arr, clock, g1, g2, g3, g4⟩ := hc.ent y _ hy
  rw [e2] at g1
  simp only [Option.some.injEq] at g1
  subst g1
  have hoo : keysOK tt kt k kvs := ho.1
  obtain ⟨fs, fields, f, _, k1, _⟩ := keyB_struct hT hkb
  obtain ⟨r, h1, h2⟩ := run_findAsking hT hk 0 g4 fun p hp => (hoo p hp).1
  have hck := run_checkKeyW hT hkb hk false
  have hfk : (Instr.findKey kt iv arr.toList).run P c.w = .ok r c.w := by rw [run_findKeyW k1]; exact h1
  rcases h2 with ⟨f1, rfl⟩ | ⟨j, d0, v0, f1, rfl, f2⟩
  · obtain ⟨c', q1, q2, q3, q4⟩ := overMap (arr' := arr.push { key := iv, val := vv, born := clock }) (clock' := clock + 1) (kvs' := kvs ++ [(k, d)]) hc hy e2 g2 g3 (by
      rw [Array.toList_push]; exact MapOK.push (e := { key := iv, val := vv, born := clock }) hk hd g4)
    refine ⟨c', ?_, q2, q3, ?_⟩
    · rw [q1]
      simp [Instr.mapUpdate, run_underlying u1, MapKept.run_getObj_map g2, hck, hfk, MapKept.run_setObj_map _ g2]
    · rw [q4]; unfold setD; rw [f1]
  · obtain ⟨n, p, rfl, f3, f4, f5⟩ := findD_some f1
    rw [Nat.zero_add] at f1
    obtain ⟨e, m1, m2, m3⟩ := g4.at f3
    have hp := hoo p (List.mem_of_getElem? f3)
    obtain ⟨s1, s2⟩ := key_same hT hkb hp.2 hp.1 f5 hk m2
    have m1 : arr[n]? = some e := by simpa using m1
    have hst : (Instr.keyThatStays e.key iv).run P c.w = .ok iv c.w := by simp [Instr.keyThatStays, s2]
    obtain ⟨c', q1, q2, q3, q4⟩ := overMap (arr' := arr.modify n fun e => { e with key := iv, val := vv }) (clock' := clock) (kvs' := kvs.set n (k, d)) hc hy e2 g2 g3 (by
      rw [Array.toList_modify]; exact MapOK.put hk hd n g4)
    refine ⟨c', ?_, q2, q3, ?_⟩
    · rw [q1]
      simp [Instr.mapUpdate, run_underlying u1, MapKept.run_getObj_map g2, hck, hfk, m1, hst, MapKept.run_setObj_map _ g2]
    · rw [q4]; unfold setD; rw [f1]

end Go.W
