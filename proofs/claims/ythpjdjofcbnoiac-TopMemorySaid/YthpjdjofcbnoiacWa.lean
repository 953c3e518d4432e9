/-
  An abstract machine over the model: data, values, entries, and what it means that they stand in a world.
-/
import Derived.WalkKit
namespace Go.W

/-- Data: what a cell, a struct, an array or a list of such holds. -/
inductive D where
  | bool (b : Bool)
  | int (k : IntKind) (n : Int)
  | str (s : ByteArray)
  | nil
  | list (xs : List D)
  | agg (n : Nat) (f : Nat → D)
  | arr (n es : Nat) (f : Nat → D)

theorem D.ind {m : D → Prop} (hb : ∀ b, m (.bool b)) (hi : ∀ k n, m (.int k n)) (hs : ∀ s, m (.str s)) (hn : m .nil) (hl : ∀ xs, m (.list xs)) (ha : ∀ n f, (∀ i, m (f i)) → m (.agg n f))
    (hr : ∀ n es f, (∀ i, m (f i)) → m (.arr n es f)) : ∀ d, m d
  | .bool b => hb b
  | .int k n => hi k n
  | .str s => hs s
  | .nil => hn
  | .list xs => hl xs
  | .agg n f => ha n f fun i => D.ind hb hi hs hn hl ha hr (f i)
  | .arr n es f => hr n es f fun i => D.ind hb hi hs hn hl ha hr (f i)

theorem nbeq_ne {j i : Nat} (h : ¬ j = i) : Nat.beq j i = false := by
  cases hb : Nat.beq j i with
  | false => rfl
  | true => exact absurd (Nat.eq_of_beq_eq_true hb) h

instance : Inhabited D := ⟨.bool false⟩

def sumTo (g : Nat → Nat) : Nat → Nat
  | 0 => 0
  | n + 1 => sumTo g n + g n

def D.size : D → Nat
  | .agg n f => sumTo (fun i => (f i).size) n
  | .arr n es _ => n * es
  | _ => 1

def D.isAgg : D → Bool
  | .agg _ _ => true
  | .arr _ _ _ => true
  | _ => false

def D.get : D → List Nat → Option D
  | d, [] => some d
  | .agg _ f, i :: p => (f i).get p
  | .arr _ _ f, i :: p => (f i).get p
  | _, _ :: _ => none

def D.off : D → List Nat → Nat
  | .agg _ f, i :: p => sumTo (fun j => (f j).size) i + (f i).off p
  | .arr _ es f, i :: p => i * es + (f i).off p
  | _, _ => 0

def PathOK : D → List Nat → Prop
  | _, [] => True
  | .agg n f, i :: p => i < n ∧ PathOK (f i) p
  | .arr n _ f, i :: p => i < n ∧ PathOK (f i) p
  | _, _ :: _ => False

def D.set : D → List Nat → D → D
  | _, [], v => v
  | .agg n f, i :: p, v => .agg n fun j => bif Nat.beq j i then (f i).set p v else f j
  | .arr n es f, i :: p, v => .arr n es fun j => bif Nat.beq j i then (f i).set p v else f j
  | d, _ :: _, _ => d

/-- Two data of one make: leaves are alike in size. -/
def Same : D → D → Prop
  | .agg n f, .agg m g => n = m ∧ ∀ i, i < n → Same (f i) (g i)
  | .arr n es f, .arr m es' g => n = m ∧ es = es' ∧ ∀ i, i < n → Same (f i) (g i)
  | .agg _ _, _ => False
  | .arr _ _ _, _ => False
  | _, .agg _ _ => False
  | _, .arr _ _ _ => False
  | _, _ => True

def cellAt (w : World) (b o : Nat) : Value := (w.cell? ⟨b, o, none⟩).getD undef

/-- The cells c 0, c 1, .. hold the datum; lists lie in what is frozen: the first 'fz b' cells of block b. -/
inductive DR (w : World) (fz : Nat → Nat) : D → (Nat → Value) → Prop
  | bool {b c} : c 0 = .bool b → DR w fz (.bool b) c
  | int {k n c} : c 0 = .int k n → k.wrap n = n → DR w fz (.int k n) c
  | str {s c} : c 0 = .string s → s.size ≤ maxLen → DR w fz (.str s) c
  | nil {c : Nat → Value} {a : Option Addr} : c 0 = .slice a 0 0 → DR w fz .nil c
  | list0 {c : Nat → Value} {a : Option Addr} {cap : Nat} : c 0 = .slice a 0 cap → cap ≤ maxLen → DR w fz (.list []) c
  | list {xs : List D} {c : Nat → Value} {b off cap es : Nat} : c 0 = .slice (some ⟨b, off, none⟩) xs.length cap → xs.length ≤ cap → cap ≤ maxLen →
      (∀ i (h : i < xs.length), (xs[i]).size = es) → (∀ i (h : i < xs.length), DR w fz xs[i] (fun o => cellAt w b (off + i * es + o))) → off + xs.length * es ≤ fz b → DR w fz (.list xs) c
  | agg {n f c} : (∀ i, i < n → DR w fz (f i) (fun o => c (sumTo (fun j => (f j).size) i + o))) → DR w fz (.agg n f) c
  | arr {n es f c} : (∀ i, i < n → (f i).size = es) → (∀ i, i < n → DR w fz (f i) (fun o => c (i * es + o))) → DR w fz (.arr n es f) c

theorem sumTo_mono (g : Nat → Nat) {i n : Nat} (h : i ≤ n) : sumTo g i ≤ sumTo g n := by
  induction n with
  | zero => have : i = 0 := by omega
            subst this; exact Nat.le_refl _
  | succ n ih =>
    rcases Nat.lt_or_ge i (n + 1) with h' | h'
    · exact Nat.le_trans (ih (by omega)) (Nat.le_add_right _ _)
    · have : i = n + 1 := by omega
      subst this; exact Nat.le_refl _

theorem sumTo_lt (g : Nat → Nat) {i n o : Nat} (h : i < n) (ho : o < g i) : sumTo g i + o < sumTo g n := by
  have h1 : sumTo g (i + 1) ≤ sumTo g n := sumTo_mono g h
  simp only [sumTo] at h1
  omega

theorem sumTo_le (g : Nat → Nat) {i n : Nat} (h : i < n) : sumTo g i + g i ≤ sumTo g n := by
  have h1 : sumTo g (i + 1) ≤ sumTo g n := sumTo_mono g h
  simpa only [sumTo] using h1

theorem mul_lt_of {i n es o : Nat} (h : i < n) (ho : o < es) : i * es + o < n * es := by
  have : (i + 1) * es ≤ n * es := Nat.mul_le_mul_right _ h
  rw [Nat.add_mul] at this
  omega

theorem mul_le_of {i n es : Nat} (h : i < n) : i * es + es ≤ n * es := by
  have : (i + 1) * es ≤ n * es := Nat.mul_le_mul_right _ h
  rw [Nat.add_mul] at this
  omega

/-- What is frozen is still there. -/
def Ext (w : World) (fz : Nat → Nat) (w' : World) (fz' : Nat → Nat) : Prop :=
  ∀ b, fz b ≤ fz' b ∧ ∀ o, o < fz b → w'.cell? ⟨b, o, none⟩ = w.cell? ⟨b, o, none⟩

theorem Ext.refl (w : World) (fz : Nat → Nat) : Ext w fz w fz := fun _ => ⟨Nat.le_refl _, fun _ _ => rfl⟩
theorem Ext.trans {w w' w'' : World} {fz fz' fz'' : Nat → Nat} (h : Ext w fz w' fz') (h' : Ext w' fz' w'' fz'') : Ext w fz w'' fz'' :=
  fun b => ⟨Nat.le_trans (h b).1 (h' b).1, fun o ho => ((h' b).2 o (Nat.lt_of_lt_of_le ho (h b).1)).trans ((h b).2 o ho)⟩

theorem DR.move {w w' : World} {fz fz' : Nat → Nat} (he : Ext w fz w' fz') {d : D} {c : Nat → Value} (h : DR w fz d c) :
    ∀ c' : Nat → Value, (∀ o, o < d.size → c' o = c o) → DR w' fz' d c' := by
  induction h with
  | bool h => intro c' hc; exact .bool ((hc 0 (by simp [D.size])).trans h)
  | int h hw => intro c' hc; exact .int ((hc 0 (by simp [D.size])).trans h) hw
  | str h hs => intro c' hc; exact .str ((hc 0 (by simp [D.size])).trans h) hs
  | nil h => intro c' hc; exact .nil ((hc 0 (by simp [D.size])).trans h)
  | list0 h hm => intro c' hc; exact .list0 ((hc 0 (by simp [D.size])).trans h) hm
  | @list xs c b off cap es h hl hcap hes _ hf ih =>
    intro c' hc
    refine .list ((hc 0 (by simp [D.size])).trans h) hl hcap hes (fun i hi => ih i hi _ fun o ho => ?_) (Nat.le_trans hf (he b).1)
    unfold cellAt
    rw [(he b).2 (off + i * es + o)]
    have := hes i hi
    have h2 : i * es + o < xs.length * es := mul_lt_of hi (by omega)
    omega
  | @agg n f c _ ih =>
    intro c' hc
    exact .agg fun i hi => ih i hi _ fun o ho => hc _ (sumTo_lt (fun j => (f j).size) hi ho)
  | @arr n es f c hes _ ih =>
    intro c' hc
    exact .arr hes fun i hi => ih i hi _ fun o ho => hc _ (mul_lt_of hi (hes i hi ▸ ho))

theorem DR.ext {w w' : World} {fz fz' : Nat → Nat} (he : Ext w fz w' fz') {d : D} {c : Nat → Value} (h : DR w fz d c) : DR w' fz' d c :=
  h.move he c fun _ _ => rfl
theorem DR.congr {w : World} {fz : Nat → Nat} {d : D} {c c' : Nat → Value} (h : DR w fz d c) (hc : ∀ o, o < d.size → c' o = c o) : DR w fz d c' :=
  h.move (.refl _ _) c' hc

/-- An array's elements are of one size. -/
def D.WF : D → Prop
  | .agg n f => ∀ i, i < n → (f i).WF
  | .arr n es f => ∀ i, i < n → (f i).size = es ∧ (f i).WF
  | _ => True

theorem DR.wf {w : World} {fz : Nat → Nat} {d : D} {c : Nat → Value} (h : DR w fz d c) : d.WF := by
  induction h with
  | agg _ ih => exact fun i hi => ih i hi
  | arr hes _ ih => exact fun i hi => ⟨hes i hi, ih i hi⟩
  | _ => trivial

theorem off_size {d v : D} {p : List Nat} (hw : d.WF) (hp : PathOK d p) (hg : d.get p = some v) : d.off p + v.size ≤ d.size := by
  induction p generalizing d with
  | nil => simp [D.get] at hg; subst hg; simp [D.off]
  | cons i p ih =>
    cases d with
    | agg n f =>
      simp only [PathOK] at hp; simp only [D.get] at hg; simp only [D.off, D.size]
      have := ih (hw i hp.1) hp.2 hg
      have h2 := sumTo_le (fun j => (f j).size) hp.1
      omega
    | arr n es f =>
      simp only [PathOK] at hp; simp only [D.get] at hg; simp only [D.off, D.size]
      have := ih (hw i hp.1).2 hp.2 hg
      have h1 := (hw i hp.1).1
      have h2 := mul_le_of (es := es) hp.1
      omega
    | _ => simp [D.get] at hg

theorem get_wf {d v : D} {p : List Nat} (hw : d.WF) (hp : PathOK d p) (hg : d.get p = some v) : v.WF := by
  induction p generalizing d with
  | nil => simp [D.get] at hg; subst hg; exact hw
  | cons i p ih =>
    cases d with
    | agg n f => exact ih (hw i hp.1) hp.2 hg
    | arr n es f => exact ih (hw i hp.1).2 hp.2 hg
    | _ => simp [D.get] at hg

theorem DR.at {w : World} {fz : Nat → Nat} {d v : D} {p : List Nat} {c : Nat → Value} (h : DR w fz d c) (hp : PathOK d p) (hg : d.get p = some v) :
    DR w fz v (fun o => c (d.off p + o)) := by
  induction p generalizing d c with
  | nil => simp [D.get] at hg; subst hg; simpa [D.off] using h
  | cons i p ih =>
    cases d with
    | agg n f =>
      cases h with
      | agg h =>
        have := ih (h i hp.1) hp.2 hg
        simpa only [D.off, Nat.add_assoc] using this
    | arr n es f =>
      cases h with
      | arr _ h =>
        have := ih (h i hp.1) hp.2 hg
        simpa only [D.off, Nat.add_assoc] using this
    | _ => simp [D.get] at hg

theorem Same.size {d : D} : ∀ {e : D}, Same d e → d.size = e.size := by
  refine D.ind (m := fun d => ∀ {e : D}, Same d e → d.size = e.size) ?_ ?_ ?_ ?_ ?_ ?_ ?_ d
  case _ => intro b e h; cases e <;> simp_all [Same, D.size]
  case _ => intro k n e h; cases e <;> simp_all [Same, D.size]
  case _ => intro b e h; cases e <;> simp_all [Same, D.size]
  case _ => intro e h; cases e <;> simp_all [Same, D.size]
  case _ => intro b e h; cases e <;> simp_all [Same, D.size]
  case _ =>
    intro n f ih e h
    cases e <;> simp only [Same] at h
    rename_i m g
    obtain ⟨rfl, h⟩ := h
    simp only [D.size]
    have : ∀ k, k ≤ n → sumTo (fun i => (f i).size) k = sumTo (fun i => (g i).size) k := by
      intro k
      induction k with
      | zero => intro _; rfl
      | succ k ihk => intro hk; simp only [sumTo]; rw [ihk (by omega), ih k (h k (by omega))]
    exact this n (Nat.le_refl _)
  case _ =>
    intro n es f ih e h
    cases e <;> simp only [Same] at h
    obtain ⟨rfl, rfl, _⟩ := h
    rfl

theorem Same.refl (d : D) : Same d d := by
  refine D.ind (m := fun d => Same d d) ?_ ?_ ?_ ?_ ?_ ?_ ?_ d
  case _ => intro b; simp [Same]
  case _ => intro b n; simp [Same]
  case _ => intro b; simp [Same]
  case _ => simp [Same]
  case _ => intro b; simp [Same]
  case _ => intro n f ih; exact ⟨rfl, fun i _ => ih i⟩
  case _ => intro n es f ih; exact ⟨rfl, rfl, fun i _ => ih i⟩

theorem Same.trans {d : D} : ∀ {e g : D}, Same d e → Same e g → Same d g := by
  refine D.ind (m := fun d => ∀ {e g : D}, Same d e → Same e g → Same d g) ?_ ?_ ?_ ?_ ?_ ?_ ?_ d
  case _ => intro b e g h hg; cases e <;> simp only [Same] at h <;> cases g <;> simp_all [Same]
  case _ => intro b k e g h hg; cases e <;> simp only [Same] at h <;> cases g <;> simp_all [Same]
  case _ => intro b e g h hg; cases e <;> simp only [Same] at h <;> cases g <;> simp_all [Same]
  case _ => intro e g h hg; cases e <;> simp only [Same] at h <;> cases g <;> simp_all [Same]
  case _ => intro b e g h hg; cases e <;> simp only [Same] at h <;> cases g <;> simp_all [Same]
  case _ =>
    intro n f ih e g h hg
    cases e <;> simp only [Same] at h
    cases g <;> simp only [Same] at hg
    exact ⟨h.1.trans hg.1, fun i hi => ih i (h.2 i hi) (hg.2 i (h.1 ▸ hi))⟩
  case _ =>
    intro n es f ih e g h hg
    cases e <;> simp only [Same] at h
    cases g <;> simp only [Same] at hg
    exact ⟨h.1.trans hg.1, h.2.1.trans hg.2.1, fun i hi => ih i (h.2.2 i hi) (hg.2.2 i (h.1 ▸ hi))⟩

theorem Same.symm {d : D} : ∀ {e : D}, Same d e → Same e d := by
  refine D.ind (m := fun d => ∀ {e : D}, Same d e → Same e d) ?_ ?_ ?_ ?_ ?_ ?_ ?_ d
  case _ => intro b e h; cases e <;> simp_all [Same]
  case _ => intro b k e h; cases e <;> simp_all [Same]
  case _ => intro b e h; cases e <;> simp_all [Same]
  case _ => intro e h; cases e <;> simp_all [Same]
  case _ => intro b e h; cases e <;> simp_all [Same]
  case _ =>
    intro n f ih e h
    cases e <;> simp only [Same] at h
    obtain ⟨rfl, h⟩ := h
    exact ⟨rfl, fun i hi => ih i (h i hi)⟩
  case _ =>
    intro n es f ih e h
    cases e <;> simp only [Same] at h
    obtain ⟨rfl, rfl, h⟩ := h
    exact ⟨rfl, rfl, fun i hi => ih i (h i hi)⟩

theorem Same.path {d e : D} {p : List Nat} (h : Same d e) (hp : PathOK d p) : PathOK e p ∧ d.off p = e.off p := by
  induction p generalizing d e with
  | nil => cases d <;> cases e <;> simp [PathOK, D.off]
  | cons i p ih =>
    cases d with
    | agg n f =>
      cases e <;> simp only [Same] at h
      rename_i m g
      obtain ⟨rfl, h⟩ := h
      simp only [PathOK] at hp ⊢
      have h1 := ih (h i hp.1) hp.2
      refine ⟨⟨hp.1, h1.1⟩, ?_⟩
      simp only [D.off]
      have : ∀ k, k ≤ n → sumTo (fun i => (f i).size) k = sumTo (fun i => (g i).size) k := by
        intro k
        induction k with
        | zero => intro _; rfl
        | succ k ihk => intro hk; simp only [sumTo]; rw [ihk (by omega), (h k (by omega)).size]
      rw [this i (by omega), h1.2]
    | arr n es f =>
      cases e <;> simp only [Same] at h
      rename_i m es' g
      obtain ⟨rfl, rfl, h⟩ := h
      simp only [PathOK] at hp ⊢
      have h1 := ih (h i hp.1) hp.2
      exact ⟨⟨hp.1, h1.1⟩, by simp only [D.off]; rw [h1.2]⟩
    | _ => simp [PathOK] at hp

theorem set_same {d v u : D} {p : List Nat} (hp : PathOK d p) (hg : d.get p = some v) (hs : Same v u) : Same d (d.set p u) := by
  induction p generalizing d with
  | nil =>
    simp only [D.get, Option.some.injEq] at hg; subst hg
    cases d <;> simpa [D.set] using hs
  | cons i p ih =>
    cases d with
    | agg n f =>
      simp only [D.set]
      refine ⟨rfl, fun j _ => ?_⟩
      by_cases hj : j = i
      · subst hj
        have : Nat.beq j j = true := Nat.beq_refl j
        simp only [this, cond_true]
        exact ih hp.2 hg
      · have : Nat.beq j i = false := nbeq_ne hj
        simp only [this, cond_false]
        exact .refl _
    | arr n es f =>
      simp only [D.set]
      refine ⟨rfl, rfl, fun j _ => ?_⟩
      by_cases hj : j = i
      · subst hj
        have : Nat.beq j j = true := Nat.beq_refl j
        simp only [this, cond_true]
        exact ih hp.2 hg
      · have : Nat.beq j i = false := nbeq_ne hj
        simp only [this, cond_false]
        exact .refl _
    | _ => simp [D.get] at hg

/-- A store into a part of what the cells hold. -/
theorem DR.set {w : World} {fz : Nat → Nat} {d v u : D} {p : List Nat} {c c' : Nat → Value} (h : DR w fz d c) (hp : PathOK d p) (hg : d.get p = some v) (hs : v.size = u.size)
    (hu : DR w fz u (fun o => c' (d.off p + o))) (hc : ∀ o, o < d.size → (o < d.off p ∨ d.off p + v.size ≤ o) → c' o = c o) : DR w fz (d.set p u) c' := by
  induction p generalizing d c c' with
  | nil =>
    cases d <;> simpa [D.set, D.off] using hu
  | cons i p ih =>
    cases d with
    | agg n f =>
      cases h with
      | agg h =>
        simp only [D.set]
        have hwf : ((D.agg n f).get (i :: p)) = some v := hg
        simp only [D.get] at hg
        simp only [PathOK] at hp
        have hin := off_size (h i hp.1).wf hp.2 hg
        have hsz : ∀ j, (bif Nat.beq j i then (f i).set p u else f j).size = (f j).size := by
          intro j
          by_cases hj : j = i
          · subst hj
            have hb : Nat.beq j j = true := Nat.beq_refl j
            simp only [hb, cond_true]
            clear ih hc hu hwf
            have key : ∀ (p : List Nat) (d : D), PathOK d p → d.get p = some v → (d.set p u).size = d.size := by
              intro p
              induction p with
              | nil => intro d _ hg; simp only [D.get, Option.some.injEq] at hg; subst hg; cases d <;> simp [D.set, hs]
              | cons k p ihp =>
                intro d hp hg
                cases d with
                | agg m g =>
                  simp only [D.set, D.size]
                  have : ∀ q, sumTo (fun i => (bif Nat.beq i k then (g k).set p u else g i).size) q = sumTo (fun i => (g i).size) q := by
                    intro q
                    induction q with
                    | zero => rfl
                    | succ q ihq =>
                      simp only [sumTo, ihq]
                      by_cases hq : q = k
                      · subst hq
                        have hb : Nat.beq q q = true := Nat.beq_refl q
                        simp only [hb, cond_true]
                        rw [ihp _ hp.2 hg]
                      · have hb : Nat.beq q k = false := nbeq_ne hq
                        simp only [hb, cond_false]
                  exact this m
                | arr m es g => simp only [D.set, D.size]
                | _ => simp [D.get] at hg
            exact key p (f j) hp.2 hg
          · have hb : Nat.beq j i = false := nbeq_ne hj
            simp only [hb, cond_false]
        have hsum : ∀ k, sumTo (fun j => (bif Nat.beq j i then (f i).set p u else f j).size) k = sumTo (fun j => (f j).size) k := by
          intro k
          have : (fun j => (bif Nat.beq j i then (f i).set p u else f j).size) = fun j => (f j).size := funext hsz
          rw [this]
        refine .agg fun j hj => ?_
        rw [hsum j]
        by_cases hji : j = i
        · subst hji
          have hb : Nat.beq j j = true := Nat.beq_refl j
          simp only [hb, cond_true]
          refine ih (h j hj) hp.2 hg ?_ fun o ho ho' => ?_
          · simpa only [D.off, Nat.add_assoc] using hu
          · refine hc _ (sumTo_lt (fun j => (f j).size) hj ho) ?_
            simp only [D.off]
            omega
        · have hb : Nat.beq j i = false := nbeq_ne hji
          simp only [hb, cond_false]
          refine (h j hj).congr fun o ho => ?_
          refine hc _ (sumTo_lt (fun j => (f j).size) hj ho) ?_
          simp only [D.off]
          rcases Nat.lt_or_ge j i with hlt | hge
          · have := sumTo_le (fun j => (f j).size) hlt
            left
            omega
          · have hlt : i < j := by omega
            have := sumTo_le (fun j => (f j).size) hlt
            right
            omega
    | arr n es f =>
      cases h with
      | arr hes h =>
        simp only [D.set]
        simp only [D.get] at hg
        simp only [PathOK] at hp
        have hin := off_size (h i hp.1).wf hp.2 hg
        have hei := hes i hp.1
        have hsz : ∀ j, (bif Nat.beq j i then (f i).set p u else f j).size = (f j).size := by
          intro j
          by_cases hj : j = i
          · subst hj
            have hb : Nat.beq j j = true := Nat.beq_refl j
            simp only [hb, cond_true]
            clear ih hc hu
            have key : ∀ (p : List Nat) (d : D), PathOK d p → d.get p = some v → (d.set p u).size = d.size := by
              intro p
              induction p with
              | nil => intro d _ hg; simp only [D.get, Option.some.injEq] at hg; subst hg; cases d <;> simp [D.set, hs]
              | cons k p ihp =>
                intro d hp hg
                cases d with
                | agg m g =>
                  simp only [D.set, D.size]
                  have : ∀ q, sumTo (fun i => (bif Nat.beq i k then (g k).set p u else g i).size) q = sumTo (fun i => (g i).size) q := by
                    intro q
                    induction q with
                    | zero => rfl
                    | succ q ihq =>
                      simp only [sumTo, ihq]
                      by_cases hq : q = k
                      · subst hq
                        have hb : Nat.beq q q = true := Nat.beq_refl q
                        simp only [hb, cond_true]
                        rw [ihp _ hp.2 hg]
                      · have hb : Nat.beq q k = false := nbeq_ne hq
                        simp only [hb, cond_false]
                  exact this m
                | arr m es g => simp only [D.set, D.size]
                | _ => simp [D.get] at hg
            exact key p (f j) hp.2 hg
          · have hb : Nat.beq j i = false := nbeq_ne hj
            simp only [hb, cond_false]
        refine .arr (fun j hj => (hsz j).trans (hes j hj)) fun j hj => ?_
        by_cases hji : j = i
        · subst hji
          have hb : Nat.beq j j = true := Nat.beq_refl j
          simp only [hb, cond_true]
          refine ih (h j hj) hp.2 hg ?_ fun o ho ho' => ?_
          · simpa only [D.off, Nat.add_assoc] using hu
          · refine hc _ (mul_lt_of hj (by omega)) ?_
            simp only [D.off]
            omega
        · have hb : Nat.beq j i = false := nbeq_ne hji
          simp only [hb, cond_false]
          refine (h j hj).congr fun o ho => ?_
          have hej := hes j hj
          refine hc _ (mul_lt_of hj (by omega)) ?_
          simp only [D.off]
          rcases Nat.lt_or_ge j i with hlt | hge
          · have := mul_le_of (es := es) hlt
            left
            omega
          · have hlt : i < j := by omega
            have := mul_le_of (es := es) hlt
            right
            omega
    | _ => simp [D.get] at hg

end Go.W
