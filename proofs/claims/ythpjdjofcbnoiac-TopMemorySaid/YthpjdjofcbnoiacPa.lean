/-
  Sheets, in plain Lean.
-/
import Derived.Test.YthpjdjofcbnoiacFj
namespace Go.W

theorem Sheet.ext' {a b : Sheet} (h1 : ∀ r, a.calls r = b.calls r) (h2 : ∀ r i, a.wishes r i = b.wishes r i) (h3 : ∀ r i, a.promises r i = b.promises r i) : a = b := by
  cases a; cases b
  simp only [Sheet.mk.injEq]
  exact ⟨funext h1, funext fun r => funext (h2 r), funext fun r => funext (h3 r)⟩

def hitC (s : Sheet) (w : Word) (r : Nat) : Prop := GoodW w ∧ w.kind = 1 ∧ r = rOf w ∧ (s.calls r).is = false ∧ w.frm = leader w.height w.round
def hitW (s : Sheet) (w : Word) (r i : Nat) : Prop := GoodW w ∧ w.kind = 2 ∧ r = rOf w ∧ i = fOf w ∧ s.wishes r i = 0
def hitP (s : Sheet) (w : Word) (r i : Nat) : Prop := GoodW w ∧ w.kind = 3 ∧ r = rOf w ∧ i = fOf w ∧ s.promises r i = 0

open Classical in
theorem hearS_calls (s : Sheet) (w : Word) (r : Nat) : (hearS s w).calls r = if hitC s w r then ⟨true, w.value, w.valid⟩ else s.calls r := by
  unfold hearS hitC
  by_cases hg : goodW w = 0
  · have hG := (goodW_iff w).1 hg
    rw [if_pos hg]
    by_cases h1 : w.kind = 1
    · rw [if_pos h1]
      by_cases hr : r = rOf w
      · subst hr
        cases hh : hHears w s with
        | true =>
          simp only [hHears, Bool.and_eq_true, Bool.not_eq_true', beq_iff_eq] at hh
          rw [if_pos rfl, if_pos ⟨hG, h1, rfl, hh.1, hh.2⟩]
          exact upd_same _ _ _
        | false =>
          simp only [hHears, Bool.and_eq_false_iff, Bool.not_eq_false', beq_eq_false_iff_ne] at hh
          rw [if_neg (by simp), if_neg]
          rintro ⟨_, _, _, h4, h5⟩
          rcases hh with hh | hh
          · rw [hh] at h4; cases h4
          · exact hh h5
      · rw [if_neg (show ¬ (GoodW w ∧ w.kind = 1 ∧ r = rOf w ∧ (s.calls r).is = false ∧ w.frm = leader w.height w.round) from fun h => hr h.2.2.1)]
        split
        · exact upd_other _ _ hr
        · rfl
    · rw [if_neg h1, if_neg (show ¬ (GoodW w ∧ w.kind = 1 ∧ r = rOf w ∧ (s.calls r).is = false ∧ w.frm = leader w.height w.round) from fun h => h1 h.2.1)]
      repeat' split
      all_goals rfl
  · rw [if_neg hg, if_neg (fun h => hg ((goodW_iff w).2 h.1))]

open Classical in
theorem hearS_wishes (s : Sheet) (w : Word) (r i : Nat) : (hearS s w).wishes r i = if hitW s w r i then w.value + 1 else s.wishes r i := by
  unfold hearS hitW
  by_cases hg : goodW w = 0
  · have hG := (goodW_iff w).1 hg
    rw [if_pos hg]
    by_cases h1 : w.kind = 1
    · rw [if_pos h1, if_neg (show ¬ (GoodW w ∧ w.kind = 2 ∧ r = rOf w ∧ i = fOf w ∧ s.wishes r i = 0) from fun h => by have := h.2.1; omega)]
      split <;> rfl
    · rw [if_neg h1]
      by_cases h2 : w.kind = 2
      · rw [if_pos h2]
        by_cases hr : r = rOf w
        · subst hr
          by_cases hi : i = fOf w
          · subst hi
            by_cases h0 : s.wishes (rOf w) (fOf w) = 0
            · rw [if_pos h0, if_pos ⟨hG, h2, rfl, rfl, h0⟩]
              simp only [upd_same]
            · rw [if_neg h0, if_neg (fun h => h0 h.2.2.2.2)]
          · rw [if_neg (show ¬ (GoodW w ∧ w.kind = 2 ∧ rOf w = rOf w ∧ i = fOf w ∧ s.wishes (rOf w) i = 0) from fun h => hi h.2.2.2.1)]
            split
            · simp only [upd_same]; exact upd_other _ _ hi
            · rfl
        · rw [if_neg (show ¬ (GoodW w ∧ w.kind = 2 ∧ r = rOf w ∧ i = fOf w ∧ s.wishes r i = 0) from fun h => hr h.2.2.1)]
          split
          · exact congrFun (upd_other _ _ hr) i
          · rfl
      · rw [if_neg h2, if_neg (show ¬ (GoodW w ∧ w.kind = 2 ∧ r = rOf w ∧ i = fOf w ∧ s.wishes r i = 0) from fun h => h2 h.2.1)]
        split <;> rfl
  · rw [if_neg hg, if_neg (fun h => hg ((goodW_iff w).2 h.1))]

open Classical in
theorem hearS_promises (s : Sheet) (w : Word) (r i : Nat) : (hearS s w).promises r i = if hitP s w r i then w.value + 1 else s.promises r i := by
  unfold hearS hitP
  by_cases hg : goodW w = 0
  · have hG := (goodW_iff w).1 hg
    have hk := hG.kind
    rw [if_pos hg]
    by_cases h1 : w.kind = 1
    · rw [if_pos h1, if_neg (show ¬ (GoodW w ∧ w.kind = 3 ∧ r = rOf w ∧ i = fOf w ∧ s.promises r i = 0) from fun h => by have := h.2.1; omega)]
      split <;> rfl
    · rw [if_neg h1]
      by_cases h2 : w.kind = 2
      · rw [if_pos h2, if_neg (show ¬ (GoodW w ∧ w.kind = 3 ∧ r = rOf w ∧ i = fOf w ∧ s.promises r i = 0) from fun h => by have := h.2.1; omega)]
        split <;> rfl
      · rw [if_neg h2]
        by_cases hr : r = rOf w
        · subst hr
          by_cases hi : i = fOf w
          · subst hi
            by_cases h0 : s.promises (rOf w) (fOf w) = 0
            · rw [if_pos h0, if_pos ⟨hG, by omega, rfl, rfl, h0⟩]
              simp only [upd_same]
            · rw [if_neg h0, if_neg (fun h => h0 h.2.2.2.2)]
          · rw [if_neg (show ¬ (GoodW w ∧ w.kind = 3 ∧ rOf w = rOf w ∧ i = fOf w ∧ s.promises (rOf w) i = 0) from fun h => hi h.2.2.2.1)]
            split
            · simp only [upd_same]; exact upd_other _ _ hi
            · rfl
        · rw [if_neg (show ¬ (GoodW w ∧ w.kind = 3 ∧ r = rOf w ∧ i = fOf w ∧ s.promises r i = 0) from fun h => hr h.2.2.1)]
          split
          · exact congrFun (upd_other _ _ hr) i
          · rfl
  · rw [if_neg hg, if_neg (fun h => hg ((goodW_iff w).2 h.1))]

theorem hearS_bad (s : Sheet) {w : Word} (h : goodW w ≠ 0) : hearS s w = s := by simp [hearS, h]

/-- Two words in one place. -/
structure SameP (a b : Word) : Prop where
  kind : a.kind = b.kind
  frm : a.frm = b.frm
  height : a.height = b.height
  round : a.round = b.round

theorem hear_once (s : Sheet) {a b : Word} (h : SameP a b) (ha : GoodW a) : hearS (hearS s a) b = hearS s a := by
  have er : rOf b = rOf a := by unfold rOf; rw [h.round]
  have ef : fOf b = fOf a := by unfold fOf; rw [h.frm]
  have hv := ha.value
  apply Sheet.ext'
  · intro r
    rw [hearS_calls (hearS s a) b]
    rw [if_neg]
    rintro ⟨hb, hk, rfl, hi, hl⟩
    rw [hearS_calls] at hi
    split at hi
    · cases hi
    · rename_i hn
      apply hn
      exact ⟨ha, by rw [h.kind]; exact hk, er, hi, by rw [h.frm, h.height, h.round]; exact hl⟩
  · intro r i
    rw [hearS_wishes (hearS s a) b]
    rw [if_neg]
    rintro ⟨hb, hk, rfl, rfl, hi⟩
    rw [hearS_wishes] at hi
    split at hi
    · omega
    · rename_i hn
      exact hn ⟨ha, by rw [h.kind]; exact hk, er, ef, hi⟩
  · intro r i
    rw [hearS_promises (hearS s a) b]
    rw [if_neg]
    rintro ⟨hb, hk, rfl, rfl, hi⟩
    rw [hearS_promises] at hi
    split at hi
    · omega
    · rename_i hn
      exact hn ⟨ha, by rw [h.kind]; exact hk, er, ef, hi⟩

theorem hear_comm (s : Sheet) {a b : Word} (h : ¬ SameP a b) (hh : a.height = b.height) : hearS (hearS s a) b = hearS (hearS s b) a := by
  have key : ∀ {a b : Word}, ¬ SameP a b → GoodW a → GoodW b → a.height = b.height → a.kind = b.kind → rOf a = rOf b → fOf a = fOf b → False := by
    intro a b h ga gb hh hk hr hf
    have h1 := ga.round
    have h2 := gb.round
    have h3 := ga.frm
    have h4 := gb.frm
    unfold rOf at hr
    unfold fOf at hf
    exact h ⟨hk, by omega, hh, by omega⟩
  have keyC : ∀ {a b : Word}, ¬ SameP a b → GoodW a → GoodW b → a.height = b.height → a.kind = b.kind → rOf a = rOf b → a.frm = leader a.height a.round → b.frm = leader b.height b.round → False := by
    intro a b h ga gb hh hk hr h3 h4
    have h1 := ga.round
    have h2 := gb.round
    unfold rOf at hr
    have : a.round = b.round := by omega
    exact h ⟨hk, by rw [h3, h4, hh, this], hh, this⟩
  have h' : ¬ SameP b a := fun g => h ⟨g.kind.symm, g.frm.symm, g.height.symm, g.round.symm⟩
  apply Sheet.ext'
  · intro r
    simp only [hearS_calls (hearS s a) b, hearS_calls (hearS s b) a, hearS_calls s a, hearS_calls s b]
    by_cases ca : hitC s a r
    · have cb : ¬ hitC s b r := fun cb => keyC h ca.1 cb.1 hh (by rw [ca.2.1, cb.2.1]) (by rw [← ca.2.2.1, ← cb.2.2.1]) ca.2.2.2.2 cb.2.2.2.2
      have cb' : ¬ hitC (hearS s a) b r := fun ⟨g1, g2, g3, g4, g5⟩ => keyC h ca.1 g1 hh (by rw [ca.2.1, g2]) (by rw [← ca.2.2.1, ← g3]) ca.2.2.2.2 g5
      have ca' : hitC (hearS s b) a r := ⟨ca.1, ca.2.1, ca.2.2.1, by rw [hearS_calls, if_neg cb]; exact ca.2.2.2.1, ca.2.2.2.2⟩
      rw [if_neg cb', if_pos ca', if_pos ca]
    · by_cases cb : hitC s b r
      · have ca' : ¬ hitC (hearS s b) a r := fun ⟨g1, g2, g3, g4, g5⟩ => keyC h' cb.1 g1 hh.symm (by rw [cb.2.1, g2]) (by rw [← cb.2.2.1, ← g3]) cb.2.2.2.2 g5
        have cb' : hitC (hearS s a) b r := ⟨cb.1, cb.2.1, cb.2.2.1, by rw [hearS_calls, if_neg ca]; exact cb.2.2.2.1, cb.2.2.2.2⟩
        rw [if_pos cb', if_neg ca', if_pos cb]
      · have cb' : ¬ hitC (hearS s a) b r := fun ⟨g1, g2, g3, g4, g5⟩ => cb ⟨g1, g2, g3, by rw [hearS_calls, if_neg ca] at g4; exact g4, g5⟩
        have ca' : ¬ hitC (hearS s b) a r := fun ⟨g1, g2, g3, g4, g5⟩ => ca ⟨g1, g2, g3, by rw [hearS_calls, if_neg cb] at g4; exact g4, g5⟩
        rw [if_neg cb', if_neg ca', if_neg ca, if_neg cb]
  · intro r i
    simp only [hearS_wishes (hearS s a) b, hearS_wishes (hearS s b) a, hearS_wishes s a, hearS_wishes s b]
    by_cases ca : hitW s a r i
    · have cb : ¬ hitW s b r i := fun cb => key h ca.1 cb.1 hh (by rw [ca.2.1, cb.2.1]) (by rw [← ca.2.2.1, ← cb.2.2.1]) (by rw [← ca.2.2.2.1, ← cb.2.2.2.1])
      have cb' : ¬ hitW (hearS s a) b r i := fun ⟨g1, g2, g3, g4, g5⟩ => key h ca.1 g1 hh (by rw [ca.2.1, g2]) (by rw [← ca.2.2.1, ← g3]) (by rw [← ca.2.2.2.1, ← g4])
      have ca' : hitW (hearS s b) a r i := ⟨ca.1, ca.2.1, ca.2.2.1, ca.2.2.2.1, by rw [hearS_wishes, if_neg cb]; exact ca.2.2.2.2⟩
      rw [if_neg cb', if_pos ca', if_pos ca]
    · by_cases cb : hitW s b r i
      · have ca' : ¬ hitW (hearS s b) a r i := fun ⟨g1, g2, g3, g4, g5⟩ => key h' cb.1 g1 hh.symm (by rw [cb.2.1, g2]) (by rw [← cb.2.2.1, ← g3]) (by rw [← cb.2.2.2.1, ← g4])
        have cb' : hitW (hearS s a) b r i := ⟨cb.1, cb.2.1, cb.2.2.1, cb.2.2.2.1, by rw [hearS_wishes, if_neg ca]; exact cb.2.2.2.2⟩
        rw [if_pos cb', if_neg ca', if_pos cb]
      · have cb' : ¬ hitW (hearS s a) b r i := fun ⟨g1, g2, g3, g4, g5⟩ => cb ⟨g1, g2, g3, g4, by rw [hearS_wishes, if_neg ca] at g5; exact g5⟩
        have ca' : ¬ hitW (hearS s b) a r i := fun ⟨g1, g2, g3, g4, g5⟩ => ca ⟨g1, g2, g3, g4, by rw [hearS_wishes, if_neg cb] at g5; exact g5⟩
        rw [if_neg cb', if_neg ca', if_neg ca, if_neg cb]
  · intro r i
    simp only [hearS_promises (hearS s a) b, hearS_promises (hearS s b) a, hearS_promises s a, hearS_promises s b]
    by_cases ca : hitP s a r i
    · have cb : ¬ hitP s b r i := fun cb => key h ca.1 cb.1 hh (by rw [ca.2.1, cb.2.1]) (by rw [← ca.2.2.1, ← cb.2.2.1]) (by rw [← ca.2.2.2.1, ← cb.2.2.2.1])
      have cb' : ¬ hitP (hearS s a) b r i := fun ⟨g1, g2, g3, g4, g5⟩ => key h ca.1 g1 hh (by rw [ca.2.1, g2]) (by rw [← ca.2.2.1, ← g3]) (by rw [← ca.2.2.2.1, ← g4])
      have ca' : hitP (hearS s b) a r i := ⟨ca.1, ca.2.1, ca.2.2.1, ca.2.2.2.1, by rw [hearS_promises, if_neg cb]; exact ca.2.2.2.2⟩
      rw [if_neg cb', if_pos ca', if_pos ca]
    · by_cases cb : hitP s b r i
      · have ca' : ¬ hitP (hearS s b) a r i := fun ⟨g1, g2, g3, g4, g5⟩ => key h' cb.1 g1 hh.symm (by rw [cb.2.1, g2]) (by rw [← cb.2.2.1, ← g3]) (by rw [← cb.2.2.2.1, ← g4])
        have cb' : hitP (hearS s a) b r i := ⟨cb.1, cb.2.1, cb.2.2.1, cb.2.2.2.1, by rw [hearS_promises, if_neg ca]; exact cb.2.2.2.2⟩
        rw [if_pos cb', if_neg ca', if_pos cb]
      · have cb' : ¬ hitP (hearS s a) b r i := fun ⟨g1, g2, g3, g4, g5⟩ => cb ⟨g1, g2, g3, g4, by rw [hearS_promises, if_neg ca] at g5; exact g5⟩
        have ca' : ¬ hitP (hearS s b) a r i := fun ⟨g1, g2, g3, g4, g5⟩ => ca ⟨g1, g2, g3, g4, by rw [hearS_promises, if_neg cb] at g5; exact g5⟩
        rw [if_neg cb', if_neg ca', if_neg ca, if_neg cb]

/-! ### Nothing is forgotten -/

theorem wishes_mono (s : Sheet) (w : Word) (r i : Nat) (h : 0 < s.wishes r i) : (hearS s w).wishes r i = s.wishes r i := by
  rw [hearS_wishes, if_neg]
  rintro ⟨_, _, _, _, h5⟩; omega
theorem promises_mono (s : Sheet) (w : Word) (r i : Nat) (h : 0 < s.promises r i) : (hearS s w).promises r i = s.promises r i := by
  rw [hearS_promises, if_neg]
  rintro ⟨_, _, _, _, h5⟩; omega
theorem calls_mono (s : Sheet) (w : Word) (r : Nat) (h : (s.calls r).is = true) : (hearS s w).calls r = s.calls r := by
  rw [hearS_calls, if_neg]
  rintro ⟨_, _, _, h5, _⟩; rw [h] at h5; cases h5

theorem hN_mono (s : Sheet) (w : Word) (r : Nat) : ∀ k, hN s r k ≤ hN (hearS s w) r k
  | 0 => Int.le_refl _
  | k + 1 => by
    have ih := hN_mono s w r k
    have : spoke s r k = true → spoke (hearS s w) r k = true := by
      intro h
      simp only [spoke, Bool.or_eq_true, decide_eq_true_eq] at h ⊢
      rcases h with h | h
      · left; rw [wishes_mono s w r k h]; exact h
      · right; rw [promises_mono s w r k h]; exact h
    simp only [hN]
    by_cases h : spoke s r k = true
    · rw [if_pos h, if_pos (this h)]; omega
    · rw [if_neg h]; split <;> omega

theorem heard_mono (s : Sheet) (w : Word) (r : Int) : heard s r ≤ heard (hearS s w) r := by
  unfold heard
  split
  · exact Int.le_refl _
  · exact hN_mono s w _ 4

theorem allK_le {v u : Nat → Int} (h : ∀ i, 0 < v i → 0 < u i) : ∀ k, allK v k ≤ allK u k
  | 0 => Int.le_refl _
  | k + 1 => by
    have ih := allK_le h k
    simp only [allK]
    by_cases h1 : 0 < v k
    · rw [if_pos h1, if_pos (h k h1)]; omega
    · rw [if_neg h1]; split <;> omega

theorem all4_mono (s : Sheet) (w : Word) (r : Nat) : all4 (s.wishes r) ≤ all4 ((hearS s w).wishes r) :=
  allK_le (fun i h => by rw [wishes_mono s w r i h]; exact h) 4

theorem goodV_iff {s : Sheet} {r : Nat} : ∀ {k : Nat}, goodV s r k = true ↔ ∀ i, i < k → goodP (s.wishes r i) (s.promises r i) = true
  | 0 => by simp [goodV]
  | k + 1 => by
    simp only [goodV, Bool.and_eq_true, goodV_iff (k := k)]
    constructor
    · rintro ⟨h1, h2⟩ i hi
      rcases Nat.lt_or_ge i k with h | h
      · exact h1 i h
      · have : i = k := by omega
        subst this; exact h2
    · intro h
      exact ⟨fun i hi => h i (by omega), h k (by omega)⟩
theorem goodK_iff {s : Sheet} : ∀ {k : Nat}, goodK s k = true ↔ ∀ r, r < k → goodC (s.calls r) r = true ∧ goodV s r 4 = true
  | 0 => by simp [goodK]
  | k + 1 => by
    simp only [goodK, Bool.and_eq_true, goodK_iff (k := k)]
    constructor
    · rintro ⟨h1, h2⟩ i hi
      rcases Nat.lt_or_ge i k with h | h
      · exact h1 i h
      · have : i = k := by omega
        subst this; exact h2
    · intro h
      exact ⟨fun i hi => h i (by omega), h k (by omega)⟩

theorem goodS_hear {s : Sheet} (w : Word) (h : goodS s = true) : goodS (hearS s w) = true := by
  unfold goodS at h ⊢
  rw [goodK_iff] at h ⊢
  intro r hr
  obtain ⟨h1, h2⟩ := h r hr
  rw [goodV_iff] at h2
  refine ⟨?_, goodV_iff.2 fun i hi => ?_⟩
  · rw [hearS_calls]
    split
    · rename_i hh
      obtain ⟨g1, g2, g3, _, _⟩ := hh
      have hp := g1.prop g2
      have hv := g1.value
      have hrr := g1.round
      unfold rOf at g3
      simp only [goodC, if_true, within, Bool.and_eq_true, decide_eq_true_eq]
      omega
    · exact h1
  · have h3 := h2 i hi
    simp only [goodP, within, Bool.and_eq_true, decide_eq_true_eq] at h3 ⊢
    rw [hearS_wishes, hearS_promises]
    constructor
    · split
      · rename_i hh; have := hh.1.value; omega
      · exact h3.1
    · split
      · rename_i hh; have := hh.1.value; omega
      · exact h3.2

end Go.W
