/-
  What a node that is true keeps of itself, in plain Lean.
-/
import Derived.Test.YthpjdjofcbnoiacPd
namespace Go.W

/-- The node has been at the place. -/
def Past (s : Node) (h r : Nat) (k : Int) : Prop := (h : Int) < s.height ∨ ((h : Int) = s.height ∧ ((r : Int) < s.round ∨ ((r : Int) = s.round ∧ k ≤ s.step)))
theorem Past.le {s s' : Node} {h r : Nat} {k : Int} (hp : Past s h r k) (hl : PlaceLe s s') : Past s' h r k := by
  unfold Past PlaceLe at *; omega

/-- Node j's own sheets: what it has said it stands by. -/
structure Own (s : Node) (j : Nat) : Prop where
  wishAt : ∀ h r, (s.heard h).wishes r j ≠ 0 → Past s h r 1
  promAt : ∀ h r, (s.heard h).promises r j ≠ 0 → Past s h r 2
  prom : ∀ h r v, 0 < v → (s.heard h).promises r j = v + 1 → 3 ≤ count ((s.heard h).wishes r) v
  wish : ∀ h r r' v v', 0 < v → 0 < v' → (s.heard h).promises r j = v + 1 → (s.heard h).wishes r' j = v' + 1 → r < r' → ∃ u, r ≤ u ∧ u < r' ∧ 3 ≤ count ((s.heard h).wishes u) v'
  bound : ∀ r v, 0 < v → s.cur.promises r j = v + 1 → (r : Int) ≤ s.boundIn
  boundAt : 0 ≤ s.boundIn → 0 < s.bound ∧ s.cur.promises s.boundIn.toNat j = s.bound + 1
  validLt : s.step = 0 → s.validIn < s.round

theorem Own.move {s s' : Node} {j : Nat} (h : Own s j) (hh : s'.heard = s.heard) (he : s'.height = s.height) (hb : s'.bound = s.bound) (hi : s'.boundIn = s.boundIn) (hp : PlaceLe s s') (hv : s'.step = 0 → s'.validIn < s'.round) : Own s' j := by
  have hc : s'.cur = s.cur := by unfold Node.cur; rw [hh, he]
  refine ⟨?_, ?_, ?_, ?_, ?_, ?_, hv⟩
  · rw [hh]; exact fun k r hr => (h.wishAt k r hr).le hp
  · rw [hh]; exact fun k r hr => (h.promAt k r hr).le hp
  · rw [hh]; exact h.prom
  · rw [hh]; exact h.wish
  · rw [hc, hi]; exact h.bound
  · rw [hc, hi, hb]; exact h.boundAt

/-! ### What is heard -/

open Classical in
theorem hearN_wishes (s : Node) (w : Word) (h r i : Nat) : ((hearN s w).heard h).wishes r i = if h = w.height.toNat ∧ hitW (s.heard h) w r i then w.value + 1 else (s.heard h).wishes r i := by
  show (upd s.heard w.height.toNat (hearS (s.heard w.height.toNat) w) h).wishes r i = _
  by_cases e : h = w.height.toNat
  · subst e
    rw [upd_same, hearS_wishes]
    simp only [true_and]
  · rw [upd_other _ _ e, if_neg fun g => e g.1]
open Classical in
theorem hearN_promises (s : Node) (w : Word) (h r i : Nat) : ((hearN s w).heard h).promises r i = if h = w.height.toNat ∧ hitP (s.heard h) w r i then w.value + 1 else (s.heard h).promises r i := by
  show (upd s.heard w.height.toNat (hearS (s.heard w.height.toNat) w) h).promises r i = _
  by_cases e : h = w.height.toNat
  · subst e
    rw [upd_same, hearS_promises]
    simp only [true_and]
  · rw [upd_other _ _ e, if_neg fun g => e g.1]
open Classical in
theorem hearN_calls (s : Node) (w : Word) (h r : Nat) : ((hearN s w).heard h).calls r = if h = w.height.toNat ∧ hitC (s.heard h) w r then ⟨true, w.value, w.valid⟩ else (s.heard h).calls r := by
  show (upd s.heard w.height.toNat (hearS (s.heard w.height.toNat) w) h).calls r = _
  by_cases e : h = w.height.toNat
  · subst e
    rw [upd_same, hearS_calls]
    simp only [true_and]
  · rw [upd_other _ _ e, if_neg fun g => e g.1]

theorem hearN_wish_other {s : Node} {w : Word} {j : Nat} (hw : w.kind = 2 → w.frm ≠ j) (h r : Nat) : ((hearN s w).heard h).wishes r j = (s.heard h).wishes r j := by
  rw [hearN_wishes, if_neg]
  rintro ⟨_, g1, g2, _, g4, _⟩
  have := g1.frm
  unfold fOf at g4
  exact hw g2 (by omega)
theorem hearN_prom_other {s : Node} {w : Word} {j : Nat} (hw : w.kind = 3 → w.frm ≠ j) (h r : Nat) : ((hearN s w).heard h).promises r j = (s.heard h).promises r j := by
  rw [hearN_promises, if_neg]
  rintro ⟨_, g1, g2, _, g4, _⟩
  have := g1.frm
  unfold fOf at g4
  exact hw g2 (by omega)

theorem count_hear {s : Node} {w : Word} {h r : Nat} {v : Int} (hc : 3 ≤ count ((s.heard h).wishes r) v) : 3 ≤ count (((hearN s w).heard h).wishes r) v := by
  have := count_grows (fun i hi => (hearN_grows s w h).wishes r i hi) v
  omega

/-- It hears a word that is not its own wish, nor its own promise. -/
theorem Own.hear {s : Node} {j : Nat} {w : Word} (h : Own s j) (hw : w.kind ≠ 1 → w.frm ≠ j) : Own (hearN s w) j := by
  have h2 := fun a b => hearN_wish_other (s := s) (w := w) (j := j) (fun e => hw (by omega)) a b
  have h3 := fun a b => hearN_prom_other (s := s) (w := w) (j := j) (fun e => hw (by omega)) a b
  refine ⟨fun k r hr => ?_, fun k r hr => ?_, fun k r v hv hp => ?_, fun k r r' v v' hv hv' hp hp' hl => ?_, fun r v hv hp => ?_, fun hb => ?_, h.validLt⟩
  · rw [h2] at hr; exact h.wishAt k r hr
  · rw [h3] at hr; exact h.promAt k r hr
  · rw [h3] at hp; exact count_hear (h.prom k r v hv hp)
  · rw [h3] at hp; rw [h2] at hp'
    obtain ⟨u, a, b, c⟩ := h.wish k r r' v v' hv hv' hp hp' hl
    exact ⟨u, a, b, count_hear c⟩
  · have : (hearN s w).cur.promises r j = s.cur.promises r j := h3 _ _
    rw [this] at hp; exact h.bound r v hv hp
  · have : (hearN s w).cur.promises s.boundIn.toNat j = s.cur.promises s.boundIn.toNat j := h3 _ _
    exact ⟨(h.boundAt hb).1, this.trans (h.boundAt hb).2⟩

/-- It says a wish of its own. -/
theorem Own.sayW {s : Node} {j : Nat} {w : Word} (h : Own s j) (h0 : 0 ≤ s.height) (hr0 : 0 ≤ s.round) (hk : w.kind = 2) (hh : w.height = s.height) (hr : w.round = s.round) (hs : 1 ≤ s.step)
    (hc : 0 < w.value → ∀ r v, 0 < v → s.cur.promises r j = v + 1 → (r : Int) < s.round → ∃ u, r ≤ u ∧ (u : Int) < s.round ∧ 3 ≤ count (s.cur.wishes u) w.value) : Own (hearN s w) j := by
  have h3 := fun a b => hearN_prom_other (s := s) (w := w) (j := j) (fun e => by omega) a b
  have h2 : ∀ k r, ((hearN s w).heard k).wishes r j = (s.heard k).wishes r j ∨ (k = s.height.toNat ∧ r = s.round.toNat ∧ ((hearN s w).heard k).wishes r j = w.value + 1) := fun k r => by
    rw [hearN_wishes]
    split
    · rename_i g
      obtain ⟨g0, _, _, g2, _⟩ := g
      unfold rOf at g2
      exact .inr ⟨by rw [g0, hh], by rw [g2, hr], rfl⟩
    · exact .inl rfl
  refine ⟨fun k r hn => ?_, fun k r hn => ?_, fun k r v hv hp => ?_, fun k r r' v v' hv hv' hp hp' hl => ?_, fun r v hv hp => ?_, fun hb => ?_, h.validLt⟩
  · rcases h2 k r with e | ⟨e1, e2, _⟩
    · rw [e] at hn; exact h.wishAt k r hn
    · exact .inr ⟨by show (k : Int) = s.height; omega, .inr ⟨by show (r : Int) = s.round; omega, hs⟩⟩
  · rw [h3] at hn; exact h.promAt k r hn
  · rw [h3] at hp; exact count_hear (h.prom k r v hv hp)
  · rw [h3] at hp
    rcases h2 k r' with e | ⟨e1, e2, e3⟩
    · rw [e] at hp'
      obtain ⟨u, a, b, c⟩ := h.wish k r r' v v' hv hv' hp hp' hl
      exact ⟨u, a, b, count_hear c⟩
    · have e4 : w.value = v' := by omega
      subst e1
      obtain ⟨u, a, b, c⟩ := hc (by omega) r v hv hp (by omega)
      exact ⟨u, a, by omega, by rw [← e4]; exact count_hear c⟩
  · have : (hearN s w).cur.promises r j = s.cur.promises r j := h3 _ _
    rw [this] at hp; exact h.bound r v hv hp
  · have : (hearN s w).cur.promises s.boundIn.toNat j = s.cur.promises s.boundIn.toNat j := h3 _ _
    exact ⟨(h.boundAt hb).1, this.trans (h.boundAt hb).2⟩

/-- It says a promise of its own, and is bound by it. -/
theorem Own.sayP {s s' : Node} {j : Nat} {w : Word} (h : Own s j) (h0 : 0 ≤ s.height) (hr0 : 0 ≤ s.round) (hk : w.kind = 3) (hg : GoodW w) (hf : w.frm = j) (hh : w.height = s.height) (hr : w.round = s.round) (hs : s.step ≠ 2 ∧ s.step ≤ 2) (hs' : s'.step = 2)
    (e1 : s'.heard = s.heard) (e2 : s'.height = s.height) (e3 : s'.round = s.round) (hc : 0 < w.value → 3 ≤ count (s.cur.wishes s.round.toNat) w.value)
    (hb : (w.value = 0 ∧ s'.bound = s.bound ∧ s'.boundIn = s.boundIn) ∨ (0 < w.value ∧ s'.bound = w.value ∧ s'.boundIn = s.round)) : Own (hearN s' w) j := by
  have hw0 := hg.value
  have h2 := fun a b => hearN_wish_other (s := s') (w := w) (j := j) (fun e => by omega) a b
  have hat : (hearN s' w).height = s.height := e2
  have hfree : s.cur.promises s.round.toNat j = 0 := by
    apply Classical.byContradiction
    intro hne
    have := h.promAt _ _ hne
    unfold Past at this; omega
  have h3 : ∀ k r, (k = s.height.toNat ∧ r = s.round.toNat ∧ ((hearN s' w).heard k).promises r j = w.value + 1) ∨ (¬ (k = s.height.toNat ∧ r = s.round.toNat) ∧ ((hearN s' w).heard k).promises r j = (s.heard k).promises r j) := fun k r => by
    rw [hearN_promises, e1]
    by_cases e : k = s.height.toNat ∧ r = s.round.toNat
    · obtain ⟨rfl, rfl⟩ := e
      left
      rw [if_pos]
      · exact ⟨rfl, rfl, rfl⟩
      · refine ⟨by rw [hh], hg, hk, by unfold rOf; rw [hr], by unfold fOf; omega, hfree⟩
    · refine .inr ⟨e, if_neg ?_⟩
      rintro ⟨g0, _, _, g2, _⟩
      unfold rOf at g2
      exact e ⟨by rw [g0, hh], by rw [g2, hr]⟩
  have hcnt : ∀ {k r v}, 3 ≤ count ((s.heard k).wishes r) v → 3 ≤ count (((hearN s' w).heard k).wishes r) v := fun {k r v} h => by
    rw [← e1] at h; exact count_hear h
  have hpl : PlaceLe s (hearN s' w) := .inr ⟨e2.symm, .inr ⟨e3.symm, by show s.step ≤ s'.step; omega⟩⟩
  have hwsh : ∀ k r, ((hearN s' w).heard k).wishes r j = (s.heard k).wishes r j := fun k r => by rw [h2, e1]
  refine ⟨fun k r hn => ?_, fun k r hn => ?_, fun k r v hv hp => ?_, fun k r r' v v' hv hv' hp hp' hl => ?_, fun r v hv hp => ?_, fun hbd => ?_, fun hz => ?_⟩
  · rw [hwsh] at hn; exact (h.wishAt k r hn).le hpl
  · rcases h3 k r with ⟨g1, g2, _⟩ | ⟨_, e⟩
    · exact .inr ⟨by rw [hat]; omega, .inr ⟨by show (r : Int) = s'.round; omega, by show (2 : Int) ≤ s'.step; omega⟩⟩
    · rw [e] at hn; exact (h.promAt k r hn).le hpl
  · rcases h3 k r with ⟨g1, g2, g3⟩ | ⟨_, e⟩
    · subst g1; subst g2
      have : w.value = v := by omega
      rw [← this] at hv ⊢
      exact hcnt (hc hv)
    · rw [e] at hp; exact hcnt (h.prom k r v hv hp)
  · rw [hwsh] at hp'
    rcases h3 k r with ⟨g1, g2, g3⟩ | ⟨_, e⟩
    · have := h.wishAt k r' (by omega)
      unfold Past at this; omega
    · rw [e] at hp
      obtain ⟨u, a, b, c⟩ := h.wish k r r' v v' hv hv' hp hp' hl
      exact ⟨u, a, b, hcnt c⟩
  · have hcur : (hearN s' w).cur.promises r j = ((hearN s' w).heard s.height.toNat).promises r j := by show ((hearN s' w).heard (hearN s' w).height.toNat).promises r j = _; rw [hat]
    rw [hcur] at hp
    show (r : Int) ≤ s'.boundIn
    rcases h3 s.height.toNat r with ⟨g1, g2, g3⟩ | ⟨_, e⟩
    · rcases hb with ⟨g, _⟩ | ⟨_, _, g⟩ <;> omega
    · rw [e] at hp
      have k1 := h.bound r v hv hp
      have k2 := h.promAt _ _ (show (s.heard s.height.toNat).promises r j ≠ 0 by omega)
      unfold Past at k2
      rcases hb with ⟨_, _, g⟩ | ⟨_, _, g⟩ <;> omega
  · have hbd : 0 ≤ s'.boundIn := hbd
    have hcur : (hearN s' w).cur.promises s'.boundIn.toNat j = ((hearN s' w).heard s.height.toNat).promises s'.boundIn.toNat j := by show ((hearN s' w).heard (hearN s' w).height.toNat).promises _ j = _; rw [hat]
    show 0 < s'.bound ∧ (hearN s' w).cur.promises s'.boundIn.toNat j = s'.bound + 1
    rw [hcur]
    rcases h3 s.height.toNat s'.boundIn.toNat with ⟨g1, g2, g3⟩ | ⟨g0, e⟩
    · rcases hb with ⟨k1, k2, k3⟩ | ⟨_, k2, k3⟩
      · rw [k3] at g2 hbd
        have := h.boundAt hbd
        rw [g2, hfree] at this
        omega
      · exact ⟨by omega, by rw [g3, k2]⟩
    · rcases hb with ⟨k1, k2, k3⟩ | ⟨_, k2, k3⟩
      · rw [e, k3, k2]
        rw [k3] at hbd
        exact h.boundAt hbd
      · exact absurd ⟨rfl, by rw [k3]⟩ g0
  · have hz : s'.step = 0 := hz
    omega

/-! ### Runs -/

/-- The word stands in the speaker's own sheet. -/
structure Rec (s : Node) (w : Word) : Prop where
  good : GoodW w
  call : w.kind = 1 → (s.heard w.height.toNat).calls w.round.toNat = ⟨true, w.value, w.valid⟩
  wish : w.kind = 2 → (s.heard w.height.toNat).wishes w.round.toNat w.frm.toNat = w.value + 1
  prom : w.kind = 3 → (s.heard w.height.toNat).promises w.round.toNat w.frm.toNat = w.value + 1

theorem Rec.grows {s s' : Node} {w : Word} (h : Rec s w) (hg : ∀ k : Nat, Grows (s.heard k) (s'.heard k)) : Rec s' w := by
  have hv := h.good.value
  refine ⟨h.good, fun e => ?_, fun e => ?_, fun e => ?_⟩
  · rw [(hg _).calls _ (by rw [h.call e])]; exact h.call e
  · have := h.wish e
    rw [(hg _).wishes _ _ (by omega)]; exact this
  · have := h.prom e
    rw [(hg _).promises _ _ (by omega)]; exact this

structure TrueR (x : Run) (j : Nat) : Prop where
  good : GoodR x
  who : x.who = j
  own : Own x.s j
  out : ∀ w ∈ x.out, w.frm = j ∧ Rec x.s w

theorem TrueR.outs {x : Run} {j : Nat} (h : TrueR x j) {s : Node} (e : s.heard = x.s.heard) : ∀ w ∈ x.out, w.frm = j ∧ Rec s w := fun w hw =>
  ⟨(h.out w hw).1, (h.out w hw).2.grows fun k => by rw [e]; exact .refl _⟩
theorem TrueR.said {x : Run} {j : Nat} {s : Node} {k v u : Int} (hg : GoodN s) (hx : TrueR x j) (hgr : s.heard = x.s.heard) (ho : Own (hearN s (wordOf ⟨s, x.who, x.out⟩ k v u)) j) (hr : Rec (hearN s (wordOf ⟨s, x.who, x.out⟩ k v u)) (wordOf ⟨s, x.who, x.out⟩ k v u)) : TrueR (sayR ⟨s, x.who, x.out⟩ k v u) j where
  good := GoodR.say (x := ⟨s, x.who, x.out⟩) ⟨hg, hx.good.who⟩ k v u
  who := hx.who
  own := ho
  out := fun w hw => by
    rcases List.mem_append.1 hw with hw | hw
    · have := hx.out w hw
      refine ⟨this.1, this.2.grows fun h => ?_⟩
      have := hearN_grows s (wordOf ⟨s, x.who, x.out⟩ k v u) h
      rw [hgr] at this
      exact this
    · rw [List.mem_singleton.1 hw]
      exact ⟨hx.who, hr⟩

theorem TrueR.start {x : Run} {j : Nat} (h : TrueR x j) {k : Int} (h4 : x.s.height < 4) (hk : x.s.round < k ∨ (x.s.round = k ∧ x.s.step = 0)) (h6 : k < 6) : TrueR (startR x k) j := by
  have hgr := h.good.s.round
  have hgh := h.good.s.height
  have hwho := h.good.who
  have hval := boundB_iff.1 h.good.s.valid
  have hlt : x.s.validIn < k := by
    rcases hk with hk | ⟨hk, hs⟩
    · omega
    · have := h.own.validLt hs; omega
  have hgood : GoodN (atRound x.s k) := h.good.s.at (by omega) h6
  have hmove : Own (atRound x.s k) j := h.own.move rfl rfl rfl rfl (.inr ⟨rfl, hk.imp id fun g => ⟨g.1, by rw [g.2]; exact Int.le_refl 0⟩⟩) (fun _ => hlt)
  rcases startR_cases x k with e | ⟨v, u, hm, hp, e⟩
  · rw [e]; exact ⟨⟨hgood, hwho⟩, h.who, hmove, h.outs rfl⟩
  · rw [e]
    have hw : GoodW (wordOf ⟨atRound x.s k, x.who, x.out⟩ 1 v u) := by
      have hvu : 1 ≤ v ∧ v ≤ 9 ∧ -1 ≤ u ∧ u < k := by
        unfold proposal at hp
        split at hp
        · simp only [Option.some.injEq, Prod.mk.injEq] at hp; omega
        · split at hp
          · cases hp
          · rename_i q l hq
            simp only [Option.some.injEq, Prod.mk.injEq] at hp
            have := h.good.s.queue q (by rw [hq]; exact List.mem_cons_self ..)
            omega
      refine ⟨⟨by show (1 : Int) ≤ 1; omega, by show (1 : Int) ≤ 3; omega⟩, hwho, ⟨hgh.1, h4⟩, ⟨by show 0 ≤ k; omega, h6⟩, ⟨by show 0 ≤ v; omega, hvu.2.1⟩, fun _ => ⟨hvu.1, hvu.2.2.1, hvu.2.2.2⟩, fun g => absurd rfl g⟩
    refine TrueR.said hgood h rfl (hmove.hear fun g => absurd rfl g) ⟨hw, fun _ => ?_, fun g => ?_, fun g => ?_⟩
    · rw [hearN_calls, if_pos]
      simp only [mute, Bool.or_eq_false_iff, Bool.not_eq_false', beq_iff_eq] at hm
      exact ⟨rfl, hw, rfl, rfl, hm.2, hm.1.symm⟩
    · have : (1 : Int) = 2 := g
      omega
    · have : (1 : Int) = 3 := g
      omega

theorem TrueR.settle {x : Run} {j : Nat} (h : TrueR x j) (h4 : x.s.height < 4) {v : Int} (h1 : 1 ≤ v) (h9 : v ≤ 9) : TrueR (settleR x v) j := by
  have hgh := h.good.s.height
  have hg : GoodN (settleS x.s v) := h.good.s.settle h4 h1 h9
  have hpl : PlaceLe x.s (settleS x.s v) := .inl (by show x.s.height < x.s.height + 1; omega)
  have hcur : (settleS x.s v).cur = x.s.heard (x.s.height + 1).toNat := rfl
  have ho : Own (settleS x.s v) j := by
    refine ⟨fun k r hn => (h.own.wishAt k r hn).le hpl, fun k r hn => (h.own.promAt k r hn).le hpl, h.own.prom, h.own.wish, fun r u hu hp => ?_, fun hb => ?_, fun _ => ?_⟩
    · rw [hcur] at hp
      have := h.own.promAt (x.s.height + 1).toNat r (by omega)
      unfold Past at this; omega
    · have : (0 : Int) ≤ -1 := hb
      omega
    · show (-1 : Int) < 0; omega
  have ht : TrueR ⟨settleS x.s v, x.who, x.out⟩ j := ⟨⟨hg, h.good.who⟩, h.who, ho, h.outs rfl⟩
  unfold settleR
  split
  · rename_i hlt
    exact ht.start hlt (.inr ⟨rfl, rfl⟩) (by omega)
  · exact ht

theorem TrueR.wish {x : Run} {j : Nat} (h : TrueR x j) (h4 : x.s.height < 4) (hs : x.s.step = 0) {v : Int} (h0 : 0 ≤ v) (h9 : v ≤ 9)
    (hc : 0 < v → ∀ r u, 0 < u → x.s.cur.promises r j = u + 1 → (r : Int) < x.s.round → ∃ k, r ≤ k ∧ (k : Int) < x.s.round ∧ 3 ≤ count (x.s.cur.wishes k) v) : TrueR (sayR ⟨{ x.s with step := 1 }, x.who, x.out⟩ 2 v 0) j := by
  have hgr := h.good.s.round
  have hgh := h.good.s.height
  have hwho := h.good.who
  have hw : GoodW (wordOf ⟨{ x.s with step := 1 }, x.who, x.out⟩ 2 v 0) := ⟨⟨by show (1 : Int) ≤ 2; omega, by show (2 : Int) ≤ 3; omega⟩, hwho, ⟨hgh.1, h4⟩, hgr, ⟨h0, h9⟩, fun g => by have : (2 : Int) = 1 := g; omega, fun _ => rfl⟩
  have hmove : Own { x.s with step := 1 } j := h.own.move rfl rfl rfl rfl (.inr ⟨rfl, .inr ⟨rfl, by show x.s.step ≤ 1; omega⟩⟩) (fun g => by have : (1 : Int) = 0 := g; omega)
  refine TrueR.said (h.good.s.step1 (by omega) (by omega)) h rfl (hmove.sayW hgh.1 hgr.1 rfl rfl rfl (by show (1 : Int) ≤ 1; omega) hc) ⟨hw, fun g => ?_, fun _ => ?_, fun g => ?_⟩
  · have : (2 : Int) = 1 := g
    omega
  · rw [hearN_wishes, if_pos]
    refine ⟨rfl, hw, rfl, rfl, rfl, Classical.byContradiction fun hne => ?_⟩
    have e : x.who.toNat = j := by have := h.who; omega
    have := h.own.wishAt x.s.height.toNat x.s.round.toNat (by rw [← e]; exact hne)
    unfold Past at this; omega
  · have : (2 : Int) = 3 := g
    omega

theorem TrueR.promise {x : Run} {j : Nat} {s' : Node} (h : TrueR x j) (h4 : x.s.height < 4) (hs : x.s.step = 1) {v : Int} (h0 : 0 ≤ v) (h9 : v ≤ 9) (hg : GoodN s') (e1 : s'.heard = x.s.heard) (e2 : s'.height = x.s.height) (e3 : s'.round = x.s.round) (hs' : s'.step = 2)
    (hc : 0 < v → 3 ≤ count (x.s.cur.wishes x.s.round.toNat) v) (hb : (v = 0 ∧ s'.bound = x.s.bound ∧ s'.boundIn = x.s.boundIn) ∨ (0 < v ∧ s'.bound = v ∧ s'.boundIn = x.s.round)) : TrueR (sayR ⟨s', x.who, x.out⟩ 3 v 0) j := by
  have hgr := h.good.s.round
  have hgh := h.good.s.height
  have hwho := h.good.who
  have hw : GoodW (wordOf ⟨s', x.who, x.out⟩ 3 v 0) := ⟨⟨by show (1 : Int) ≤ 3; omega, by show (3 : Int) ≤ 3; omega⟩, hwho, ⟨by show 0 ≤ s'.height; omega, by show s'.height < 4; omega⟩, ⟨by show 0 ≤ s'.round; omega, by show s'.round < 6; omega⟩, ⟨h0, h9⟩, fun g => by have : (3 : Int) = 1 := g; omega, fun _ => rfl⟩
  refine TrueR.said hg h e1 (h.own.sayP (w := wordOf ⟨s', x.who, x.out⟩ 3 v 0) hgh.1 hgr.1 rfl hw h.who e2 e3 (by omega) hs' e1 e2 e3 hc hb) ⟨hw, fun g => ?_, fun g => ?_, fun _ => ?_⟩
  · have : (3 : Int) = 1 := g
    omega
  · have : (3 : Int) = 2 := g
    omega
  · rw [hearN_promises, if_pos]
    refine ⟨rfl, hw, rfl, rfl, rfl, Classical.byContradiction fun hne => ?_⟩
    have e : x.who.toNat = j := by have := h.who; omega
    have hne : (s'.heard s'.height.toNat).promises s'.round.toNat x.who.toNat ≠ 0 := hne
    rw [e, e1] at hne
    have := h.own.promAt _ _ hne
    unfold Past at this; omega

theorem TrueR.one {x y : Run} {j : Nat} (h : TrueR x j) (hy : oneR x = some y) : TrueR y j := by
  have hgr := h.good.s.round
  have hgh := h.good.s.height
  have hst := h.good.s.step
  obtain ⟨hh, hc⟩ := oneR_cases hy
  have hcur : goodS x.s.cur = true := h.good.s.heard _ (by omega)
  rcases hc with ⟨k, hk, rfl⟩ | ⟨k, _, hk, rfl⟩ | ⟨v, _, _, hv, rfl⟩ | ⟨_, _, _, hp⟩
  · have := promised_iff (settleK_some hk).2
    exact h.settle hh this.2.1 this.2.2.1
  · have := skipK_some hk
    exact h.start hh (.inl this.2.1) (by omega)
  · obtain ⟨hs, hi, hq, hval⟩ := wishV_cases hv
    have hcl := goodC_is (goodS_calls hcur (r := x.s.round.toNat) (by omega)) hi
    generalize x.s.cur.calls x.s.round.toNat = c at hi hq hval hcl
    have hv0 : 0 ≤ v ∧ v ≤ 9 := by
      rw [hval]; split <;> omega
    refine h.wish hh hs hv0.1 hv0.2 fun hpos r u hu hp hlt => ?_
    have hf : freeB x.s c = true := by
      cases hf : freeB x.s c with
      | true => rfl
      | false => rw [hf] at hval; simp at hval; omega
    rw [hf, if_pos rfl] at hval
    subst hval
    have hb := h.own.bound r u hu hp
    simp only [freeB, Bool.or_eq_true, beq_iff_eq] at hf
    rcases hf with hf | hf
    · by_cases hcv : 0 ≤ c.valid
      · rw [if_pos hcv, decide_eq_true_eq] at hf
        exact ⟨c.valid.toNat, by omega, by omega, hq hcv⟩
      · rw [if_neg hcv, decide_eq_true_eq] at hf
        omega
    · have hba := h.own.boundAt (by omega)
      have hpa := h.own.promAt x.s.height.toNat x.s.boundIn.toNat (by have := hba.2; unfold Node.cur at this; omega)
      unfold Past at hpa
      refine ⟨x.s.boundIn.toNat, by omega, by omega, ?_⟩
      rw [← hf]
      exact h.own.prom _ _ _ hba.1 hba.2
  · obtain ⟨v, hm, rfl, hst', hc⟩ := promR_cases hp
    have hmv := mostV_of hm
    rcases hc with ⟨h0, hs, rfl⟩ | ⟨h0, _, _, hseen, ⟨hs, rfl⟩ | ⟨hs, rfl⟩⟩
    · exact h.promise hh hs (v := 0) (by omega) (by omega) (h.good.s.step1 (by omega) (by omega)) rfl rfl rfl rfl (fun g => absurd g (by omega)) (.inl ⟨rfl, rfl, rfl⟩)
    · generalize mostV (x.s.cur.wishes x.s.round.toNat) = v at hmv h0
      exact h.promise hh hs (v := v) (by omega) (by omega) ((h.good.s.see (by omega) (by omega)).bind (by omega) (by omega)) rfl rfl rfl rfl (fun _ => hmv.1) (.inr ⟨by omega, rfl, rfl⟩)
    · generalize mostV (x.s.cur.wishes x.s.round.toNat) = v at hmv h0
      refine ⟨⟨h.good.s.see (by omega) (by omega), h.good.who⟩, h.who, h.own.move rfl rfl rfl rfl (.inr ⟨rfl, .inr ⟨rfl, Int.le_refl _⟩⟩) (fun g => absurd g hst'), h.outs rfl⟩

theorem TrueR.flow {x : Run} {j : Nat} (h : TrueR x j) : TrueR (flowR x) j := (flow_ind (p := fun y => TrueR y j) (fun _ _ _ ha ho => ha.one ho) h.good h).1

theorem TrueR.time {x : Run} {j : Nat} (h : TrueR x j) (h4 : x.s.height < 4) : TrueR (timeR x) j := by
  have hst := h.good.s.step
  unfold timeR
  split
  · rename_i hs
    exact h.wish h4 hs (v := 0) (by omega) (by omega) (fun g => absurd g (by omega))
  · split
    · rename_i hs
      split
      · exact h.promise h4 hs (v := 0) (by omega) (by omega) (h.good.s.step1 (by omega) (by omega)) rfl rfl rfl rfl (fun g => absurd g (by omega)) (.inl ⟨rfl, rfl, rfl⟩)
      · exact h
    · split
      · exact h.start h4 (.inl (by omega)) (by omega)
      · exact h

end Go.W
