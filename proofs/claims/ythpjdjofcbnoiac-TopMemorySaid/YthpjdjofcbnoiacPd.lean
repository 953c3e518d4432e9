/-
  Laws of nodes, in plain Lean: it goes on and never back, what it says it says itself, what was heard is heard.
-/
import Derived.Test.YthpjdjofcbnoiacPc
namespace Go.W

/-! ### Sheets grow -/

structure Grows (a b : Sheet) : Prop where
  calls : ∀ r, (a.calls r).is = true → b.calls r = a.calls r
  wishes : ∀ r i, a.wishes r i ≠ 0 → b.wishes r i = a.wishes r i
  promises : ∀ r i, a.promises r i ≠ 0 → b.promises r i = a.promises r i

theorem Grows.refl (a : Sheet) : Grows a a := ⟨fun _ _ => rfl, fun _ _ _ => rfl, fun _ _ _ => rfl⟩
theorem Grows.trans {a b c : Sheet} (h : Grows a b) (h' : Grows b c) : Grows a c :=
  ⟨fun r hr => by rw [h'.calls r (by rw [h.calls r hr]; exact hr), h.calls r hr], fun r i hr => by rw [h'.wishes r i (by rw [h.wishes r i hr]; exact hr), h.wishes r i hr],
   fun r i hr => by rw [h'.promises r i (by rw [h.promises r i hr]; exact hr), h.promises r i hr]⟩
theorem hearS_grows (s : Sheet) (w : Word) : Grows s (hearS s w) :=
  ⟨fun r hr => calls_mono s w r hr, fun r i hr => by rw [hearS_wishes, if_neg]; rintro ⟨_, _, _, _, h5⟩; exact hr h5, fun r i hr => by rw [hearS_promises, if_neg]; rintro ⟨_, _, _, _, h5⟩; exact hr h5⟩

theorem tick_grows {a b : Nat → Int} (h : ∀ i, a i ≠ 0 → b i = a i) (x : Int) (i : Nat) : tick a x i ≤ tick b x i := by
  unfold tick
  split
  · rename_i h1
    rw [if_pos (by rw [h i (by omega)]; exact h1)]
    omega
  · split <;> omega
theorem count_grows {a b : Nat → Int} (h : ∀ i, a i ≠ 0 → b i = a i) (x : Int) : count a x ≤ count b x := by
  rw [count_tick, count_tick]
  have := tick_grows h x 0; have := tick_grows h x 1; have := tick_grows h x 2; have := tick_grows h x 3
  omega
theorem most_grows {a b : Nat → Int} (h : ∀ i, a i ≠ 0 → b i = a i) (ha : mostOk a = true) : mostOk b = true ∧ mostV b = mostV a := by
  have h1 := mostV_of ha
  have h2 := count_grows h (mostV a)
  exact mostV_eq (by omega) h1.2.1 h1.2.2
theorem promised_grows {a b : Sheet} (h : Grows a b) {k : Nat} (ha : promised a k = true) : promised b k = true ∧ mostV (b.promises k) = mostV (a.promises k) := by
  have h1 := promised_iff ha
  have h2 := most_grows (h.promises k) h1.1
  have h3 := h.calls k h1.2.2.2.1
  refine ⟨?_, h2.2⟩
  simp only [promised, Bool.and_eq_true, Bool.not_eq_true', beq_iff_eq, beq_eq_false_iff_ne, h2, h3]
  refine ⟨⟨⟨trivial, by omega⟩, h1.2.2.2.1⟩, h1.2.2.2.2⟩

/-- What was heard is not heard again. -/
theorem heard_again {s b : Sheet} {w : Word} (h : Grows (hearS s w) b) : hearS b w = b := by
  apply Sheet.ext'
  · intro r
    rw [hearS_calls, if_neg]
    rintro ⟨g1, g2, g3, g4, g5⟩
    by_cases hc : hitC s w r
    · have := h.calls r (by rw [hearS_calls, if_pos hc])
      rw [this, hearS_calls, if_pos hc] at g4
      cases g4
    · have hs : (s.calls r).is = true := by
        cases e : (s.calls r).is with
        | true => rfl
        | false => exact absurd ⟨g1, g2, g3, e, g5⟩ hc
      have := h.calls r (by rw [hearS_calls, if_neg hc]; exact hs)
      rw [this, hearS_calls, if_neg hc, hs] at g4
      cases g4
  · intro r i
    rw [hearS_wishes, if_neg]
    rintro ⟨g1, g2, g3, g4, g5⟩
    have hv := g1.value
    by_cases hc : hitW s w r i
    · have := h.wishes r i (by rw [hearS_wishes, if_pos hc]; omega)
      rw [this, hearS_wishes, if_pos hc] at g5
      omega
    · have hs : s.wishes r i ≠ 0 := fun e => hc ⟨g1, g2, g3, g4, e⟩
      have := h.wishes r i (by rw [hearS_wishes, if_neg hc]; exact hs)
      rw [this, hearS_wishes, if_neg hc] at g5
      exact hs g5
  · intro r i
    rw [hearS_promises, if_neg]
    rintro ⟨g1, g2, g3, g4, g5⟩
    have hv := g1.value
    by_cases hc : hitP s w r i
    · have := h.promises r i (by rw [hearS_promises, if_pos hc]; omega)
      rw [this, hearS_promises, if_pos hc] at g5
      omega
    · have hs : s.promises r i ≠ 0 := fun e => hc ⟨g1, g2, g3, g4, e⟩
      have := h.promises r i (by rw [hearS_promises, if_neg hc]; exact hs)
      rw [this, hearS_promises, if_neg hc] at g5
      exact hs g5

/-! ### A node goes on -/

def PlaceLe (a b : Node) : Prop := a.height < b.height ∨ (a.height = b.height ∧ (a.round < b.round ∨ (a.round = b.round ∧ a.step ≤ b.step)))
theorem PlaceLe.refl (a : Node) : PlaceLe a a := .inr ⟨rfl, .inr ⟨rfl, Int.le_refl _⟩⟩
theorem PlaceLe.trans {a b c : Node} (h : PlaceLe a b) (h' : PlaceLe b c) : PlaceLe a c := by
  unfold PlaceLe at *; omega
def PlaceR (a : Node) (h r : Int) : Prop := a.height < h ∨ (a.height = h ∧ a.round ≤ r)

structure Adv (x y : Run) : Prop where
  who : y.who = x.who
  place : PlaceLe x.s y.s
  settled : ∀ h : Nat, h < 4 → x.s.settled h ≠ 0 → y.s.settled h = x.s.settled h
  out : ∃ l, y.out = x.out ++ l ∧ ∀ w ∈ l, w.frm = x.who ∧ PlaceR x.s w.height w.round ∧ w.height ≤ y.s.height
  heard : ∀ h : Nat, Grows (x.s.heard h) (y.s.heard h)

theorem Adv.refl (x : Run) : Adv x x := ⟨rfl, .refl _, fun _ _ _ => rfl, ⟨[], by simp⟩, fun _ => .refl _⟩
theorem Adv.trans {x y z : Run} (h : Adv x y) (h' : Adv y z) : Adv x z where
  who := h'.who.trans h.who
  place := h.place.trans h'.place
  settled := fun k hk h0 => by rw [h'.settled k hk (by rw [h.settled k hk h0]; exact h0), h.settled k hk h0]
  out := by
    obtain ⟨l, e, hl⟩ := h.out
    obtain ⟨l', e', hl'⟩ := h'.out
    refine ⟨l ++ l', by rw [e', e, List.append_assoc], fun w hw => ?_⟩
    have hp := h.place
    have hp' := h'.place
    rcases List.mem_append.1 hw with hw | hw
    · have := hl w hw
      refine ⟨this.1, this.2.1, ?_⟩
      unfold PlaceLe at hp'
      omega
    · have := hl' w hw
      refine ⟨by rw [this.1, h.who], ?_, this.2.2⟩
      have h2 := this.2.1
      unfold PlaceLe at hp
      unfold PlaceR at h2 ⊢
      omega
  heard := fun k => (h.heard k).trans (h'.heard k)

theorem hearN_grows (s : Node) (w : Word) (h : Nat) : Grows (s.heard h) ((hearN s w).heard h) := by
  show Grows (s.heard h) (upd s.heard w.height.toNat (hearS (s.heard w.height.toNat) w) h)
  by_cases e : h = w.height.toNat
  · subst e; rw [upd_same]; exact hearS_grows _ _
  · rw [upd_other _ _ e]; exact .refl _
theorem Adv.say (x : Run) (k v u : Int) : Adv x (sayR x k v u) where
  who := rfl
  place := .inr ⟨rfl, .inr ⟨rfl, Int.le_refl _⟩⟩
  settled := fun _ _ _ => rfl
  out := ⟨[wordOf x k v u], rfl, fun w hw => by
    have := List.mem_singleton.1 hw
    subst this
    exact ⟨rfl, .inr ⟨rfl, Int.le_refl _⟩, Int.le_refl _⟩⟩
  heard := fun h => hearN_grows _ _ _
/-- What leaves the sheets and what is said as they are. -/
theorem Adv.own {x : Run} {s : Node} (hp : PlaceLe x.s s) (hs : ∀ h : Nat, h < 4 → x.s.settled h ≠ 0 → s.settled h = x.s.settled h) (hh : s.heard = x.s.heard) : Adv x ⟨s, x.who, x.out⟩ where
  who := rfl
  place := hp
  settled := hs
  out := ⟨[], by simp⟩
  heard := fun h => by show Grows (x.s.heard h) (s.heard h); rw [hh]; exact .refl _

theorem Adv.start {x : Run} {k : Int} (h : x.s.round < k ∨ (x.s.round = k ∧ x.s.step = 0)) : Adv x (startR x k) := by
  have h1 : Adv x ⟨atRound x.s k, x.who, x.out⟩ := .own (.inr ⟨rfl, h.imp id fun h => ⟨h.1, by rw [h.2]; exact Int.le_refl 0⟩⟩) (fun _ _ _ => rfl) rfl
  rcases startR_cases x k with e | ⟨v, u, _, _, e⟩
  · rw [e]; exact h1
  · rw [e]; exact h1.trans (.say _ _ _ _)
theorem Adv.settle {x : Run} (h : GoodR x) (v : Int) : Adv x (settleR x v) := by
  have h0 := h.s.height
  have h1 : Adv x ⟨settleS x.s v, x.who, x.out⟩ := by
    refine .own (.inl (by show x.s.height < x.s.height + 1; omega)) (fun k hk hn => ?_) rfl
    have := h.s.settled k hk
    show upd x.s.settled x.s.height.toNat v k = _
    rw [upd_other]
    omega
  unfold settleR
  split
  · exact h1.trans (.start (.inr ⟨rfl, rfl⟩))
  · exact h1

theorem Adv.one {x y : Run} (h : GoodR x) (hy : oneR x = some y) : Adv x y := by
  have hst := h.s.step
  obtain ⟨hh, hc⟩ := oneR_cases hy
  rcases hc with ⟨k, hk, rfl⟩ | ⟨k, _, hk, rfl⟩ | ⟨v, _, _, hv, rfl⟩ | ⟨_, _, _, hp⟩
  · exact .settle h _
  · exact .start (.inl (skipK_some hk).2.1)
  · have hw := (wishV_cases hv).1
    exact (Adv.own (s := { x.s with step := 1 }) (.inr ⟨rfl, .inr ⟨rfl, by show x.s.step ≤ 1; omega⟩⟩) (fun _ _ _ => rfl) rfl).trans (.say _ _ _ _)
  · obtain ⟨v, hm, rfl, hst', hc⟩ := promR_cases hp
    rcases hc with ⟨_, hs, rfl⟩ | ⟨h0, _, _, hseen, ⟨hs, rfl⟩ | ⟨hs, rfl⟩⟩
    · exact (Adv.own (s := { x.s with step := 2 }) (.inr ⟨rfl, .inr ⟨rfl, by show x.s.step ≤ 2; omega⟩⟩) (fun _ _ _ => rfl) rfl).trans (.say _ _ _ _)
    · exact (Adv.own (s := bindS (seeS x.s _) _) (.inr ⟨rfl, .inr ⟨rfl, by show x.s.step ≤ 2; omega⟩⟩) (fun _ _ _ => rfl) rfl).trans (.say _ _ _ _)
    · exact Adv.own (s := seeS x.s _) (.inr ⟨rfl, .inr ⟨rfl, Int.le_refl _⟩⟩) (fun _ _ _ => rfl) rfl
theorem Adv.flow {x : Run} (h : GoodR x) : Adv x (flowR x) := (flow_ind (p := fun y => Adv x y) (fun _ _ hg ha ho => ha.trans (.one hg ho)) h (.refl x)).1
theorem GoodR.flow {x : Run} (h : GoodR x) : GoodR (flowR x) := (flow_ind (p := fun _ => True) (fun _ _ _ _ _ => trivial) h trivial).2.1
theorem flow_end {x : Run} (h : GoodR x) : oneR (flowR x) = none := (flow_ind (p := fun _ => True) (fun _ _ _ _ _ => trivial) h trivial).2.2
theorem Adv.time {x : Run} : Adv x (timeR x) := by
  unfold timeR
  split
  · rename_i hs
    exact (Adv.own (s := { x.s with step := 1 }) (.inr ⟨rfl, .inr ⟨rfl, by show x.s.step ≤ 1; omega⟩⟩) (fun _ _ _ => rfl) rfl).trans (.say _ _ _ _)
  · split
    · rename_i hs
      split
      · exact (Adv.own (s := { x.s with step := 2 }) (.inr ⟨rfl, .inr ⟨rfl, by show x.s.step ≤ 2; omega⟩⟩) (fun _ _ _ => rfl) rfl).trans (.say _ _ _ _)
      · exact .refl _
    · split
      · exact .start (.inl (by omega))
      · exact .refl _

/-! ### A turn -/

/-- A turn that is no error goes on from the node, with what is queued besides. -/
structure Goes (s : Node) (who : Int) (t : Turn) : Prop where
  good : GoodN s
  ids : 0 ≤ who ∧ who < 4
  adv : Adv ⟨s, who, []⟩ ⟨t.s, who, t.out⟩
  good' : GoodN t.s

theorem Adv.pre {s s' : Node} {who : Int} {y : Run} (hp : PlaceLe s s') (hs : s'.settled = s.settled) (hh : ∀ h, Grows (s.heard h) (s'.heard h)) (h : Adv ⟨s', who, []⟩ y) : Adv ⟨s, who, []⟩ ⟨y.s, who, y.out⟩ := by
  have h1 : Adv ⟨s, who, []⟩ ⟨s', who, []⟩ := ⟨rfl, hp, fun k _ _ => by show s'.settled k = s.settled k; rw [hs], ⟨[], by simp⟩, hh⟩
  have h2 := h1.trans h
  obtain ⟨sy, wy, oy⟩ := y
  have : wy = who := h.who
  subst this
  exact h2

theorem hearT_goes {s : Node} {who : Int} {w : Word} (h : (hearT s who w).err = 0) : beginE s who = 0 ∧ GoodW w ∧ Goes s who (hearT s who w) ∧ hearT s who w = ⟨(flowR ⟨hearN s w, who, []⟩).s, (flowR ⟨hearN s w, who, []⟩).out, 0⟩ := by
  unfold hearT at h ⊢
  split at h
  · rename_i h0; exact absurd h h0
  rename_i h0
  split at h
  · rename_i h1; exact absurd h h1
  rename_i h1
  have h0 : beginE s who = 0 := by omega
  have h1 : goodW w = 0 := by omega
  rw [if_neg (by omega), if_neg (by omega)]
  have hb := beginE_ok h0
  have hg : GoodR ⟨hearN s w, who, []⟩ := ⟨hb.1.hear w, hb.2⟩
  refine ⟨h0, (goodW_iff w).1 h1, ⟨hb.1, hb.2, ?_, hg.flow.s⟩, rfl⟩
  exact .pre (s' := hearN s w) (.inr ⟨rfl, .inr ⟨rfl, Int.le_refl _⟩⟩) rfl (fun h => hearN_grows s w h) (.flow hg)

theorem submitR_goes {s : Node} {who v : Int} (hs : GoodN s) (hw : 0 ≤ who ∧ who < 4) (h1 : 1 ≤ v) (h9 : v ≤ 9) (hl : s.queue.length < 6) : Adv ⟨s, who, []⟩ ⟨(submitR s who v).s, who, (submitR s who v).out⟩ ∧ GoodN (submitR s who v).s := by
  have hg : GoodR ⟨{ s with queue := s.queue ++ [v] }, who, []⟩ := ⟨hs.push h1 h9 hl, hw⟩
  have hr := hs.round
  unfold submitR
  simp only []
  split
  · rename_i hc
    have hgs : GoodR (startR ⟨{ s with queue := s.queue ++ [v] }, who, []⟩ s.round) := hg.start (Int.le_refl _) (by omega)
    refine ⟨.pre (s' := { s with queue := s.queue ++ [v] }) (.inr ⟨rfl, .inr ⟨rfl, Int.le_refl _⟩⟩) rfl (fun h => .refl _) ((Adv.start (.inr ⟨rfl, hc.2⟩)).trans (.flow hgs)), hgs.flow.s⟩
  · exact ⟨.pre (s' := { s with queue := s.queue ++ [v] }) (.inr ⟨rfl, .inr ⟨rfl, Int.le_refl _⟩⟩) rfl (fun h => .refl _) (.refl _), hg.s⟩
theorem submitT_goes {s : Node} {who v : Int} (h : (submitT s who v).err = 0) : beginE s who = 0 ∧ 1 ≤ v ∧ v ≤ 9 ∧ s.queue.length < 6 ∧ Goes s who (submitT s who v) ∧ submitT s who v = ⟨(submitR s who v).s, (submitR s who v).out, 0⟩ := by
  unfold submitT at h ⊢
  split at h
  · rename_i h0; exact absurd h h0
  rename_i h0
  split at h
  · simp at h
  rename_i h1
  split at h
  · simp at h
  rename_i h2
  have h0 : beginE s who = 0 := by omega
  rw [if_neg (by omega), if_neg (by omega), if_neg (by omega)]
  have hb := beginE_ok h0
  have := submitR_goes hb.1 hb.2 (v := v) (by omega) (by omega) (by omega)
  exact ⟨h0, by omega, by omega, by omega, ⟨hb.1, hb.2, this.1, this.2⟩, rfl⟩
theorem timeT_goes {s : Node} {who : Int} (h : (timeT s who).err = 0) : beginE s who = 0 ∧ Goes s who (timeT s who) := by
  unfold timeT at h ⊢
  split at h
  · rename_i h0; exact absurd h h0
  rename_i h0
  have h0 : beginE s who = 0 := by omega
  have hb := beginE_ok h0
  rw [if_neg (by omega)]
  split
  · exact ⟨h0, hb.1, hb.2, .refl _, hb.1⟩
  · rename_i hh
    have hg : GoodR ⟨s, who, []⟩ := ⟨hb.1, hb.2⟩
    have hg' := hg.time (show s.height < 4 by omega)
    refine ⟨h0, hb.1, hb.2, ?_, hg'.flow.s⟩
    exact .pre (s' := s) (.refl _) rfl (fun h => .refl _) (Adv.time.trans (.flow hg'))

/-- What the turn errs with leaves all as it is. -/
theorem hearT_err {s : Node} {who : Int} {w : Word} (h : (hearT s who w).err ≠ 0) : (hearT s who w).s = s ∧ (hearT s who w).out = [] := by
  unfold hearT at h ⊢
  split
  · exact ⟨rfl, rfl⟩
  · split
    · exact ⟨rfl, rfl⟩
    · rename_i h1 h2; rw [if_neg h1, if_neg h2] at h; exact absurd rfl h
theorem submitT_err {s : Node} {who v : Int} (h : (submitT s who v).err ≠ 0) : (submitT s who v).s = s ∧ (submitT s who v).out = [] := by
  unfold submitT at h ⊢
  split
  · exact ⟨rfl, rfl⟩
  · split
    · exact ⟨rfl, rfl⟩
    · split
      · exact ⟨rfl, rfl⟩
      · rename_i h1 h2 h3; rw [if_neg h1, if_neg h2, if_neg h3] at h; exact absurd rfl h
theorem timeT_err {s : Node} {who : Int} (h : (timeT s who).err ≠ 0) : (timeT s who).s = s ∧ (timeT s who).out = [] := by
  unfold timeT at h ⊢
  split
  · exact ⟨rfl, rfl⟩
  · split
    · exact ⟨rfl, rfl⟩
    · rename_i h1 h2; rw [if_neg h1, if_neg h2] at h; exact absurd rfl h

/-! ### What was heard once -/

theorem oneR_out {s : Node} {who : Int} {o : List Word} (o' : List Word) (h : oneR ⟨s, who, o⟩ = none) : oneR ⟨s, who, o'⟩ = none := by
  unfold oneR actR at h ⊢
  simp only [] at h ⊢
  split
  · rename_i hh
    rw [if_pos hh] at h
    split at h
    · cases h
    · split at h
      · cases h
      · split at h
        · cases h
        · unfold promR at h ⊢
          simp only [] at h ⊢
          split
          · rfl
          · rename_i h1
            rw [if_neg h1] at h
            split at h
            · cases h
            · rename_i h2
              rw [if_neg h2]
              split
              · rfl
              · rename_i h3
                rw [if_neg h3] at h
                split at h <;> cases h
  · rfl

theorem hearN_id {s : Node} {w : Word} (h : hearS (s.heard w.height.toNat) w = s.heard w.height.toNat) : hearN s w = s := by
  unfold hearN
  rw [h]
  have : upd s.heard w.height.toNat (s.heard w.height.toNat) = s.heard := by
    funext k
    by_cases e : k = w.height.toNat
    · subst e; exact upd_same _ _ _
    · exact upd_other _ _ e
  rw [this]

theorem hearT_quiet {s : Node} {who : Int} {w : Word} (h : (hearT s who w).err = 0) : hearT (hearT s who w).s who w = ⟨(hearT s who w).s, [], 0⟩ := by
  obtain ⟨h0, hw, hg, e⟩ := hearT_goes h
  have hb := beginE_ok h0
  have hgr : GoodR ⟨hearN s w, who, []⟩ := ⟨hb.1.hear w, hb.2⟩
  have hend := flow_end hgr
  have ha := Adv.flow hgr
  have hwho := ha.who
  have hgd := hgr.flow
  have hgrow := ha.heard w.height.toNat
  rw [e]
  generalize flowR ⟨hearN s w, who, []⟩ = y at hend hwho hgd hgrow
  obtain ⟨sy, wy, oy⟩ := y
  simp only [] at hwho hgrow
  subst hwho
  have hid : hearN sy w = sy := by
    apply hearN_id
    refine heard_again (s := s.heard w.height.toNat) ?_
    have e1 : (hearN s w).heard w.height.toNat = hearS (s.heard w.height.toNat) w := upd_same _ _ _
    rw [e1] at hgrow
    exact hgrow
  have hbe : beginE sy wy = 0 := by
    unfold beginE
    rw [if_pos ((goodN_iff sy).2 hgd.s), if_neg (by have := hgd.who; simp only [] at this; omega)]
  have hgw := (goodW_iff w).2 hw
  unfold hearT
  simp only [] 
  rw [if_neg (by omega), if_neg (by omega), hid, flowR_none (oneR_out [] hend)]

/-! ### What is settled newly -/

def Evid (s : Node) (h : Nat) : Prop := ∃ r, r < 6 ∧ promised (s.heard h) r = true ∧ mostV ((s.heard h).promises r) = s.settled h
theorem Evid.adv {x y : Run} (hx : GoodR x) (ha : Adv x y) {h : Nat} (h4 : h < 4) (hh : (h : Int) < x.s.height) (he : Evid x.s h) : Evid y.s h := by
  obtain ⟨r, hr, hp, hv⟩ := he
  have h1 := promised_grows (ha.heard h) hp
  have h2 := (hx.s.settled h h4).2.2
  refine ⟨r, hr, h1.1, ?_⟩
  rw [h1.2, hv, ha.settled h h4 (by omega)]
theorem Evid.one {x y : Run} (hx : GoodR x) (hy : oneR x = some y) {h : Nat} (h4 : h < 4) (h1 : x.s.height ≤ h) (h2 : (h : Int) < y.s.height) : Evid y.s h := by
  have h0 := hx.s.height
  obtain ⟨hh, hc⟩ := oneR_cases hy
  rcases hc with ⟨k, hk, rfl⟩ | ⟨k, _, hk, rfl⟩ | ⟨v, _, _, hv, rfl⟩ | ⟨_, _, _, hp⟩
  · have hp := settleK_some hk
    generalize hv : mostV (x.s.cur.promises k) = v at h2 ⊢
    have key : ∀ z : Run, z.s.height = x.s.height + 1 → (∀ j, z.s.settled j = upd x.s.settled x.s.height.toNat v j) → (∀ j, Grows (x.s.heard j) (z.s.heard j)) → (h : Int) < z.s.height → Evid z.s h := by
      intro z e1 e2 e3 e4
      have e : h = x.s.height.toNat := by omega
      subst e
      have h1 := promised_grows (e3 x.s.height.toNat) hp.2
      exact ⟨k, hp.1, h1.1, by rw [h1.2, e2, upd_same, hv]⟩
    unfold settleR at h2 ⊢
    split
    · rename_i hlt
      rw [if_pos hlt] at h2
      refine key _ (startR_at _ _).1 (fun j => ?_) (fun j => ?_) h2
      · rcases startR_cases ⟨settleS x.s v, x.who, x.out⟩ 0 with e | ⟨_, _, _, _, e⟩ <;> rw [e] <;> rfl
      · have := (Adv.start (x := ⟨settleS x.s v, x.who, x.out⟩) (k := 0) (.inr ⟨rfl, rfl⟩)).heard j
        exact this
    · rename_i hlt
      rw [if_neg hlt] at h2
      exact key _ rfl (fun j => rfl) (fun j => .refl _) h2
  · rw [(startR_at x k).1] at h2; omega
  · have : (wishR x v).s.height = x.s.height := rfl
    omega
  · obtain ⟨v, hm, rfl, hst', hc⟩ := promR_cases hp
    have : y.s.height = x.s.height := by
      rcases hc with ⟨_, hs, rfl⟩ | ⟨h0, _, _, hseen, ⟨hs, rfl⟩ | ⟨hs, rfl⟩⟩ <;> rfl
    omega
theorem Evid.flow {x : Run} (hx : GoodR x) {h : Nat} (h4 : h < 4) (h0 : (h : Int) < x.s.height → Evid x.s h) : (h : Int) < (flowR x).s.height → Evid (flowR x).s h :=
  (flow_ind (p := fun y => (h : Int) < y.s.height → Evid y.s h) (fun y z hg hp ho hz => by
    rcases Int.lt_or_le h y.s.height with h1 | h1
    · exact (hp h1).adv hg (.one hg ho) h4 h1
    · exact .one hg ho h4 h1 hz) hx h0).1

theorem hearT_settles {s : Node} {who : Int} {w : Word} (h : (hearT s who w).err = 0) {k : Nat} (h4 : k < 4) (h1 : s.height ≤ k) (h2 : (k : Int) < (hearT s who w).s.height) : Evid (hearT s who w).s k := by
  obtain ⟨h0, hw, hg, e⟩ := hearT_goes h
  have hb := beginE_ok h0
  rw [e] at h2 ⊢
  refine Evid.flow (x := ⟨hearN s w, who, []⟩) ⟨hb.1.hear w, hb.2⟩ h4 (fun hlt => ?_) h2
  have : (hearN s w).height = s.height := rfl
  simp only [this] at hlt
  omega

end Go.W
