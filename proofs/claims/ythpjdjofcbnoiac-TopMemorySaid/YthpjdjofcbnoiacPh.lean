/-
  What a crowd keeps, in plain Lean.
-/
import Derived.Test.YthpjdjofcbnoiacPg
import Derived.Test.YthpjdjofcbnoiacPe
namespace Go.W

/-! ### What others have said is kept -/

def KeepO (who : Int) (s s' : Node) : Prop := ∀ h r (i : Nat), (i : Int) ≠ who → (s'.heard h).wishes r i = (s.heard h).wishes r i ∧ (s'.heard h).promises r i = (s.heard h).promises r i

theorem KeepO.refl (who : Int) (s : Node) : KeepO who s s := fun _ _ _ _ => ⟨rfl, rfl⟩
theorem KeepO.of {who : Int} {s s' : Node} (h : s'.heard = s.heard) : KeepO who s s' := fun _ _ _ _ => by rw [h]; exact ⟨rfl, rfl⟩
theorem KeepO.trans {who : Int} {a b c : Node} (h : KeepO who a b) (h' : KeepO who b c) : KeepO who a c := fun k r i hi => ⟨(h' k r i hi).1.trans (h k r i hi).1, (h' k r i hi).2.trans (h k r i hi).2⟩
theorem KeepO.say (x : Run) (k v u : Int) : KeepO x.who x.s (sayR x k v u).s := fun h r i hi =>
  ⟨hearN_wish_other (w := wordOf x k v u) (fun _ => fun e => hi e.symm) h r, hearN_prom_other (w := wordOf x k v u) (fun _ => fun e => hi e.symm) h r⟩
theorem KeepO.start (x : Run) (k : Int) : KeepO x.who x.s (startR x k).s := by
  rcases startR_cases x k with e | ⟨v, u, _, _, e⟩
  · rw [e]; exact .of rfl
  · rw [e]; exact (KeepO.of (s := x.s) (s' := atRound x.s k) rfl).trans (.say ⟨atRound x.s k, x.who, x.out⟩ _ _ _)
theorem KeepO.settle (x : Run) (v : Int) : KeepO x.who x.s (settleR x v).s := by
  unfold settleR
  split
  · exact (KeepO.of (s := x.s) (s' := settleS x.s v) rfl).trans (.start ⟨settleS x.s v, x.who, x.out⟩ _)
  · exact .of rfl
theorem KeepO.one {x y : Run} (hy : oneR x = some y) : KeepO x.who x.s y.s := by
  obtain ⟨hh, hc⟩ := oneR_cases hy
  rcases hc with ⟨k, hk, rfl⟩ | ⟨k, _, hk, rfl⟩ | ⟨v, _, _, hv, rfl⟩ | ⟨_, _, _, hp⟩
  · exact .settle _ _
  · exact .start _ _
  · exact (KeepO.of (s := x.s) (s' := { x.s with step := 1 }) rfl).trans (.say ⟨{ x.s with step := 1 }, x.who, x.out⟩ _ _ _)
  · obtain ⟨v, hm, rfl, hst', hc⟩ := promR_cases hp
    rcases hc with ⟨_, hs, rfl⟩ | ⟨h0, _, _, hseen, ⟨hs, rfl⟩ | ⟨hs, rfl⟩⟩
    · exact (KeepO.of (s := x.s) (s' := { x.s with step := 2 }) rfl).trans (.say ⟨{ x.s with step := 2 }, x.who, x.out⟩ _ _ _)
    · exact (KeepO.of (s := x.s) (s' := bindS (seeS x.s _) _) rfl).trans (.say ⟨bindS (seeS x.s _) _, x.who, x.out⟩ _ _ _)
    · exact .of rfl
theorem KeepO.flow {x : Run} (h : GoodR x) : KeepO x.who x.s (flowR x).s := (flow_ind (p := fun y => y.who = x.who ∧ KeepO x.who x.s y.s) (fun y z hg ⟨e, hk⟩ ho => ⟨(Adv.one hg ho).who.trans e, hk.trans (e ▸ KeepO.one ho)⟩) h ⟨rfl, .refl _ _⟩).1.2
theorem KeepO.time (x : Run) : KeepO x.who x.s (timeR x).s := by
  unfold timeR
  split
  · exact (KeepO.of (s := x.s) (s' := { x.s with step := 1 }) rfl).trans (.say ⟨{ x.s with step := 1 }, x.who, x.out⟩ _ _ _)
  · split
    · split
      · exact (KeepO.of (s := x.s) (s' := { x.s with step := 2 }) rfl).trans (.say ⟨{ x.s with step := 2 }, x.who, x.out⟩ _ _ _)
      · exact .refl _ _
    · split
      · exact .start _ _
      · exact .refl _ _

/-! ### A turn -/

def Says (u : Word) (k : Int) (h r i : Nat) : Prop := GoodW u ∧ u.kind = k ∧ h = u.height.toNat ∧ r = u.round.toNat ∧ i = u.frm.toNat

structure Moves (s : Node) (j : Nat) (t : Turn) (w : Option Word) : Prop where
  goes : Goes s j t
  wish : ∀ h r i : Nat, i ≠ j → (t.s.heard h).wishes r i = (s.heard h).wishes r i ∨ ∃ u, w = some u ∧ Says u 2 h r i ∧ (t.s.heard h).wishes r i = u.value + 1
  prom : ∀ h r i : Nat, i ≠ j → (t.s.heard h).promises r i = (s.heard h).promises r i ∨ ∃ u, w = some u ∧ Says u 3 h r i ∧ (t.s.heard h).promises r i = u.value + 1
  evid : ∀ h : Nat, h < 4 → s.height ≤ h → (h : Int) < t.s.height → Evid t.s h
  own : Own s j → (∀ u, w = some u → GoodW u → u.kind ≠ 1 → u.frm ≠ j) → Own t.s j ∧ ∀ u ∈ t.out, u.frm = j ∧ Rec t.s u
  word : ∀ u, w = some u → GoodW u

theorem moves_hear {s : Node} {j : Nat} {w : Word} (h : (hearT s j w).err = 0) : Moves s j (hearT s j w) (some w) := by
  obtain ⟨h0, hw, hg, e⟩ := hearT_goes h
  have hb := beginE_ok h0
  have hgr : GoodR ⟨hearN s w, j, []⟩ := ⟨hb.1.hear w, hb.2⟩
  have hk := KeepO.flow hgr
  refine ⟨hg, ?_, ?_, ?_, ?_, fun u hu => by cases hu; exact hw⟩
  · intro k r i hi
    rw [e, (hk k r i (by show (i : Int) ≠ (j : Int); omega)).1]
    show ((hearN s w).heard k).wishes r i = _ ∨ _
    rw [hearN_wishes]
    split
    · rename_i g
      exact .inr ⟨w, rfl, ⟨g.2.1, g.2.2.1, g.1, g.2.2.2.1, g.2.2.2.2.1⟩, rfl⟩
    · exact .inl rfl
  · intro k r i hi
    rw [e, (hk k r i (by show (i : Int) ≠ (j : Int); omega)).2]
    show ((hearN s w).heard k).promises r i = _ ∨ _
    rw [hearN_promises]
    split
    · rename_i g
      exact .inr ⟨w, rfl, ⟨g.2.1, g.2.2.1, g.1, g.2.2.2.1, g.2.2.2.2.1⟩, rfl⟩
    · exact .inl rfl
  · exact fun k h4 h1 h2 => hearT_settles h h4 h1 h2
  · intro ho hf
    have ht : TrueR ⟨hearN s w, j, []⟩ j := ⟨hgr, rfl, ho.hear (hf w rfl hw), fun u hu => by simp at hu⟩
    rw [e]
    exact ⟨ht.flow.own, ht.flow.out⟩

theorem moves_submit {s : Node} {j : Nat} {v : Int} (h : (submitT s j v).err = 0) : Moves s j (submitT s j v) none := by
  obtain ⟨h0, h1, h9, hl, hg, e⟩ := submitT_goes h
  have hb := beginE_ok h0
  have hgr : GoodR ⟨{ s with queue := s.queue ++ [v] }, j, []⟩ := ⟨hb.1.push h1 h9 hl, hb.2⟩
  have hr := hb.1.round
  have hk : KeepO j s (submitR s j v).s := by
    unfold submitR
    simp only []
    split
    · exact ((KeepO.of (s := s) (s' := { s with queue := s.queue ++ [v] }) rfl).trans (.start ⟨{ s with queue := s.queue ++ [v] }, j, []⟩ s.round)).trans (by
        have hg2 := hgr.start (k := s.round) (Int.le_refl _) hr.2
        have := KeepO.flow hg2
        rwa [(startR_at _ _).2.2.2] at this)
    · exact .of rfl
  refine ⟨hg, ?_, ?_, ?_, ?_, fun u hu => by cases hu⟩
  · intro k r i hi; rw [e]; exact .inl (hk k r i (by omega)).1
  · intro k r i hi; rw [e]; exact .inl (hk k r i (by omega)).2
  · intro k h4 h1 h2
    rw [e] at h2 ⊢
    simp only [] at h2 ⊢
    unfold submitR at h2 ⊢
    simp only [] at h2 ⊢
    split
    · rename_i hc
      rw [if_pos hc] at h2
      refine Evid.flow (hgr.start (k := s.round) (Int.le_refl _) hr.2) h4 (fun hlt => ?_) h2
      have : (startR ⟨{ s with queue := s.queue ++ [v] }, (j : Int), []⟩ s.round).s.height = s.height := (startR_at _ _).1
      omega
    · rename_i hc
      rw [if_neg hc] at h2
      have : (k : Int) < s.height := h2
      omega
  · intro ho _
    have ht : TrueR ⟨{ s with queue := s.queue ++ [v] }, j, []⟩ j := ⟨hgr, rfl, ho.move rfl rfl rfl rfl (.inr ⟨rfl, .inr ⟨rfl, Int.le_refl _⟩⟩) ho.validLt, fun u hu => by simp at hu⟩
    rw [e]
    simp only []
    unfold submitR
    simp only []
    split
    · rename_i hc
      have := (ht.start (k := s.round) hc.1 (.inr ⟨rfl, hc.2⟩) hr.2).flow
      exact ⟨this.own, this.out⟩
    · exact ⟨ht.own, ht.out⟩

theorem moves_time {s : Node} {j : Nat} (h : (timeT s j).err = 0) : Moves s j (timeT s j) none := by
  obtain ⟨h0, hg⟩ := timeT_goes h
  have hb := beginE_ok h0
  have hgr : GoodR ⟨s, j, []⟩ := ⟨hb.1, hb.2⟩
  by_cases h4 : 4 ≤ s.height
  · have e : timeT s j = ⟨s, [], 0⟩ := by unfold timeT; rw [if_neg (by omega), if_pos h4]
    rw [e] at hg ⊢
    refine ⟨hg, fun _ _ _ _ => .inl rfl, fun _ _ _ _ => .inl rfl, fun k _ h1 h2 => ?_, fun ho _ => ⟨ho, fun u hu => by simp at hu⟩, fun u hu => by cases hu⟩
    have : (k : Int) < s.height := h2
    omega
  · have e : timeT s j = ⟨(flowR (timeR ⟨s, j, []⟩)).s, (flowR (timeR ⟨s, j, []⟩)).out, 0⟩ := by unfold timeT; rw [if_neg (by omega), if_neg h4]
    have hlt : s.height < 4 := by omega
    have hgt : GoodR (timeR ⟨s, j, []⟩) := hgr.time hlt
    have hwho : (timeR ⟨s, j, []⟩).who = j := (Adv.time (x := ⟨s, j, []⟩)).who
    have hk : KeepO j s (flowR (timeR ⟨s, j, []⟩)).s := (KeepO.time ⟨s, j, []⟩).trans (by
      have := KeepO.flow hgt
      rwa [hwho] at this)
    rw [e] at hg ⊢
    refine ⟨hg, fun k r i hi => .inl (hk k r i (by omega)).1, fun k r i hi => .inl (hk k r i (by omega)).2, fun k h4 h1 h2 => ?_, fun ho _ => ?_, fun u hu => by cases hu⟩
    · refine Evid.flow hgt h4 (fun hl => ?_) h2
      have : (timeR ⟨s, (j : Int), []⟩).s.height = s.height := by
        unfold timeR
        split
        · rfl
        · split
          · split <;> rfl
          · split
            · exact (startR_at _ _).1
            · rfl
      omega
    · have ht : TrueR ⟨s, j, []⟩ j := ⟨hgr, rfl, ho, fun u hu => by simp at hu⟩
      have := (ht.time hlt).flow
      exact ⟨this.own, this.out⟩

/-! ### A crowd of which one may lie -/

structure Inv (l : Int) (c : CrowdS) : Prop where
  good : ∀ i, i < 4 → GoodN (c.nodes i)
  own : ∀ i : Nat, i < 4 → (i : Int) ≠ l → Own (c.nodes i) i
  wishes : ∀ i j : Nat, i < 4 → j < 4 → (j : Int) ≠ l → ∀ h r, ((c.nodes i).heard h).wishes r j ≠ 0 → ((c.nodes i).heard h).wishes r j = ((c.nodes j).heard h).wishes r j
  promises : ∀ i j : Nat, i < 4 → j < 4 → (j : Int) ≠ l → ∀ h r, ((c.nodes i).heard h).promises r j ≠ 0 → ((c.nodes i).heard h).promises r j = ((c.nodes j).heard h).promises r j
  net : ∀ x ∈ c.net, 0 ≤ x.to ∧ x.to < 4 ∧ x.to ≠ x.word.frm ∧ 0 ≤ x.word.frm ∧ x.word.frm < 4 ∧ (x.word.frm ≠ l → Rec (c.nodes x.word.frm.toNat) x.word)
  evid : ∀ i, i < 4 → ∀ h : Nat, h < 4 → (h : Int) < (c.nodes i).height → Evid (c.nodes i) h

theorem Inv.turn {l : Int} {c : CrowdS} (h : Inv l c) {j : Nat} (hj : j < 4) {t : Turn} {w : Option Word} (hm : Moves (c.nodes j) j t w) (hw : ∀ u, w = some u → GoodW u → u.frm ≠ l → u.frm ≠ j ∧ Rec (c.nodes u.frm.toNat) u) :
    Inv l { c with nodes := upd c.nodes j t.s, net := sendL j t.out c.net } := by
  have hgr : ∀ k, Grows ((c.nodes j).heard k) (t.s.heard k) := hm.goes.adv.heard
  have hown : (j : Int) ≠ l → Own t.s j ∧ ∀ u ∈ t.out, u.frm = j ∧ Rec t.s u := fun hl => hm.own (h.own j hj hl) fun u hu hg _ => by
    by_cases e : u.frm = l
    · rw [e]; exact fun g => hl g.symm
    · exact (hw u hu hg e).1
  have hfrm : ∀ u ∈ t.out, u.frm = j := fun u hu => by
    obtain ⟨o, e, ho⟩ := hm.goes.adv.out
    have e : t.out = o := by simpa using e
    rw [e] at hu
    exact (ho u hu).1
  have hn : ∀ i, upd c.nodes j t.s i = if i = j then t.s else c.nodes i := fun i => by
    split
    · rename_i e; subst e; exact upd_same _ _ _
    · rename_i e; exact upd_other _ _ e
  refine ⟨fun i hi => ?_, fun i hi hl => ?_, fun i k hi hk hl a r hne => ?_, fun i k hi hk hl a r hne => ?_, fun x hx => ?_, fun i hi a h4 hlt => ?_⟩
  · show GoodN (upd c.nodes j t.s i)
    rw [hn]; split
    · exact hm.goes.good'
    · exact h.good i hi
  · show Own (upd c.nodes j t.s i) i
    rw [hn]; split
    · rename_i e; subst e; exact (hown hl).1
    · exact h.own i hi hl
  · have hm0 : ((upd c.nodes j t.s i).heard a).wishes r k ≠ 0 := hne
    clear hne
    show ((upd c.nodes j t.s i).heard a).wishes r k = ((upd c.nodes j t.s k).heard a).wishes r k
    rw [hn] at hm0 ⊢
    rw [hn k]
    by_cases e1 : i = j
    · rw [if_pos e1] at hm0 ⊢
      by_cases e2 : k = j
      · rw [if_pos e2]
      · rw [if_neg e2]
        rcases hm.wish a r k e2 with e | ⟨u, hu, ⟨g1, g2, g3, g4, g5⟩, g6⟩
        · rw [e] at hm0 ⊢; exact h.wishes j k hj hk hl a r hm0
        · have hf := g1.frm
          have := (hw u hu g1 (by omega)).2.wish g2
          rw [g6, g3, g4, g5]; exact this.symm
    · rw [if_neg e1] at hm0 ⊢
      have := h.wishes i k hi hk hl a r hm0
      by_cases e2 : k = j
      · subst e2
        rw [if_pos rfl, (hgr a).wishes r k (by rw [← this]; exact hm0)]; exact this
      · rw [if_neg e2]; exact this
  · have hm0 : ((upd c.nodes j t.s i).heard a).promises r k ≠ 0 := hne
    clear hne
    show ((upd c.nodes j t.s i).heard a).promises r k = ((upd c.nodes j t.s k).heard a).promises r k
    rw [hn] at hm0 ⊢
    rw [hn k]
    by_cases e1 : i = j
    · rw [if_pos e1] at hm0 ⊢
      by_cases e2 : k = j
      · rw [if_pos e2]
      · rw [if_neg e2]
        rcases hm.prom a r k e2 with e | ⟨u, hu, ⟨g1, g2, g3, g4, g5⟩, g6⟩
        · rw [e] at hm0 ⊢; exact h.promises j k hj hk hl a r hm0
        · have hf := g1.frm
          have := (hw u hu g1 (by omega)).2.prom g2
          rw [g6, g3, g4, g5]; exact this.symm
    · rw [if_neg e1] at hm0 ⊢
      have := h.promises i k hi hk hl a r hm0
      by_cases e2 : k = j
      · subst e2
        rw [if_pos rfl, (hgr a).promises r k (by rw [← this]; exact hm0)]; exact this
      · rw [if_neg e2]; exact this
  · rcases sendL_mem hx with hx | ⟨g1, g2, g3, g4⟩
    · obtain ⟨k1, k2, k3, k4, k5, k6⟩ := h.net x hx
      refine ⟨k1, k2, k3, k4, k5, fun hl => ?_⟩
      show Rec (upd c.nodes j t.s x.word.frm.toNat) x.word
      rw [hn]; split
      · rename_i e; have := k6 hl; rw [e] at this; exact this.grows hgr
      · exact k6 hl
    · have hf := hfrm _ g1
      refine ⟨g2, g3, by rw [hf]; exact g4, by omega, by omega, fun hl => ?_⟩
      show Rec (upd c.nodes j t.s x.word.frm.toNat) x.word
      rw [hn, if_pos (by omega)]
      exact ((hown (by omega)).2 _ g1).2
  · have hlt : (a : Int) < (upd c.nodes j t.s i).height := hlt
    show Evid (upd c.nodes j t.s i) a
    rw [hn] at hlt ⊢
    split
    · rename_i e
      rw [if_pos e] at hlt
      rcases Int.lt_or_le a (c.nodes j).height with h1 | h1
      · exact (h.evid j hj a h4 h1).adv (x := ⟨c.nodes j, j, []⟩) (y := ⟨t.s, j, t.out⟩) ⟨h.good j hj, hm.goes.ids⟩ hm.goes.adv h4 h1
      · exact hm.evid a h4 h1 hlt
    · rename_i e
      rw [if_neg e] at hlt
      exact h.evid i hi a h4 hlt

/-- The crowd's acts do not matter to it. -/
theorem Inv.of {l : Int} {c c' : CrowdS} (h : Inv l c) (hn : c'.nodes = c.nodes) (hm : ∀ x ∈ c'.net, x ∈ c.net) : Inv l c' :=
  ⟨by rw [hn]; exact h.good, by rw [hn]; exact h.own, by rw [hn]; exact h.wishes, by rw [hn]; exact h.promises, fun x hx => by rw [hn]; exact h.net x (hm x hx), by rw [hn]; exact h.evid⟩

theorem turnC_cases (c : CrowdS) (i : Int) (t : Turn) : (∃ e, turnC c i t = (c, errR e) ∧ e ≠ 0) ∨ (0 ≤ i ∧ i < 4 ∧ t.err = 0 ∧ turnC c i t = ({ c with nodes := upd c.nodes i.toNat t.s, net := sendL i t.out c.net }, sentR ((sendL i t.out c.net).length - c.net.length))) := by
  unfold turnC
  by_cases h1 : i < 0 ∨ 4 ≤ i
  · rw [if_pos h1]; exact .inl ⟨2, rfl, by omega⟩
  · rw [if_neg h1]
    by_cases h2 : t.err ≠ 0
    · rw [if_pos h2]; exact .inl ⟨_, rfl, h2⟩
    · rw [if_neg h2]; exact .inr ⟨by omega, by omega, by omega, rfl⟩

/-- What an act is: refused; a reading; a letter that goes; a turn. -/
theorem actC_cases (c : CrowdS) (a : Act) : (∃ e, actC c a = (c, errR e) ∧ e ≠ 0) ∨ (a.kind = 6 ∧ actC c a = (c, Act.read c a)) ∨
    (a.kind = 3 ∧ 0 ≤ a.n ∧ a.n < c.net.length ∧ actC c a = ({ c with net := c.net.eraseIdx a.n.toNat }, errR 0)) ∨
    (∃ (j : Nat) (t : Turn) (w : Option Word), j < 4 ∧ t.err = 0 ∧ Moves (c.nodes j) j t w ∧ actC c a = ({ c with nodes := upd c.nodes j t.s, net := sendL j t.out c.net }, sentR ((sendL j t.out c.net).length - c.net.length)) ∧
      ((a.kind = 1 ∧ a.node = j ∧ w = none ∧ t = submitT (c.nodes j) j a.value) ∨ (a.kind = 4 ∧ a.node = j ∧ w = none ∧ t = timeT (c.nodes j) j) ∨
       (a.kind = 2 ∧ ∃ x, x ∈ c.net ∧ 0 ≤ a.n ∧ a.n < c.net.length ∧ x = c.net.getD a.n.toNat Letter.zero ∧ x.to = j ∧ w = some x.word ∧ t = hearT (c.nodes j) j x.word) ∨
       (a.kind = 5 ∧ a.node = j ∧ a.word.frm = c.liar ∧ w = some a.word ∧ t = hearT (c.nodes j) j a.word))) := by
  unfold actC
  by_cases h1 : a.kind = 1
  · rw [if_pos h1]
    rcases turnC_cases c a.node (submitT (c.nodes a.node.toNat) a.node a.value) with ⟨e, he, h0⟩ | ⟨g1, g2, g3, g4⟩
    · exact .inl ⟨e, he, h0⟩
    · have hj : a.node = (a.node.toNat : Int) := by omega
      generalize a.node.toNat = j at hj
      refine .inr (.inr (.inr ⟨j, _, none, by omega, by rw [hj] at g3; exact g3, ?_, ?_, .inl ⟨h1, hj, rfl, rfl⟩⟩))
      · rw [hj] at g3; exact moves_submit g3
      · unfold Act.submit; rw [hj] at g4 ⊢; exact g4
  rw [if_neg h1]
  by_cases h4 : a.kind = 4
  · rw [if_pos h4]
    rcases turnC_cases c a.node (timeT (c.nodes a.node.toNat) a.node) with ⟨e, he, h0⟩ | ⟨g1, g2, g3, g4⟩
    · exact .inl ⟨e, he, h0⟩
    · have hj : a.node = (a.node.toNat : Int) := by omega
      generalize a.node.toNat = j at hj
      refine .inr (.inr (.inr ⟨j, _, none, by omega, by rw [hj] at g3; exact g3, ?_, ?_, .inr (.inl ⟨h4, hj, rfl, rfl⟩)⟩))
      · rw [hj] at g3; exact moves_time g3
      · unfold Act.time; rw [hj] at g4 ⊢; exact g4
  rw [if_neg h4]
  by_cases h23 : a.kind = 2 ∨ a.kind = 3
  · rw [if_pos h23]
    by_cases hr : a.n < 0 ∨ (c.net.length : Int) ≤ a.n
    · rw [if_pos hr]; exact .inl ⟨4, rfl, by omega⟩
    rw [if_neg hr]
    by_cases h3 : a.kind = 3
    · rw [if_pos h3]; exact .inr (.inr (.inl ⟨h3, by omega, by omega, rfl⟩))
    rw [if_neg h3]
    have hx : c.net.getD a.n.toNat Letter.zero ∈ c.net := by
      have hl : a.n.toNat < c.net.length := by omega
      rw [List.getD_eq_getElem?_getD, List.getElem?_eq_getElem hl]
      exact List.getElem_mem hl
    generalize hxe : c.net.getD a.n.toNat Letter.zero = x at hx
    rcases turnC_cases c x.to (hearT (c.nodes x.to.toNat) x.to x.word) with ⟨e, he, h0⟩ | ⟨g1, g2, g3, g4⟩
    · exact .inl ⟨e, he, h0⟩
    · have hj : x.to = (x.to.toNat : Int) := by omega
      generalize x.to.toNat = j at hj
      refine .inr (.inr (.inr ⟨j, _, some x.word, by omega, by rw [hj] at g3; exact g3, ?_, ?_, .inr (.inr (.inl ⟨by omega, x, hx, by omega, by omega, rfl, hj, rfl, rfl⟩))⟩))
      · rw [hj] at g3; exact moves_hear g3
      · unfold Act.deliver; rw [hj] at g4 ⊢; exact g4
  rw [if_neg h23]
  by_cases h5 : a.kind = 5
  · rw [if_pos h5]
    by_cases hg : goodW a.word ≠ 0
    · rw [if_pos hg]; exact .inl ⟨_, rfl, hg⟩
    rw [if_neg hg]
    by_cases hl : a.word.frm ≠ c.liar
    · rw [if_pos hl]; exact .inl ⟨6, rfl, by omega⟩
    rw [if_neg hl]
    rcases turnC_cases c a.node (hearT (c.nodes a.node.toNat) a.node a.word) with ⟨e, he, h0⟩ | ⟨g1, g2, g3, g4⟩
    · exact .inl ⟨e, he, h0⟩
    · have hj : a.node = (a.node.toNat : Int) := by omega
      generalize a.node.toNat = j at hj
      refine .inr (.inr (.inr ⟨j, _, some a.word, by omega, by rw [hj] at g3; exact g3, ?_, ?_, .inr (.inr (.inr ⟨h5, hj, Decidable.not_not.1 hl, rfl, rfl⟩))⟩))
      · rw [hj] at g3; exact moves_hear g3
      · unfold Act.lie; rw [hj] at g4 ⊢; exact g4
  rw [if_neg h5]
  by_cases h6 : a.kind = 6
  · rw [if_pos h6]; exact .inr (.inl ⟨h6, rfl⟩)
  · rw [if_neg h6]; exact .inl ⟨3, rfl, by omega⟩

theorem actC_liar (c : CrowdS) (a : Act) : (actC c a).1.liar = c.liar := by
  rcases actC_cases c a with ⟨e, he, _⟩ | ⟨_, he⟩ | ⟨_, _, _, he⟩ | ⟨j, t, w, _, _, _, he, _⟩ <;> rw [he]
theorem actC_acts (c : CrowdS) (a : Act) : (actC c a).1.acts = c.acts := by
  rcases actC_cases c a with ⟨e, he, _⟩ | ⟨_, he⟩ | ⟨_, _, _, he⟩ | ⟨j, t, w, _, _, _, he, _⟩ <;> rw [he]
theorem doC_liar (c : CrowdS) (a : Act) : (doC c a).1.liar = c.liar := by
  unfold doC; split
  · rfl
  · exact actC_liar c.tick a

theorem Inv.act {l : Int} {c : CrowdS} (h : Inv l c) {a : Act} (hl : c.liar = l ∨ a.kind ≠ 5) : Inv l (actC c a).1 := by
  rcases actC_cases c a with ⟨e, he, _⟩ | ⟨_, he⟩ | ⟨_, _, _, he⟩ | ⟨j, t, w, hj, _, hm, he, hc⟩
  · rw [he]; exact h
  · rw [he]; exact h
  · rw [he]; exact h.of rfl fun x hx => List.mem_of_mem_eraseIdx hx
  · rw [he]
    refine h.turn hj hm fun u hu hg hne => ?_
    rcases hc with ⟨_, _, hw, _⟩ | ⟨_, _, hw, _⟩ | ⟨_, x, hx, _, _, _, hto, hw, _⟩ | ⟨h5, _, hf, hw, _⟩
    · rw [hw] at hu; cases hu
    · rw [hw] at hu; cases hu
    · rw [hw] at hu; cases hu
      obtain ⟨k1, k2, k3, k4, k5, k6⟩ := h.net x hx
      exact ⟨by rw [← hto]; exact fun e => k3 e.symm, k6 hne⟩
    · rw [hw] at hu; cases hu
      rcases hl with hl | hl
      · exact absurd (hf.trans hl) hne
      · exact absurd h5 hl
theorem Inv.do {l : Int} {c : CrowdS} (h : Inv l c) {a : Act} (hl : c.liar = l ∨ a.kind ≠ 5) : Inv l (doC c a).1 := by
  unfold doC; split
  · exact h
  · exact Inv.act (c := c.tick) (h.of rfl fun x hx => hx) hl

theorem Inv.new (l liar : Int) : Inv l (newC liar) := by
  have hg : GoodN newN' := by
    refine ⟨by decide, by decide, by decide, by decide, fun v hv => by simp [newN'] at hv, by decide, by decide, fun k hk => ?_, fun k _ => (show goodS Sheet.zero = true by decide)⟩
    show (0 : Int) ≤ 0 ∧ (0 : Int) ≤ 9 ∧ ((0 : Int) < 0 ↔ (k : Int) < 0)
    omega
  have ho : ∀ i, Own newN' i := fun i => by
    refine ⟨fun h r hn => absurd rfl hn, fun h r hn => absurd rfl hn, fun h r v hv hp => ?_, fun h r r' v v' hv _ hp => ?_, fun r v hv hp => ?_, fun hb => absurd hb (by decide), fun _ => by decide⟩
    · have : (0 : Int) = v + 1 := hp; omega
    · have : (0 : Int) = v + 1 := hp; omega
    · have : (0 : Int) = v + 1 := hp; omega
  exact ⟨fun _ _ => hg, fun i _ _ => ho i, fun _ _ _ _ _ _ _ hn => absurd rfl hn, fun _ _ _ _ _ _ _ hn => absurd rfl hn, fun x hx => by simp [newC] at hx, fun i _ h _ hl => by
    have : (h : Int) < 0 := hl
    omega⟩

/-! ### Those that are true agree -/

/-- Of two quorums one is in both that is true. -/
theorem meet_true {a b : Nat → Int} {x y : Int} (l : Int) (hx : 3 ≤ count a x) (hy : 3 ≤ count b y) : ∃ k : Nat, k < 4 ∧ (k : Int) ≠ l ∧ a k = x + 1 ∧ b k = y + 1 ∧ 0 ≤ x ∧ 0 ≤ y := by
  apply Classical.byContradiction
  intro hne
  rw [count_tick] at hx hy
  have key : ∀ i : Nat, i < 4 → (i : Int) ≠ l → tick a x i + tick b y i ≤ 1 := by
    intro i hi hl
    have b0 := tick_bd a x i; have b1 := tick_bd b y i
    rcases Int.lt_or_le 0 (tick a x i) with h1 | h1
    · rcases Int.lt_or_le 0 (tick b y i) with h2 | h2
      · have := tick_one h1; have := tick_one h2
        exact absurd ⟨i, hi, hl, by omega, by omega, by omega, by omega⟩ hne
      · omega
    · omega
  have b0 := tick_bd a x 0; have b1 := tick_bd a x 1; have b2 := tick_bd a x 2; have b3 := tick_bd a x 3
  have d0 := tick_bd b y 0; have d1 := tick_bd b y 1; have d2 := tick_bd b y 2; have d3 := tick_bd b y 3
  have k0 := key 0 (by omega); have k1 := key 1 (by omega); have k2 := key 2 (by omega); have k3 := key 3 (by omega)
  by_cases e0 : ((0 : Nat) : Int) = l
  · have := k1 (by omega); have := k2 (by omega); have := k3 (by omega); omega
  · by_cases e1 : ((1 : Nat) : Int) = l
    · have := k0 (by omega); have := k2 (by omega); have := k3 (by omega); omega
    · by_cases e2 : ((2 : Nat) : Int) = l
      · have := k0 (by omega); have := k1 (by omega); have := k3 (by omega); omega
      · have := k0 (by omega); have := k1 (by omega); have := k2 (by omega); omega

theorem Inv.locked {l : Int} {c : CrowdS} (h : Inv l c) {a i r : Nat} {v : Int} (hi : i < 4) (hv : 0 < v) (hp : 3 ≤ count (((c.nodes i).heard a).promises r) v) :
    ∀ n r' j : Nat, r' ≤ n → j < 4 → r ≤ r' → ∀ v', 0 < v' → 3 ≤ count (((c.nodes j).heard a).wishes r') v' → v' = v := by
  intro n
  induction n with
  | zero =>
    intro r' j hn hj hr v' hv' hw
    obtain ⟨k, hk, hkl, e1, e2, _, _⟩ := meet_true l hp hw
    have := h.promises i k hi hk hkl a r (by omega)
    have hq := (h.own k hk hkl).prom a r v hv (by omega)
    have : r' = r := by omega
    subst this
    obtain ⟨m, hm, hml, f1, f2, _, _⟩ := meet_true l hq hw
    have g1 := h.wishes k m hk hm hml a r' (by omega)
    have g2 := h.wishes j m hj hm hml a r' (by omega)
    omega
  | succ n ih =>
    intro r' j hn hj hr v' hv' hw
    obtain ⟨k, hk, hkl, e1, e2, _, _⟩ := meet_true l hp hw
    have g1 := h.promises i k hi hk hkl a r (by omega)
    have g2 := h.wishes j k hj hk hkl a r' (by omega)
    have hq := (h.own k hk hkl).prom a r v hv (by omega)
    by_cases e : r = r'
    · subst e
      obtain ⟨m, hm, hml, f1, f2, _, _⟩ := meet_true l hq hw
      have g3 := h.wishes k m hk hm hml a r (by omega)
      have g4 := h.wishes j m hj hm hml a r (by omega)
      omega
    · obtain ⟨u, hu1, hu2, hu3⟩ := (h.own k hk hkl).wish a r r' v v' hv hv' (by omega) (by omega) (by omega)
      exact ih u k (by omega) hk hu1 v' hv' hu3

theorem Inv.agree {l : Int} {c : CrowdS} (h : Inv l c) {i j a : Nat} (hi : i < 4) (hj : j < 4) (ha : a < 4) (h1 : (c.nodes i).settled a ≠ 0) (h2 : (c.nodes j).settled a ≠ 0) : (c.nodes i).settled a = (c.nodes j).settled a := by
  have s1 := (h.good i hi).settled a ha
  have s2 := (h.good j hj).settled a ha
  obtain ⟨r, _, hp, hv⟩ := h.evid i hi a ha (by omega)
  obtain ⟨r', _, hp', hv'⟩ := h.evid j hj a ha (by omega)
  have q1 := mostV_of (promised_iff hp).1
  have q2 := mostV_of (promised_iff hp').1
  rw [hv] at q1
  rw [hv'] at q2
  have key : ∀ {i j r r' : Nat} {v v' : Int}, i < 4 → j < 4 → 0 < v → 0 < v' → r ≤ r' → 3 ≤ count (((c.nodes i).heard a).promises r) v → 3 ≤ count (((c.nodes j).heard a).promises r') v' → v' = v := by
    intro i j r r' v v' hi hj hv hv' hr p1 p2
    obtain ⟨k, hk, hkl, e1, _, _, _⟩ := meet_true l p2 p2
    have g1 := h.promises j k hj hk hkl a r' (by omega)
    have hq := (h.own k hk hkl).prom a r' v' hv' (by omega)
    exact h.locked hi hv p1 r' r' k (Nat.le_refl _) hk hr v' hv' hq
  rcases Nat.le_total r r' with hr | hr
  · exact (key hi hj (by omega) (by omega) hr q1.1 q2.1).symm
  · exact key hj hi (by omega) (by omega) hr q2.1 q1.1

/-- What one that is true has settled was promised, in one round, by two that are true. -/
theorem Inv.bound {l : Int} {c : CrowdS} (h : Inv l c) {i a : Nat} (hi : i < 4) (ha : a < 4) (hh : (a : Int) < (c.nodes i).height) :
    ∃ r, r < 6 ∧ ∃ j k : Nat, j < k ∧ k < 4 ∧ ∀ m, m = j ∨ m = k → (m : Int) ≠ l ∧ ((c.nodes i).heard a).promises r m = (c.nodes i).settled a + 1 ∧ ((c.nodes m).heard a).promises r m = (c.nodes i).settled a + 1 := by
  have s1 := (h.good i hi).settled a ha
  obtain ⟨r, hr, hp, hv⟩ := h.evid i hi a ha hh
  have q1 := mostV_of (promised_iff hp).1
  rw [hv] at q1
  generalize (c.nodes i).settled a = v at s1 q1
  refine ⟨r, hr, ?_⟩
  have ok : ∀ m : Nat, m < 4 → (m : Int) ≠ l → 0 < tick (((c.nodes i).heard a).promises r) v m → (m : Int) ≠ l ∧ ((c.nodes i).heard a).promises r m = v + 1 ∧ ((c.nodes m).heard a).promises r m = v + 1 := fun m hm hl ht => by
    have := tick_one ht
    have g := h.promises i m hi hm hl a r (by omega)
    exact ⟨hl, by omega, by omega⟩
  have c1 := q1.1
  rw [count_tick] at c1
  have b0 := tick_bd (((c.nodes i).heard a).promises r) v 0; have b1 := tick_bd (((c.nodes i).heard a).promises r) v 1; have b2 := tick_bd (((c.nodes i).heard a).promises r) v 2; have b3 := tick_bd (((c.nodes i).heard a).promises r) v 3
  have o0 := ok 0 (by omega); have o1 := ok 1 (by omega); have o2 := ok 2 (by omega); have o3 := ok 3 (by omega)
  have pair : ∀ j k : Nat, j < k → k < 4 → (j : Int) ≠ l → (k : Int) ≠ l → 0 < tick (((c.nodes i).heard a).promises r) v j → 0 < tick (((c.nodes i).heard a).promises r) v k → ∃ j k : Nat, j < k ∧ k < 4 ∧ ∀ m, m = j ∨ m = k → (m : Int) ≠ l ∧ ((c.nodes i).heard a).promises r m = v + 1 ∧ ((c.nodes m).heard a).promises r m = v + 1 := fun j k h1 h2 h3 h4 h5 h6 => ⟨j, k, h1, h2, fun m hm => by
    rcases hm with rfl | rfl
    · exact ok _ (by omega) h3 h5
    · exact ok _ (by omega) h4 h6⟩
  by_cases t0 : 0 < tick (((c.nodes i).heard a).promises r) v 0 ∧ ((0 : Nat) : Int) ≠ l
  · by_cases t1 : 0 < tick (((c.nodes i).heard a).promises r) v 1 ∧ ((1 : Nat) : Int) ≠ l
    · exact pair 0 1 (by omega) (by omega) t0.2 t1.2 t0.1 t1.1
    · by_cases t2 : 0 < tick (((c.nodes i).heard a).promises r) v 2 ∧ ((2 : Nat) : Int) ≠ l
      · exact pair 0 2 (by omega) (by omega) t0.2 t2.2 t0.1 t2.1
      · by_cases t3 : 0 < tick (((c.nodes i).heard a).promises r) v 3 ∧ ((3 : Nat) : Int) ≠ l
        · exact pair 0 3 (by omega) (by omega) t0.2 t3.2 t0.1 t3.1
        · omega
  · by_cases t1 : 0 < tick (((c.nodes i).heard a).promises r) v 1 ∧ ((1 : Nat) : Int) ≠ l
    · by_cases t2 : 0 < tick (((c.nodes i).heard a).promises r) v 2 ∧ ((2 : Nat) : Int) ≠ l
      · exact pair 1 2 (by omega) (by omega) t1.2 t2.2 t1.1 t2.1
      · by_cases t3 : 0 < tick (((c.nodes i).heard a).promises r) v 3 ∧ ((3 : Nat) : Int) ≠ l
        · exact pair 1 3 (by omega) (by omega) t1.2 t3.2 t1.1 t3.1
        · omega
    · by_cases t2 : 0 < tick (((c.nodes i).heard a).promises r) v 2 ∧ ((2 : Nat) : Int) ≠ l
      · by_cases t3 : 0 < tick (((c.nodes i).heard a).promises r) v 3 ∧ ((3 : Nat) : Int) ≠ l
        · exact pair 2 3 (by omega) (by omega) t2.2 t3.2 t2.1 t3.1
        · omega
      · omega

end Go.W
