/-
  Where values come from, in plain Lean.
-/
import Derived.Test.YthpjdjofcbnoiabPh
namespace Go.W

structure MayN (may : Int → Prop) (s : Node) : Prop where
  queue : ∀ v ∈ s.queue, may v
  valid : 0 ≤ s.validIn → may s.valid
  calls : ∀ h r, ((s.heard h).calls r).is = true → may ((s.heard h).calls r).value
  settled : ∀ h : Nat, s.settled h ≠ 0 → may (s.settled h)
structure MayR (may : Int → Prop) (x : Run) : Prop where
  node : MayN may x.s
  out : ∀ w ∈ x.out, w.kind = 1 → may w.value

theorem MayN.hear {may : Int → Prop} {s : Node} (h : MayN may s) {w : Word} (hw : w.kind = 1 → may w.value) : MayN may (hearN s w) where
  queue := h.queue
  valid := h.valid
  calls := fun k r hi => by
    rw [hearN_calls] at hi ⊢
    split
    · rename_i g; exact hw g.2.2.1
    · rename_i g; rw [if_neg g] at hi; exact h.calls k r hi
  settled := h.settled
theorem MayR.say {may : Int → Prop} {x : Run} (h : MayR may x) {k v u : Int} (hv : k = 1 → may v) : MayR may (sayR x k v u) where
  node := h.node.hear (w := wordOf x k v u) hv
  out := fun w hw => by
    rcases List.mem_append.1 hw with hw | hw
    · exact h.out w hw
    · rw [List.mem_singleton.1 hw]; exact hv
theorem MayR.own {may : Int → Prop} {x : Run} (h : MayR may x) {s : Node} (hn : MayN may s) : MayR may ⟨s, x.who, x.out⟩ := ⟨hn, h.out⟩
theorem MayN.start {may : Int → Prop} {s : Node} (h : MayN may s) (k : Int) : MayN may (atRound s k) := ⟨h.queue, h.valid, h.calls, h.settled⟩
theorem MayR.start {may : Int → Prop} {x : Run} (h : MayR may x) (k : Int) : MayR may (startR x k) := by
  have h1 : MayR may ⟨atRound x.s k, x.who, x.out⟩ := ⟨h.node.start k, h.out⟩
  rcases startR_cases x k with e | ⟨v, u, _, hp, e⟩
  · rw [e]; exact h1
  · rw [e]
    refine h1.say fun _ => ?_
    unfold proposal at hp
    split at hp
    · simp only [Option.some.injEq, Prod.mk.injEq] at hp
      rw [← hp.1]; exact h.node.valid (by assumption)
    · split at hp
      · cases hp
      · rename_i q l hq
        simp only [Option.some.injEq, Prod.mk.injEq] at hp
        rw [← hp.1]; exact h.node.queue q (by rw [hq]; exact List.mem_cons_self ..)
theorem MayR.settle {may : Int → Prop} {x : Run} (h : MayR may x) {v : Int} (hv : may v) : MayR may (settleR x v) := by
  have h1 : MayR may ⟨settleS x.s v, x.who, x.out⟩ := ⟨⟨fun u hu => h.node.queue u (List.mem_filter.1 hu).1, fun hb => by have : (0 : Int) ≤ -1 := hb; omega, h.node.calls, fun k hk => by
    have hk : upd x.s.settled x.s.height.toNat v k ≠ 0 := hk
    show may (upd x.s.settled x.s.height.toNat v k)
    by_cases e : k = x.s.height.toNat
    · subst e; rw [upd_same]; exact hv
    · rw [upd_other _ _ e] at hk ⊢; exact h.node.settled k hk⟩, h.out⟩
  unfold settleR
  split
  · exact h1.start 0
  · exact h1
theorem MayR.one {may : Int → Prop} {x y : Run} (h : MayR may x) (hy : oneR x = some y) : MayR may y := by
  obtain ⟨hh, hc⟩ := oneR_cases hy
  rcases hc with ⟨k, hk, rfl⟩ | ⟨k, _, hk, rfl⟩ | ⟨v, _, _, hv, rfl⟩ | ⟨_, _, _, hp⟩
  · have hp := promised_iff (settleK_some hk).2
    rw [← hp.2.2.2.2]
    exact h.settle (h.node.calls _ _ hp.2.2.2.1)
  · exact h.start _
  · exact (h.own (s := { x.s with step := 1 }) ⟨h.node.queue, h.node.valid, h.node.calls, h.node.settled⟩).say fun g => absurd g (by decide)
  · obtain ⟨v, hm, rfl, hst', hc⟩ := promR_cases hp
    rcases hc with ⟨_, hs, rfl⟩ | ⟨h0, hi, hv, hseen, ⟨hs, rfl⟩ | ⟨hs, rfl⟩⟩
    · exact (h.own (s := { x.s with step := 2 }) ⟨h.node.queue, h.node.valid, h.node.calls, h.node.settled⟩).say fun g => absurd g (by decide)
    · rw [← hv]
      exact (h.own (s := bindS (seeS x.s _) _) ⟨h.node.queue, fun _ => h.node.calls _ _ hi, h.node.calls, h.node.settled⟩).say fun g => absurd g (by decide)
    · rw [← hv]
      exact h.own (s := seeS x.s _) ⟨h.node.queue, fun _ => h.node.calls _ _ hi, h.node.calls, h.node.settled⟩
theorem MayR.flow {may : Int → Prop} {x : Run} (hg : GoodR x) (h : MayR may x) : MayR may (flowR x) := (flow_ind (p := MayR may) (fun _ _ _ ha ho => ha.one ho) hg h).1
theorem MayR.time {may : Int → Prop} {x : Run} (h : MayR may x) : MayR may (timeR x) := by
  unfold timeR
  split
  · exact (h.own (s := { x.s with step := 1 }) ⟨h.node.queue, h.node.valid, h.node.calls, h.node.settled⟩).say fun g => absurd g (by decide)
  · split
    · split
      · exact (h.own (s := { x.s with step := 2 }) ⟨h.node.queue, h.node.valid, h.node.calls, h.node.settled⟩).say fun g => absurd g (by decide)
      · exact h
    · split
      · exact h.start _
      · exact h

theorem may_hear {may : Int → Prop} {s : Node} {who : Int} {w : Word} (h : (hearT s who w).err = 0) (hm : MayN may s) (hw : w.kind = 1 → may w.value) : MayR may ⟨(hearT s who w).s, who, (hearT s who w).out⟩ := by
  obtain ⟨h0, hgw, hg, e⟩ := hearT_goes h
  have hb := beginE_ok h0
  have := MayR.flow (x := ⟨hearN s w, who, []⟩) ⟨hb.1.hear w, hb.2⟩ ⟨hm.hear hw, fun u hu => by simp at hu⟩
  rw [e]
  exact ⟨this.node, this.out⟩
theorem may_submit {may : Int → Prop} {s : Node} {who v : Int} (h : (submitT s who v).err = 0) (hm : MayN may s) (hv : may v) : MayR may ⟨(submitT s who v).s, who, (submitT s who v).out⟩ := by
  obtain ⟨h0, h1, h9, hl, hg, e⟩ := submitT_goes h
  have hb := beginE_ok h0
  have hgr : GoodR ⟨{ s with queue := s.queue ++ [v] }, who, []⟩ := ⟨hb.1.push h1 h9 hl, hb.2⟩
  have hr := hb.1.round
  have hq : MayR may ⟨{ s with queue := s.queue ++ [v] }, who, []⟩ := ⟨⟨fun u hu => by
    rcases List.mem_append.1 hu with hu | hu
    · exact hm.queue u hu
    · rw [List.mem_singleton.1 hu]; exact hv, hm.valid, hm.calls, hm.settled⟩, fun u hu => by simp at hu⟩
  rw [e]
  simp only []
  unfold submitR
  simp only []
  split
  · have := MayR.flow (hgr.start (k := s.round) (Int.le_refl _) hr.2) (hq.start s.round)
    exact ⟨this.node, this.out⟩
  · exact ⟨hq.node, hq.out⟩
theorem may_time {may : Int → Prop} {s : Node} {who : Int} (h : (timeT s who).err = 0) (hm : MayN may s) : MayR may ⟨(timeT s who).s, who, (timeT s who).out⟩ := by
  obtain ⟨h0, hg⟩ := timeT_goes h
  have hb := beginE_ok h0
  by_cases h4 : 4 ≤ s.height
  · have e : timeT s who = ⟨s, [], 0⟩ := by unfold timeT; rw [if_neg (by omega), if_pos h4]
    rw [e]; exact ⟨hm, fun u hu => by simp at hu⟩
  · have e : timeT s who = ⟨(flowR (timeR ⟨s, who, []⟩)).s, (flowR (timeR ⟨s, who, []⟩)).out, 0⟩ := by unfold timeT; rw [if_neg (by omega), if_neg h4]
    have hgr : GoodR ⟨s, who, []⟩ := ⟨hb.1, hb.2⟩
    have := MayR.flow (hgr.time (show s.height < 4 by omega)) (MayR.time (x := ⟨s, who, []⟩) ⟨hm, fun u hu => by simp at hu⟩)
    rw [e]
    exact ⟨this.node, this.out⟩

structure MayC (may : Int → Prop) (c : CrowdS) : Prop where
  nodes : ∀ i, i < 4 → MayN may (c.nodes i)
  net : ∀ x ∈ c.net, x.word.kind = 1 → may x.word.value

theorem MayC.turn {may : Int → Prop} {c : CrowdS} (h : MayC may c) {j : Nat} {t : Turn} (ht : MayR may ⟨t.s, j, t.out⟩) : MayC may { c with nodes := upd c.nodes j t.s, net := sendL j t.out c.net } where
  nodes := fun i hi => by
    show MayN may (upd c.nodes j t.s i)
    by_cases e : i = j
    · subst e; rw [upd_same]; exact ht.node
    · rw [upd_other _ _ e]; exact h.nodes i hi
  net := fun x hx => by
    rcases sendL_mem hx with hx | ⟨g, _⟩
    · exact h.net x hx
    · exact ht.out _ g

theorem MayN.mono {may may' : Int → Prop} (hm : ∀ v, may v → may' v) {s : Node} (h : MayN may s) : MayN may' s := ⟨fun v hv => hm v (h.queue v hv), fun hv => hm _ (h.valid hv), fun k r hi => hm _ (h.calls k r hi), fun k hk => hm _ (h.settled k hk)⟩
theorem MayC.mono {may may' : Int → Prop} (hm : ∀ v, may v → may' v) {c : CrowdS} (h : MayC may c) : MayC may' c := ⟨fun i hi => (h.nodes i hi).mono hm, fun x hx hk => hm _ (h.net x hx hk)⟩

/-- What an act brings in. -/
def brings (a : Act) (r : Reply) (v : Int) : Prop := r.code = 0 ∧ ((a.kind = 1 ∧ v = a.value) ∨ (a.kind = 5 ∧ a.word.kind = 1 ∧ v = a.word.value))

theorem MayC.act {may : Int → Prop} {c : CrowdS} (h : MayC may c) (a : Act) (hb : ∀ v, brings a (actC c a).2 v → may v) : MayC may (actC c a).1 := by
  rcases actC_cases c a with ⟨e, he, _⟩ | ⟨_, he⟩ | ⟨_, _, _, he⟩ | ⟨j, t, w, hj, hz, hm, he, hc⟩
  · rw [he]; exact h
  · rw [he]; exact h
  · rw [he]; exact ⟨h.nodes, fun x hx => h.net x (List.mem_of_mem_eraseIdx hx)⟩
  · rw [he] at hb ⊢
    refine h.turn ?_
    rcases hc with ⟨h1, _, hw, rfl⟩ | ⟨_, _, hw, rfl⟩ | ⟨_, x, hx, _, _, _, hto, hw, rfl⟩ | ⟨h5, _, hf, hw, rfl⟩
    · exact may_submit hz (h.nodes j hj) (hb _ ⟨rfl, .inl ⟨h1, rfl⟩⟩)
    · exact may_time hz (h.nodes j hj)
    · exact may_hear hz (h.nodes j hj) (h.net x hx)
    · exact may_hear hz (h.nodes j hj) fun g => hb _ ⟨rfl, .inr ⟨h5, g, rfl⟩⟩
theorem MayC.do {may : Int → Prop} {c : CrowdS} (h : MayC may c) (a : Act) (hb : ∀ v, brings a (doC c a).2 v → may v) : MayC may (doC c a).1 := by
  unfold doC at hb ⊢
  split
  · exact h
  · rename_i hc
    rw [if_neg hc] at hb
    exact MayC.act (c := c.tick) ⟨h.nodes, h.net⟩ a hb
theorem MayN.new (may : Int → Prop) : MayN may newN' where
  queue := fun v hv => by cases hv
  valid := fun hv => by have : (0 : Int) ≤ -1 := hv; omega
  calls := fun h r hi => by cases hi
  settled := fun h hn => absurd rfl hn
theorem MayC.new (may : Int → Prop) (l : Int) : MayC may (newC l) := ⟨fun _ _ => .new may, fun x hx => by cases hx⟩
/-- What is brought is a value. -/
theorem brings_bd {c : CrowdS} {a : Act} {v : Int} (h : brings a (doC c a).2 v) : 1 ≤ v ∧ v ≤ 9 := by
  obtain ⟨h0, hk⟩ := h
  unfold doC at h0
  split at h0
  · have : (5 : Int) = 0 := h0
    omega
  · rcases actC_cases c.tick a with ⟨e, he, hne⟩ | ⟨h6, he⟩ | ⟨h3, _, _, he⟩ | ⟨j, t, w, hj, hz, hm, he, hc⟩
    · rw [he] at h0; exact absurd h0 hne
    · rcases hk with ⟨g, _⟩ | ⟨g, _⟩ <;> omega
    · rcases hk with ⟨g, _⟩ | ⟨g, _⟩ <;> omega
    · rcases hc with ⟨h1, _, hw, rfl⟩ | ⟨h1, _, hw, rfl⟩ | ⟨h1, x, hx, _, _, _, hto, hw, rfl⟩ | ⟨h1, _, hf, hw, rfl⟩
      · obtain ⟨_, g1, g9, _⟩ := submitT_goes hz
        rcases hk with ⟨_, g⟩ | ⟨g, _⟩
        · omega
        · omega
      · rcases hk with ⟨g, _⟩ | ⟨g, _⟩ <;> omega
      · rcases hk with ⟨g, _⟩ | ⟨g, _⟩ <;> omega
      · have hg := hm.word _ hw
        rcases hk with ⟨g, _⟩ | ⟨_, g, e⟩
        · omega
        · have := hg.prop g; have := hg.value; omega

end Go.W
