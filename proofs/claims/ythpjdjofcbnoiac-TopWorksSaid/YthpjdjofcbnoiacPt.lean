/-
  As long as nobody lies and time does not run out, in plain Lean: crowds.
-/
import Derived.Test.YthpjdjofcbnoiacPs
import Derived.Test.YthpjdjofcbnoiacPf
namespace Go.W

theorem sendW_four (frm : Int) (w : Word) (net : List Letter) : ∀ k, (sendW frm w net k).length ≤ net.length + k
  | 0 => Nat.le_refl _
  | k + 1 => by
    have := sendW_four frm w net k
    simp only [sendW]
    split
    · rw [List.length_append, List.length_singleton]; omega
    · omega
theorem sendL_four (frm : Int) : ∀ (l : List Word) (net : List Letter), (sendL frm l net).length ≤ net.length + 4 * l.length
  | [], net => Nat.le_refl _
  | w :: l, net => by
    have h1 := sendW_four frm w net 4
    have h2 := sendL_four frm l (sendW frm w net 4)
    simp only [sendL, List.foldl_cons, List.length_cons] at h2 ⊢
    omega
theorem sendW_all {frm : Int} {w : Word} {net : List Letter} : ∀ {m : Nat}, net.length + m ≤ 2000 → ∀ {k : Nat}, k < m → (k : Int) ≠ frm → (⟨k, w⟩ : Letter) ∈ sendW frm w net m
  | m + 1, hm, k, hk, hf => by
    have h4 := sendW_four frm w net m
    simp only [sendW]
    by_cases e : k = m
    · subst e
      rw [if_pos (by simp only [Bool.and_eq_true, Bool.not_eq_true', beq_eq_false_iff_ne, decide_eq_true_eq]; exact ⟨hf, by omega⟩)]
      exact List.mem_append.2 (.inr (List.mem_singleton.2 rfl))
    · have ih := sendW_all (frm := frm) (w := w) (net := net) (m := m) (by omega) (k := k) (by omega) hf
      split
      · exact List.mem_append.2 (.inl ih)
      · exact ih
theorem sendL_keep {frm : Int} {x : Letter} {l : List Word} {net : List Letter} (h : x ∈ net) : x ∈ sendL frm l net := by
  obtain ⟨m, e⟩ := sendL_pre frm l net
  rw [e]; exact List.mem_append.2 (.inl h)
theorem sendL_all {frm : Int} {w : Word} : ∀ {l : List Word} {net : List Letter}, net.length + 4 * l.length ≤ 2000 → w ∈ l → ∀ {k : Nat}, k < 4 → (k : Int) ≠ frm → (⟨k, w⟩ : Letter) ∈ sendL frm l net
  | u :: l, net, hl, hw, k, hk, hf => by
    rw [List.length_cons] at hl
    show _ ∈ sendL frm l (sendW frm u net 4)
    have h4 := sendW_four frm u net 4
    rcases List.mem_cons.1 hw with rfl | hw
    · exact sendL_keep (sendW_all (by omega) hk hf)
    · exact sendL_all (by omega) hw hk hf

/-- What was delivered. -/
structure Got (s : Node) (w : Word) : Prop where
  call : w.kind = 1 → w.frm = 0 → ((s.heard 0).calls 0).is = true
  wish : w.kind = 2 → (s.heard 0).wishes 0 w.frm.toNat ≠ 0
  prom : w.kind = 3 → (s.heard 0).promises 0 w.frm.toNat ≠ 0
theorem Got.grows {s s' : Node} {w : Word} (h : Got s w) (hg : Grows (s.heard 0) (s'.heard 0)) : Got s' w := by
  refine ⟨fun e f => ?_, fun e => ?_, fun e => ?_⟩
  · rw [hg.calls 0 (h.call e f)]; exact h.call e f
  · rw [hg.wishes 0 _ (h.wish e)]; exact h.wish e
  · rw [hg.promises 0 _ (h.prom e)]; exact h.prom e
theorem Got.hear {v : Int} {s : Node} {w : Word} (hw : WellW v w) (hv : 1 ≤ v) : Got (hearN s w) w := by
  have e0 : (0 : Nat) = w.height.toNat := by rw [hw.height]; rfl
  have e1 : (0 : Nat) = rOf w := by unfold rOf; rw [hw.round]; rfl
  refine ⟨fun e f => ?_, fun e => ?_, fun e => ?_⟩
  · rw [hearN_calls]
    split
    · rfl
    · rename_i g
      refine Decidable.byContradiction fun n => g ⟨e0, hw.good, e, e1, by simpa using n, ?_⟩
      rw [f, hw.height, hw.round]; rfl
  · rw [hearN_wishes]
    split
    · rw [hw.value]; omega
    · rename_i g
      exact fun n => g ⟨e0, hw.good, e, e1, rfl, n⟩
  · rw [hearN_promises]
    split
    · rw [hw.value]; omega
    · rename_i g
      exact fun n => g ⟨e0, hw.good, e, e1, rfl, n⟩

def sigC (c : CrowdS) : Int := sig (c.nodes 0) + sig (c.nodes 1) + sig (c.nodes 2) + sig (c.nodes 3)
structure WellC (v : Int) (c : CrowdS) : Prop where
  inv : Inv 4 c
  well : ∀ i, i < 4 → Well v (c.nodes i)
  step : ∀ i, i < 4 → Step i (c.nodes i)
  stop : ∀ i : Nat, i < 4 → oneR ⟨c.nodes i, i, []⟩ = none
  net : ∀ x ∈ c.net, WellW v x.word
  call : (((c.nodes 0).heard 0).calls 0).is = true
  calls : ∀ k : Nat, k < 4 → k ≠ 0 → (⟨k, callW v⟩ : Letter) ∈ c.net
  wish : ∀ i, i < 4 → ((c.nodes i).heard 0).wishes 0 i ≠ 0 → ∀ k : Nat, k < 4 → k ≠ i → (⟨k, wishW v i⟩ : Letter) ∈ c.net
  prom : ∀ i, i < 4 → ((c.nodes i).heard 0).promises 0 i ≠ 0 → ∀ k : Nat, k < 4 → k ≠ i → (⟨k, promW v i⟩ : Letter) ∈ c.net
  len : (c.net.length : Int) ≤ 4 + 4 * sigC c

theorem sig_le {s : Node} (h : GoodN s) : sig s ≤ 2 := by have := h.step; unfold sig; split <;> omega
theorem WellC.short {v : Int} {c : CrowdS} (h : WellC v c) : c.net.length ≤ 36 := by
  have := h.len
  have := sig_le (h.inv.good 0 (by omega)); have := sig_le (h.inv.good 1 (by omega)); have := sig_le (h.inv.good 2 (by omega)); have := sig_le (h.inv.good 3 (by omega))
  unfold sigC at *; omega
theorem WellC.of {v : Int} {c c' : CrowdS} (h : WellC v c) (hn : c'.nodes = c.nodes) (hm : c'.net = c.net) : WellC v c' := by
  obtain ⟨n, m, l, a⟩ := c; obtain ⟨n', m', l', a'⟩ := c'
  simp only at hn hm
  subst hn hm
  exact ⟨h.inv.of rfl fun x hx => hx, h.well, h.step, h.stop, h.net, h.call, h.calls, h.wish, h.prom, h.len⟩

/-- What is behind a delivery. -/
structure Next (c c' : CrowdS) (n : Int) : Prop where
  pre : ∃ m, c'.net = c.net ++ m
  grows : ∀ i, Grows ((c.nodes i).heard 0) ((c'.nodes i).heard 0)
  got : ∀ p : Nat, n = p → ∀ x, c.net[p]? = some x → Got (c'.nodes x.to.toNat) x.word

theorem WellC.let {v : Int} (hv : 1 ≤ v ∧ v ≤ 9) {c : CrowdS} (h : WellC v c) (ha : c.acts < 600) (n : Int) : WellC v (doC c (letA n)).1 ∧ Next c (doC c (letA n)).1 n := by
  have hI := h.inv.do (a := letA n) (.inr (by show (2 : Int) ≠ 5; omega))
  rw [doC_let n ha, actC_let] at hI ⊢
  by_cases hr : n < 0 ∨ (c.tick.net.length : Int) ≤ n
  · rw [if_pos hr]
    refine ⟨h.of rfl rfl, ⟨[], by rw [List.append_nil]; rfl⟩, fun i => .refl _, fun p hp x hx => ?_⟩
    have : p < c.net.length := (List.getElem?_eq_some_iff.1 hx).1
    have hr : n < 0 ∨ (c.net.length : Int) ≤ n := hr
    omega
  rw [if_neg hr] at hI ⊢
  have hr : ¬ (n < 0 ∨ (c.net.length : Int) ≤ n) := hr
  have hp : n = (n.toNat : Int) := by omega
  generalize n.toNat = p at hp
  subst hp
  have hpl : p < c.net.length := by omega
  have hgx : c.net[p]? = some c.net[p] := List.getElem?_eq_getElem hpl
  have hgd : c.tick.net.getD ((p : Int)).toNat Letter.zero = c.net[p] := by
    show c.net.getD p Letter.zero = _
    simp [hgx]
  have hmem : c.net[p] ∈ c.net := List.getElem_mem hpl
  rw [hgd] at hI
  have hgd2 : c.tick.net.getD p Letter.zero = c.net[p] := hgd
  rw [hgd2]
  clear hgd hgd2
  generalize c.net[p] = x at hgx hmem hI ⊢
  obtain ⟨k1, k2, k3, k4, k5, _⟩ := h.inv.net x hmem
  have hww := h.net x hmem
  have hj : x.to = (x.to.toNat : Int) := by omega
  have hj4 : x.to.toNat < 4 := by omega
  have hjf : (x.to.toNat : Int) ≠ x.word.frm := by omega
  unfold Act.deliver at hI ⊢
  generalize ej : x.to.toNat = j at hj hj4 hjf hI
  rw [hj] at hI ⊢
  have hgood := h.inv.good j hj4
  have hb : beginE (c.nodes j) j = 0 := by
    unfold beginE
    rw [if_pos ((goodN_iff _).2 hgood), if_neg (by omega)]
  have hgr : GoodR ⟨hearN (c.nodes j) x.word, j, []⟩ := ⟨hgood.hear _, by show (0 : Int) ≤ (j : Int) ∧ (j : Int) < 4; omega⟩
  have ht : hearT (c.nodes j) j x.word = ⟨(flowR ⟨hearN (c.nodes j) x.word, j, []⟩).s, (flowR ⟨hearN (c.nodes j) x.word, j, []⟩).out, 0⟩ := by
    unfold hearT
    rw [if_neg (by rw [hb]; simp), if_neg (by rw [(goodW_iff _).2 hww.good]; simp)]
  have hww2 : x.word.kind ≠ 1 → x.word.frm.toNat ≠ j := fun _ e => hjf (by omega)
  have hR0 : WellR v j (((c.nodes j).heard 0).wishes 0 j ≠ 0) (((c.nodes j).heard 0).promises 0 j ≠ 0) (- (sig (c.nodes j) : Int)) ⟨hearN (c.nodes j) x.word, j, []⟩ := by
    refine ⟨hgr, rfl, (h.well j hj4).hear hww, (h.step j hj4).hear _, fun w hw => absurd hw (List.not_mem_nil), fun hw => Or.inl ?_, fun hw => Or.inl ?_, ?_⟩
    · have hw : ((hearN (c.nodes j) x.word).heard 0).wishes 0 j ≠ 0 := hw
      rwa [hearN_wish_other (fun _ => by omega)] at hw
    · have hw : ((hearN (c.nodes j) x.word).heard 0).promises 0 j ≠ 0 := hw
      rwa [hearN_prom_other (fun _ => by omega)] at hw
    · show (((([] : List Word).length : Nat)) : Int) ≤ (sig (c.nodes j) : Int) + - (sig (c.nodes j) : Int)
      simp only [List.length_nil]; omega
  have hfl := hR0.flow hv hj4
  have had := Adv.flow hgr
  have hgot : Got (flowR ⟨hearN (c.nodes j) x.word, j, []⟩).s x.word := (Got.hear hww hv.1).grows (had.heard 0)
  have hgro : Grows ((c.nodes j).heard 0) ((flowR ⟨hearN (c.nodes j) x.word, j, []⟩).s.heard 0) := (hearN_grows _ _ 0).trans (had.heard 0)
  have hstop := oneR_out [] (s := (flowR ⟨hearN (c.nodes j) x.word, j, []⟩).s) (who := j) (o := (flowR ⟨hearN (c.nodes j) x.word, j, []⟩).out) (by
    have hw : (flowR ⟨hearN (c.nodes j) x.word, j, []⟩).who = (j : Int) := had.who
    have h2 := hfl.2
    generalize flowR ⟨hearN (c.nodes j) x.word, j, []⟩ = y at hw h2
    obtain ⟨s', w', o'⟩ := y
    simp only at hw
    subst hw
    exact h2)
  have hfl := hfl.1
  clear had hgr hR0
  generalize flowR ⟨hearN (c.nodes j) x.word, j, []⟩ = y at ht hfl hgot hgro hstop
  obtain ⟨s', w', o'⟩ := y
  simp only at ht hgot hgro hstop
  have htc : turnC c.tick (j : Int) (hearT (c.tick.nodes j) j x.word) = ({ c.tick with nodes := upd c.nodes j s', net := sendL j o' c.net }, sentR ((sendL j o' c.net).length - c.net.length)) := by
    show turnC c.tick (j : Int) (hearT (c.nodes j) j x.word) = _
    rw [ht]
    unfold turnC
    rw [if_neg (by omega), if_neg (by simp)]
    rfl
  rw [htc] at hI ⊢
  have hshort := h.short
  have hs2 := sig_le hfl.good.s
  have hl := hfl.len
  simp only at hs2 hl
  have hlen2 : c.net.length + 4 * o'.length ≤ 2000 := by omega
  have hs0 := sig_le hgood
  have hx : ∀ {Q : Node → Prop} (i : Nat), Q s' → (i ≠ j → Q (c.nodes i)) → Q (upd c.nodes j s' i) := fun {Q} i h1 h2 => by
    by_cases e : i = j
    · subst e; rw [upd_same]; exact h1
    · rw [upd_other _ _ e]; exact h2 e
  have hgr : ∀ i, Grows ((c.nodes i).heard 0) ((upd c.nodes j s' i).heard 0) := fun i => by
    by_cases e : i = j
    · subst e; rw [upd_same]; exact hgro
    · rw [upd_other _ _ e]; exact .refl _
  refine ⟨⟨hI, fun i hi => ?_, fun i hi => ?_, fun i hi => ?_, fun z hz => ?_, ?_, fun k hk h0 => sendL_keep (h.calls k hk h0), fun i hi hw k hk hki => ?_, fun i hi hw k hk hki => ?_, ?_⟩, ⟨sendL_pre _ _ _, hgr, fun q hq z hz => ?_⟩⟩
  · exact hx (Q := Well v) i hfl.well fun _ => h.well i hi
  · by_cases e : i = j
    · subst e; show Step i (upd c.nodes i s' i); rw [upd_same]; exact hfl.step
    · show Step i (upd c.nodes j s' i); rw [upd_other _ _ e]; exact h.step i hi
  · by_cases e : i = j
    · subst e; show oneR ⟨upd c.nodes i s' i, i, []⟩ = none; rw [upd_same]; exact hstop
    · show oneR ⟨upd c.nodes j s' i, i, []⟩ = none; rw [upd_other _ _ e]; exact h.stop i hi
  · rcases sendL_mem hz with hz | ⟨g, _⟩
    · exact h.net z hz
    · exact hfl.out _ g
  · show (((upd c.nodes j s' 0).heard 0).calls 0).is = true
    rw [(hgr 0).calls 0 h.call]; exact h.call
  · have hw : ((upd c.nodes j s' i).heard 0).wishes 0 i ≠ 0 := hw
    by_cases e : i = j
    · subst e
      rw [upd_same] at hw
      rcases hfl.wish hw with g | g
      · exact sendL_keep (h.wish i hi g k hk hki)
      · exact sendL_all hlen2 g hk (by omega)
    · rw [upd_other _ _ e] at hw
      exact sendL_keep (h.wish i hi hw k hk hki)
  · have hw : ((upd c.nodes j s' i).heard 0).promises 0 i ≠ 0 := hw
    by_cases e : i = j
    · subst e
      rw [upd_same] at hw
      rcases hfl.prom hw with g | g
      · exact sendL_keep (h.prom i hi g k hk hki)
      · exact sendL_all hlen2 g hk (by omega)
    · rw [upd_other _ _ e] at hw
      exact sendL_keep (h.prom i hi hw k hk hki)
  · have h4 := sendL_four (j : Int) o' c.net
    have hl0 := h.len
    have hsg : sigC { c.tick with nodes := upd c.nodes j s', net := sendL j o' c.net } = sigC c - sig (c.nodes j) + sig s' := by
      unfold sigC
      rcases (by omega : j = 0 ∨ j = 1 ∨ j = 2 ∨ j = 3) with rfl | rfl | rfl | rfl
      all_goals
        simp only [upd_same, upd_other _ _ (show (0 : Nat) ≠ 1 by omega), upd_other _ _ (show (0 : Nat) ≠ 2 by omega), upd_other _ _ (show (0 : Nat) ≠ 3 by omega), upd_other _ _ (show (1 : Nat) ≠ 0 by omega), upd_other _ _ (show (1 : Nat) ≠ 2 by omega), upd_other _ _ (show (1 : Nat) ≠ 3 by omega), upd_other _ _ (show (2 : Nat) ≠ 0 by omega), upd_other _ _ (show (2 : Nat) ≠ 1 by omega), upd_other _ _ (show (2 : Nat) ≠ 3 by omega), upd_other _ _ (show (3 : Nat) ≠ 0 by omega), upd_other _ _ (show (3 : Nat) ≠ 1 by omega), upd_other _ _ (show (3 : Nat) ≠ 2 by omega)]
        omega
    rw [hsg]
    show ((sendL j o' c.net).length : Int) ≤ _
    omega
  · have hq : (p : Int) = (q : Int) := hq
    have : p = q := by omega
    subst this
    rw [hgx] at hz
    cases hz
    show Got (upd c.nodes j s' x.to.toNat) x.word
    rw [ej, upd_same]; exact hgot

/-! ### All is delivered -/

theorem oneR_no {x : Run} (h : oneR x = none) (hh : x.s.height < 4) : settleK x.s = none ∧ skipK x.s = none ∧ wishV x.s = none ∧ promR x = none := by
  unfold oneR at h
  rw [if_pos hh] at h
  unfold actR at h
  split at h
  · cases h
  split at h
  · cases h
  split at h
  · cases h
  rename_i h1 _ h2 _ h3
  exact ⟨h1, h2, h3, h⟩
theorem count_four {a b : Nat → Int} (h : ∀ i, i < 4 → a i ≠ 0 → b i = a i) (x : Int) : count a x ≤ count b x := by
  have key : ∀ i, i < 4 → tick a x i ≤ tick b x i := fun i hi => by
    unfold tick
    split
    · rename_i h1
      rw [if_pos (by rw [h i hi (by omega)]; exact h1)]
      omega
    · split <;> omega
  rw [count_tick, count_tick]
  have := key 0 (by omega); have := key 1 (by omega); have := key 2 (by omega); have := key 3 (by omega)
  omega
theorem count_full {a : Nat → Int} {x : Int} (hx : 0 ≤ x) (h : ∀ i, i < 4 → a i = x + 1) : count a x = 4 := by
  have key : ∀ i, i < 4 → tick a x i = 1 := fun i hi => by
    unfold tick; rw [if_pos]; have := h i hi; omega
  rw [count_tick, key 0 (by omega), key 1 (by omega), key 2 (by omega), key 3 (by omega)]
  rfl

structure Done (v : Int) (c : CrowdS) : Prop where
  height : ∀ i, i < 4 → (c.nodes i).height = 1
  settled : ∀ i, i < 4 → (c.nodes i).settled 0 = v

theorem WellC.all {v : Int} (hv : 1 ≤ v ∧ v ≤ 9) {c : CrowdS} (h : WellC v c) (hd : ∀ p : Nat, ∀ x, c.net[p]? = some x → Got (c.nodes x.to.toNat) x.word) : Done v c := by
  have got : ∀ x ∈ c.net, Got (c.nodes x.to.toNat) x.word := fun x hx => by
    obtain ⟨p, hp⟩ := List.mem_iff_getElem?.1 hx
    exact hd p x hp
  have hcall : ∀ k, k < 4 → (((c.nodes k).heard 0).calls 0).is = true := fun k hk => by
    by_cases e : k = 0
    · subst e; exact h.call
    · exact (got _ (h.calls k hk e)).call rfl rfl
  have hcallv : ∀ k, k < 4 → ((c.nodes k).heard 0).calls 0 = ⟨true, v, -1⟩ := fun k hk => ((h.well k hk).call 0 0 (hcall k hk)).2.2
  have hwish : ∀ i, i < 4 → ((c.nodes i).heard 0).wishes 0 i ≠ 0 → ∀ k, k < 4 → ((c.nodes k).heard 0).wishes 0 i = v + 1 := fun i hi hw k hk => by
    refine ((h.well k hk).wish 0 0 i ?_).2.2
    by_cases e : k = i
    · subst e; exact hw
    · exact (got _ (h.wish i hi hw k hk e)).wish rfl
  have hprom : ∀ i, i < 4 → ((c.nodes i).heard 0).promises 0 i ≠ 0 → ∀ k, k < 4 → ((c.nodes k).heard 0).promises 0 i = v + 1 := fun i hi hw k hk => by
    refine ((h.well k hk).prom 0 0 i ?_).2.2
    by_cases e : k = i
    · subst e; exact hw
    · exact (got _ (h.prom i hi hw k hk e)).prom rfl
  have hA : ∀ k, k < 4 → 3 ≤ count (((c.nodes k).heard 0).promises 0) v → (c.nodes k).height = 1 := fun k hk h3 => by
    rcases (h.well k hk).height with h0 | h1
    · exfalso
      have hs := (oneR_no (h.stop k hk) (by show (c.nodes k).height < 4; omega)).1
      have hs : settleK (c.nodes k) = none := hs
      unfold settleK at hs
      have hp := firstN_none.1 hs 0 (by omega)
      have hcur : (c.nodes k).cur = (c.nodes k).heard 0 := by unfold Node.cur; rw [h0]; rfl
      have hm := mostV_eq h3 (by omega) hv.2
      unfold promised at hp
      rw [hcur, hm.1, hm.2, hcallv k hk] at hp
      have : ¬ (v == 0) = true := by simp; omega
      simp [this] at hp
    · exact h1
  have hB : (∃ i, i < 4 ∧ (c.nodes i).height = 1) → ∀ k, k < 4 → (c.nodes k).height = 1 := fun ⟨i, hi, h1⟩ k hk => by
    refine hA k hk (Int.le_trans ((h.well i hi).done h1).2.2.2 (count_four (fun j hj hn => ?_) v))
    have e1 := h.inv.promises i j hi hj (by omega) 0 0 hn
    have e2 := ((h.well i hi).prom 0 0 j hn).2.2
    rw [e2]
    exact hprom j hj (by omega) k hk
  have hall : ∀ k, k < 4 → (c.nodes k).height = 1 := by
    refine Decidable.byContradiction fun hno => ?_
    have h0 : ∀ k, k < 4 → (c.nodes k).height = 0 := fun k hk => by
      rcases (h.well k hk).height with g | g
      · exact g
      · exact absurd (hB ⟨k, hk, g⟩) hno
    have hcur : ∀ k, k < 4 → (c.nodes k).cur = (c.nodes k).heard 0 := fun k hk => by unfold Node.cur; rw [h0 k hk]; rfl
    have hst : ∀ k, k < 4 → (c.nodes k).step ≠ 0 := fun k hk e => by
      have hs := (oneR_no (h.stop k hk) (by show (c.nodes k).height < 4; have := h0 k hk; omega)).2.2.1
      have hs : wishV (c.nodes k) = none := hs
      unfold wishV at hs
      simp only [hcur k hk, (h.well k hk).round, e] at hs
      rw [show ((0 : Int)).toNat = 0 from rfl, hcallv k hk] at hs
      simp at hs
    have hw4 : ∀ k, k < 4 → ∀ i, i < 4 → ((c.nodes k).heard 0).wishes 0 i = v + 1 := fun k hk i hi => hwish i hi ((h.step i hi).step1 (h0 i hi) (hst i hi)) k hk
    have hst2 : ∀ k, k < 4 → (c.nodes k).step = 2 := fun k hk => Decidable.byContradiction fun e => by
      have hs := (oneR_no (h.stop k hk) (by show (c.nodes k).height < 4; have := h0 k hk; omega)).2.2.2
      have hm := mostV_eq (v := ((c.nodes k).heard 0).wishes 0) (x := v) (by rw [count_full (by omega) (hw4 k hk)]; omega) (by omega) hv.2
      have hg := (h.inv.good k hk).step
      have e1 : (c.nodes k).step = 1 := by have := hst k hk; omega
      unfold promR at hs
      simp only [hcur k hk, (h.well k hk).round, e1] at hs
      rw [show ((0 : Int)).toNat = 0 from rfl, hm.1, hm.2, hcallv k hk, (h.step k hk).seen (h0 k hk) (by omega)] at hs
      have hv0 : (v == 0) = false := by simp; omega
      simp [hv0] at hs
    have hp4 : ∀ k, k < 4 → ∀ i, i < 4 → ((c.nodes k).heard 0).promises 0 i = v + 1 := fun k hk i hi => hprom i hi ((h.step i hi).step2 (h0 i hi) (hst2 i hi)) k hk
    have := hA 0 (by omega) (by rw [count_full (by omega) (hp4 0 (by omega))]; omega)
    have := h0 0 (by omega)
    omega
  exact ⟨hall, fun i hi => ((h.well i hi).done (hall i hi)).2.2.1⟩

/-! ### The beginning -/

/-- A value is submitted at node 0. -/
def subA (v : Int) : Act := ⟨1, 0, 0, v, .zero, fun _ => 0⟩
theorem WellC.new {v : Int} (hv : 1 ≤ v ∧ v ≤ 9) (liar : Int) : WellC v (doC (newC liar) (subA v)).1 := by
  have hI := (Inv.new 4 liar).do (a := subA v) (.inr (by show (1 : Int) ≠ 5; omega))
  have hgn : GoodN newN' := (Inv.new 4 liar).good 0 (by omega)
  have hgp : GoodN (pushQ newN' v) := hgn.push hv.1 hv.2 (by decide)
  have hgr : GoodR ⟨pushQ newN' v, (0 : Nat), []⟩ := ⟨hgp, by show (0 : Int) ≤ ((0 : Nat) : Int) ∧ ((0 : Nat) : Int) < 4; omega⟩
  have hst : startR ⟨pushQ newN' v, (0 : Nat), []⟩ 0 = ⟨hearN (atRound (pushQ newN' v) 0) (callW v), (0 : Nat), [callW v]⟩ := rfl
  have hgs := hgr.start (k := 0) (by show (0 : Int) ≤ 0; omega) (by omega)
  rw [hst] at hgs
  have hww := callW_well hv
  have hw0 : Well v (atRound (pushQ newN' v) 0) := ⟨.inl rfl, rfl, fun h r e => (by cases e), fun h r j e => absurd rfl e, fun h r j e => absurd rfl e, fun q hq => by
    have hq : q ∈ [v] := hq
    exact ⟨List.mem_singleton.1 hq, rfl⟩, fun e => absurd e (by show ¬ (0 : Int) ≤ -1; omega), fun e => absurd e (by show ¬ (0 : Int) = 1; omega)⟩
  have hs0 : Step 0 (atRound (pushQ newN' v) 0) := ⟨fun _ e => absurd rfl e, fun _ e => absurd e (by show ¬ (0 : Int) = 2; omega), fun _ _ => rfl⟩
  have hR0 : WellR v 0 False False 1 ⟨hearN (atRound (pushQ newN' v) 0) (callW v), (0 : Nat), [callW v]⟩ := by
    refine ⟨hgs, rfl, hw0.hear hww, hs0.hear _, fun w hw => by rw [List.mem_singleton.1 hw]; exact hww, fun hw => ?_, fun hw => ?_, ?_⟩
    · have hw : ((hearN (atRound (pushQ newN' v) 0) (callW v)).heard 0).wishes 0 0 ≠ 0 := hw
      rw [hearN_wish_other (fun e => absurd e (by show ¬ (1 : Int) = 2; omega))] at hw
      exact absurd rfl hw
    · have hw : ((hearN (atRound (pushQ newN' v) 0) (callW v)).heard 0).promises 0 0 ≠ 0 := hw
      rw [hearN_prom_other (fun e => absurd e (by show ¬ (1 : Int) = 3; omega))] at hw
      exact absurd rfl hw
    · show ((1 : Nat) : Int) ≤ (sig (hearN (atRound (pushQ newN' v) 0) (callW v)) : Int) + 1
      omega
  have hfl := hR0.flow hv (by omega)
  have had := Adv.flow hgs
  have hb : beginE newN' 0 = 0 := by
    unfold beginE
    rw [if_pos ((goodN_iff _).2 hgn), if_neg (by omega)]
  have hsub : submitT newN' 0 v = ⟨(flowR ⟨hearN (atRound (pushQ newN' v) 0) (callW v), (0 : Nat), [callW v]⟩).s, (flowR ⟨hearN (atRound (pushQ newN' v) 0) (callW v), (0 : Nat), [callW v]⟩).out, 0⟩ := by
    unfold submitT
    rw [if_neg (by rw [hb]; simp), if_neg (by omega), if_neg (by decide)]
    have e2 : startR ⟨{ newN' with queue := newN'.queue ++ [v] }, 0, []⟩ newN'.round = ⟨hearN (atRound (pushQ newN' v) 0) (callW v), (0 : Nat), [callW v]⟩ := rfl
    have e3 : submitR newN' 0 v = flowR ⟨hearN (atRound (pushQ newN' v) 0) (callW v), (0 : Nat), [callW v]⟩ := by
      unfold submitR
      simp only []
      rw [if_pos ⟨by decide, by decide⟩, e2]
    rw [e3]
  have hcl : (((hearN (atRound (pushQ newN' v) 0) (callW v)).heard 0).calls 0).is = true := (Got.hear hww hv.1).call rfl rfl
  have hc1 : (((flowR ⟨hearN (atRound (pushQ newN' v) 0) (callW v), (0 : Nat), [callW v]⟩).s.heard 0).calls 0).is = true := by
    have := (had.heard 0).calls 0 hcl
    rw [this]; exact hcl
  have hstop := oneR_out [] (s := (flowR ⟨hearN (atRound (pushQ newN' v) 0) (callW v), (0 : Nat), [callW v]⟩).s) (who := (0 : Nat)) (o := (flowR ⟨hearN (atRound (pushQ newN' v) 0) (callW v), (0 : Nat), [callW v]⟩).out) (by
    have hw : (flowR ⟨hearN (atRound (pushQ newN' v) 0) (callW v), (0 : Nat), [callW v]⟩).who = ((0 : Nat) : Int) := had.who
    have h2 := hfl.2
    generalize flowR ⟨hearN (atRound (pushQ newN' v) 0) (callW v), (0 : Nat), [callW v]⟩ = y at hw h2
    obtain ⟨s', w', o'⟩ := y
    simp only at hw
    subst hw
    exact h2)
  have hfl := hfl.1
  obtain ⟨o1, ho1, _⟩ := had.out
  clear had hgs hR0
  generalize flowR ⟨hearN (atRound (pushQ newN' v) 0) (callW v), (0 : Nat), [callW v]⟩ = y at hsub hfl hstop hc1 ho1
  obtain ⟨s', w', o'⟩ := y
  simp only at hsub hstop hc1 ho1
  have hdo : doC (newC liar) (subA v) = ({ (newC liar).tick with nodes := upd (fun _ => newN') 0 s', net := sendL 0 o' [] }, sentR ((sendL 0 o' []).length - ([] : List Letter).length)) := by
    unfold doC
    rw [if_neg (by show ¬ (600 : Int) ≤ 0; omega)]
    unfold actC
    rw [if_pos (show (subA v).kind = 1 from rfl)]
    have e1 : Act.submit (newC liar).tick (subA v) = turnC (newC liar).tick 0 (submitT newN' 0 v) := rfl
    rw [e1, hsub]
    unfold turnC
    rw [if_neg (by omega), if_neg (by simp)]
    rfl
  rw [hdo] at hI ⊢
  have hs2 := sig_le hfl.good.s
  have hl := hfl.len
  simp only at hs2 hl
  have hlen2 : ([] : List Letter).length + 4 * o'.length ≤ 2000 := by simp only [List.length_nil]; omega
  have hnn : Well v newN' := ⟨.inl rfl, rfl, fun h r e => (by cases e), fun h r j e => absurd rfl e, fun h r j e => absurd rfl e, fun q hq => absurd hq (List.not_mem_nil), fun e => absurd e (by decide), fun e => absurd e (by decide)⟩
  have hns : ∀ i, Step i newN' := fun i => ⟨fun _ e => absurd rfl e, fun _ e => absurd e (by decide), fun _ _ => rfl⟩
  have hno : ∀ i : Nat, i < 4 → oneR ⟨newN', i, []⟩ = none := fun i hi => rfl
  refine ⟨hI, fun i hi => ?_, fun i hi => ?_, fun i hi => ?_, fun z hz => ?_, ?_, fun k hk h0 => ?_, fun i hi hw k hk hki => ?_, fun i hi hw k hk hki => ?_, ?_⟩
  · show Well v (upd (fun _ => newN') 0 s' i)
    by_cases e : i = 0
    · subst e; rw [upd_same]; exact hfl.well
    · rw [upd_other _ _ e]; exact hnn
  · show Step i (upd (fun _ => newN') 0 s' i)
    by_cases e : i = 0
    · subst e; rw [upd_same]; exact hfl.step
    · rw [upd_other _ _ e]; exact hns i
  · show oneR ⟨upd (fun _ => newN') 0 s' i, i, []⟩ = none
    by_cases e : i = 0
    · subst e; rw [upd_same]; exact hstop
    · rw [upd_other _ _ e]; exact hno i hi
  · rcases sendL_mem hz with hz | ⟨g, _⟩
    · cases hz
    · exact hfl.out _ g
  · show (((upd (fun _ => newN') 0 s' 0).heard 0).calls 0).is = true
    rw [upd_same]; exact hc1
  · exact sendL_all hlen2 (by rw [ho1]; exact List.mem_append.2 (.inl (List.mem_singleton.2 rfl))) hk (by omega)
  · have hw : ((upd (fun _ => newN') 0 s' i).heard 0).wishes 0 i ≠ 0 := hw
    by_cases e : i = 0
    · subst e
      rw [upd_same] at hw
      rcases hfl.wish hw with g | g
      · exact g.elim
      · exact sendL_all hlen2 g hk (by omega)
    · rw [upd_other _ _ e] at hw
      exact absurd rfl hw
  · have hw : ((upd (fun _ => newN') 0 s' i).heard 0).promises 0 i ≠ 0 := hw
    by_cases e : i = 0
    · subst e
      rw [upd_same] at hw
      rcases hfl.prom hw with g | g
      · exact g.elim
      · exact sendL_all hlen2 g hk (by omega)
    · rw [upd_other _ _ e] at hw
      exact absurd rfl hw
  · have h4 := sendL_four 0 o' []
    have hsg : sigC { (newC liar).tick with nodes := upd (fun _ => newN') 0 s', net := sendL 0 o' [] } = sig s' := by
      unfold sigC
      simp only [upd_same, upd_other _ _ (show (1 : Nat) ≠ 0 by omega), upd_other _ _ (show (2 : Nat) ≠ 0 by omega), upd_other _ _ (show (3 : Nat) ≠ 0 by omega)]
      have : sig newN' = 0 := rfl
      rw [this]; omega
    rw [hsg]
    show ((sendL 0 o' []).length : Int) ≤ _
    simp only [List.length_nil] at h4
    omega

end Go.W
