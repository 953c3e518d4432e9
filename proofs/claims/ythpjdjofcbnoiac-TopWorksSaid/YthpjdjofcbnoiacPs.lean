/-
  As long as nobody lies and time does not run out, in plain Lean: nodes and runs.
-/
import Derived.Test.YthpjdjofcbnoiacPq
import Derived.Test.YthpjdjofcbnoiacPj
namespace Go.W

/-- What node i is where all goes well; v: what was submitted. -/
structure Well (v : Int) (s : Node) : Prop where
  height : s.height = 0 ∨ s.height = 1
  round : s.round = 0
  call : ∀ h r, ((s.heard h).calls r).is = true → h = 0 ∧ r = 0 ∧ (s.heard h).calls r = ⟨true, v, -1⟩
  wish : ∀ h r j, (s.heard h).wishes r j ≠ 0 → h = 0 ∧ r = 0 ∧ (s.heard h).wishes r j = v + 1
  prom : ∀ h r j, (s.heard h).promises r j ≠ 0 → h = 0 ∧ r = 0 ∧ (s.heard h).promises r j = v + 1
  queue : ∀ q ∈ s.queue, q = v ∧ s.height = 0
  bound : 0 ≤ s.boundIn → s.bound = v
  done : s.height = 1 → s.validIn < 0 ∧ s.step = 0 ∧ s.settled 0 = v ∧ 3 ≤ count ((s.heard 0).promises 0) v
/-- What it has said of the first height. -/
structure Step (i : Nat) (s : Node) : Prop where
  step1 : s.height = 0 → s.step ≠ 0 → (s.heard 0).wishes 0 i ≠ 0
  step2 : s.height = 0 → s.step = 2 → (s.heard 0).promises 0 i ≠ 0
  seen : s.height = 0 → s.step ≠ 2 → s.seen 0 = false

structure WellW (v : Int) (w : Word) : Prop where
  good : GoodW w
  height : w.height = 0
  round : w.round = 0
  value : w.value = v
  valid : w.kind = 1 → w.valid = -1
def wishW (v : Int) (i : Nat) : Word := ⟨2, i, 0, 0, v, 0⟩
def promW (v : Int) (i : Nat) : Word := ⟨3, i, 0, 0, v, 0⟩
def callW (v : Int) : Word := ⟨1, 0, 0, 0, v, -1⟩
theorem wishW_well {v : Int} {i : Nat} (hv : 1 ≤ v ∧ v ≤ 9) (hi : i < 4) : WellW v (wishW v i) :=
  ⟨⟨by simp [wishW], by simp [wishW]; omega, by simp [wishW], by simp [wishW], by simp [wishW]; omega, fun h => absurd h (by simp [wishW]), fun _ => rfl⟩, rfl, rfl, rfl, fun h => absurd h (by simp [wishW])⟩
theorem promW_well {v : Int} {i : Nat} (hv : 1 ≤ v ∧ v ≤ 9) (hi : i < 4) : WellW v (promW v i) :=
  ⟨⟨by simp [promW], by simp [promW]; omega, by simp [promW], by simp [promW], by simp [promW]; omega, fun h => absurd h (by simp [promW]), fun _ => rfl⟩, rfl, rfl, rfl, fun h => absurd h (by simp [promW])⟩
theorem callW_well {v : Int} (hv : 1 ≤ v ∧ v ≤ 9) : WellW v (callW v) :=
  ⟨⟨by simp [callW], by simp [callW], by simp [callW], by simp [callW], by simp [callW]; omega, fun _ => by simp [callW]; omega, fun h => absurd rfl h⟩, rfl, rfl, rfl, fun _ => rfl⟩

theorem Well.hear {v : Int} {s : Node} (h : Well v s) {w : Word} (hw : WellW v w) : Well v (hearN s w) where
  height := h.height
  round := h.round
  call := fun k r hi => by
    rw [hearN_calls] at hi ⊢
    split
    · rename_i g
      obtain ⟨g1, _, g3, g4, _⟩ := g
      refine ⟨by rw [g1, hw.height]; rfl, by rw [g4]; unfold rOf; rw [hw.round]; rfl, ?_⟩
      rw [hw.value, hw.valid g3]
    · rename_i g; rw [if_neg g] at hi; exact h.call k r hi
  wish := fun k r j hi => by
    rw [hearN_wishes] at hi ⊢
    split
    · rename_i g
      obtain ⟨g1, _, g3, g4, _⟩ := g
      refine ⟨by rw [g1, hw.height]; rfl, by rw [g4]; unfold rOf; rw [hw.round]; rfl, ?_⟩
      rw [hw.value]
    · rename_i g; rw [if_neg g] at hi; exact h.wish k r j hi
  prom := fun k r j hi => by
    rw [hearN_promises] at hi ⊢
    split
    · rename_i g
      obtain ⟨g1, _, g3, g4, _⟩ := g
      refine ⟨by rw [g1, hw.height]; rfl, by rw [g4]; unfold rOf; rw [hw.round]; rfl, ?_⟩
      rw [hw.value]
    · rename_i g; rw [if_neg g] at hi; exact h.prom k r j hi
  queue := h.queue
  bound := h.bound
  done := fun e => by
    obtain ⟨d1, d2, d3, d4⟩ := h.done e
    refine ⟨d1, d2, d3, Int.le_trans d4 (count_grows (fun i hi => (hearN_grows s w 0).promises 0 i hi) v)⟩
theorem Step.hear {i : Nat} {s : Node} (h : Step i s) (w : Word) : Step i (hearN s w) where
  step1 := fun e1 e2 => by
    have := h.step1 e1 e2
    rw [(hearN_grows s w 0).wishes 0 i this]; exact this
  step2 := fun e1 e2 => by
    have := h.step2 e1 e2
    rw [(hearN_grows s w 0).promises 0 i this]; exact this
  seen := h.seen

def sig (s : Node) : Nat := if s.height = 0 then s.step.toNat else 2

/-- A run of node i that goes well, from a node in which a0 and b0 said whether it has wished, promised. -/
structure WellR (v : Int) (i : Nat) (a0 b0 : Prop) (n0 : Int) (x : Run) : Prop where
  good : GoodR x
  who : x.who = i
  well : Well v x.s
  step : Step i x.s
  out : ∀ w ∈ x.out, WellW v w
  wish : (x.s.heard 0).wishes 0 i ≠ 0 → a0 ∨ wishW v i ∈ x.out
  prom : (x.s.heard 0).promises 0 i ≠ 0 → b0 ∨ promW v i ∈ x.out
  len : (x.out.length : Int) ≤ sig x.s + n0

theorem mem_app {w : Word} {l m : List Word} (h : w ∈ l) : w ∈ l ++ m := List.mem_append.2 (.inl h)

theorem WellR.one {v : Int} {i : Nat} {a0 b0 : Prop} {n0 : Int} (hv : 1 ≤ v ∧ v ≤ 9) (hi : i < 4) {x y : Run} (h : WellR v i a0 b0 n0 x) (hy : oneR x = some y) : WellR v i a0 b0 n0 y := by
  have hgy := h.good.one hy
  have hwd := h.well
  obtain ⟨hh, hc⟩ := oneR_cases hy
  have hcall : (x.s.cur.calls x.s.round.toNat).is = true → x.s.height = 0 ∧ x.s.cur.calls x.s.round.toNat = ⟨true, v, -1⟩ := fun e => by
    have := hwd.call _ _ e
    refine ⟨?_, this.2.2⟩
    have := hwd.height
    omega
  rcases hc with ⟨k, hk, rfl⟩ | ⟨k, _, hk, rfl⟩ | ⟨u, _, _, hu, rfl⟩ | ⟨_, _, _, hp⟩
  · obtain ⟨p1, p2, p3, p4, p5⟩ := promised_iff (settleK_some hk).2
    obtain ⟨q1, q2, q3⟩ := hwd.call _ _ p4
    have h0 : x.s.height = 0 := by have := hwd.height; omega
    subst q2
    have hm := mostV_of p1
    have hmv : mostV (x.s.cur.promises 0) = v := by rw [← p5]; show ((x.s.heard _).calls 0).value = v; rw [q3]
    rw [hmv] at hm hgy ⊢
    have hq : x.s.queue.filter (fun q => !(q == v)) = [] := List.filter_eq_nil_iff.2 fun q hq => by simp [(hwd.queue q hq).1]
    have hpr : proposal (settleS x.s v) = none := by
      unfold proposal settleS
      simp only [hq]
      rfl
    have e : settleR x v = ⟨atRound (settleS x.s v) 0, x.who, x.out⟩ := by
      unfold settleR
      rw [if_pos (by omega)]
      rcases startR_cases ⟨settleS x.s v, x.who, x.out⟩ 0 with e | ⟨a, b, _, hp, _⟩
      · exact e
      · have hp : proposal (settleS x.s v) = some (a, b) := hp
        rw [hpr] at hp; cases hp
    rw [e] at hgy ⊢
    have eh : (atRound (settleS x.s v) 0).height = 1 := by show x.s.height + 1 = 1; omega
    have ht : x.s.height.toNat = 0 := by omega
    have hcur : x.s.cur = x.s.heard 0 := by unfold Node.cur; rw [ht]
    have hq' : (atRound (settleS x.s v) 0).queue = [] := hq
    refine ⟨hgy, h.who, ⟨.inr eh, rfl, hwd.call, hwd.wish, hwd.prom, fun q hq => ?_, fun hb => absurd hb (by show ¬ (0 : Int) ≤ -1; omega), fun _ => ⟨by show (-1 : Int) < 0; omega, rfl, ?_, ?_⟩⟩, ⟨fun e0 => absurd (eh.symm.trans e0) (by decide), fun e0 => absurd (eh.symm.trans e0) (by decide), fun e0 => absurd (eh.symm.trans e0) (by decide)⟩, h.out, h.wish, h.prom, ?_⟩
    · have hq : q ∈ (atRound (settleS x.s v) 0).queue := hq
      rw [hq'] at hq; cases hq
    · show upd x.s.settled x.s.height.toNat v 0 = v
      rw [ht, upd_same]
    · show 3 ≤ count ((x.s.heard 0).promises 0) v
      rw [← hcur]; exact hm.1
    · show (x.out.length : Int) ≤ sig (atRound (settleS x.s v) 0) + n0
      have hl := h.len
      have hst := h.good.s.step
      unfold sig at hl ⊢
      rw [if_pos h0] at hl
      rw [if_neg (by omega)]
      omega
  · exfalso
    obtain ⟨k6, k1, k2⟩ := skipK_some hk
    rw [hwd.round] at k1
    have hz : ∀ j, spoke x.s.cur ((k : Int)).toNat j = false := fun j => by
      unfold spoke
      have w1 : x.s.cur.wishes ((k : Int)).toNat j = 0 := Decidable.byContradiction fun g => by have := (hwd.wish _ _ _ g).2.1; omega
      have w2 : x.s.cur.promises ((k : Int)).toNat j = 0 := Decidable.byContradiction fun g => by have := (hwd.prom _ _ _ g).2.1; omega
      rw [w1, w2]; rfl
    have hN0 : ∀ n, hN x.s.cur ((k : Int)).toNat n = 0 := fun n => by
      induction n with
      | zero => rfl
      | succ n ih => simp only [hN, ih, hz n]; rfl
    unfold heard at k2
    split at k2
    · omega
    · rw [hN0] at k2; omega
  · obtain ⟨w1, w2, _, w4⟩ := wishV_cases hu
    obtain ⟨h0, hc⟩ := hcall w2
    have huv : u = v := by
      rw [w4, hc]
      have : freeB x.s ⟨true, v, -1⟩ = true := by
        unfold freeB
        rw [if_neg (by show ¬ (0 : Int) ≤ -1; omega)]
        by_cases hb : x.s.boundIn < 0
        · simp [hb]
        · simp [hwd.bound (by omega)]
      rw [if_pos this]
    subst huv
    have ew : wordOf ⟨{ x.s with step := 1 }, x.who, x.out⟩ 2 u 0 = wishW u i := by
      show (⟨2, x.who, x.s.height, x.s.round, u, 0⟩ : Word) = ⟨2, i, 0, 0, u, 0⟩
      rw [h.who, h0, hwd.round]
    have hww := wishW_well hv hi
    have hs' : Well u { x.s with step := 1 } := ⟨hwd.height, hwd.round, hwd.call, hwd.wish, hwd.prom, hwd.queue, hwd.bound, fun e => by have e : x.s.height = 1 := e; omega⟩
    show WellR u i a0 b0 n0 ⟨hearN { x.s with step := 1 } (wordOf ⟨{ x.s with step := 1 }, x.who, x.out⟩ 2 u 0), x.who, x.out ++ [wordOf ⟨{ x.s with step := 1 }, x.who, x.out⟩ 2 u 0]⟩
    have hgy : GoodR ⟨hearN { x.s with step := 1 } (wordOf ⟨{ x.s with step := 1 }, x.who, x.out⟩ 2 u 0), x.who, x.out ++ [wordOf ⟨{ x.s with step := 1 }, x.who, x.out⟩ 2 u 0]⟩ := hgy
    rw [ew] at hgy ⊢
    have hown : ((hearN { x.s with step := 1 } (wishW u i)).heard 0).wishes 0 i ≠ 0 := by
      rw [hearN_wishes]
      split
      · show u + 1 ≠ 0; omega
      · rename_i g
        intro e
        exact g ⟨rfl, hww.good, rfl, rfl, rfl, e⟩
    refine ⟨hgy, h.who, hs'.hear hww, ⟨fun _ _ => hown, fun _ e2 => absurd e2 (by show ¬ (1 : Int) = 2; omega), fun e1 _ => h.step.seen e1 (by omega)⟩, fun w hw => ?_, fun _ => .inr (List.mem_append.2 (.inr (List.mem_singleton.2 rfl))), fun hp => ?_, ?_⟩
    · rcases List.mem_append.1 hw with hw | hw
      · exact h.out w hw
      · rw [List.mem_singleton.1 hw]; exact hww
    · have hp : ((hearN { x.s with step := 1 } (wishW u i)).heard 0).promises 0 i ≠ 0 := hp
      rw [hearN_promises, if_neg (fun g => absurd g.2.2.1 (by show ¬ (2 : Int) = 3; omega))] at hp
      exact (h.prom hp).imp id mem_app
    · have hl := h.len
      show ((x.out ++ [wishW u i]).length : Int) ≤ sig (hearN { x.s with step := 1 } (wishW u i)) + n0
      unfold sig at hl ⊢
      rw [if_pos h0] at hl
      rw [if_pos (show (hearN { x.s with step := 1 } (wishW u i)).height = 0 from h0)]
      show ((x.out ++ [wishW u i]).length : Int) ≤ ((1 : Int).toNat : Nat) + n0
      rw [List.length_append, List.length_singleton]
      rw [w1] at hl
      have : (0 : Int).toNat = 0 := rfl
      have : (1 : Int).toNat = 1 := rfl
      omega
  · obtain ⟨u, hm, rfl, hst, hcc⟩ := promR_cases hp
    have hm1 := mostV_of hm
    have hnz : ∃ j, x.s.cur.wishes x.s.round.toNat j ≠ 0 := by
      have : 0 < count (x.s.cur.wishes x.s.round.toNat) (mostV (x.s.cur.wishes x.s.round.toNat)) := by omega
      rw [count_tick] at this
      rcases (by omega : 0 < tick (x.s.cur.wishes x.s.round.toNat) (mostV (x.s.cur.wishes x.s.round.toNat)) 0 ∨ 0 < tick (x.s.cur.wishes x.s.round.toNat) (mostV (x.s.cur.wishes x.s.round.toNat)) 1 ∨ 0 < tick (x.s.cur.wishes x.s.round.toNat) (mostV (x.s.cur.wishes x.s.round.toNat)) 2 ∨ 0 < tick (x.s.cur.wishes x.s.round.toNat) (mostV (x.s.cur.wishes x.s.round.toNat)) 3) with g | g | g | g
      all_goals exact ⟨_, Int.ne_of_gt (tick_one g).1⟩
    obtain ⟨j, hj⟩ := hnz
    have hjw := hwd.wish _ _ _ hj
    have h0 : x.s.height = 0 := by have := hwd.height; omega
    have hmv : mostV (x.s.cur.wishes x.s.round.toNat) = v := by
      have hc3 := hm1.1
      rw [count_tick] at hc3
      have key : ∀ j, 0 < tick (x.s.cur.wishes x.s.round.toNat) (mostV (x.s.cur.wishes x.s.round.toNat)) j → mostV (x.s.cur.wishes x.s.round.toNat) = v := fun j g => by
        have g := tick_one g
        have := (hwd.wish x.s.height.toNat x.s.round.toNat j (by show x.s.cur.wishes _ _ ≠ 0; omega)).2.2
        have : x.s.cur.wishes x.s.round.toNat j = v + 1 := this
        omega
      have b0 := tick_bd (x.s.cur.wishes x.s.round.toNat) (mostV (x.s.cur.wishes x.s.round.toNat)) 0
      have b1 := tick_bd (x.s.cur.wishes x.s.round.toNat) (mostV (x.s.cur.wishes x.s.round.toNat)) 1
      rcases (by omega : 0 < tick (x.s.cur.wishes x.s.round.toNat) (mostV (x.s.cur.wishes x.s.round.toNat)) 0 ∨ 0 < tick (x.s.cur.wishes x.s.round.toNat) (mostV (x.s.cur.wishes x.s.round.toNat)) 1 ∨ 0 < tick (x.s.cur.wishes x.s.round.toNat) (mostV (x.s.cur.wishes x.s.round.toNat)) 2 ∨ 0 < tick (x.s.cur.wishes x.s.round.toNat) (mostV (x.s.cur.wishes x.s.round.toNat)) 3) with g | g | g | g
      all_goals exact key _ g
    rw [hmv] at hcc
    have hst2 := h.good.s.step
    have hseen : x.s.step ≠ 2 → x.s.seen 0 = false := h.step.seen h0
    rcases hcc with ⟨g, _, _⟩ | ⟨_, _, _, gs, ⟨hs, rfl⟩ | ⟨hs, rfl⟩⟩
    · omega
    · have ew : wordOf ⟨bindS (seeS x.s v) v, x.who, x.out⟩ 3 v 0 = promW v i := by
        show (⟨3, x.who, x.s.height, x.s.round, v, 0⟩ : Word) = ⟨3, i, 0, 0, v, 0⟩
        rw [h.who, h0, hwd.round]
      have hww := promW_well hv hi
      have hs' : Well v (bindS (seeS x.s v) v) := ⟨hwd.height, hwd.round, hwd.call, hwd.wish, hwd.prom, hwd.queue, fun _ => rfl, fun e => by have e : x.s.height = 1 := e; omega⟩
      show WellR v i a0 b0 n0 ⟨hearN (bindS (seeS x.s v) v) (wordOf ⟨bindS (seeS x.s v) v, x.who, x.out⟩ 3 v 0), x.who, x.out ++ [wordOf ⟨bindS (seeS x.s v) v, x.who, x.out⟩ 3 v 0]⟩
      have hgy : GoodR ⟨hearN (bindS (seeS x.s v) v) (wordOf ⟨bindS (seeS x.s v) v, x.who, x.out⟩ 3 v 0), x.who, x.out ++ [wordOf ⟨bindS (seeS x.s v) v, x.who, x.out⟩ 3 v 0]⟩ := hgy
      rw [ew] at hgy ⊢
      have hown : ((hearN (bindS (seeS x.s v) v) (promW v i)).heard 0).promises 0 i ≠ 0 := by
        rw [hearN_promises]
        split
        · show v + 1 ≠ 0; omega
        · rename_i g
          intro e
          exact g ⟨rfl, hww.good, rfl, rfl, rfl, e⟩
      have hwish : ((hearN (bindS (seeS x.s v) v) (promW v i)).heard 0).wishes 0 i = (x.s.heard 0).wishes 0 i := by
        rw [hearN_wishes, if_neg (fun g => absurd g.2.2.1 (by show ¬ (3 : Int) = 2; omega))]; rfl
      refine ⟨hgy, h.who, hs'.hear hww, ⟨fun _ _ => by rw [hwish]; exact h.step.step1 h0 hst, fun _ _ => hown, fun _ e2 => absurd rfl e2⟩, fun w hw => ?_, fun hp => ?_, fun _ => .inr (List.mem_append.2 (.inr (List.mem_singleton.2 rfl))), ?_⟩
      · rcases List.mem_append.1 hw with hw | hw
        · exact h.out w hw
        · rw [List.mem_singleton.1 hw]; exact hww
      · have hp : ((hearN (bindS (seeS x.s v) v) (promW v i)).heard 0).wishes 0 i ≠ 0 := hp
        rw [hwish] at hp
        exact (h.wish hp).imp id mem_app
      · have hl := h.len
        show ((x.out ++ [promW v i]).length : Int) ≤ sig (hearN (bindS (seeS x.s v) v) (promW v i)) + n0
        unfold sig at hl ⊢
        rw [if_pos h0] at hl
        rw [if_pos (show (hearN (bindS (seeS x.s v) v) (promW v i)).height = 0 from h0)]
        show ((x.out ++ [promW v i]).length : Int) ≤ ((2 : Int).toNat : Nat) + n0
        rw [List.length_append, List.length_singleton]
        rw [hs] at hl
        have : (1 : Int).toNat = 1 := rfl
        have : (2 : Int).toNat = 2 := rfl
        omega
    · have hs2 : x.s.step = 2 := by omega
      have e : (seeS x.s v).height = 0 := h0
      exact ⟨hgy, h.who, ⟨hwd.height, hwd.round, hwd.call, hwd.wish, hwd.prom, hwd.queue, hwd.bound, fun e => by have e : x.s.height = 1 := e; omega⟩,
        ⟨h.step.step1, h.step.step2, fun _ e2 => absurd hs2 e2⟩, h.out, h.wish, h.prom, h.len⟩
theorem WellR.flow {v : Int} {i : Nat} {a0 b0 : Prop} {n0 : Int} (hv : 1 ≤ v ∧ v ≤ 9) (hi : i < 4) {x : Run} (h : WellR v i a0 b0 n0 x) : WellR v i a0 b0 n0 (flowR x) ∧ oneR (flowR x) = none := by
  have := flow_ind (p := fun y => WellR v i a0 b0 n0 y) (fun _ _ _ ha ho => ha.one hv hi ho) h.good h
  exact ⟨this.1, this.2.2⟩

end Go.W
