/-
  Texts for the law TopClients: Hi Td.
-/
import Derived.Test.YthpjdjofcbnoiabK2
import Derived.Test.YthpjdjofcbnoiabPj
import Derived.Test.YthpjdjofcbnoiabPm

/-
  Package top: acts that are played.
-/
namespace Go.W
open Go.Proofs

theorem cptr_acts (l : List Act) {k : Nat} (h : k < l.length) : AV.cptr ((l.map eAct).getD k default) = .cptr (eAct (l.getD k Act.zero)) := by
  simp [List.getElem?_eq_getElem h]
theorem sizes_acts (l : List Act) : ∀ d ∈ l.map eAct, d.size = 14 := by
  intro d hd
  obtain ⟨v, _, rfl⟩ := List.mem_map.1 hd
  rfl
theorem sameAA (a b : Act) : Same (eAct a) (eAct b) := ⟨rfl, fun i hi => by
  match i, hi with
  | 0, _ => trivial
  | 1, _ => trivial
  | 2, _ => trivial
  | 3, _ => trivial
  | 4, _ => exact sameWW _ _
  | 5, _ => exact sameVV _ _⟩

set_option maxHeartbeats 8000000 in
set_option maxRecDepth 100000 in
theorem play_quiet (liar : Int) (l : List Act) (hl : -1 ≤ liar ∧ liar < 4) : Fn Try.prog 27 [.data (I liar), .data (eActs l), .func 28 []] [] (.tuple [.ptr 0 [], .data (.bool true)]) (CE (played liar l)) := by
  refine spec_of ttok Try.func27 rfl (by kernel_rfl) (by exact Nat.le_of_ble_eq_true rfl) fun hin hie c0 hc0 he => ?_
  have hn0 : c0.es.length ≤ 0 := Nat.le_of_eq (by rw [he]; rfl)
  have hz : c0.es.length = 0 := by rw [he]; rfl
  refine R [] ?_
  refine W.seq (R [.data (.bool true)] (ho := by exact ⟨alive_top, trivial⟩) ?_)
  refine CF ?_
  refine W.skip ?_
  refine R [Hint.on [] (CE (newC liar)) (.tuple [.ptr 0 [], .data (I 0)])] (ho := by exact ⟨newC_ok liar hl, trivial⟩) ?_
  refine W.seq (R [] ?_)
  refine CF ?_
  refine W.skip ?_
  refine W.seq (R [] ?_)
  refine W.block (W.loop hc0 (ι := Nat) (fun i => ⟨52, frOf [(1, .data (eActs l)), (2, .func 28 []), (8, .ptr 0 []), (10, .data (I i))], CE (playC (newC liar) (l.take i))⟩) (fun i => i ≤ 300 ∧ i ≤ l.length) (fun i => 300 - i) 0 (by omega) ?_ ?_)
  · exact Le.cut _ 2 (by omega) ⟨⟨by with_unfolding_all rfl, rfl⟩, ⟨by with_unfolding_all rfl, rfl⟩, ⟨by with_unfolding_all rfl, rfl⟩, ⟨by with_unfolding_all rfl, rfl⟩, trivial⟩ (by with_unfolding_all rfl)
  · intro i ⟨hi3, hil⟩
    refine W.seq (R [] ?_)
    refine C (fun hb => ?_) (fun hb => ?_)
    · have hii : i < l.length ∧ i < 300 := by
        have hb : (bif decide ((i : Int) < ((l.map eAct).length : Int)) then decide ((i : Int) < 300) else false) = true := hb
        rw [bif_and, List.length_map] at hb
        simp only [Bool.and_eq_true, decide_eq_true_eq] at hb
        omega
      clear hb
      have hp := Played.play liar l i hil (by omega)
      have hT := playC_take (newC liar) l hii.1
      generalize playC (newC liar) (l.take i) = c at hp hT ⊢
      have hac : 0 ≤ c.acts ∧ c.acts ≤ 600 := by have := hp.acts; omega
      have hix : (0 : Int) ≤ i ∧ (i : Int) < (l.map eAct).length := ⟨by omega, by rw [List.length_map]; omega⟩
      refine W.skip (W.seq (W.block ?_))
      generalize hx : l.getD i Act.zero = x at hT
      have hcp : AV.cptr ((l.map eAct).getD i default) = .cptr (eAct x) := by rw [cptr_acts _ hii.1, hx]
      by_cases hd : drops c x
      case' pos =>
        have hdo := do_drop hp.net hac hd
        generalize doC c x = y at hdo hT
        refine R [.is 38 (.cptr (eAct x)), Hint.on [0, 1] [.var (eCrowd y.1) [([1], 2)], .row 7 (c.net.map eLetter), .row 7 (y.1.net.map eLetter)] (.data (eReply y.2))] (ho := by exact ⟨hcp, hix, sizes_acts l, hdo, sameRR _ _, trivial⟩) ?_
        refine W.le hc0 (Le.pick [0, 2, 3] [(1, .data (eActs l)), (2, .func 28 []), (8, .ptr 0 []), (10, .data (I i)), (11, .ptr 2 [])] (es' := CE y.1 ++ [.var (eReply y.2) []]) (fun k hk => by omega) (by with_unfolding_all rfl) (by with_unfolding_all rfl) ⟨by with_unfolding_all rfl, by with_unfolding_all rfl, by with_unfolding_all rfl, by with_unfolding_all rfl, by with_unfolding_all rfl, trivial⟩) ?_
      case' neg =>
        have hdo := do_no hp.net hac hd
        generalize doC c x = y at hdo hT
        refine R [.is 38 (.cptr (eAct x)), Hint.on [0, 1] (CE y.1) (.data (eReply y.2))] (ho := by exact ⟨hcp, hix, sizes_acts l, hdo, sameRR _ _, trivial⟩) ?_
        refine W.le hc0 (Le.cut [(1, .data (eActs l)), (2, .func 28 []), (8, .ptr 0 []), (10, .data (I i)), (11, .ptr 2 [])] 3 (by omega) (es' := CE y.1 ++ [.var (eReply y.2) []]) ⟨⟨by with_unfolding_all rfl, rfl⟩, ⟨by with_unfolding_all rfl, rfl⟩, ⟨by with_unfolding_all rfl, rfl⟩, ⟨by with_unfolding_all rfl, rfl⟩, ⟨by with_unfolding_all rfl, rfl⟩, trivial⟩ (by with_unfolding_all rfl)) ?_
      all_goals
        refine RD [.is 45 (.cptr (eAct x)), Hint.on [0, 1] (CE y.1) (.data (.bool true))] (ho := by exact ⟨hcp, hix, sizes_acts l, quiet_top y.1 x y.2, trivial⟩) ?_
        refine CF ?_
        refine W.skip ?_
        refine R1 [] ?_
        refine ⟨i + 1, by omega, by omega, Le.cut _ 2 (by omega) ⟨⟨by with_unfolding_all rfl, rfl⟩, ⟨by with_unfolding_all rfl, rfl⟩, ⟨by with_unfolding_all rfl, rfl⟩, ⟨sl_int (wrap_up (by omega)), rfl⟩, trivial⟩ ?_⟩
        rw [hT]
        with_unfolding_all rfl
    · have hb : (bif decide ((i : Int) < ((l.map eAct).length : Int)) then decide ((i : Int) < 300) else false) = false := hb
      rw [bif_and, List.length_map] at hb
      simp only [Bool.and_eq_false_iff, decide_eq_false_iff_not] at hb
      have hend := played_end (liar := liar) (l := l) (i := i) (by omega) hi3
      rw [hend]
      refine W.exit ?_
      refine R [] ?_
      exact W.ret (End 2 (by omega) ⟨rfl, rfl⟩)

end Go.W

/-
  The law TopClients.
-/
namespace Go.W
open Go.Proofs

/-- A client reads. -/
def readA (tell : Nat → Int) : Act := ⟨6, 0, 1, 0, .zero, tell⟩
theorem do_read {c : CrowdS} (tell : Nat → Int) (hac : c.acts < 600) : doC c (readA tell) = (c.tick, ⟨0, 0, takeV (toldC c.tick (readA tell))⟩) := by
  have k : (readA tell).kind = 6 := rfl
  unfold doC actC
  rw [if_neg (by omega), if_neg (by omega), if_neg (by omega), if_neg (by omega), if_neg (by omega), if_pos k]
  rfl

set_option maxHeartbeats 8000000 in
set_option maxRecDepth 100000 in
theorem topClients_spec (n : Int) (l : List Act) (tell : Nat → Int) : Pure Try.prog 5 [.data (I n), .data (eActs l), .data (eVotes tell)] (.data (.bool true)) := by
  refine spec_of ttok Try.func5 rfl (by kernel_rfl) (by exact Nat.le_of_ble_eq_true rfl) fun hin hie c0 hc0 he => ?_
  have hn0 : c0.es.length ≤ 0 := Nat.le_of_eq (by rw [he]; rfl)
  have hL := liesV_bd n
  refine R [] ?_
  refine R [.data (I (liesV n))] (ho := by exact ⟨lies_top n, trivial⟩) ?_
  generalize liesV n = liar at hL ⊢
  refine R [Hint.on [] (CE (played liar l)) (.tuple [.ptr 0 [], .data (.bool true)])] (ho := by exact ⟨play_quiet liar l hL, trivial⟩) ?_
  have hp := Played.all liar l
  generalize played liar l = c at hp ⊢
  have hpn : min 300 l.length ≤ 300 := by omega
  generalize min 300 l.length = pn at hp hpn
  have hac : c.acts < 600 := by have := hp.acts; omega
  have hdo := do_no (c := c) (a := readA tell) hp.net (by have := hp.acts; omega) (fun h => by have : (6 : Int) = 3 := h.2.1; omega)
  rw [do_read tell hac] at hdo
  have hnode : ∀ k : Nat, k < 4 → Fn Try.prog 30 [.ptr 0 [], .data (I (k : Nat))] (CE c.tick) (.data (eNode (c.nodes k))) (CE c.tick) := fun k hk => crowdNode_spec c.tick (k : Nat) (by omega) (hp.queue hk)
  have hfound : ∀ h, foundC c liar h (takeV (toldC c.tick (readA tell)) h) 4 = true := fun h => found_read (c := c.tick) hp.lier h
  generalize takeV (toldC c.tick (readA tell)) = s at hdo hfound
  refine W.seq (R [] ?_)
  refine CF ?_
  refine W.skip ?_
  refine R [Hint.on [1, 2] (CE c.tick) (.data (eReply ⟨0, 0, s⟩))] (ho := by with_unfolding_all exact ⟨fn_act hdo (actD (a := readA tell) rfl rfl rfl rfl rfl rfl (fun _ => rfl)), sameRR _ _, trivial⟩) ?_
  refine W.seq (R [] ?_)
  refine CF ?_
  refine W.skip ?_
  refine W.seq (R [] ?_)
  refine W.block (W.loop hc0 (ι := Nat) (fun h => ⟨62, frOf [(0, .data (I liar)), (7, .ptr 1 []), (32, .data (eVotes s)), (33, .data (I h))], [.var (eVotes tell) [], .var (eCrowd c.tick) [([1], 2)], .row 7 (c.net.map eLetter)]⟩) (fun h => h ≤ 4) (fun h => 4 - h) 0 (by omega) ?_ ?_)
  · exact Le.cut _ 3 (by omega) ⟨⟨by with_unfolding_all rfl, rfl⟩, ⟨by with_unfolding_all rfl, rfl⟩, ⟨by with_unfolding_all rfl, rfl⟩, ⟨by with_unfolding_all rfl, rfl⟩, trivial⟩ (by with_unfolding_all rfl)
  · intro h hh
    refine R [] ?_
    refine W.seq (C (fun hb => ?_) (fun hb => ?_))
    · have hh : h < 4 := by have := of_decide_eq_true hb; omega
      have hhi : (0 : Int) ≤ h ∧ (h : Int) < 4 := by omega
      clear hb
      refine W.skip (W.seq (W.block ?_))
      refine R [] (ho := by exact ⟨hhi, trivial⟩) ?_
      refine R [] ?_
      refine W.seq (R [] ?_)
      refine W.block (W.loop hc0 (ι := Nat) (fun j => ⟨62, frOf [(0, .data (I liar)), (7, .ptr 1 []), (10, .data (I h)), (11, .data (I (s h))), (12, .data (.bool (foundC c liar h (s h) j))), (32, .data (eVotes s)), (33, .data (I h)), (39, .data (I j))], [.var (eVotes tell) [], .var (eCrowd c.tick) [([1], 2)], .row 7 (c.net.map eLetter)]⟩) (fun j => j ≤ 4) (fun j => 4 - j) 0 (by omega) ?_ ?_)
      · exact Le.cut _ 3 (by omega) ⟨⟨by with_unfolding_all rfl, rfl⟩, ⟨by with_unfolding_all rfl, rfl⟩, ⟨by with_unfolding_all rfl, rfl⟩, ⟨by with_unfolding_all rfl, rfl⟩, ⟨by with_unfolding_all rfl, rfl⟩, ⟨by with_unfolding_all rfl, rfl⟩, ⟨by with_unfolding_all rfl, rfl⟩, ⟨by with_unfolding_all rfl, rfl⟩, trivial⟩ (by with_unfolding_all rfl)
      · intro j hj
        refine R [] ?_
        refine W.seq (C (fun hb => ?_) (fun hb => ?_))
        · have hj : j < 4 := by have := of_decide_eq_true hb; omega
          clear hb
          have hstep : foundC c liar h (s h) (j + 1) = (foundC c liar h (s h) j || (!((j : Int) == liar) && ((c.nodes j).settled h == s h))) := rfl
          refine W.skip (W.seq (W.block ?_))
          refine R [] ?_
          cases hf : foundC c liar h (s h) j with
          | true =>
            rw [hf, Bool.true_or] at hstep
            refine R1 [.skip (.data (eNode Node.zero))] (ho := by exact ⟨.inr rfl, fun _ => hhi, trivial⟩) ?_
            refine R1 [] ?_
            refine ⟨j + 1, by omega, by omega, Le.cut _ 3 (by omega) ⟨⟨by with_unfolding_all rfl, rfl⟩, ⟨by with_unfolding_all rfl, rfl⟩, ⟨by with_unfolding_all rfl, rfl⟩, ⟨by with_unfolding_all rfl, rfl⟩, ⟨sl_bool hstep.symm, rfl⟩, ⟨by with_unfolding_all rfl, rfl⟩, ⟨by with_unfolding_all rfl, rfl⟩, ⟨sl_int (wrap_up (by omega)), rfl⟩, trivial⟩ (by with_unfolding_all rfl)⟩
          | false =>
            rw [hf, Bool.false_or] at hstep
            cases hx : (!((j : Int) == liar)) with
            | true =>
              rw [hx, Bool.true_and] at hstep
              refine R1 [(Hint.on [1, 2] (CE c.tick) (.data (eNode (c.nodes j)))).take] (ho := by exact ⟨⟨hx, rfl⟩, hnode j hj, fun _ => hhi, trivial⟩) ?_
              refine R1 [] ?_
              have hb : (bif false then true else bif !((j : Int) == liar) then (c.nodes j).settled h == s h else false) = foundC c liar h (s h) (j + 1) := by rw [hx, hstep]; rfl
              refine ⟨j + 1, by omega, by omega, Le.cut _ 3 (by omega) ⟨⟨by with_unfolding_all rfl, rfl⟩, ⟨by with_unfolding_all rfl, rfl⟩, ⟨by with_unfolding_all rfl, rfl⟩, ⟨by with_unfolding_all rfl, rfl⟩, ⟨sl_bool hb, rfl⟩, ⟨by with_unfolding_all rfl, rfl⟩, ⟨by with_unfolding_all rfl, rfl⟩, ⟨sl_int (wrap_up (by omega)), rfl⟩, trivial⟩ (by with_unfolding_all rfl)⟩
            | false =>
              rw [hx, Bool.false_and] at hstep
              refine R1 [.skip (.data (eNode Node.zero))] (ho := by exact ⟨.inl hx, fun _ => hhi, trivial⟩) ?_
              refine R1 [] ?_
              have hb : (bif false then true else bif !((j : Int) == liar) then Node.zero.settled h == s h else false) = foundC c liar h (s h) (j + 1) := by rw [hx, hstep]; rfl
              refine ⟨j + 1, by omega, by omega, Le.cut _ 3 (by omega) ⟨⟨by with_unfolding_all rfl, rfl⟩, ⟨by with_unfolding_all rfl, rfl⟩, ⟨by with_unfolding_all rfl, rfl⟩, ⟨by with_unfolding_all rfl, rfl⟩, ⟨sl_bool hb, rfl⟩, ⟨by with_unfolding_all rfl, rfl⟩, ⟨by with_unfolding_all rfl, rfl⟩, ⟨sl_int (wrap_up (by omega)), rfl⟩, trivial⟩ (by with_unfolding_all rfl)⟩
        · have hj : j = 4 := by have := of_decide_eq_false hb; omega
          subst hj
          rw [hfound h]
          refine W.exit ?_
          refine R [] ?_
          refine CF ?_
          refine W.skip ?_
          refine R1 [] ?_
          exact ⟨h + 1, by omega, by omega, Le.cut _ 3 (by omega) ⟨⟨by with_unfolding_all rfl, rfl⟩, ⟨by with_unfolding_all rfl, rfl⟩, ⟨by with_unfolding_all rfl, rfl⟩, ⟨sl_int (wrap_up (by omega)), rfl⟩, trivial⟩ (by with_unfolding_all rfl)⟩
    · refine W.exit ?_
      refine R [] ?_
      exact W.ret (EndB 0 hn0 rfl)

end Go.W
