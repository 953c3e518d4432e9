/-
  Texts for the law TopMemory: Hi Ho Hl Tq Tr.
-/
import Derived.Test.YthpjdjofcbnoiacK2
import Derived.Test.YthpjdjofcbnoiacPj
import Derived.Test.YthpjdjofcbnoiacWs

/-
  Package top: acts that are played.
-/
namespace Go.W
open Go.Proofs

theorem cptr_acts (l : List Act) {k : Nat} (h : k < l.length) : AV.cptr ((l.map eAct).getD k default) = .cptr (eAct (l.getD k Act.zero)) := by
  simp [List.getElem?_eq_getElem h]
theorem sizes_acts (l : List Act) : ∀ d ∈ l.map eAct, d.size = 14 := by
  intro d hd
  obtain ⟨v, _, rfl⟩ := List.mem_map.1 hd
  rfl
theorem sameAA (a b : Act) : Same (eAct a) (eAct b) := ⟨rfl, fun i hi => by
  match i, hi with
  | 0, _ => trivial
  | 1, _ => trivial
  | 2, _ => trivial
  | 3, _ => trivial
  | 4, _ => exact sameWW _ _
  | 5, _ => exact sameVV _ _⟩

set_option maxHeartbeats 8000000 in
set_option maxRecDepth 100000 in
theorem play_quiet (liar : Int) (l : List Act) (hl : -1 ≤ liar ∧ liar < 4) : Fn Try.prog 11 [.data (I liar), .data (eActs l), .func 12 []] [] (.tuple [.ptr 0 [], .data (.bool true)]) (CE (played liar l)) := by
  refine spec_of ttok Try.func11 rfl (by kernel_rfl) (by exact Nat.le_of_ble_eq_true rfl) fun hin hie c0 hc0 he => ?_
  have hn0 : c0.es.length ≤ 0 := Nat.le_of_eq (by rw [he]; rfl)
  have hz : c0.es.length = 0 := by rw [he]; rfl
  refine R [] ?_
  refine W.seq (R [.data (.bool true)] (ho := by exact ⟨alive_top, trivial⟩) ?_)
  refine CF ?_
  refine W.skip ?_
  refine R [Hint.on [] (CE (newC liar)) (.tuple [.ptr 0 [], .data (I 0)])] (ho := by exact ⟨newC_ok liar hl, trivial⟩) ?_
  refine W.seq (R [] ?_)
  refine CF ?_
  refine W.skip ?_
  refine W.seq (R [] ?_)
  refine W.block (W.loop hc0 (ι := Nat) (fun i => ⟨52, frOf [(1, .data (eActs l)), (2, .func 12 []), (8, .ptr 0 []), (10, .data (I i))], CE (playC (newC liar) (l.take i))⟩) (fun i => i ≤ 300 ∧ i ≤ l.length) (fun i => 300 - i) 0 (by omega) ?_ ?_)
  · exact Le.cut _ 2 (by omega) ⟨⟨by with_unfolding_all rfl, rfl⟩, ⟨by with_unfolding_all rfl, rfl⟩, ⟨by with_unfolding_all rfl, rfl⟩, ⟨by with_unfolding_all rfl, rfl⟩, trivial⟩ (by with_unfolding_all rfl)
  · intro i ⟨hi3, hil⟩
    refine W.seq (R [] ?_)
    refine C (fun hb => ?_) (fun hb => ?_)
    · have hii : i < l.length ∧ i < 300 := by
        have hb : (bif decide ((i : Int) < ((l.map eAct).length : Int)) then decide ((i : Int) < 300) else false) = true := hb
        rw [bif_and, List.length_map] at hb
        simp only [Bool.and_eq_true, decide_eq_true_eq] at hb
        omega
      clear hb
      have hp := Played.play liar l i hil (by omega)
      have hT := playC_take (newC liar) l hii.1
      generalize playC (newC liar) (l.take i) = c at hp hT ⊢
      have hac : 0 ≤ c.acts ∧ c.acts ≤ 600 := by have := hp.acts; omega
      have hix : (0 : Int) ≤ i ∧ (i : Int) < (l.map eAct).length := ⟨by omega, by rw [List.length_map]; omega⟩
      refine W.skip (W.seq (W.block ?_))
      generalize hx : l.getD i Act.zero = x at hT
      have hcp : AV.cptr ((l.map eAct).getD i default) = .cptr (eAct x) := by rw [cptr_acts _ hii.1, hx]
      by_cases hd : drops c x
      case' pos =>
        have hdo := do_drop hp.net hac hd
        generalize doC c x = y at hdo hT
        refine R [.is 38 (.cptr (eAct x)), Hint.on [0, 1] [.var (eCrowd y.1) [([1], 2)], .row 7 (c.net.map eLetter), .row 7 (y.1.net.map eLetter)] (.data (eReply y.2))] (ho := by exact ⟨hcp, hix, sizes_acts l, hdo, sameRR _ _, trivial⟩) ?_
        refine W.le hc0 (Le.pick [0, 2, 3] [(1, .data (eActs l)), (2, .func 12 []), (8, .ptr 0 []), (10, .data (I i)), (11, .ptr 2 [])] (es' := CE y.1 ++ [.var (eReply y.2) []]) (fun k hk => by omega) (by with_unfolding_all rfl) (by with_unfolding_all rfl) ⟨by with_unfolding_all rfl, by with_unfolding_all rfl, by with_unfolding_all rfl, by with_unfolding_all rfl, by with_unfolding_all rfl, trivial⟩) ?_
      case' neg =>
        have hdo := do_no hp.net hac hd
        generalize doC c x = y at hdo hT
        refine R [.is 38 (.cptr (eAct x)), Hint.on [0, 1] (CE y.1) (.data (eReply y.2))] (ho := by exact ⟨hcp, hix, sizes_acts l, hdo, sameRR _ _, trivial⟩) ?_
        refine W.le hc0 (Le.cut [(1, .data (eActs l)), (2, .func 12 []), (8, .ptr 0 []), (10, .data (I i)), (11, .ptr 2 [])] 3 (by omega) (es' := CE y.1 ++ [.var (eReply y.2) []]) ⟨⟨by with_unfolding_all rfl, rfl⟩, ⟨by with_unfolding_all rfl, rfl⟩, ⟨by with_unfolding_all rfl, rfl⟩, ⟨by with_unfolding_all rfl, rfl⟩, ⟨by with_unfolding_all rfl, rfl⟩, trivial⟩ (by with_unfolding_all rfl)) ?_
      all_goals
        refine RD [.is 45 (.cptr (eAct x)), Hint.on [0, 1] (CE y.1) (.data (.bool true))] (ho := by exact ⟨hcp, hix, sizes_acts l, quiet_top y.1 x y.2, trivial⟩) ?_
        refine CF ?_
        refine W.skip ?_
        refine R1 [] ?_
        refine ⟨i + 1, by omega, by omega, Le.cut _ 2 (by omega) ⟨⟨by with_unfolding_all rfl, rfl⟩, ⟨by with_unfolding_all rfl, rfl⟩, ⟨by with_unfolding_all rfl, rfl⟩, ⟨sl_int (wrap_up (by omega)), rfl⟩, trivial⟩ ?_⟩
        rw [hT]
        with_unfolding_all rfl
    · have hb : (bif decide ((i : Int) < ((l.map eAct).length : Int)) then decide ((i : Int) < 300) else false) = false := hb
      rw [bif_and, List.length_map] at hb
      simp only [Bool.and_eq_false_iff, decide_eq_false_iff_not] at hb
      have hend := played_end (liar := liar) (l := l) (i := i) (by omega) hi3
      rw [hend]
      refine W.exit ?_
      refine R [] ?_
      exact W.ret (End 2 (by omega) ⟨rfl, rfl⟩)

end Go.W

/-
  Package crowd, walked: what is handed back is the caller's own.
-/
namespace Go.W
open Go.Proofs

set_option maxHeartbeats 4000000 in
set_option maxRecDepth 100000 in
theorem crowdNode_cptr (c : CrowdS) (i : Int) (hi : 0 ≤ i ∧ i < 4) (hq : (c.nodes i.toNat).queue.length ≤ 1000000) : Fn Try.prog 13 [.cptr (eCrowd c), .data (I i)] [] (.rich (eNode (c.nodes i.toNat)) [([10], 0)]) [.row 1 ((c.nodes i.toNat).queue.map I)] := by
  refine spec_of ttok Try.func13 rfl (by kernel_rfl) (by exact Nat.le_of_ble_eq_true rfl) fun hin hie c0 hc0 he => ?_
  have hn0 : c0.es.length ≤ 0 := Nat.le_of_eq (by rw [he]; rfl)
  refine R [] ?_
  refine W.seq (R [] ?_)
  refine C (fun hb => ?_) (fun hb => ?_)
  · exfalso
    have hb : (bif bif false then true else decide (i < 0) then true else decide (4 ≤ i)) = true := hb
    rw [bif_or, bif_or] at hb
    simp only [Bool.or_eq_true, decide_eq_true_eq, Bool.false_eq_true, false_or] at hb
    omega
  clear hb
  refine W.skip ?_
  refine R [] (ho := by exact ⟨hi, sameNz _ _, trivial⟩) ?_
  refine R [Hint.on [] [.row 1 ((c.nodes i.toNat).queue.map I)] (.row 0 ((c.nodes i.toNat).queue.map I))] (ho := by exact ⟨cloneInts_row _ hq, trivial⟩) ?_
  refine W.ents (es' := [.var (eNodeN Node.zero) [], .var (eNode (c.nodes i.toNat)) [([10], 2)], .row 1 ((c.nodes i.toNat).queue.map I)]) ?_ ?_
  · with_unfolding_all exact congrArg (fun d => [.var (eNodeN Node.zero) [], Ent.var d [([10], 2)], .row 1 ((c.nodes i.toNat).queue.map I)]) (node_set10 (c.nodes i.toNat) (c.nodes i.toNat).queue)
  refine R [] (ho := by exact ⟨sameNz _ _, trivial⟩) ?_
  exact W.ret (EndM [2] (fun k hk => by omega) ⟨rfl, rfl⟩)

set_option maxHeartbeats 4000000 in
set_option maxRecDepth 100000 in
theorem crowdNet_own (c : CrowdS) (hne : c.net ≠ []) (hl : c.net.length ≤ 2000) : Fn Try.prog 17 [.ptr 0 []] (CE c) (.sl 2 0 c.net.length c.net.length) (CE c ++ [.var (.arr c.net.length 7 (ownL c.net)) []]) := by
  refine spec_of ttok Try.func17 rfl (by kernel_rfl) (by exact Nat.le_of_ble_eq_true rfl) fun hin hie c0 hc0 he => ?_
  have hn0 : c0.es.length ≤ 2 := Nat.le_of_eq (by rw [he]; rfl)
  refine R [] ?_
  refine W.seq (R [] ?_)
  refine C (fun hb => ?_) (fun hb => ?_)
  · cases hb
  refine W.skip ?_
  refine R [Hint.on [] [.var (.arr c.net.length 7 (ownL c.net)) []] (.sl 0 0 c.net.length c.net.length)] (ho := by exact ⟨cloneLetters_own _ hne hl, trivial⟩) ?_
  exact W.ret (End 3 (by omega) ⟨rfl, rfl⟩)

end Go.W

/-
  Package top: two crowds that stand alike.
-/
namespace Go.W
open Go.Proofs

theorem eqDt_votes (v : Nat → Int) : eqD (eVotes v) (eVotes v) = true := allTo_spec.2 fun _ _ => beq_self_eq_true _
theorem eqDt_votes6 (v : Nat → Nat → Int) : eqD (eVotes6 v) (eVotes6 v) = true := allTo_spec.2 fun _ _ => eqDt_votes _
theorem eqDt_call (c : Call) : eqD (eCall c) (eCall c) = true := allTo_spec.2 fun i hi => by
  match i, hi with
  | 0, _ => exact beq_self_eq_true _
  | 1, _ => exact beq_self_eq_true _
  | 2, _ => exact beq_self_eq_true _
theorem eqDt_calls (c : Nat → Call) : eqD (eCalls c) (eCalls c) = true := allTo_spec.2 fun _ _ => eqDt_call _
theorem eqDt_sheet (s : Sheet) : eqD (eSheet s) (eSheet s) = true := allTo_spec.2 fun i hi => by
  match i, hi with
  | 0, _ => exact eqDt_calls _
  | 1, _ => exact eqDt_votes6 _
  | 2, _ => exact eqDt_votes6 _
theorem eqDt_sheets (s : Nat → Sheet) : eqD (eSheets s) (eSheets s) = true := allTo_spec.2 fun _ _ => eqDt_sheet _
theorem eqDt_bools (s : Nat → Bool) : eqD (eBools6 s) (eBools6 s) = true := allTo_spec.2 fun _ _ => beq_self_eq_true _
theorem eqDt_word (w : Word) : eqD (eWord w) (eWord w) = true := allTo_spec.2 fun i hi => by
  match i, hi with
  | 0, _ => exact beq_self_eq_true _
  | 1, _ => exact beq_self_eq_true _
  | 2, _ => exact beq_self_eq_true _
  | 3, _ => exact beq_self_eq_true _
  | 4, _ => exact beq_self_eq_true _
  | 5, _ => exact beq_self_eq_true _
theorem eqDt_letter (x : Letter) : eqD (eLetter x) (eLetter x) = true := allTo_spec.2 fun i hi => by
  match i, hi with
  | 0, _ => exact beq_self_eq_true _
  | 1, _ => exact eqDt_word _
theorem eqDt_reply (r : Reply) : eqD (eReply r) (eReply r) = true := allTo_spec.2 fun i hi => by
  match i, hi with
  | 0, _ => exact beq_self_eq_true _
  | 1, _ => exact beq_self_eq_true _
  | 2, _ => exact eqDt_votes _
theorem bift {a b : Bool} (h1 : a = false) (h2 : b = false) : (bif a then true else b) = false := by subst h1; exact h2
theorem nott {a : Bool} (h : a = true) : (!a) = false := by subst h; rfl
theorem beqt (a : Int) : (!(a == a)) = false := by simp

/-- The second crowd. -/
abbrev CE2 (g : CrowdS) : List Ent := [.var (eCrowd g) [([1], 3)], .row 7 (g.net.map eLetter)]

set_option maxHeartbeats 16000000 in
set_option maxRecDepth 100000 in
theorem same_top (c g : CrowdS) (hnodes : ∀ i, i < 4 → c.nodes i = g.nodes i) (hnet : c.net = g.net) (hl : c.net.length ≤ 2000) (hq : ∀ i, i < 4 → (c.nodes i).queue.length ≤ 1000000) :
    Fn Try.prog 18 [.ptr 0 [], .ptr 2 []] (CE c ++ CE2 g) (.data (.bool true)) (CE c ++ CE2 g) := by
  refine spec_of ttok Try.func18 rfl (by kernel_rfl) (by exact Nat.le_of_ble_eq_true rfl) fun hin hie c0 hc0 he => ?_
  have hn0 : c0.es.length ≤ 4 := Nat.le_of_eq (by rw [he]; rfl)
  have hng := crowdNet_spec g (by rw [← hnet]; exact hl)
  rw [← hnet] at hng
  refine R [] ?_
  refine R [Hint.on [0, 1] (CE c) (.data (eLetters c.net)), Hint.on [2, 3] (CE g) (.data (eLetters c.net))] (ho := by exact ⟨crowdNet_spec c hl, hng, trivial⟩) ?_
  refine W.seq (R [] ?_)
  refine C (fun hb => ?_) (fun hb => ?_)
  · exfalso
    have hb : (!(((c.net.map eLetter).length : Int) == ((c.net.map eLetter).length : Int))) = true := hb
    rw [beqt] at hb; cases hb
  clear hb
  refine W.skip ?_
  refine W.seq (R [] ?_)
  refine W.block (W.loop hc0 (ι := Nat) (fun k => ⟨139, frOf [(0, .ptr 0 []), (1, .ptr 2 []), (5, .data (eLetters c.net)), (6, .data (eLetters c.net)), (22, .data (I ((c.net.map eLetter).length : Int))), (23, .data (I k))], CE c ++ CE2 g⟩) (fun k => k ≤ c.net.length) (fun k => c.net.length - k) 0 (by omega) ?_ ?_)
  · exact Le.cut _ 4 (by omega) ⟨⟨by with_unfolding_all rfl, rfl⟩, ⟨by with_unfolding_all rfl, rfl⟩, ⟨by with_unfolding_all rfl, rfl⟩, ⟨by with_unfolding_all rfl, rfl⟩, ⟨by with_unfolding_all rfl, rfl⟩, ⟨by with_unfolding_all rfl, rfl⟩, trivial⟩ (by with_unfolding_all rfl)
  · intro k hk
    refine R [] ?_
    refine W.seq (C (fun hb => ?_) (fun hb => ?_))
    · have hk : k < c.net.length := by have hb : (k : Int) < (c.net.map eLetter).length := of_decide_eq_true hb; rw [List.length_map] at hb; omega
      have hki : (0 : Int) ≤ k ∧ (k : Int) < (c.net.map eLetter).length := ⟨by omega, by rw [List.length_map]; omega⟩
      have hcp := cptr_letters c.net hk
      generalize c.net.getD k Letter.zero = x at hcp
      clear hb
      refine W.skip (W.seq (W.block ?_))
      refine R [] ?_
      refine RD [.is 28 (.cptr (eLetter x)), .is 32 (.cptr (eLetter x))] (ho := by exact ⟨hcp, hki, sizes_letters _, hcp, hki, sizes_letters _, trivial⟩) ?_
      refine C (fun hb => ?_) (fun hb => ?_)
      · exfalso
        have hb : (!(eqD (eLetter x) (eLetter x))) = true := hb
        rw [nott (eqDt_letter x)] at hb; cases hb
      refine W.skip ?_
      refine R1 [] ?_
      exact ⟨k + 1, by omega, by omega, Le.cut _ 4 (by omega) ⟨⟨by with_unfolding_all rfl, rfl⟩, ⟨by with_unfolding_all rfl, rfl⟩, ⟨by with_unfolding_all rfl, rfl⟩, ⟨by with_unfolding_all rfl, rfl⟩, ⟨by with_unfolding_all rfl, rfl⟩, ⟨sl_int (wrap_up (by omega)), rfl⟩, trivial⟩ (by with_unfolding_all rfl)⟩
    · clear hb
      refine W.exit ?_
      refine W.seq (R [] ?_)
      refine W.block (W.loop hc0 (ι := Nat) (fun i => ⟨139, frOf [(0, .ptr 0 []), (1, .ptr 2 []), (36, .data (I i))], CE c ++ CE2 g⟩) (fun i => i ≤ 4) (fun i => 4 - i) 0 (by omega) ?_ ?_)
      · exact Le.cut _ 4 (by omega) ⟨⟨by with_unfolding_all rfl, rfl⟩, ⟨by with_unfolding_all rfl, rfl⟩, ⟨by with_unfolding_all rfl, rfl⟩, trivial⟩ (by with_unfolding_all rfl)
      · intro i hi
        refine R [] ?_
        refine W.seq (C (fun hb => ?_) (fun hb => ?_))
        · have hi : i < 4 := by have := of_decide_eq_true hb; omega
          clear hb
          have hc1 := crowdNode_spec c (i : Nat) (by omega) (hq i hi)
          have hg1 := crowdNode_spec g (i : Nat) (by omega) (by show (g.nodes i).queue.length ≤ 1000000; rw [← hnodes i hi]; exact hq i hi)
          have hg1 : Fn Try.prog 13 [.ptr 0 [], .data (I (i : Nat))] (CE g) (.data (eNode (c.nodes i))) (CE g) := by rw [hnodes i hi]; exact hg1
          have hqi := hq i hi
          have hc1 : Fn Try.prog 13 [.ptr 0 [], .data (I (i : Nat))] (CE c) (.data (eNode (c.nodes i))) (CE c) := hc1
          generalize c.nodes i = s at hc1 hg1 hqi
          refine W.skip (W.seq (W.block ?_))
          refine R [] ?_
          refine R [Hint.on [0, 1] (CE c) (.data (eNode s)), Hint.on [2, 3] (CE g) (.data (eNode s))] (ho := by exact ⟨hc1, hg1, sameNz _ _, sameNz _ _, trivial⟩) ?_
          refine W.seq (R [] ?_)
          refine C (fun hb => ?_) (fun hb => ?_)
          · exfalso
            have hb : (!(((s.queue.map I).length : Int) == ((s.queue.map I).length : Int))) = true := hb
            rw [beqt] at hb; cases hb
          clear hb
          refine W.skip ?_
          refine W.seq (R [] ?_)
          refine W.block (W.loop hc0 (ι := Nat) (fun k => ⟨139, frOf [(0, .ptr 0 []), (1, .ptr 2 []), (9, .ptr 4 []), (10, .ptr 5 []), (36, .data (I i)), (54, .data (I ((s.queue.map I).length : Int))), (55, .data (I k))], CE c ++ CE2 g ++ [.var (eNode s) [], .var (eNode s) []]⟩) (fun k => k ≤ s.queue.length) (fun k => s.queue.length - k) 0 (by omega) ?_ ?_)
          · exact Le.cut _ 6 (by omega) ⟨⟨by with_unfolding_all rfl, rfl⟩, ⟨by with_unfolding_all rfl, rfl⟩, ⟨by with_unfolding_all rfl, rfl⟩, ⟨by with_unfolding_all rfl, rfl⟩, ⟨by with_unfolding_all rfl, rfl⟩, ⟨by with_unfolding_all rfl, rfl⟩, ⟨by with_unfolding_all rfl, rfl⟩, trivial⟩ (by with_unfolding_all rfl)
          · intro k hk
            refine R [] ?_
            refine W.seq (C (fun hb => ?_) (fun hb => ?_))
            · have hk : k < s.queue.length := by have hb : (k : Int) < (s.queue.map I).length := of_decide_eq_true hb; rw [List.length_map] at hb; omega
              have hki : (0 : Int) ≤ k ∧ (k : Int) < (s.queue.map I).length := ⟨by omega, by rw [List.length_map]; omega⟩
              clear hb
              refine W.skip (W.seq (W.block ?_))
              refine R [] ?_
              refine RD [.is 61 (.cptr (I (s.queue.getD k 0))), .is 66 (.cptr (I (s.queue.getD k 0)))] (ho := by exact ⟨cptr_q _ hk, hki, sizes_q _, cptr_q _ hk, hki, sizes_q _, trivial⟩) ?_
              refine C (fun hb => ?_) (fun hb => ?_)
              · exfalso
                have hb : (!(s.queue.getD k 0 == s.queue.getD k 0)) = true := hb
                rw [beqt] at hb; cases hb
              refine W.skip ?_
              refine R1 [] ?_
              exact ⟨k + 1, by omega, by omega, Le.cut _ 6 (by omega) ⟨⟨by with_unfolding_all rfl, rfl⟩, ⟨by with_unfolding_all rfl, rfl⟩, ⟨by with_unfolding_all rfl, rfl⟩, ⟨by with_unfolding_all rfl, rfl⟩, ⟨by with_unfolding_all rfl, rfl⟩, ⟨by with_unfolding_all rfl, rfl⟩, ⟨sl_int (wrap_up (by omega)), rfl⟩, trivial⟩ (by with_unfolding_all rfl)⟩
            · clear hb
              refine W.exit ?_
              refine R [] ?_
              refine C (fun hb => ?_) (fun hb => ?_)
              · exfalso
                have hf := hb.symm.trans (bift (bift (bift (bift (bift (bift (bift (bift (bift (beqt s.height) (beqt s.round)) (beqt s.step)) (beqt s.bound)) (beqt s.boundIn)) (beqt s.valid)) (beqt s.validIn)) (nott (eqDt_bools s.seen))) (nott (eqDt_sheets s.heard))) (nott (eqDt_votes s.settled)))
                cases hf
              refine W.skip ?_
              refine R1 [] ?_
              exact ⟨i + 1, by omega, by omega, Le.cut _ 4 (by omega) ⟨⟨by with_unfolding_all rfl, rfl⟩, ⟨by with_unfolding_all rfl, rfl⟩, ⟨sl_int (wrap_up (by omega)), rfl⟩, trivial⟩ (by with_unfolding_all rfl)⟩
        · refine W.exit ?_
          refine R [] ?_
          exact W.ret (EndB 4 hn0 rfl)

end Go.W

/-
  What looks on, of the law TopMemory.
-/
namespace Go.W
open Go.Proofs

/-- A letter that is written over. -/
def letterM : D := ((tt.zero 61).getD .nil).set [0] (I (-1))
theorem letterM_eq : letterM = eLetter ⟨-1, .zero⟩ := by
  with_unfolding_all exact letterD rfl (wordD rfl rfl rfl rfl rfl rfl (fun _ => rfl)) (fun _ => rfl)
/-- The letters, the first k of them written over. -/
def memL (l : List Letter) (k : Nat) : Nat → D := fun j => eLetter (if j < k then ⟨-1, .zero⟩ else l.getD j .zero)
theorem sameM (l : List Letter) (k j : Nat) : Same (memL l k j) letterM := by rw [letterM_eq]; exact sameLL _ _
theorem memL_keep (l : List Letter) (k : Nat) : (fun j => bif Nat.beq j k then letterM else memL l k j) = memL l (k + 1) := by
  funext j
  unfold memL
  by_cases e : j = k
  · subst e
    have hb : Nat.beq j j = true := Nat.beq_refl _
    simp only [hb, cond_true]
    rw [if_pos (by omega), letterM_eq]
  · simp only [nbeq_ne e, cond_false]
    by_cases h : j < k
    · rw [if_pos h, if_pos (by omega)]
    · rw [if_neg h, if_neg (by omega)]
def memQ (q : List Int) (k : Nat) : Nat → D := fun j => I (if j < k then -1 else q.getD j 0)
theorem memQ_keep (q : List Int) (k : Nat) : (fun j => bif Nat.beq j k then I (-1) else memQ q k j) = memQ q (k + 1) := by
  funext j
  unfold memQ
  by_cases e : j = k
  · subst e
    have hb : Nat.beq j j = true := Nat.beq_refl _
    simp only [hb, cond_true]
    rw [if_pos (by omega)]
  · simp only [nbeq_ne e, cond_false]
    by_cases h : j < k
    · rw [if_pos h, if_pos (by omega)]
    · rw [if_neg h, if_neg (by omega)]
theorem ownQ_at (q : List Int) : ∀ i (h : i < (q.map I).length), (q.map I)[i] = ownQ q i := fun i h => by
  have h' : i < q.length := by simpa using h
  simp [ownQ, List.getElem?_eq_getElem h']

section
variable {c0 : Cx} {Q : Exit → St → Prop} {s : St}
/-- A node's own queue is taken. -/
theorem TKq {id : Nat} {a1 a2 o1 o2 a3 : Oper} {cl : Go.Call} {fv : Operand} {k : FuncId} {T : TypeId} {fi t1 t2 x : Nat} {tok : List (List Nat × Nat)}
    {d d1 : D} {args1 : List AV} {p : List Nat} {xs : List D} {sz : Nat} {g : Nat → D} {ti te : TI} {fs : List (Nat × Nat × TypeId)} {off : Nat} {ty : TypeId} {s1 s2 : St}
    (hfn : Fn Try.prog k (.cptr d :: args1) [] (.rich d1 [(p, 0)]) [.row sz xs]) (hpl : ∀ a ∈ args1, ∃ e, a = .data e) (hag : d1.isAgg = true) (hget : d1.get p = some (.list xs)) (hne : xs ≠ [])
    (hf : ∀ i (h : i < xs.length), xs[i] = g i) (hsz : ∀ i, i < xs.length → (g i).size = sz) (hnl : ∀ i, i < xs.length → noList (g i) = true)
    (hQ : Q .normal s2)
    (hop1 : o1.op = Op.call cl := by rfl) (hg1 : o1.guard = none := by rfl) (hd1 : o1.dst = some t1 := by rfl) (hcal : cl.callee = Callee.value fv := by rfl)
    (hop2 : o2.op = .field T (.tmp t1) fi := by rfl) (hg2 : o2.guard = none := by rfl) (hd2 : o2.dst = some t2 := by rfl)
    (h1 : run Try.prog tt ([a1, a2] ++ o1 :: o2 :: [a3]).toArray (zipR [a1, a2] []) s = some (s1, []) := by with_unfolding_all rfl) (hlt1 : Nat.blt t1 s1.nt = true := by with_unfolding_all rfl) (hlt2 : Nat.blt t2 s1.nt = true := by with_unfolding_all rfl)
    (hl : s1.look [] fv = .func k [] := by with_unfolding_all rfl) (ha : cl.args.toList.map (s1.look []) = .ptr x [] :: args1 := by with_unfolding_all rfl) (hx : s1.es[x]? = some (.var d tok) := by with_unfolding_all rfl)
    (hti : tt.ti T = some ti := by with_unfolding_all rfl) (hk : ti.kind = .struct fs := by with_unfolding_all rfl) (hfs : fs[fi]? = some (off, 1, ty) := by with_unfolding_all rfl) (hoff : d1.off p = off := by with_unfolding_all rfl) (hte : tt.ti ty = some te := by with_unfolding_all rfl) (hteA : te.agg = false := by with_unfolding_all rfl) (hcsz : Nat.blt off d1.size = true := by with_unfolding_all rfl)
    (h2 : run Try.prog tt ([a1, a2] ++ o1 :: o2 :: [a3]).toArray (zipR [a3] []) ((s1.put (some t1) (.v .undef) (s1.es ++ [.var (.arr xs.length sz g) []])).put (some t2) (.v (.sl s1.es.length 0 xs.length xs.length)) (s1.es ++ [.var (.arr xs.length sz g) []])) = some (s2, []) := by with_unfolding_all rfl) :
    AWP Try.prog c0 (.region id #[a1, a2, o1, o2, a3] false) Q s :=
  W.takeF ttok [a1, a2] [a3] hfn hpl hag hget hne hf hsz hnl hop1 hg1 hd1 hcal hop2 hg2 hd2 h1 hlt1 hlt2 hl ha hx hti hk hfs hoff hte hteA (by simpa [Nat.blt_eq] using hcsz) h2 hQ
end

set_option maxHeartbeats 16000000 in
set_option maxRecDepth 100000 in
theorem mem_no (c : CrowdS) (x : Act) (hd : ¬ drops c x) (hn : c.net.length ≤ 2000) (hac : 0 ≤ c.acts ∧ c.acts ≤ 600) (hyn : (doC c x).1.net.length ≤ 2000) (hq : ∀ i, i < 4 → ((doC c x).1.nodes i).queue.length ≤ 1000000) :
    Fn Try.prog 19 [.ptr 0 [], .data (eAct x), .data (eReply (doC c x).2), .ptr 2 []] (CE (doC c x).1 ++ [.ref (.ptr 3 []), .var (eCrowd c) [([1], 4)], .row 7 (c.net.map eLetter)]) (.data (.bool true)) (CE (doC c x).1 ++ [.ref (.ptr 3 []), .var (eCrowd (doC c x).1) [([1], 4)], .row 7 ((doC c x).1.net.map eLetter)]) := by
  have hdo := do_no hn hac hd
  generalize doC c x = y at hdo hyn hq ⊢
  obtain ⟨y, r⟩ := y
  simp only at hdo hyn hq ⊢
  have hsame := same_top y y (fun _ _ => rfl) rfl hyn hq
  refine spec_of ttok Try.func19 rfl (by kernel_rfl) (by exact Nat.le_of_ble_eq_true rfl) fun hin hie c0 hc0 he => ?_
  have hn0 : c0.es.length ≤ 5 := Nat.le_of_eq (by rw [he]; rfl)
  refine R [] ?_
  refine W.seq (RF [Hint.on [3, 4] (CE y) (.data (eReply r))] 7 [(0, .rd (some 2)), (1, .rd (some 5)), (2, .on [3, 4]), (3, .rd (some 6))] (ho := by exact ⟨hdo, trivial⟩) ?_)
  refine C (fun hb => ?_) (fun hb => ?_)
  · exfalso
    have hb : (!(eqD (eReply r) (eReply r))) = true := hb
    rw [nott (eqDt_reply r)] at hb; cases hb
  refine W.skip ?_
  refine W.le hc0 (Le.cut [(0, .ptr 0 []), (3, .ptr 2 [])] 5 (by omega) (es' := (CE y ++ [.ref (.ptr 3 []), .var (eCrowd y) [([1], 4)], .row 7 (y.net.map eLetter)])) ⟨⟨by with_unfolding_all rfl, rfl⟩, ⟨by with_unfolding_all rfl, rfl⟩, trivial⟩ (by with_unfolding_all rfl)) ?_
  by_cases hnet : y.net = []
  case' pos =>
    refine R [Hint.on [0, 1] (CE y) (.data (eLetters y.net))] (ho := by exact ⟨crowdNet_spec y hyn, trivial⟩) ?_
    refine W.seq (R [] ?_)
    refine W.block (W.loop hc0 (ι := Nat) (fun k => ⟨50, frOf [(0, .ptr 0 []), (3, .ptr 2 []), (8, .data (eLetters y.net)), (21, .data (I ((y.net.map eLetter).length : Int))), (22, .data (I k))], (CE y ++ [.ref (.ptr 3 []), .var (eCrowd y) [([1], 4)], .row 7 (y.net.map eLetter)])⟩) (fun _ => True) (fun _ => 0) 0 trivial ?_ ?_)
    · exact Le.cut _ 5 (by omega) ⟨⟨by with_unfolding_all rfl, rfl⟩, ⟨by with_unfolding_all rfl, rfl⟩, ⟨by with_unfolding_all rfl, rfl⟩, ⟨by with_unfolding_all rfl, rfl⟩, ⟨by with_unfolding_all rfl, rfl⟩, trivial⟩ (by with_unfolding_all rfl)
    intro k _
    refine R [] ?_
    refine W.seq (C (fun hb => ?pt) (fun hb => ?pf))
    case pt =>
      exfalso
      have hb : (k : Int) < (y.net.map eLetter).length := of_decide_eq_true hb
      rw [hnet] at hb
      simp at hb
      omega
  case' neg =>
    refine R [Hint.on [0, 1] (CE y ++ [.var (.arr y.net.length 7 (ownL y.net)) []]) (.sl 2 0 y.net.length y.net.length)] (ho := by exact ⟨crowdNet_own y hnet hyn, trivial⟩) ?_
    refine W.seq (R [] ?_)
    refine W.block (W.loop hc0 (ι := Nat) (fun k => ⟨50, frOf [(0, .ptr 0 []), (3, .ptr 2 []), (8, .sl 5 0 y.net.length y.net.length), (21, .data (I (y.net.length : Int))), (22, .data (I k))], (CE y ++ [.ref (.ptr 3 []), .var (eCrowd y) [([1], 4)], .row 7 (y.net.map eLetter)]) ++ [.var (.arr y.net.length 7 (memL y.net k)) []]⟩) (fun k => k ≤ y.net.length) (fun k => y.net.length - k) 0 (by omega) ?_ ?_)
    · exact Le.cut _ 6 (by omega) ⟨⟨by with_unfolding_all rfl, rfl⟩, ⟨by with_unfolding_all rfl, rfl⟩, ⟨by with_unfolding_all rfl, rfl⟩, ⟨by with_unfolding_all rfl, rfl⟩, ⟨by with_unfolding_all rfl, rfl⟩, trivial⟩ (by with_unfolding_all rfl)
    intro k hk
    refine R [] ?_
    refine W.seq (C (fun hb => ?nt) (fun hb => ?nf))
    case nt =>
      have hk : k < y.net.length := by have := of_decide_eq_true hb; omega
      clear hb
      refine W.skip (W.seq (W.block ?_))
      refine R [] ?_
      refine R1 [] (ho := by with_unfolding_all exact ⟨⟨by omega, by omega⟩, sameM y.net k _, trivial⟩) ?_
      refine R1 [] ?_
      refine ⟨k + 1, by omega, by omega, Le.cut _ 6 (by omega) ⟨⟨by with_unfolding_all rfl, rfl⟩, ⟨by with_unfolding_all rfl, rfl⟩, ⟨by with_unfolding_all rfl, rfl⟩, ⟨by with_unfolding_all rfl, rfl⟩, ⟨sl_int (wrap_up (by omega)), rfl⟩, trivial⟩ ?_⟩
      rw [← memL_keep]
      with_unfolding_all rfl
  all_goals
  refine W.exit ?_
  refine W.le hc0 (Le.cut [(0, .ptr 0 []), (3, .ptr 2 [])] 5 (by omega) (es' := (CE y ++ [.ref (.ptr 3 []), .var (eCrowd y) [([1], 4)], .row 7 (y.net.map eLetter)])) ⟨⟨by with_unfolding_all rfl, rfl⟩, ⟨by with_unfolding_all rfl, rfl⟩, trivial⟩ (by with_unfolding_all rfl)) ?_
  refine W.seq (R [] ?_)
  refine W.block (W.loop hc0 (ι := Nat) (fun i => ⟨50, frOf [(0, .ptr 0 []), (3, .ptr 2 []), (30, .data (I i))], (CE y ++ [.ref (.ptr 3 []), .var (eCrowd y) [([1], 4)], .row 7 (y.net.map eLetter)])⟩) (fun i => i ≤ 4) (fun i => 4 - i) 0 (by omega) ?_ ?_)
  · exact Le.cut _ 5 (by omega) ⟨⟨by with_unfolding_all rfl, rfl⟩, ⟨by with_unfolding_all rfl, rfl⟩, ⟨by with_unfolding_all rfl, rfl⟩, trivial⟩ (by with_unfolding_all rfl)
  intro i hi
  refine R [] ?_
  refine W.seq (C (fun hb => ?_) (fun hb => ?_))
  · have hi : i < 4 := by have := of_decide_eq_true hb; omega
    have hqi := hq i hi
    clear hb
    refine W.skip (W.seq (W.block ?_))
    refine R [] ?_
    by_cases hqe : (y.nodes i).queue = []
    · refine R [Hint.on [0, 1] (CE y) (.data (eNode (y.nodes i)))] (ho := by exact ⟨crowdNode_spec y (i : Nat) (by omega) hqi, trivial⟩) ?_
      refine R [] ?_
      refine W.block (W.loop hc0 (ι := Nat) (fun k => ⟨50, frOf [(0, .ptr 0 []), (3, .ptr 2 []), (30, .data (I i)), (38, .data (I (((y.nodes i).queue.map I).length : Int))), (39, .data (I k))], (CE y ++ [.ref (.ptr 3 []), .var (eCrowd y) [([1], 4)], .row 7 (y.net.map eLetter)])⟩) (fun _ => True) (fun _ => 0) 0 trivial ?_ ?_)
      · exact Le.cut _ 5 (by omega) ⟨⟨by with_unfolding_all rfl, rfl⟩, ⟨by with_unfolding_all rfl, rfl⟩, ⟨by with_unfolding_all rfl, rfl⟩, ⟨by with_unfolding_all rfl, rfl⟩, ⟨by with_unfolding_all rfl, rfl⟩, trivial⟩ (by with_unfolding_all rfl)
      intro k _
      refine R [] ?_
      refine W.seq (C (fun hb => ?_) (fun hb => ?_))
      · exfalso
        have hb : (k : Int) < ((y.nodes i).queue.map I).length := of_decide_eq_true hb
        rw [hqe] at hb
        simp at hb
        omega
      refine W.exit ?_
      refine R1 [] ?_
      exact ⟨i + 1, by omega, by omega, Le.cut _ 5 (by omega) ⟨⟨by with_unfolding_all rfl, rfl⟩, ⟨by with_unfolding_all rfl, rfl⟩, ⟨sl_int (wrap_up (by omega)), rfl⟩, trivial⟩ (by with_unfolding_all rfl)⟩
    · have hfn := crowdNode_cptr y (i : Nat) (by omega) hqi
      have hqe' : (y.nodes i).queue.map I ≠ [] := by simpa using hqe
      refine W.seq (TKq (x := 0) (tok := [([1], 1)]) hfn (by simp) rfl rfl hqe' (ownQ_at _) (fun _ _ => rfl) (fun _ _ => rfl) ?_)
      refine R [] ?_
      have hN : ((y.nodes i).queue.map I).length ≤ 1000000 := by rw [List.length_map]; exact hqi
      refine W.block (W.loop hc0 (ι := Nat) (fun k => ⟨50, frOf [(0, .ptr 0 []), (3, .ptr 2 []), (11, .sl 5 0 ((y.nodes i).queue.map I).length ((y.nodes i).queue.map I).length), (30, .data (I i)), (38, .data (I (((y.nodes i).queue.map I).length : Int))), (39, .data (I k))], (CE y ++ [.ref (.ptr 3 []), .var (eCrowd y) [([1], 4)], .row 7 (y.net.map eLetter)]) ++ [.var (.arr ((y.nodes i).queue.map I).length 1 (memQ (y.nodes i).queue k)) []]⟩) (fun k => k ≤ ((y.nodes i).queue.map I).length) (fun k => ((y.nodes i).queue.map I).length - k) 0 (by omega) ?_ ?_)
      · exact Le.cut _ 6 (by omega) ⟨⟨by with_unfolding_all rfl, rfl⟩, ⟨by with_unfolding_all rfl, rfl⟩, ⟨by with_unfolding_all rfl, rfl⟩, ⟨by with_unfolding_all rfl, rfl⟩, ⟨by with_unfolding_all rfl, rfl⟩, ⟨by with_unfolding_all rfl, rfl⟩, trivial⟩ (by with_unfolding_all rfl)
      intro k hk
      refine R [] ?_
      refine W.seq (C (fun hb => ?_) (fun hb => ?_))
      · have hk : k < ((y.nodes i).queue.map I).length := by have := of_decide_eq_true hb; omega
        clear hb
        refine W.skip (W.seq (W.block ?_))
        refine R [] ?_
        refine R1 [] (ho := by exact ⟨⟨by omega, by omega⟩, trivial⟩) ?_
        refine R1 [] ?_
        refine ⟨k + 1, by omega, by omega, Le.cut _ 6 (by omega) ⟨⟨by with_unfolding_all rfl, rfl⟩, ⟨by with_unfolding_all rfl, rfl⟩, ⟨by with_unfolding_all rfl, rfl⟩, ⟨by with_unfolding_all rfl, rfl⟩, ⟨by with_unfolding_all rfl, rfl⟩, ⟨sl_int (wrap_up (by omega)), rfl⟩, trivial⟩ ?_⟩
        rw [← memQ_keep]
        with_unfolding_all rfl
      refine W.exit ?_
      refine R1 [] ?_
      exact ⟨i + 1, by omega, by omega, Le.cut _ 5 (by omega) ⟨⟨by with_unfolding_all rfl, rfl⟩, ⟨by with_unfolding_all rfl, rfl⟩, ⟨sl_int (wrap_up (by omega)), rfl⟩, trivial⟩ (by with_unfolding_all rfl)⟩
  · refine W.exit ?_
    refine R [Hint.on [0, 1, 3, 4] (CE y ++ CE2 y) (.data (.bool true))] (ho := by exact ⟨hsame, trivial⟩) ?_
    exact W.ret (EndB 5 (by omega) rfl)

set_option maxHeartbeats 16000000 in
set_option maxRecDepth 100000 in
theorem mem_drop (c : CrowdS) (x : Act) (hd : drops c x) (hn : c.net.length ≤ 2000) (hac : 0 ≤ c.acts ∧ c.acts ≤ 600) (hyn : (doC c x).1.net.length ≤ 2000) (hq : ∀ i, i < 4 → ((doC c x).1.nodes i).queue.length ≤ 1000000) :
    Fn Try.prog 19 [.ptr 0 [], .data (eAct x), .data (eReply (doC c x).2), .ptr 2 []] (CE (doC c x).1 ++ [.ref (.ptr 3 []), .var (eCrowd c) [([1], 4)], .row 7 (c.net.map eLetter)]) (.data (.bool true)) (CE (doC c x).1 ++ [.ref (.ptr 3 []), .var (eCrowd (doC c x).1) [([1], 5)], .row 7 (c.net.map eLetter), .row 7 ((doC c x).1.net.map eLetter)]) := by
  have hdo := do_drop hn hac hd
  generalize doC c x = y at hdo hyn hq ⊢
  obtain ⟨y, r⟩ := y
  simp only at hdo hyn hq ⊢
  have hsame := same_top y y (fun _ _ => rfl) rfl hyn hq
  refine spec_of ttok Try.func19 rfl (by kernel_rfl) (by exact Nat.le_of_ble_eq_true rfl) fun hin hie c0 hc0 he => ?_
  have hn0 : c0.es.length ≤ 5 := Nat.le_of_eq (by rw [he]; rfl)
  refine R [] ?_
  refine W.seq (RF [Hint.on [3, 4] [.var (eCrowd y) [([1], 2)], .row 7 (c.net.map eLetter), .row 7 (y.net.map eLetter)] (.data (eReply r))] 7 [(0, .rd (some 2)), (1, .rd (some 5)), (2, .on [3, 4]), (3, .rd (some 6))] (ho := by exact ⟨hdo, trivial⟩) ?_)
  refine C (fun hb => ?_) (fun hb => ?_)
  · exfalso
    have hb : (!(eqD (eReply r) (eReply r))) = true := hb
    rw [nott (eqDt_reply r)] at hb; cases hb
  refine W.skip ?_
  refine W.le hc0 (Le.pick [0, 1, 2, 3, 4, 7] [(0, .ptr 0 []), (3, .ptr 2 [])] (es' := (CE y ++ [.ref (.ptr 3 []), .var (eCrowd y) [([1], 5)], .row 7 (c.net.map eLetter), .row 7 (y.net.map eLetter)])) (fun k hk => by rcases (by omega : k = 0 ∨ k = 1 ∨ k = 2 ∨ k = 3 ∨ k = 4) with rfl | rfl | rfl | rfl | rfl <;> rfl) (by with_unfolding_all rfl) (by with_unfolding_all rfl) ⟨by with_unfolding_all rfl, by with_unfolding_all rfl, trivial⟩) ?_
  by_cases hnet : y.net = []
  case' pos =>
    refine R [Hint.on [0, 1] (CE y) (.data (eLetters y.net))] (ho := by exact ⟨crowdNet_spec y hyn, trivial⟩) ?_
    refine W.seq (R [] ?_)
    refine W.block (W.loop hc0 (ι := Nat) (fun k => ⟨50, frOf [(0, .ptr 0 []), (3, .ptr 2 []), (8, .data (eLetters y.net)), (21, .data (I ((y.net.map eLetter).length : Int))), (22, .data (I k))], (CE y ++ [.ref (.ptr 3 []), .var (eCrowd y) [([1], 5)], .row 7 (c.net.map eLetter), .row 7 (y.net.map eLetter)])⟩) (fun _ => True) (fun _ => 0) 0 trivial ?_ ?_)
    · exact Le.cut _ 6 (by omega) ⟨⟨by with_unfolding_all rfl, rfl⟩, ⟨by with_unfolding_all rfl, rfl⟩, ⟨by with_unfolding_all rfl, rfl⟩, ⟨by with_unfolding_all rfl, rfl⟩, ⟨by with_unfolding_all rfl, rfl⟩, trivial⟩ (by with_unfolding_all rfl)
    intro k _
    refine R [] ?_
    refine W.seq (C (fun hb => ?pt) (fun hb => ?pf))
    case pt =>
      exfalso
      have hb : (k : Int) < (y.net.map eLetter).length := of_decide_eq_true hb
      rw [hnet] at hb
      simp at hb
      omega
  case' neg =>
    refine R [Hint.on [0, 1] (CE y ++ [.var (.arr y.net.length 7 (ownL y.net)) []]) (.sl 2 0 y.net.length y.net.length)] (ho := by exact ⟨crowdNet_own y hnet hyn, trivial⟩) ?_
    refine W.seq (R [] ?_)
    refine W.block (W.loop hc0 (ι := Nat) (fun k => ⟨50, frOf [(0, .ptr 0 []), (3, .ptr 2 []), (8, .sl 6 0 y.net.length y.net.length), (21, .data (I (y.net.length : Int))), (22, .data (I k))], (CE y ++ [.ref (.ptr 3 []), .var (eCrowd y) [([1], 5)], .row 7 (c.net.map eLetter), .row 7 (y.net.map eLetter)]) ++ [.var (.arr y.net.length 7 (memL y.net k)) []]⟩) (fun k => k ≤ y.net.length) (fun k => y.net.length - k) 0 (by omega) ?_ ?_)
    · exact Le.cut _ 7 (by omega) ⟨⟨by with_unfolding_all rfl, rfl⟩, ⟨by with_unfolding_all rfl, rfl⟩, ⟨by with_unfolding_all rfl, rfl⟩, ⟨by with_unfolding_all rfl, rfl⟩, ⟨by with_unfolding_all rfl, rfl⟩, trivial⟩ (by with_unfolding_all rfl)
    intro k hk
    refine R [] ?_
    refine W.seq (C (fun hb => ?nt) (fun hb => ?nf))
    case nt =>
      have hk : k < y.net.length := by have := of_decide_eq_true hb; omega
      clear hb
      refine W.skip (W.seq (W.block ?_))
      refine R [] ?_
      refine R1 [] (ho := by with_unfolding_all exact ⟨⟨by omega, by omega⟩, sameM y.net k _, trivial⟩) ?_
      refine R1 [] ?_
      refine ⟨k + 1, by omega, by omega, Le.cut _ 7 (by omega) ⟨⟨by with_unfolding_all rfl, rfl⟩, ⟨by with_unfolding_all rfl, rfl⟩, ⟨by with_unfolding_all rfl, rfl⟩, ⟨by with_unfolding_all rfl, rfl⟩, ⟨sl_int (wrap_up (by omega)), rfl⟩, trivial⟩ ?_⟩
      rw [← memL_keep]
      with_unfolding_all rfl
  all_goals
  refine W.exit ?_
  refine W.le hc0 (Le.cut [(0, .ptr 0 []), (3, .ptr 2 [])] 6 (by omega) (es' := (CE y ++ [.ref (.ptr 3 []), .var (eCrowd y) [([1], 5)], .row 7 (c.net.map eLetter), .row 7 (y.net.map eLetter)])) ⟨⟨by with_unfolding_all rfl, rfl⟩, ⟨by with_unfolding_all rfl, rfl⟩, trivial⟩ (by with_unfolding_all rfl)) ?_
  refine W.seq (R [] ?_)
  refine W.block (W.loop hc0 (ι := Nat) (fun i => ⟨50, frOf [(0, .ptr 0 []), (3, .ptr 2 []), (30, .data (I i))], (CE y ++ [.ref (.ptr 3 []), .var (eCrowd y) [([1], 5)], .row 7 (c.net.map eLetter), .row 7 (y.net.map eLetter)])⟩) (fun i => i ≤ 4) (fun i => 4 - i) 0 (by omega) ?_ ?_)
  · exact Le.cut _ 6 (by omega) ⟨⟨by with_unfolding_all rfl, rfl⟩, ⟨by with_unfolding_all rfl, rfl⟩, ⟨by with_unfolding_all rfl, rfl⟩, trivial⟩ (by with_unfolding_all rfl)
  intro i hi
  refine R [] ?_
  refine W.seq (C (fun hb => ?_) (fun hb => ?_))
  · have hi : i < 4 := by have := of_decide_eq_true hb; omega
    have hqi := hq i hi
    clear hb
    refine W.skip (W.seq (W.block ?_))
    refine R [] ?_
    by_cases hqe : (y.nodes i).queue = []
    · refine R [Hint.on [0, 1] (CE y) (.data (eNode (y.nodes i)))] (ho := by exact ⟨crowdNode_spec y (i : Nat) (by omega) hqi, trivial⟩) ?_
      refine R [] ?_
      refine W.block (W.loop hc0 (ι := Nat) (fun k => ⟨50, frOf [(0, .ptr 0 []), (3, .ptr 2 []), (30, .data (I i)), (38, .data (I (((y.nodes i).queue.map I).length : Int))), (39, .data (I k))], (CE y ++ [.ref (.ptr 3 []), .var (eCrowd y) [([1], 5)], .row 7 (c.net.map eLetter), .row 7 (y.net.map eLetter)])⟩) (fun _ => True) (fun _ => 0) 0 trivial ?_ ?_)
      · exact Le.cut _ 6 (by omega) ⟨⟨by with_unfolding_all rfl, rfl⟩, ⟨by with_unfolding_all rfl, rfl⟩, ⟨by with_unfolding_all rfl, rfl⟩, ⟨by with_unfolding_all rfl, rfl⟩, ⟨by with_unfolding_all rfl, rfl⟩, trivial⟩ (by with_unfolding_all rfl)
      intro k _
      refine R [] ?_
      refine W.seq (C (fun hb => ?_) (fun hb => ?_))
      · exfalso
        have hb : (k : Int) < ((y.nodes i).queue.map I).length := of_decide_eq_true hb
        rw [hqe] at hb
        simp at hb
        omega
      refine W.exit ?_
      refine R1 [] ?_
      exact ⟨i + 1, by omega, by omega, Le.cut _ 6 (by omega) ⟨⟨by with_unfolding_all rfl, rfl⟩, ⟨by with_unfolding_all rfl, rfl⟩, ⟨sl_int (wrap_up (by omega)), rfl⟩, trivial⟩ (by with_unfolding_all rfl)⟩
    · have hfn := crowdNode_cptr y (i : Nat) (by omega) hqi
      have hqe' : (y.nodes i).queue.map I ≠ [] := by simpa using hqe
      refine W.seq (TKq (x := 0) (tok := [([1], 1)]) hfn (by simp) rfl rfl hqe' (ownQ_at _) (fun _ _ => rfl) (fun _ _ => rfl) ?_)
      refine R [] ?_
      have hN : ((y.nodes i).queue.map I).length ≤ 1000000 := by rw [List.length_map]; exact hqi
      refine W.block (W.loop hc0 (ι := Nat) (fun k => ⟨50, frOf [(0, .ptr 0 []), (3, .ptr 2 []), (11, .sl 6 0 ((y.nodes i).queue.map I).length ((y.nodes i).queue.map I).length), (30, .data (I i)), (38, .data (I (((y.nodes i).queue.map I).length : Int))), (39, .data (I k))], (CE y ++ [.ref (.ptr 3 []), .var (eCrowd y) [([1], 5)], .row 7 (c.net.map eLetter), .row 7 (y.net.map eLetter)]) ++ [.var (.arr ((y.nodes i).queue.map I).length 1 (memQ (y.nodes i).queue k)) []]⟩) (fun k => k ≤ ((y.nodes i).queue.map I).length) (fun k => ((y.nodes i).queue.map I).length - k) 0 (by omega) ?_ ?_)
      · exact Le.cut _ 7 (by omega) ⟨⟨by with_unfolding_all rfl, rfl⟩, ⟨by with_unfolding_all rfl, rfl⟩, ⟨by with_unfolding_all rfl, rfl⟩, ⟨by with_unfolding_all rfl, rfl⟩, ⟨by with_unfolding_all rfl, rfl⟩, ⟨by with_unfolding_all rfl, rfl⟩, trivial⟩ (by with_unfolding_all rfl)
      intro k hk
      refine R [] ?_
      refine W.seq (C (fun hb => ?_) (fun hb => ?_))
      · have hk : k < ((y.nodes i).queue.map I).length := by have := of_decide_eq_true hb; omega
        clear hb
        refine W.skip (W.seq (W.block ?_))
        refine R [] ?_
        refine R1 [] (ho := by exact ⟨⟨by omega, by omega⟩, trivial⟩) ?_
        refine R1 [] ?_
        refine ⟨k + 1, by omega, by omega, Le.cut _ 7 (by omega) ⟨⟨by with_unfolding_all rfl, rfl⟩, ⟨by with_unfolding_all rfl, rfl⟩, ⟨by with_unfolding_all rfl, rfl⟩, ⟨by with_unfolding_all rfl, rfl⟩, ⟨by with_unfolding_all rfl, rfl⟩, ⟨sl_int (wrap_up (by omega)), rfl⟩, trivial⟩ ?_⟩
        rw [← memQ_keep]
        with_unfolding_all rfl
      refine W.exit ?_
      refine R1 [] ?_
      exact ⟨i + 1, by omega, by omega, Le.cut _ 6 (by omega) ⟨⟨by with_unfolding_all rfl, rfl⟩, ⟨by with_unfolding_all rfl, rfl⟩, ⟨sl_int (wrap_up (by omega)), rfl⟩, trivial⟩ (by with_unfolding_all rfl)⟩
  · refine W.exit ?_
    refine R [Hint.on [0, 1, 3, 5] (CE y ++ CE2 y) (.data (.bool true))] (ho := by exact ⟨hsame, trivial⟩) ?_
    exact W.ret (EndB 6 (by omega) rfl)

end Go.W

/-
  The law TopMemory.
-/
namespace Go.W
open Go.Proofs

/-- What the other crowd's first letters were when they were laid aside; none: they never were. -/
def oldM (liar : Int) (l : List Act) : Nat → Option (List D)
  | 0 => none
  | i + 1 => match oldM liar l i with
    | some o => some o
    | none => if drops (playC (newC liar) (l.take i)) (l.getD i Act.zero) then some ((playC (newC liar) (l.take i)).net.map eLetter) else none
/-- What stands there: the variable that holds the other crowd; that crowd; ours. -/
def stM (c : CrowdS) : Option (List D) → List Ent
  | none => [.ref (.ptr 1 []), .var (eCrowd c) [([1], 2)], .row 7 (c.net.map eLetter), .var (eCrowd c) [([1], 4)], .row 7 (c.net.map eLetter)]
  | some o => [.ref (.ptr 1 []), .var (eCrowd c) [([1], 5)], .row 7 o, .var (eCrowd c) [([1], 4)], .row 7 (c.net.map eLetter), .row 7 (c.net.map eLetter)]
def lastM (c : CrowdS) : Option (List D) → List D
  | none => c.net.map eLetter
  | some o => o

set_option maxHeartbeats 16000000 in
set_option maxRecDepth 100000 in
theorem play_mem (liar : Int) (l : List Act) (hl : -1 ≤ liar ∧ liar < 4) :
    ∃ xs, Fn Try.prog 11 [.data (I liar), .data (eActs l), .func 19 [.ptr 0 []]] [.ref (.ptr 1 []), .var (eCrowd (newC liar)) [([1], 2)], .row 7 []] (.tuple [.undef, .data (.bool true)]) [.ref (.ptr 1 []), .dead, .row 7 xs] := by
  refine ⟨lastM (playC (newC liar) (l.take (min 300 l.length))) (oldM liar l (min 300 l.length)), ?_⟩
  refine spec_of ttok Try.func11 rfl (by kernel_rfl) (by exact Nat.le_of_ble_eq_true rfl) fun hin hie c0 hc0 he => ?_
  have hn0 : c0.es.length ≤ 3 := Nat.le_of_eq (by rw [he]; rfl)
  refine R [] ?_
  refine W.seq (R [.data (.bool true)] (ho := by exact ⟨alive_top, trivial⟩) ?_)
  refine CF ?_
  refine W.skip ?_
  refine R [Hint.on [] (CE (newC liar)) (.tuple [.ptr 0 [], .data (I 0)])] (ho := by exact ⟨newC_ok liar hl, trivial⟩) ?_
  refine W.seq (R [] ?_)
  refine CF ?_
  refine W.skip ?_
  refine W.seq (R [] ?_)
  refine W.block (W.loop hc0 (ι := Nat × Option (List D)) (fun z => ⟨52, frOf [(1, .data (eActs l)), (2, .func 19 [.ptr 0 []]), (8, .ptr 3 []), (10, .data (I z.1))], stM (playC (newC liar) (l.take z.1)) z.2⟩) (fun z => z.1 ≤ 300 ∧ z.1 ≤ l.length ∧ z.2 = oldM liar l z.1) (fun z => 300 - z.1) (0, none) ⟨by omega, by omega, rfl⟩ ?_ ?_)
  · exact Le.cut _ 5 (by omega) ⟨⟨by with_unfolding_all rfl, rfl⟩, ⟨by with_unfolding_all rfl, rfl⟩, ⟨by with_unfolding_all rfl, rfl⟩, ⟨by with_unfolding_all rfl, rfl⟩, trivial⟩ (by with_unfolding_all rfl)
  · intro ⟨i, o⟩ ⟨hi3, hil, hio⟩
    simp only at hi3 hil hio
    have hyes : drops (playC (newC liar) (l.take i)) (l.getD i Act.zero) → oldM liar l (i + 1) = some (lastM (playC (newC liar) (l.take i)) o) := fun h => by
      subst hio
      rw [oldM]
      cases oldM liar l i with
      | none => simp only [if_pos h]; rfl
      | some o => rfl
    have hno : ¬ drops (playC (newC liar) (l.take i)) (l.getD i Act.zero) → oldM liar l (i + 1) = o := fun h => by
      subst hio
      rw [oldM]
      cases oldM liar l i with
      | none => simp only [if_neg h]
      | some o => rfl
    cases o
    case none =>
      skip
      refine W.seq (R [] ?_)
      refine C (fun hb => ?_) (fun hb => ?_)
      · have hii : i < l.length ∧ i < 300 := by
          have hb : (bif decide ((i : Int) < ((l.map eAct).length : Int)) then decide ((i : Int) < 300) else false) = true := hb
          rw [bif_and, List.length_map] at hb
          simp only [Bool.and_eq_true, decide_eq_true_eq] at hb
          omega
        clear hb
        have hp := Played.play liar l i hil (by omega)
        have hT := playC_take (newC liar) l hii.1
        generalize hcc : playC (newC liar) (l.take i) = c at hp hT hyes hno ⊢
        have hac : 0 ≤ c.acts ∧ c.acts ≤ 600 := by have := hp.acts; omega
        have hix : (0 : Int) ≤ i ∧ (i : Int) < (l.map eAct).length := ⟨by omega, by rw [List.length_map]; omega⟩
        refine W.skip (W.seq (W.block ?_))
        generalize hx : l.getD i Act.zero = x at hT hyes hno
        have hcp : AV.cptr ((l.map eAct).getD i default) = .cptr (eAct x) := by rw [cptr_acts _ hii.1, hx]
        have hp' := hp.do (by omega) x
        by_cases hd : drops c x
        · have hdo := do_drop hp.net hac hd
          have hlook := mem_drop c x hd hp.net hac hp'.net (fun k hk => hp'.queue hk)
          have ho' := hyes hd
          clear hyes hno hp hp' hd hac
          generalize doC c x = y at hdo hT hlook
          refine R [.is 38 (.cptr (eAct x)), Hint.on [3, 4] [.var (eCrowd y.1) [([1], 2)], .row 7 (c.net.map eLetter), .row 7 (y.1.net.map eLetter)] (.data (eReply y.2))] (ho := by exact ⟨hcp, hix, sizes_acts l, hdo, sameRR _ _, trivial⟩) ?_
          refine W.le hc0 (Le.pick [0, 1, 2, 3, 5, 6] [(1, .data (eActs l)), (2, .func 19 [.ptr 0 []]), (8, .ptr 3 []), (10, .data (I i)), (11, .ptr 5 [])] (es' := [.ref (.ptr 1 []), .var (eCrowd c) [([1], 2)], .row 7 (c.net.map eLetter), .var (eCrowd y.1) [([1], 4)], .row 7 (y.1.net.map eLetter), .var (eReply y.2) []]) (fun k hk => by rcases (by omega : k = 0 ∨ k = 1 ∨ k = 2) with rfl | rfl | rfl <;> rfl) (by with_unfolding_all rfl) (by with_unfolding_all rfl) ⟨by with_unfolding_all rfl, by with_unfolding_all rfl, by with_unfolding_all rfl, by with_unfolding_all rfl, by with_unfolding_all rfl, trivial⟩) ?_
          refine RD [.is 45 (.cptr (eAct x)), Hint.on [3, 4, 0, 1, 2] (CE y.1 ++ [.ref (.ptr 3 []), .var (eCrowd y.1) [([1], 5)], .row 7 (c.net.map eLetter), .row 7 (y.1.net.map eLetter)]) (.data (.bool true))] (ho := by exact ⟨hcp, hix, sizes_acts l, hlook, trivial⟩) ?_
          refine CF ?_
          refine W.skip ?_
          refine W.le hc0 (Le.pick [0, 1, 2, 3, 4, 6] [(1, .data (eActs l)), (2, .func 19 [.ptr 0 []]), (8, .ptr 3 []), (10, .data (I i))] (es' := stM y.1 (some (c.net.map eLetter))) (fun k hk => by rcases (by omega : k = 0 ∨ k = 1 ∨ k = 2) with rfl | rfl | rfl <;> rfl) (by with_unfolding_all rfl) (by with_unfolding_all rfl) ⟨by with_unfolding_all rfl, by with_unfolding_all rfl, by with_unfolding_all rfl, by with_unfolding_all rfl, trivial⟩) ?_
          refine R1 [] ?_
          refine ⟨(i + 1, some (c.net.map eLetter)), ⟨by show i + 1 ≤ 300; omega, by show i + 1 ≤ l.length; omega, ho'.symm⟩, by show 300 - (i + 1) < 300 - i; omega, Le.cut _ 6 (by omega) ⟨⟨by with_unfolding_all rfl, rfl⟩, ⟨by with_unfolding_all rfl, rfl⟩, ⟨by with_unfolding_all rfl, rfl⟩, ⟨sl_int (wrap_up (by omega)), rfl⟩, trivial⟩ ?_⟩
          simp only
          rw [hT]
          with_unfolding_all rfl
        · have hdo := do_no hp.net hac hd
          have hlook := mem_no c x hd hp.net hac hp'.net (fun k hk => hp'.queue hk)
          have ho' := hno hd
          clear hyes hno hp hp' hd hac
          generalize doC c x = y at hdo hT hlook
          refine R [.is 38 (.cptr (eAct x)), Hint.on [3, 4] (CE y.1) (.data (eReply y.2))] (ho := by exact ⟨hcp, hix, sizes_acts l, hdo, sameRR _ _, trivial⟩) ?_
          refine RD [.is 45 (.cptr (eAct x)), Hint.on [3, 4, 0, 1, 2] (CE y.1 ++ [.ref (.ptr 3 []), .var (eCrowd y.1) [([1], 4)], .row 7 (y.1.net.map eLetter)]) (.data (.bool true))] (ho := by exact ⟨hcp, hix, sizes_acts l, hlook, trivial⟩) ?_
          refine CF ?_
          refine W.skip ?_
          refine R1 [] ?_
          refine ⟨(i + 1, none), ⟨by show i + 1 ≤ 300; omega, by show i + 1 ≤ l.length; omega, ho'.symm⟩, by show 300 - (i + 1) < 300 - i; omega, Le.cut _ 5 (by omega) ⟨⟨by with_unfolding_all rfl, rfl⟩, ⟨by with_unfolding_all rfl, rfl⟩, ⟨by with_unfolding_all rfl, rfl⟩, ⟨sl_int (wrap_up (by omega)), rfl⟩, trivial⟩ ?_⟩
          simp only
          rw [hT]
          with_unfolding_all rfl
      · have hb : (bif decide ((i : Int) < ((l.map eAct).length : Int)) then decide ((i : Int) < 300) else false) = false := hb
        rw [bif_and, List.length_map] at hb
        simp only [Bool.and_eq_false_iff, decide_eq_false_iff_not] at hb
        have hend : i = min 300 l.length := by omega
        refine W.exit ?_
        refine R [] ?_
        rw [← hend, ← hio]
        clear hyes hno
        generalize playC (newC liar) (l.take i) = c
        refine W.le hc0 (Le.freeze 1 (d := eCrowd c) (tok := [([1], 2)]) (by with_unfolding_all rfl)) ?_
        exact W.ret (End 3 (by omega) ⟨rfl, rfl⟩)
    case some =>
      rename_i old
      refine W.seq (R [] ?_)
      refine C (fun hb => ?_) (fun hb => ?_)
      · have hii : i < l.length ∧ i < 300 := by
          have hb : (bif decide ((i : Int) < ((l.map eAct).length : Int)) then decide ((i : Int) < 300) else false) = true := hb
          rw [bif_and, List.length_map] at hb
          simp only [Bool.and_eq_true, decide_eq_true_eq] at hb
          omega
        clear hb
        have hp := Played.play liar l i hil (by omega)
        have hT := playC_take (newC liar) l hii.1
        generalize hcc : playC (newC liar) (l.take i) = c at hp hT hyes hno ⊢
        have hac : 0 ≤ c.acts ∧ c.acts ≤ 600 := by have := hp.acts; omega
        have hix : (0 : Int) ≤ i ∧ (i : Int) < (l.map eAct).length := ⟨by omega, by rw [List.length_map]; omega⟩
        refine W.skip (W.seq (W.block ?_))
        generalize hx : l.getD i Act.zero = x at hT hyes hno
        have hcp : AV.cptr ((l.map eAct).getD i default) = .cptr (eAct x) := by rw [cptr_acts _ hii.1, hx]
        have hp' := hp.do (by omega) x
        by_cases hd : drops c x
        · have hdo := do_drop hp.net hac hd
          have hlook := mem_drop c x hd hp.net hac hp'.net (fun k hk => hp'.queue hk)
          have ho' := hyes hd
          clear hyes hno hp hp' hd hac
          generalize doC c x = y at hdo hT hlook
          refine R [.is 38 (.cptr (eAct x)), Hint.on [3, 4] [.var (eCrowd y.1) [([1], 2)], .row 7 (c.net.map eLetter), .row 7 (y.1.net.map eLetter)] (.data (eReply y.2))] (ho := by exact ⟨hcp, hix, sizes_acts l, hdo, sameRR _ _, trivial⟩) ?_
          refine W.le hc0 (Le.pick [0, 1, 2, 3, 6, 5, 7] [(1, .data (eActs l)), (2, .func 19 [.ptr 0 []]), (8, .ptr 3 []), (10, .data (I i)), (11, .ptr 6 [])] (es' := [.ref (.ptr 1 []), .var (eCrowd c) [([1], 5)], .row 7 old, .var (eCrowd y.1) [([1], 4)], .row 7 (y.1.net.map eLetter), .row 7 (c.net.map eLetter), .var (eReply y.2) []]) (fun k hk => by rcases (by omega : k = 0 ∨ k = 1 ∨ k = 2) with rfl | rfl | rfl <;> rfl) (by with_unfolding_all rfl) (by with_unfolding_all rfl) ⟨by with_unfolding_all rfl, by with_unfolding_all rfl, by with_unfolding_all rfl, by with_unfolding_all rfl, by with_unfolding_all rfl, trivial⟩) ?_
          refine RD [.is 45 (.cptr (eAct x)), Hint.on [3, 4, 0, 1, 5] (CE y.1 ++ [.ref (.ptr 3 []), .var (eCrowd y.1) [([1], 5)], .row 7 (c.net.map eLetter), .row 7 (y.1.net.map eLetter)]) (.data (.bool true))] (ho := by exact ⟨hcp, hix, sizes_acts l, hlook, trivial⟩) ?_
          refine CF ?_
          refine W.skip ?_
          refine W.le hc0 (Le.pick [0, 1, 2, 3, 4, 7] [(1, .data (eActs l)), (2, .func 19 [.ptr 0 []]), (8, .ptr 3 []), (10, .data (I i))] (es' := stM y.1 (some old)) (fun k hk => by rcases (by omega : k = 0 ∨ k = 1 ∨ k = 2) with rfl | rfl | rfl <;> rfl) (by with_unfolding_all rfl) (by with_unfolding_all rfl) ⟨by with_unfolding_all rfl, by with_unfolding_all rfl, by with_unfolding_all rfl, by with_unfolding_all rfl, trivial⟩) ?_
          refine R1 [] ?_
          refine ⟨(i + 1, some old), ⟨by show i + 1 ≤ 300; omega, by show i + 1 ≤ l.length; omega, ho'.symm⟩, by show 300 - (i + 1) < 300 - i; omega, Le.cut _ 6 (by omega) ⟨⟨by with_unfolding_all rfl, rfl⟩, ⟨by with_unfolding_all rfl, rfl⟩, ⟨by with_unfolding_all rfl, rfl⟩, ⟨sl_int (wrap_up (by omega)), rfl⟩, trivial⟩ ?_⟩
          simp only
          rw [hT]
          with_unfolding_all rfl
        · have hdo := do_no hp.net hac hd
          have hlook := mem_no c x hd hp.net hac hp'.net (fun k hk => hp'.queue hk)
          have ho' := hno hd
          clear hyes hno hp hp' hd hac
          generalize doC c x = y at hdo hT hlook
          refine R [.is 38 (.cptr (eAct x)), Hint.on [3, 4] (CE y.1) (.data (eReply y.2))] (ho := by exact ⟨hcp, hix, sizes_acts l, hdo, sameRR _ _, trivial⟩) ?_
          refine RD [.is 45 (.cptr (eAct x)), Hint.on [3, 4, 0, 1, 5] (CE y.1 ++ [.ref (.ptr 3 []), .var (eCrowd y.1) [([1], 4)], .row 7 (y.1.net.map eLetter)]) (.data (.bool true))] (ho := by exact ⟨hcp, hix, sizes_acts l, hlook, trivial⟩) ?_
          refine CF ?_
          refine W.skip ?_
          refine R1 [] ?_
          refine ⟨(i + 1, some old), ⟨by show i + 1 ≤ 300; omega, by show i + 1 ≤ l.length; omega, ho'.symm⟩, by show 300 - (i + 1) < 300 - i; omega, Le.cut _ 6 (by omega) ⟨⟨by with_unfolding_all rfl, rfl⟩, ⟨by with_unfolding_all rfl, rfl⟩, ⟨by with_unfolding_all rfl, rfl⟩, ⟨sl_int (wrap_up (by omega)), rfl⟩, trivial⟩ ?_⟩
          simp only
          rw [hT]
          with_unfolding_all rfl
      · have hb : (bif decide ((i : Int) < ((l.map eAct).length : Int)) then decide ((i : Int) < 300) else false) = false := hb
        rw [bif_and, List.length_map] at hb
        simp only [Bool.and_eq_false_iff, decide_eq_false_iff_not] at hb
        have hend : i = min 300 l.length := by omega
        refine W.exit ?_
        refine R [] ?_
        rw [← hend, ← hio]
        clear hyes hno
        generalize playC (newC liar) (l.take i) = c
        refine W.le hc0 (Le.freeze 1 (d := eCrowd c) (tok := [([1], 5)]) (by with_unfolding_all rfl)) ?_
        exact W.ret (End 3 (by omega) ⟨rfl, rfl⟩)

set_option maxHeartbeats 8000000 in
set_option maxRecDepth 100000 in
theorem topMemory_spec (n : Int) (l : List Act) : Pure Try.prog 7 [.data (I n), .data (eActs l)] (.data (.bool true)) := by
  refine spec_of ttok Try.func7 rfl (by kernel_rfl) (by exact Nat.le_of_ble_eq_true rfl) fun hin hie c0 hc0 he => ?_
  have hn0 : c0.es.length ≤ 0 := Nat.le_of_eq (by rw [he]; rfl)
  have hL := liesV_bd n
  have hlies := lies_top n
  generalize liesV n = liar at hL hlies
  refine R [] ?_
  refine R [.data (I liar), Hint.on [] (CE (newC liar)) (.tuple [.ptr 0 [], .data (I 0)])] (ho := by exact ⟨hlies, newC_ok liar hL, trivial⟩) ?_
  refine W.seq (R [] ?_)
  refine CF ?_
  refine W.skip ?_
  refine W.seq (R [] ?_)
  refine C (fun hb => ?pa) (fun hb => ?pb)
  case' pa =>
    obtain ⟨xs, hp⟩ := play_mem liar (l.take 80) hL
    refine R1 [.is 25 (.data (eActs (l.take 80)))] (ho := by exact ⟨congrArg (fun q => AV.data (.list q)) (List.map_take).symm, ⟨trivial, by show (0 : Int) ≤ 80; omega, Nat.zero_le _, by have hb : (80 : Int) < (l.map eAct).length := of_decide_eq_true hb; show 80 ≤ (l.map eAct).length; omega⟩, sizes_acts l, trivial⟩) ?_
  case' pb =>
    obtain ⟨xs, hp⟩ := play_mem liar l hL
    refine W.skip ?_
  all_goals
  refine R [.data (I liar), Hint.on [2, 0, 1] [.ref (.ptr 1 []), .dead, .row 7 xs] (.tuple [.undef, .data (.bool true)])] (ho := by exact ⟨hlies, hp, trivial⟩) ?_
  refine R [] ?_
  exact W.ret (EndB 0 hn0 rfl)

end Go.W
