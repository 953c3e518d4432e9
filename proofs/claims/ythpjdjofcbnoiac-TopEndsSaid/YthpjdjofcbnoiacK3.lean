/-
  Texts for the law TopEnds: Hi Hl Tj.
-/
import Derived.Test.YthpjdjofcbnoiacK2
import Derived.Test.YthpjdjofcbnoiacPj
import Derived.Test.YthpjdjofcbnoiacPq

/-
  Package top: acts that are played.
-/
namespace Go.W
open Go.Proofs

theorem cptr_acts (l : List Act) {k : Nat} (h : k < l.length) : AV.cptr ((l.map eAct).getD k default) = .cptr (eAct (l.getD k Act.zero)) := by
  simp [List.getElem?_eq_getElem h]
theorem sizes_acts (l : List Act) : ∀ d ∈ l.map eAct, d.size = 14 := by
  intro d hd
  obtain ⟨v, _, rfl⟩ := List.mem_map.1 hd
  rfl
theorem sameAA (a b : Act) : Same (eAct a) (eAct b) := ⟨rfl, fun i hi => by
  match i, hi with
  | 0, _ => trivial
  | 1, _ => trivial
  | 2, _ => trivial
  | 3, _ => trivial
  | 4, _ => exact sameWW _ _
  | 5, _ => exact sameVV _ _⟩

set_option maxHeartbeats 8000000 in
set_option maxRecDepth 100000 in
theorem play_quiet (liar : Int) (l : List Act) (hl : -1 ≤ liar ∧ liar < 4) : Fn Try.prog 11 [.data (I liar), .data (eActs l), .func 12 []] [] (.tuple [.ptr 0 [], .data (.bool true)]) (CE (played liar l)) := by
  refine spec_of ttok Try.func11 rfl (by kernel_rfl) (by exact Nat.le_of_ble_eq_true rfl) fun hin hie c0 hc0 he => ?_
  have hn0 : c0.es.length ≤ 0 := Nat.le_of_eq (by rw [he]; rfl)
  have hz : c0.es.length = 0 := by rw [he]; rfl
  refine R [] ?_
  refine W.seq (R [.data (.bool true)] (ho := by exact ⟨alive_top, trivial⟩) ?_)
  refine CF ?_
  refine W.skip ?_
  refine R [Hint.on [] (CE (newC liar)) (.tuple [.ptr 0 [], .data (I 0)])] (ho := by exact ⟨newC_ok liar hl, trivial⟩) ?_
  refine W.seq (R [] ?_)
  refine CF ?_
  refine W.skip ?_
  refine W.seq (R [] ?_)
  refine W.block (W.loop hc0 (ι := Nat) (fun i => ⟨52, frOf [(1, .data (eActs l)), (2, .func 12 []), (8, .ptr 0 []), (10, .data (I i))], CE (playC (newC liar) (l.take i))⟩) (fun i => i ≤ 300 ∧ i ≤ l.length) (fun i => 300 - i) 0 (by omega) ?_ ?_)
  · exact Le.cut _ 2 (by omega) ⟨⟨by with_unfolding_all rfl, rfl⟩, ⟨by with_unfolding_all rfl, rfl⟩, ⟨by with_unfolding_all rfl, rfl⟩, ⟨by with_unfolding_all rfl, rfl⟩, trivial⟩ (by with_unfolding_all rfl)
  · intro i ⟨hi3, hil⟩
    refine W.seq (R [] ?_)
    refine C (fun hb => ?_) (fun hb => ?_)
    · have hii : i < l.length ∧ i < 300 := by
        have hb : (bif decide ((i : Int) < ((l.map eAct).length : Int)) then decide ((i : Int) < 300) else false) = true := hb
        rw [bif_and, List.length_map] at hb
        simp only [Bool.and_eq_true, decide_eq_true_eq] at hb
        omega
      clear hb
      have hp := Played.play liar l i hil (by omega)
      have hT := playC_take (newC liar) l hii.1
      generalize playC (newC liar) (l.take i) = c at hp hT ⊢
      have hac : 0 ≤ c.acts ∧ c.acts ≤ 600 := by have := hp.acts; omega
      have hix : (0 : Int) ≤ i ∧ (i : Int) < (l.map eAct).length := ⟨by omega, by rw [List.length_map]; omega⟩
      refine W.skip (W.seq (W.block ?_))
      generalize hx : l.getD i Act.zero = x at hT
      have hcp : AV.cptr ((l.map eAct).getD i default) = .cptr (eAct x) := by rw [cptr_acts _ hii.1, hx]
      by_cases hd : drops c x
      case' pos =>
        have hdo := do_drop hp.net hac hd
        generalize doC c x = y at hdo hT
        refine R [.is 38 (.cptr (eAct x)), Hint.on [0, 1] [.var (eCrowd y.1) [([1], 2)], .row 7 (c.net.map eLetter), .row 7 (y.1.net.map eLetter)] (.data (eReply y.2))] (ho := by exact ⟨hcp, hix, sizes_acts l, hdo, sameRR _ _, trivial⟩) ?_
        refine W.le hc0 (Le.pick [0, 2, 3] [(1, .data (eActs l)), (2, .func 12 []), (8, .ptr 0 []), (10, .data (I i)), (11, .ptr 2 [])] (es' := CE y.1 ++ [.var (eReply y.2) []]) (fun k hk => by omega) (by with_unfolding_all rfl) (by with_unfolding_all rfl) ⟨by with_unfolding_all rfl, by with_unfolding_all rfl, by with_unfolding_all rfl, by with_unfolding_all rfl, by with_unfolding_all rfl, trivial⟩) ?_
      case' neg =>
        have hdo := do_no hp.net hac hd
        generalize doC c x = y at hdo hT
        refine R [.is 38 (.cptr (eAct x)), Hint.on [0, 1] (CE y.1) (.data (eReply y.2))] (ho := by exact ⟨hcp, hix, sizes_acts l, hdo, sameRR _ _, trivial⟩) ?_
        refine W.le hc0 (Le.cut [(1, .data (eActs l)), (2, .func 12 []), (8, .ptr 0 []), (10, .data (I i)), (11, .ptr 2 [])] 3 (by omega) (es' := CE y.1 ++ [.var (eReply y.2) []]) ⟨⟨by with_unfolding_all rfl, rfl⟩, ⟨by with_unfolding_all rfl, rfl⟩, ⟨by with_unfolding_all rfl, rfl⟩, ⟨by with_unfolding_all rfl, rfl⟩, ⟨by with_unfolding_all rfl, rfl⟩, trivial⟩ (by with_unfolding_all rfl)) ?_
      all_goals
        refine RD [.is 45 (.cptr (eAct x)), Hint.on [0, 1] (CE y.1) (.data (.bool true))] (ho := by exact ⟨hcp, hix, sizes_acts l, quiet_top y.1 x y.2, trivial⟩) ?_
        refine CF ?_
        refine W.skip ?_
        refine R1 [] ?_
        refine ⟨i + 1, by omega, by omega, Le.cut _ 2 (by omega) ⟨⟨by with_unfolding_all rfl, rfl⟩, ⟨by with_unfolding_all rfl, rfl⟩, ⟨by with_unfolding_all rfl, rfl⟩, ⟨sl_int (wrap_up (by omega)), rfl⟩, trivial⟩ ?_⟩
        rw [hT]
        with_unfolding_all rfl
    · have hb : (bif decide ((i : Int) < ((l.map eAct).length : Int)) then decide ((i : Int) < 300) else false) = false := hb
      rw [bif_and, List.length_map] at hb
      simp only [Bool.and_eq_false_iff, decide_eq_false_iff_not] at hb
      have hend := played_end (liar := liar) (l := l) (i := i) (by omega) hi3
      rw [hend]
      refine W.exit ?_
      refine R [] ?_
      exact W.ret (End 2 (by omega) ⟨rfl, rfl⟩)

end Go.W

/-
  Package top: two crowds that stand alike.
-/
namespace Go.W
open Go.Proofs

theorem eqDt_votes (v : Nat → Int) : eqD (eVotes v) (eVotes v) = true := allTo_spec.2 fun _ _ => beq_self_eq_true _
theorem eqDt_votes6 (v : Nat → Nat → Int) : eqD (eVotes6 v) (eVotes6 v) = true := allTo_spec.2 fun _ _ => eqDt_votes _
theorem eqDt_call (c : Call) : eqD (eCall c) (eCall c) = true := allTo_spec.2 fun i hi => by
  match i, hi with
  | 0, _ => exact beq_self_eq_true _
  | 1, _ => exact beq_self_eq_true _
  | 2, _ => exact beq_self_eq_true _
theorem eqDt_calls (c : Nat → Call) : eqD (eCalls c) (eCalls c) = true := allTo_spec.2 fun _ _ => eqDt_call _
theorem eqDt_sheet (s : Sheet) : eqD (eSheet s) (eSheet s) = true := allTo_spec.2 fun i hi => by
  match i, hi with
  | 0, _ => exact eqDt_calls _
  | 1, _ => exact eqDt_votes6 _
  | 2, _ => exact eqDt_votes6 _
theorem eqDt_sheets (s : Nat → Sheet) : eqD (eSheets s) (eSheets s) = true := allTo_spec.2 fun _ _ => eqDt_sheet _
theorem eqDt_bools (s : Nat → Bool) : eqD (eBools6 s) (eBools6 s) = true := allTo_spec.2 fun _ _ => beq_self_eq_true _
theorem eqDt_word (w : Word) : eqD (eWord w) (eWord w) = true := allTo_spec.2 fun i hi => by
  match i, hi with
  | 0, _ => exact beq_self_eq_true _
  | 1, _ => exact beq_self_eq_true _
  | 2, _ => exact beq_self_eq_true _
  | 3, _ => exact beq_self_eq_true _
  | 4, _ => exact beq_self_eq_true _
  | 5, _ => exact beq_self_eq_true _
theorem eqDt_letter (x : Letter) : eqD (eLetter x) (eLetter x) = true := allTo_spec.2 fun i hi => by
  match i, hi with
  | 0, _ => exact beq_self_eq_true _
  | 1, _ => exact eqDt_word _
theorem eqDt_reply (r : Reply) : eqD (eReply r) (eReply r) = true := allTo_spec.2 fun i hi => by
  match i, hi with
  | 0, _ => exact beq_self_eq_true _
  | 1, _ => exact beq_self_eq_true _
  | 2, _ => exact eqDt_votes _
theorem bift {a b : Bool} (h1 : a = false) (h2 : b = false) : (bif a then true else b) = false := by subst h1; exact h2
theorem nott {a : Bool} (h : a = true) : (!a) = false := by subst h; rfl
theorem beqt (a : Int) : (!(a == a)) = false := by simp

/-- The second crowd. -/
abbrev CE2 (g : CrowdS) : List Ent := [.var (eCrowd g) [([1], 3)], .row 7 (g.net.map eLetter)]

set_option maxHeartbeats 16000000 in
set_option maxRecDepth 100000 in
theorem same_top (c g : CrowdS) (hnodes : ∀ i, i < 4 → c.nodes i = g.nodes i) (hnet : c.net = g.net) (hl : c.net.length ≤ 2000) (hq : ∀ i, i < 4 → (c.nodes i).queue.length ≤ 1000000) :
    Fn Try.prog 18 [.ptr 0 [], .ptr 2 []] (CE c ++ CE2 g) (.data (.bool true)) (CE c ++ CE2 g) := by
  refine spec_of ttok Try.func18 rfl (by kernel_rfl) (by exact Nat.le_of_ble_eq_true rfl) fun hin hie c0 hc0 he => ?_
  have hn0 : c0.es.length ≤ 4 := Nat.le_of_eq (by rw [he]; rfl)
  have hng := crowdNet_spec g (by rw [← hnet]; exact hl)
  rw [← hnet] at hng
  refine R [] ?_
  refine R [Hint.on [0, 1] (CE c) (.data (eLetters c.net)), Hint.on [2, 3] (CE g) (.data (eLetters c.net))] (ho := by exact ⟨crowdNet_spec c hl, hng, trivial⟩) ?_
  refine W.seq (R [] ?_)
  refine C (fun hb => ?_) (fun hb => ?_)
  · exfalso
    have hb : (!(((c.net.map eLetter).length : Int) == ((c.net.map eLetter).length : Int))) = true := hb
    rw [beqt] at hb; cases hb
  clear hb
  refine W.skip ?_
  refine W.seq (R [] ?_)
  refine W.block (W.loop hc0 (ι := Nat) (fun k => ⟨139, frOf [(0, .ptr 0 []), (1, .ptr 2 []), (5, .data (eLetters c.net)), (6, .data (eLetters c.net)), (22, .data (I ((c.net.map eLetter).length : Int))), (23, .data (I k))], CE c ++ CE2 g⟩) (fun k => k ≤ c.net.length) (fun k => c.net.length - k) 0 (by omega) ?_ ?_)
  · exact Le.cut _ 4 (by omega) ⟨⟨by with_unfolding_all rfl, rfl⟩, ⟨by with_unfolding_all rfl, rfl⟩, ⟨by with_unfolding_all rfl, rfl⟩, ⟨by with_unfolding_all rfl, rfl⟩, ⟨by with_unfolding_all rfl, rfl⟩, ⟨by with_unfolding_all rfl, rfl⟩, trivial⟩ (by with_unfolding_all rfl)
  · intro k hk
    refine R [] ?_
    refine W.seq (C (fun hb => ?_) (fun hb => ?_))
    · have hk : k < c.net.length := by have hb : (k : Int) < (c.net.map eLetter).length := of_decide_eq_true hb; rw [List.length_map] at hb; omega
      have hki : (0 : Int) ≤ k ∧ (k : Int) < (c.net.map eLetter).length := ⟨by omega, by rw [List.length_map]; omega⟩
      have hcp := cptr_letters c.net hk
      generalize c.net.getD k Letter.zero = x at hcp
      clear hb
      refine W.skip (W.seq (W.block ?_))
      refine R [] ?_
      refine RD [.is 28 (.cptr (eLetter x)), .is 32 (.cptr (eLetter x))] (ho := by exact ⟨hcp, hki, sizes_letters _, hcp, hki, sizes_letters _, trivial⟩) ?_
      refine C (fun hb => ?_) (fun hb => ?_)
      · exfalso
        have hb : (!(eqD (eLetter x) (eLetter x))) = true := hb
        rw [nott (eqDt_letter x)] at hb; cases hb
      refine W.skip ?_
      refine R1 [] ?_
      exact ⟨k + 1, by omega, by omega, Le.cut _ 4 (by omega) ⟨⟨by with_unfolding_all rfl, rfl⟩, ⟨by with_unfolding_all rfl, rfl⟩, ⟨by with_unfolding_all rfl, rfl⟩, ⟨by with_unfolding_all rfl, rfl⟩, ⟨by with_unfolding_all rfl, rfl⟩, ⟨sl_int (wrap_up (by omega)), rfl⟩, trivial⟩ (by with_unfolding_all rfl)⟩
    · clear hb
      refine W.exit ?_
      refine W.seq (R [] ?_)
      refine W.block (W.loop hc0 (ι := Nat) (fun i => ⟨139, frOf [(0, .ptr 0 []), (1, .ptr 2 []), (36, .data (I i))], CE c ++ CE2 g⟩) (fun i => i ≤ 4) (fun i => 4 - i) 0 (by omega) ?_ ?_)
      · exact Le.cut _ 4 (by omega) ⟨⟨by with_unfolding_all rfl, rfl⟩, ⟨by with_unfolding_all rfl, rfl⟩, ⟨by with_unfolding_all rfl, rfl⟩, trivial⟩ (by with_unfolding_all rfl)
      · intro i hi
        refine R [] ?_
        refine W.seq (C (fun hb => ?_) (fun hb => ?_))
        · have hi : i < 4 := by have := of_decide_eq_true hb; omega
          clear hb
          have hc1 := crowdNode_spec c (i : Nat) (by omega) (hq i hi)
          have hg1 := crowdNode_spec g (i : Nat) (by omega) (by show (g.nodes i).queue.length ≤ 1000000; rw [← hnodes i hi]; exact hq i hi)
          have hg1 : Fn Try.prog 13 [.ptr 0 [], .data (I (i : Nat))] (CE g) (.data (eNode (c.nodes i))) (CE g) := by rw [hnodes i hi]; exact hg1
          have hqi := hq i hi
          have hc1 : Fn Try.prog 13 [.ptr 0 [], .data (I (i : Nat))] (CE c) (.data (eNode (c.nodes i))) (CE c) := hc1
          generalize c.nodes i = s at hc1 hg1 hqi
          refine W.skip (W.seq (W.block ?_))
          refine R [] ?_
          refine R [Hint.on [0, 1] (CE c) (.data (eNode s)), Hint.on [2, 3] (CE g) (.data (eNode s))] (ho := by exact ⟨hc1, hg1, sameNz _ _, sameNz _ _, trivial⟩) ?_
          refine W.seq (R [] ?_)
          refine C (fun hb => ?_) (fun hb => ?_)
          · exfalso
            have hb : (!(((s.queue.map I).length : Int) == ((s.queue.map I).length : Int))) = true := hb
            rw [beqt] at hb; cases hb
          clear hb
          refine W.skip ?_
          refine W.seq (R [] ?_)
          refine W.block (W.loop hc0 (ι := Nat) (fun k => ⟨139, frOf [(0, .ptr 0 []), (1, .ptr 2 []), (9, .ptr 4 []), (10, .ptr 5 []), (36, .data (I i)), (54, .data (I ((s.queue.map I).length : Int))), (55, .data (I k))], CE c ++ CE2 g ++ [.var (eNode s) [], .var (eNode s) []]⟩) (fun k => k ≤ s.queue.length) (fun k => s.queue.length - k) 0 (by omega) ?_ ?_)
          · exact Le.cut _ 6 (by omega) ⟨⟨by with_unfolding_all rfl, rfl⟩, ⟨by with_unfolding_all rfl, rfl⟩, ⟨by with_unfolding_all rfl, rfl⟩, ⟨by with_unfolding_all rfl, rfl⟩, ⟨by with_unfolding_all rfl, rfl⟩, ⟨by with_unfolding_all rfl, rfl⟩, ⟨by with_unfolding_all rfl, rfl⟩, trivial⟩ (by with_unfolding_all rfl)
          · intro k hk
            refine R [] ?_
            refine W.seq (C (fun hb => ?_) (fun hb => ?_))
            · have hk : k < s.queue.length := by have hb : (k : Int) < (s.queue.map I).length := of_decide_eq_true hb; rw [List.length_map] at hb; omega
              have hki : (0 : Int) ≤ k ∧ (k : Int) < (s.queue.map I).length := ⟨by omega, by rw [List.length_map]; omega⟩
              clear hb
              refine W.skip (W.seq (W.block ?_))
              refine R [] ?_
              refine RD [.is 61 (.cptr (I (s.queue.getD k 0))), .is 66 (.cptr (I (s.queue.getD k 0)))] (ho := by exact ⟨cptr_q _ hk, hki, sizes_q _, cptr_q _ hk, hki, sizes_q _, trivial⟩) ?_
              refine C (fun hb => ?_) (fun hb => ?_)
              · exfalso
                have hb : (!(s.queue.getD k 0 == s.queue.getD k 0)) = true := hb
                rw [beqt] at hb; cases hb
              refine W.skip ?_
              refine R1 [] ?_
              exact ⟨k + 1, by omega, by omega, Le.cut _ 6 (by omega) ⟨⟨by with_unfolding_all rfl, rfl⟩, ⟨by with_unfolding_all rfl, rfl⟩, ⟨by with_unfolding_all rfl, rfl⟩, ⟨by with_unfolding_all rfl, rfl⟩, ⟨by with_unfolding_all rfl, rfl⟩, ⟨by with_unfolding_all rfl, rfl⟩, ⟨sl_int (wrap_up (by omega)), rfl⟩, trivial⟩ (by with_unfolding_all rfl)⟩
            · clear hb
              refine W.exit ?_
              refine R [] ?_
              refine C (fun hb => ?_) (fun hb => ?_)
              · exfalso
                have hf := hb.symm.trans (bift (bift (bift (bift (bift (bift (bift (bift (bift (beqt s.height) (beqt s.round)) (beqt s.step)) (beqt s.bound)) (beqt s.boundIn)) (beqt s.valid)) (beqt s.validIn)) (nott (eqDt_bools s.seen))) (nott (eqDt_sheets s.heard))) (nott (eqDt_votes s.settled)))
                cases hf
              refine W.skip ?_
              refine R1 [] ?_
              exact ⟨i + 1, by omega, by omega, Le.cut _ 4 (by omega) ⟨⟨by with_unfolding_all rfl, rfl⟩, ⟨by with_unfolding_all rfl, rfl⟩, ⟨sl_int (wrap_up (by omega)), rfl⟩, trivial⟩ (by with_unfolding_all rfl)⟩
        · refine W.exit ?_
          refine R [] ?_
          exact W.ret (EndB 4 hn0 rfl)

end Go.W

/-
  The law TopEnds.
-/
namespace Go.W
open Go.Proofs

set_option maxHeartbeats 8000000 in
set_option maxRecDepth 100000 in
theorem topEnds_spec (n : Int) (l : List Act) (a : Act) : Pure Try.prog 8 [.data (I n), .data (eActs l), .data (eAct a)] (.data (.bool true)) := by
  refine spec_of ttok Try.func8 rfl (by kernel_rfl) (by exact Nat.le_of_ble_eq_true rfl) fun hin hie c0 hc0 he => ?_
  have hn0 : c0.es.length ≤ 0 := Nat.le_of_eq (by rw [he]; rfl)
  have hL := liesV_bd n
  have hlies := lies_top n
  generalize liesV n = liar at hL hlies
  have hplay := play_quiet liar l hL
  have hp := Played.all liar l
  generalize played liar l = c at hp hplay
  refine R [] ?_
  refine R [.data (I liar), Hint.on [] (CE c) (.tuple [.ptr 0 [], .data (.bool true)])] (ho := by exact ⟨hlies, hplay, trivial⟩) ?_
  refine R [.data (I liar), Hint.on [] (CE c) (.tuple [.ptr 0 [], .data (.bool true)])] (ho := by exact ⟨hlies, hplay, trivial⟩) ?_
  refine W.seq (R [] ?_)
  refine CF ?_
  refine W.skip ?_
  refine W.seq (R [] ?_)
  have hce : c = acted c (min 300 l.length) := by
    have := hp.acts
    cases c
    simp only [acted] at this ⊢
    rw [this]
  have hmin : (if (300 : Int) < ((l.map eAct).length : Int) then (300 : Int) else ((l.map eAct).length : Int)) = ((min 300 l.length : Nat) : Int) := by rw [List.length_map]; split <;> omega
  have hpn : min 300 l.length ≤ 300 := by omega
  generalize min 300 l.length = pn at hp hpn hce hmin
  refine W.block (W.loop hc0 (ι := Nat) (fun i => ⟨61, frOf [(5, .ptr 0 []), (7, .ptr 1 []), (9, .ptr 3 []), (11, .data (I i))], [.var (eAct a) [], .var (eCrowd (acted c i)) [([1], 2)], .row 7 (c.net.map eLetter), .var (eCrowd (acted c i)) [([1], 4)], .row 7 (c.net.map eLetter)]⟩) (fun i => i ≤ 600) (fun i => 600 - i) pn (by omega) ?_ ?_)
  · refine Le.cut _ 5 (by omega) ⟨⟨by with_unfolding_all rfl, rfl⟩, ⟨by with_unfolding_all rfl, rfl⟩, ⟨by with_unfolding_all rfl, rfl⟩, ⟨sl_int ?_, rfl⟩, trivial⟩ ?_
    · exact hmin
    · rw [← hce]
      with_unfolding_all rfl
  · intro i hi
    refine W.seq (R [] ?_)
    refine C (fun hb => ?_) (fun hb => ?_)
    · have hi : i < 600 := by have := of_decide_eq_true hb; omega
      clear hb
      have hdo := do_no (c := acted c i) (a := Act.zero) hp.net ⟨by show (0 : Int) ≤ (i : Int); omega, by show (i : Int) ≤ 600; omega⟩ (fun h => by have : (0 : Int) = 3 := h.2.1; omega)
      rw [doC_zero c hi] at hdo
      refine W.skip (W.seq (W.block ?_))
      refine R [Hint.on [1, 2] (CE (acted c (i + 1))) (.data (eReply (errR 3))), (Hint.on [3, 4] (CE (acted c (i + 1))) (.data (eReply (errR 3)))).take] (ho := by with_unfolding_all exact ⟨fn_act hdo (actD (a := Act.zero) rfl rfl rfl rfl rfl rfl (fun _ => rfl)), rfl, fn_act hdo (actD (a := Act.zero) rfl rfl rfl rfl rfl rfl (fun _ => rfl)), trivial⟩) ?_
      refine CF ?_
      refine W.skip ?_
      refine R1 [] ?_
      exact ⟨i + 1, by omega, by omega, Le.cut _ 5 (by omega) ⟨⟨by with_unfolding_all rfl, rfl⟩, ⟨by with_unfolding_all rfl, rfl⟩, ⟨by with_unfolding_all rfl, rfl⟩, ⟨sl_int (wrap_up (by omega)), rfl⟩, trivial⟩ (by with_unfolding_all rfl)⟩
    · have hi : i = 600 := by have := of_decide_eq_false hb; omega
      subst hi
      clear hb
      have hdo := do_no (c := acted c 600) (a := a) hp.net ⟨by show (0 : Int) ≤ ((600 : Nat) : Int); omega, by show ((600 : Nat) : Int) ≤ 600; omega⟩ (fun h => by have : ((600 : Nat) : Int) < 600 := h.1; omega)
      rw [doC_full a] at hdo
      have hsame := same_top (acted c 600) (acted c 600) (fun _ _ => rfl) rfl hp.net fun i hi => hp.queue hi
      refine W.exit ?_
      refine R [Hint.on [1, 2] (CE (acted c 600)) (.data (eReply (errR 5))), (Hint.on [1, 2, 3, 4] (CE (acted c 600) ++ CE2 (acted c 600)) (.data (.bool true))).take] (ho := by with_unfolding_all exact ⟨hdo, rfl, hsame, trivial⟩) ?_
      refine W.ret (EndB 0 hn0 ?_)
      with_unfolding_all rfl

end Go.W
