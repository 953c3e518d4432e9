/-
  Texts for the law TopWorks: Hi Hl Hm Tk Pn Tm.
-/
import Derived.Test.YthpjdjofcbnoiacK2
import Derived.Test.YthpjdjofcbnoiacPj
import Derived.Test.YthpjdjofcbnoiacPr
import Derived.Test.YthpjdjofcbnoiacPm
import Derived.Test.YthpjdjofcbnoiacPt

/-
  Package top: acts that are played.
-/
namespace Go.W
open Go.Proofs

theorem cptr_acts (l : List Act) {k : Nat} (h : k < l.length) : AV.cptr ((l.map eAct).getD k default) = .cptr (eAct (l.getD k Act.zero)) := by
  simp [List.getElem?_eq_getElem h]
theorem sizes_acts (l : List Act) : ∀ d ∈ l.map eAct, d.size = 14 := by
  intro d hd
  obtain ⟨v, _, rfl⟩ := List.mem_map.1 hd
  rfl
theorem sameAA (a b : Act) : Same (eAct a) (eAct b) := ⟨rfl, fun i hi => by
  match i, hi with
  | 0, _ => trivial
  | 1, _ => trivial
  | 2, _ => trivial
  | 3, _ => trivial
  | 4, _ => exact sameWW _ _
  | 5, _ => exact sameVV _ _⟩

set_option maxHeartbeats 8000000 in
set_option maxRecDepth 100000 in
theorem play_quiet (liar : Int) (l : List Act) (hl : -1 ≤ liar ∧ liar < 4) : Fn Try.prog 11 [.data (I liar), .data (eActs l), .func 12 []] [] (.tuple [.ptr 0 [], .data (.bool true)]) (CE (played liar l)) := by
  refine spec_of ttok Try.func11 rfl (by kernel_rfl) (by exact Nat.le_of_ble_eq_true rfl) fun hin hie c0 hc0 he => ?_
  have hn0 : c0.es.length ≤ 0 := Nat.le_of_eq (by rw [he]; rfl)
  have hz : c0.es.length = 0 := by rw [he]; rfl
  refine R [] ?_
  refine W.seq (R [.data (.bool true)] (ho := by exact ⟨alive_top, trivial⟩) ?_)
  refine CF ?_
  refine W.skip ?_
  refine R [Hint.on [] (CE (newC liar)) (.tuple [.ptr 0 [], .data (I 0)])] (ho := by exact ⟨newC_ok liar hl, trivial⟩) ?_
  refine W.seq (R [] ?_)
  refine CF ?_
  refine W.skip ?_
  refine W.seq (R [] ?_)
  refine W.block (W.loop hc0 (ι := Nat) (fun i => ⟨52, frOf [(1, .data (eActs l)), (2, .func 12 []), (8, .ptr 0 []), (10, .data (I i))], CE (playC (newC liar) (l.take i))⟩) (fun i => i ≤ 300 ∧ i ≤ l.length) (fun i => 300 - i) 0 (by omega) ?_ ?_)
  · exact Le.cut _ 2 (by omega) ⟨⟨by with_unfolding_all rfl, rfl⟩, ⟨by with_unfolding_all rfl, rfl⟩, ⟨by with_unfolding_all rfl, rfl⟩, ⟨by with_unfolding_all rfl, rfl⟩, trivial⟩ (by with_unfolding_all rfl)
  · intro i ⟨hi3, hil⟩
    refine W.seq (R [] ?_)
    refine C (fun hb => ?_) (fun hb => ?_)
    · have hii : i < l.length ∧ i < 300 := by
        have hb : (bif decide ((i : Int) < ((l.map eAct).length : Int)) then decide ((i : Int) < 300) else false) = true := hb
        rw [bif_and, List.length_map] at hb
        simp only [Bool.and_eq_true, decide_eq_true_eq] at hb
        omega
      clear hb
      have hp := Played.play liar l i hil (by omega)
      have hT := playC_take (newC liar) l hii.1
      generalize playC (newC liar) (l.take i) = c at hp hT ⊢
      have hac : 0 ≤ c.acts ∧ c.acts ≤ 600 := by have := hp.acts; omega
      have hix : (0 : Int) ≤ i ∧ (i : Int) < (l.map eAct).length := ⟨by omega, by rw [List.length_map]; omega⟩
      refine W.skip (W.seq (W.block ?_))
      generalize hx : l.getD i Act.zero = x at hT
      have hcp : AV.cptr ((l.map eAct).getD i default) = .cptr (eAct x) := by rw [cptr_acts _ hii.1, hx]
      by_cases hd : drops c x
      case' pos =>
        have hdo := do_drop hp.net hac hd
        generalize doC c x = y at hdo hT
        refine R [.is 38 (.cptr (eAct x)), Hint.on [0, 1] [.var (eCrowd y.1) [([1], 2)], .row 7 (c.net.map eLetter), .row 7 (y.1.net.map eLetter)] (.data (eReply y.2))] (ho := by exact ⟨hcp, hix, sizes_acts l, hdo, sameRR _ _, trivial⟩) ?_
        refine W.le hc0 (Le.pick [0, 2, 3] [(1, .data (eActs l)), (2, .func 12 []), (8, .ptr 0 []), (10, .data (I i)), (11, .ptr 2 [])] (es' := CE y.1 ++ [.var (eReply y.2) []]) (fun k hk => by omega) (by with_unfolding_all rfl) (by with_unfolding_all rfl) ⟨by with_unfolding_all rfl, by with_unfolding_all rfl, by with_unfolding_all rfl, by with_unfolding_all rfl, by with_unfolding_all rfl, trivial⟩) ?_
      case' neg =>
        have hdo := do_no hp.net hac hd
        generalize doC c x = y at hdo hT
        refine R [.is 38 (.cptr (eAct x)), Hint.on [0, 1] (CE y.1) (.data (eReply y.2))] (ho := by exact ⟨hcp, hix, sizes_acts l, hdo, sameRR _ _, trivial⟩) ?_
        refine W.le hc0 (Le.cut [(1, .data (eActs l)), (2, .func 12 []), (8, .ptr 0 []), (10, .data (I i)), (11, .ptr 2 [])] 3 (by omega) (es' := CE y.1 ++ [.var (eReply y.2) []]) ⟨⟨by with_unfolding_all rfl, rfl⟩, ⟨by with_unfolding_all rfl, rfl⟩, ⟨by with_unfolding_all rfl, rfl⟩, ⟨by with_unfolding_all rfl, rfl⟩, ⟨by with_unfolding_all rfl, rfl⟩, trivial⟩ (by with_unfolding_all rfl)) ?_
      all_goals
        refine RD [.is 45 (.cptr (eAct x)), Hint.on [0, 1] (CE y.1) (.data (.bool true))] (ho := by exact ⟨hcp, hix, sizes_acts l, quiet_top y.1 x y.2, trivial⟩) ?_
        refine CF ?_
        refine W.skip ?_
        refine R1 [] ?_
        refine ⟨i + 1, by omega, by omega, Le.cut _ 2 (by omega) ⟨⟨by with_unfolding_all rfl, rfl⟩, ⟨by with_unfolding_all rfl, rfl⟩, ⟨by with_unfolding_all rfl, rfl⟩, ⟨sl_int (wrap_up (by omega)), rfl⟩, trivial⟩ ?_⟩
        rw [hT]
        with_unfolding_all rfl
    · have hb : (bif decide ((i : Int) < ((l.map eAct).length : Int)) then decide ((i : Int) < 300) else false) = false := hb
      rw [bif_and, List.length_map] at hb
      simp only [Bool.and_eq_false_iff, decide_eq_false_iff_not] at hb
      have hend := played_end (liar := liar) (l := l) (i := i) (by omega) hi3
      rw [hend]
      refine W.exit ?_
      refine R [] ?_
      exact W.ret (End 2 (by omega) ⟨rfl, rfl⟩)

end Go.W

/-
  Package top: two crowds that stand alike.
-/
namespace Go.W
open Go.Proofs

theorem eqDt_votes (v : Nat → Int) : eqD (eVotes v) (eVotes v) = true := allTo_spec.2 fun _ _ => beq_self_eq_true _
theorem eqDt_votes6 (v : Nat → Nat → Int) : eqD (eVotes6 v) (eVotes6 v) = true := allTo_spec.2 fun _ _ => eqDt_votes _
theorem eqDt_call (c : Call) : eqD (eCall c) (eCall c) = true := allTo_spec.2 fun i hi => by
  match i, hi with
  | 0, _ => exact beq_self_eq_true _
  | 1, _ => exact beq_self_eq_true _
  | 2, _ => exact beq_self_eq_true _
theorem eqDt_calls (c : Nat → Call) : eqD (eCalls c) (eCalls c) = true := allTo_spec.2 fun _ _ => eqDt_call _
theorem eqDt_sheet (s : Sheet) : eqD (eSheet s) (eSheet s) = true := allTo_spec.2 fun i hi => by
  match i, hi with
  | 0, _ => exact eqDt_calls _
  | 1, _ => exact eqDt_votes6 _
  | 2, _ => exact eqDt_votes6 _
theorem eqDt_sheets (s : Nat → Sheet) : eqD (eSheets s) (eSheets s) = true := allTo_spec.2 fun _ _ => eqDt_sheet _
theorem eqDt_bools (s : Nat → Bool) : eqD (eBools6 s) (eBools6 s) = true := allTo_spec.2 fun _ _ => beq_self_eq_true _
theorem eqDt_word (w : Word) : eqD (eWord w) (eWord w) = true := allTo_spec.2 fun i hi => by
  match i, hi with
  | 0, _ => exact beq_self_eq_true _
  | 1, _ => exact beq_self_eq_true _
  | 2, _ => exact beq_self_eq_true _
  | 3, _ => exact beq_self_eq_true _
  | 4, _ => exact beq_self_eq_true _
  | 5, _ => exact beq_self_eq_true _
theorem eqDt_letter (x : Letter) : eqD (eLetter x) (eLetter x) = true := allTo_spec.2 fun i hi => by
  match i, hi with
  | 0, _ => exact beq_self_eq_true _
  | 1, _ => exact eqDt_word _
theorem eqDt_reply (r : Reply) : eqD (eReply r) (eReply r) = true := allTo_spec.2 fun i hi => by
  match i, hi with
  | 0, _ => exact beq_self_eq_true _
  | 1, _ => exact beq_self_eq_true _
  | 2, _ => exact eqDt_votes _
theorem bift {a b : Bool} (h1 : a = false) (h2 : b = false) : (bif a then true else b) = false := by subst h1; exact h2
theorem nott {a : Bool} (h : a = true) : (!a) = false := by subst h; rfl
theorem beqt (a : Int) : (!(a == a)) = false := by simp

/-- The second crowd. -/
abbrev CE2 (g : CrowdS) : List Ent := [.var (eCrowd g) [([1], 3)], .row 7 (g.net.map eLetter)]

set_option maxHeartbeats 16000000 in
set_option maxRecDepth 100000 in
theorem same_top (c g : CrowdS) (hnodes : ∀ i, i < 4 → c.nodes i = g.nodes i) (hnet : c.net = g.net) (hl : c.net.length ≤ 2000) (hq : ∀ i, i < 4 → (c.nodes i).queue.length ≤ 1000000) :
    Fn Try.prog 18 [.ptr 0 [], .ptr 2 []] (CE c ++ CE2 g) (.data (.bool true)) (CE c ++ CE2 g) := by
  refine spec_of ttok Try.func18 rfl (by kernel_rfl) (by exact Nat.le_of_ble_eq_true rfl) fun hin hie c0 hc0 he => ?_
  have hn0 : c0.es.length ≤ 4 := Nat.le_of_eq (by rw [he]; rfl)
  have hng := crowdNet_spec g (by rw [← hnet]; exact hl)
  rw [← hnet] at hng
  refine R [] ?_
  refine R [Hint.on [0, 1] (CE c) (.data (eLetters c.net)), Hint.on [2, 3] (CE g) (.data (eLetters c.net))] (ho := by exact ⟨crowdNet_spec c hl, hng, trivial⟩) ?_
  refine W.seq (R [] ?_)
  refine C (fun hb => ?_) (fun hb => ?_)
  · exfalso
    have hb : (!(((c.net.map eLetter).length : Int) == ((c.net.map eLetter).length : Int))) = true := hb
    rw [beqt] at hb; cases hb
  clear hb
  refine W.skip ?_
  refine W.seq (R [] ?_)
  refine W.block (W.loop hc0 (ι := Nat) (fun k => ⟨139, frOf [(0, .ptr 0 []), (1, .ptr 2 []), (5, .data (eLetters c.net)), (6, .data (eLetters c.net)), (22, .data (I ((c.net.map eLetter).length : Int))), (23, .data (I k))], CE c ++ CE2 g⟩) (fun k => k ≤ c.net.length) (fun k => c.net.length - k) 0 (by omega) ?_ ?_)
  · exact Le.cut _ 4 (by omega) ⟨⟨by with_unfolding_all rfl, rfl⟩, ⟨by with_unfolding_all rfl, rfl⟩, ⟨by with_unfolding_all rfl, rfl⟩, ⟨by with_unfolding_all rfl, rfl⟩, ⟨by with_unfolding_all rfl, rfl⟩, ⟨by with_unfolding_all rfl, rfl⟩, trivial⟩ (by with_unfolding_all rfl)
  · intro k hk
    refine R [] ?_
    refine W.seq (C (fun hb => ?_) (fun hb => ?_))
    · have hk : k < c.net.length := by have hb : (k : Int) < (c.net.map eLetter).length := of_decide_eq_true hb; rw [List.length_map] at hb; omega
      have hki : (0 : Int) ≤ k ∧ (k : Int) < (c.net.map eLetter).length := ⟨by omega, by rw [List.length_map]; omega⟩
      have hcp := cptr_letters c.net hk
      generalize c.net.getD k Letter.zero = x at hcp
      clear hb
      refine W.skip (W.seq (W.block ?_))
      refine R [] ?_
      refine RD [.is 28 (.cptr (eLetter x)), .is 32 (.cptr (eLetter x))] (ho := by exact ⟨hcp, hki, sizes_letters _, hcp, hki, sizes_letters _, trivial⟩) ?_
      refine C (fun hb => ?_) (fun hb => ?_)
      · exfalso
        have hb : (!(eqD (eLetter x) (eLetter x))) = true := hb
        rw [nott (eqDt_letter x)] at hb; cases hb
      refine W.skip ?_
      refine R1 [] ?_
      exact ⟨k + 1, by omega, by omega, Le.cut _ 4 (by omega) ⟨⟨by with_unfolding_all rfl, rfl⟩, ⟨by with_unfolding_all rfl, rfl⟩, ⟨by with_unfolding_all rfl, rfl⟩, ⟨by with_unfolding_all rfl, rfl⟩, ⟨by with_unfolding_all rfl, rfl⟩, ⟨sl_int (wrap_up (by omega)), rfl⟩, trivial⟩ (by with_unfolding_all rfl)⟩
    · clear hb
      refine W.exit ?_
      refine W.seq (R [] ?_)
      refine W.block (W.loop hc0 (ι := Nat) (fun i => ⟨139, frOf [(0, .ptr 0 []), (1, .ptr 2 []), (36, .data (I i))], CE c ++ CE2 g⟩) (fun i => i ≤ 4) (fun i => 4 - i) 0 (by omega) ?_ ?_)
      · exact Le.cut _ 4 (by omega) ⟨⟨by with_unfolding_all rfl, rfl⟩, ⟨by with_unfolding_all rfl, rfl⟩, ⟨by with_unfolding_all rfl, rfl⟩, trivial⟩ (by with_unfolding_all rfl)
      · intro i hi
        refine R [] ?_
        refine W.seq (C (fun hb => ?_) (fun hb => ?_))
        · have hi : i < 4 := by have := of_decide_eq_true hb; omega
          clear hb
          have hc1 := crowdNode_spec c (i : Nat) (by omega) (hq i hi)
          have hg1 := crowdNode_spec g (i : Nat) (by omega) (by show (g.nodes i).queue.length ≤ 1000000; rw [← hnodes i hi]; exact hq i hi)
          have hg1 : Fn Try.prog 13 [.ptr 0 [], .data (I (i : Nat))] (CE g) (.data (eNode (c.nodes i))) (CE g) := by rw [hnodes i hi]; exact hg1
          have hqi := hq i hi
          have hc1 : Fn Try.prog 13 [.ptr 0 [], .data (I (i : Nat))] (CE c) (.data (eNode (c.nodes i))) (CE c) := hc1
          generalize c.nodes i = s at hc1 hg1 hqi
          refine W.skip (W.seq (W.block ?_))
          refine R [] ?_
          refine R [Hint.on [0, 1] (CE c) (.data (eNode s)), Hint.on [2, 3] (CE g) (.data (eNode s))] (ho := by exact ⟨hc1, hg1, sameNz _ _, sameNz _ _, trivial⟩) ?_
          refine W.seq (R [] ?_)
          refine C (fun hb => ?_) (fun hb => ?_)
          · exfalso
            have hb : (!(((s.queue.map I).length : Int) == ((s.queue.map I).length : Int))) = true := hb
            rw [beqt] at hb; cases hb
          clear hb
          refine W.skip ?_
          refine W.seq (R [] ?_)
          refine W.block (W.loop hc0 (ι := Nat) (fun k => ⟨139, frOf [(0, .ptr 0 []), (1, .ptr 2 []), (9, .ptr 4 []), (10, .ptr 5 []), (36, .data (I i)), (54, .data (I ((s.queue.map I).length : Int))), (55, .data (I k))], CE c ++ CE2 g ++ [.var (eNode s) [], .var (eNode s) []]⟩) (fun k => k ≤ s.queue.length) (fun k => s.queue.length - k) 0 (by omega) ?_ ?_)
          · exact Le.cut _ 6 (by omega) ⟨⟨by with_unfolding_all rfl, rfl⟩, ⟨by with_unfolding_all rfl, rfl⟩, ⟨by with_unfolding_all rfl, rfl⟩, ⟨by with_unfolding_all rfl, rfl⟩, ⟨by with_unfolding_all rfl, rfl⟩, ⟨by with_unfolding_all rfl, rfl⟩, ⟨by with_unfolding_all rfl, rfl⟩, trivial⟩ (by with_unfolding_all rfl)
          · intro k hk
            refine R [] ?_
            refine W.seq (C (fun hb => ?_) (fun hb => ?_))
            · have hk : k < s.queue.length := by have hb : (k : Int) < (s.queue.map I).length := of_decide_eq_true hb; rw [List.length_map] at hb; omega
              have hki : (0 : Int) ≤ k ∧ (k : Int) < (s.queue.map I).length := ⟨by omega, by rw [List.length_map]; omega⟩
              clear hb
              refine W.skip (W.seq (W.block ?_))
              refine R [] ?_
              refine RD [.is 61 (.cptr (I (s.queue.getD k 0))), .is 66 (.cptr (I (s.queue.getD k 0)))] (ho := by exact ⟨cptr_q _ hk, hki, sizes_q _, cptr_q _ hk, hki, sizes_q _, trivial⟩) ?_
              refine C (fun hb => ?_) (fun hb => ?_)
              · exfalso
                have hb : (!(s.queue.getD k 0 == s.queue.getD k 0)) = true := hb
                rw [beqt] at hb; cases hb
              refine W.skip ?_
              refine R1 [] ?_
              exact ⟨k + 1, by omega, by omega, Le.cut _ 6 (by omega) ⟨⟨by with_unfolding_all rfl, rfl⟩, ⟨by with_unfolding_all rfl, rfl⟩, ⟨by with_unfolding_all rfl, rfl⟩, ⟨by with_unfolding_all rfl, rfl⟩, ⟨by with_unfolding_all rfl, rfl⟩, ⟨by with_unfolding_all rfl, rfl⟩, ⟨sl_int (wrap_up (by omega)), rfl⟩, trivial⟩ (by with_unfolding_all rfl)⟩
            · clear hb
              refine W.exit ?_
              refine R [] ?_
              refine C (fun hb => ?_) (fun hb => ?_)
              · exfalso
                have hf := hb.symm.trans (bift (bift (bift (bift (bift (bift (bift (bift (bift (beqt s.height) (beqt s.round)) (beqt s.step)) (beqt s.bound)) (beqt s.boundIn)) (beqt s.valid)) (beqt s.validIn)) (nott (eqDt_bools s.seen))) (nott (eqDt_sheets s.heard))) (nott (eqDt_votes s.settled)))
                cases hf
              refine W.skip ?_
              refine R1 [] ?_
              exact ⟨i + 1, by omega, by omega, Le.cut _ 4 (by omega) ⟨⟨by with_unfolding_all rfl, rfl⟩, ⟨by with_unfolding_all rfl, rfl⟩, ⟨sl_int (wrap_up (by omega)), rfl⟩, trivial⟩ (by with_unfolding_all rfl)⟩
        · refine W.exit ?_
          refine R [] ?_
          exact W.ret (EndB 4 hn0 rfl)

end Go.W

/-
  Package crowd, walked: acts that are run.
-/
namespace Go.W
open Go.Proofs

theorem cptr_actsR (l : List Act) {k : Nat} (h : k < l.length) : AV.cptr ((l.map eAct).getD k default) = .cptr (eAct (l.getD k Act.zero)) := by
  simp [List.getElem?_eq_getElem h]
theorem sizes_actsR (l : List Act) : ∀ d ∈ l.map eAct, d.size = 14 := by
  intro d hd
  obtain ⟨v, _, rfl⟩ := List.mem_map.1 hd
  rfl
theorem sameAAR (a b : Act) : Same (eAct a) (eAct b) := ⟨rfl, fun i hi => by
  match i, hi with
  | 0, _ => trivial
  | 1, _ => trivial
  | 2, _ => trivial
  | 3, _ => trivial
  | 4, _ => exact sameWW _ _
  | 5, _ => exact sameVV _ _⟩
theorem sizes_replies1 (l : List Reply) (x : Reply) : ∀ d ∈ l.map eReply ++ [eReply x], d.size = 6 := by
  intro d hd
  rcases List.mem_append.1 hd with h | h
  · obtain ⟨v, _, rfl⟩ := List.mem_map.1 h; rfl
  · rw [List.mem_singleton.1 h]; rfl
theorem fits_replies1 (l : List Reply) (x : Reply) (h : l.length ≤ 1000) : (l.map eReply ++ [eReply x]).length ≤ maxLen ∧ (l.map eReply ++ [eReply x]).length * 48 ≤ 140737488355328 := by
  rw [List.length_append, List.length_map]
  unfold maxLen
  simp only [List.length_cons, List.length_nil]
  omega

set_option maxRecDepth 100000 in
theorem run_bad (liar : Int) (l : List Act) (h : liar < -1 ∨ 4 ≤ liar) : Pure Try.prog 20 [.data (I liar), .data (eActs l)] (.tuple [.data .nil, .data (I 2)]) := by
  refine spec_of ttok Try.func20 rfl (by kernel_rfl) (by exact Nat.le_of_ble_eq_true rfl) fun hin hie c0 hc0 he => ?_
  have hn0 : c0.es.length ≤ 0 := Nat.le_of_eq (by rw [he]; rfl)
  refine R [] ?_
  refine R [.tuple [.nilptr, .data (I 2)]] (ho := by exact ⟨newC_err liar h, trivial⟩) ?_
  refine W.seq (R [] ?_)
  refine CT ?_
  refine R [] ?_
  exact W.ret (End 0 hn0 ⟨rfl, rfl⟩)

set_option maxRecDepth 100000 in
theorem run_long (liar : Int) (l : List Act) (h : -1 ≤ liar ∧ liar < 4) (hl : 600 < l.length) : Pure Try.prog 20 [.data (I liar), .data (eActs l)] (.tuple [.data .nil, .data (I 5)]) := by
  refine spec_of ttok Try.func20 rfl (by kernel_rfl) (by exact Nat.le_of_ble_eq_true rfl) fun hin hie c0 hc0 he => ?_
  have hn0 : c0.es.length ≤ 0 := Nat.le_of_eq (by rw [he]; rfl)
  refine R [] ?_
  refine R [Hint.on [] (CE (newC liar)) (.tuple [.ptr 0 [], .data (I 0)])] (ho := by exact ⟨newC_ok liar h, trivial⟩) ?_
  refine W.seq (R [] ?_)
  refine CF ?_
  refine W.skip ?_
  refine W.seq (R [] ?_)
  refine C (fun hb => ?_) (fun hb => ?_)
  · refine R [] ?_
    exact W.ret (End 0 hn0 ⟨rfl, rfl⟩)
  · exfalso
    have hb : decide (600 < ((l.map eAct).length : Int)) = false := hb
    rw [List.length_map] at hb
    have := of_decide_eq_false hb
    omega

set_option maxHeartbeats 8000000 in
set_option maxRecDepth 100000 in
theorem run_spec (liar : Int) (l : List Act) (hl : -1 ≤ liar ∧ liar < 4) (hlen : l.length ≤ 600) : Pure Try.prog 20 [.data (I liar), .data (eActs l)] (.tuple [.data (eReplies (repliesC (newC liar) l)), .data (I 0)]) := by
  refine spec_of ttok Try.func20 rfl (by kernel_rfl) (by exact Nat.le_of_ble_eq_true rfl) fun hin hie c0 hc0 he => ?_
  have hn0 : c0.es.length ≤ 0 := Nat.le_of_eq (by rw [he]; rfl)
  refine R [] ?_
  refine R [Hint.on [] (CE (newC liar)) (.tuple [.ptr 0 [], .data (I 0)])] (ho := by exact ⟨newC_ok liar hl, trivial⟩) ?_
  refine W.seq (R [] ?_)
  refine CF ?_
  refine W.skip ?_
  refine W.seq (R [] ?_)
  refine C (fun hb => ?_) (fun hb => ?_)
  · exfalso
    have hb : decide (600 < ((l.map eAct).length : Int)) = true := hb
    rw [List.length_map] at hb
    have := of_decide_eq_true hb
    omega
  clear hb
  refine W.skip ?_
  refine R [] ?_
  refine W.le hc0 (Le.slotRow 8 6 (by with_unfolding_all rfl)) ?_
  refine W.seq (R [] ?_)
  refine W.block (W.loop hc0 (ι := Nat) (fun i => ⟨36, frOf [(6, .ptr 0 []), (8, .row 2 ((repliesC (newC liar) (l.take i)).map eReply)), (22, .data (eActs l)), (23, .data (I ((l.map eAct).length : Int))), (24, .data (I i))], CE (playC (newC liar) (l.take i)) ++ [.row 6 ((repliesC (newC liar) (l.take i)).map eReply)]⟩) (fun i => i ≤ l.length) (fun i => l.length - i) 0 (by omega) ?_ ?_)
  · exact Le.cut _ 3 (by omega) ⟨⟨by with_unfolding_all rfl, rfl⟩, ⟨by with_unfolding_all rfl, rfl⟩, ⟨by with_unfolding_all rfl, rfl⟩, ⟨by with_unfolding_all rfl, rfl⟩, ⟨by with_unfolding_all rfl, rfl⟩, trivial⟩ (by with_unfolding_all rfl)
  · intro i hi
    refine R [] ?_
    refine W.seq (C (fun hb => ?_) (fun hb => ?_))
    · have hi : i < l.length := by have hb : (i : Int) < (l.map eAct).length := of_decide_eq_true hb; rw [List.length_map] at hb; omega
      clear hb
      have hp := Played.play liar l i (by omega) (by omega)
      have hT := playC_take (newC liar) l hi
      have hR := repliesC_take l (newC liar) i hi
      have hrl : (repliesC (newC liar) (l.take i)).length ≤ 600 := by rw [repliesC_length, List.length_take]; omega
      generalize playC (newC liar) (l.take i) = c at hp hT hR ⊢
      generalize repliesC (newC liar) (l.take i) = rs at hR hrl ⊢
      have hac : 0 ≤ c.acts ∧ c.acts ≤ 600 := by have := hp.acts; omega
      have hix : (0 : Int) ≤ i ∧ (i : Int) < (l.map eAct).length := ⟨by omega, by rw [List.length_map]; omega⟩
      generalize hx : l.getD i Act.zero = x at hT hR
      have hcp : AV.cptr ((l.map eAct).getD i default) = .cptr (eAct x) := by rw [cptr_actsR _ hi, hx]
      refine W.skip (W.seq (W.block ?_))
      refine R [.is 26 (.cptr (eAct x))] (ho := by exact ⟨hcp, hix, sizes_actsR l, sameAAR _ _, trivial⟩) ?_
      by_cases hd : drops c x
      · have hdo := do_drop hp.net hac hd
        generalize doC c x = y at hdo hT hR
        refine R1 [Hint.on [0, 1] [.var (eCrowd y.1) [([1], 2)], .row 7 (c.net.map eLetter), .row 7 (y.1.net.map eLetter)] (.data (eReply y.2))] (ho := by exact ⟨hdo, rfl, sizes_replies1 _ _, fits_replies1 _ _ (by omega), trivial⟩) ?_
        refine R1 [] ?_
        refine ⟨i + 1, by omega, by omega, Le.pick [0, 4, 2] _ (fun k hk => by omega) (by with_unfolding_all rfl) ?_ ?_⟩
        · rw [hT, hR, List.map_append]
          with_unfolding_all rfl
        · refine ⟨by with_unfolding_all rfl, ?_, by with_unfolding_all rfl, by with_unfolding_all rfl, ?_, trivial⟩
          · rw [hR, List.map_append]
            with_unfolding_all rfl
          · with_unfolding_all exact congrArg (fun n => some (AV.data (I n))) (wrap_up (k := i) (by omega))
      · have hdo := do_no hp.net hac hd
        generalize doC c x = y at hdo hT hR
        refine R1 [Hint.on [0, 1] (CE y.1) (.data (eReply y.2))] (ho := by exact ⟨hdo, rfl, sizes_replies1 _ _, fits_replies1 _ _ (by omega), trivial⟩) ?_
        refine R1 [] ?_
        refine ⟨i + 1, by omega, by omega, Le.cut _ 3 (by omega) ⟨⟨by with_unfolding_all rfl, rfl⟩, ⟨?_, rfl⟩, ⟨by with_unfolding_all rfl, rfl⟩, ⟨by with_unfolding_all rfl, rfl⟩, ⟨sl_int (wrap_up (by omega)), rfl⟩, trivial⟩ ?_⟩
        · rw [hR, List.map_append]
          with_unfolding_all rfl
        · rw [hT, hR, List.map_append]
          with_unfolding_all rfl
    · have hi : i = l.length := by have hb : ¬ (i : Int) < (l.map eAct).length := of_decide_eq_false hb; rw [List.length_map] at hb; omega
      subst hi
      refine W.exit ?_
      refine R [] ?_
      rw [List.take_length]
      exact W.ret (End 0 hn0 ⟨rfl, rfl⟩)

end Go.W

/-
  The law TopRuns.
-/
namespace Go.W
open Go.Proofs

theorem pure_2 {P : Program} {f : FuncId} {p r : AV} {d d' : D} (h : Pure P f [p, .data d'] r) (e : d = d') : Pure P f [p, .data d] r := by subst e; exact h
theorem fits_acts (l : List Act) (h : l.length ≤ 1000000000000) : ((l.map eAct)).length ≤ maxLen ∧ ((l.map eAct)).length * 112 ≤ 140737488355328 := by
  rw [List.length_map]
  unfold maxLen
  omega
theorem cptr_replies (l : List Reply) {k : Nat} (h : k < l.length) : AV.cptr ((l.map eReply).getD k default) = .cptr (eReply (l.getD k Reply.zero)) := by
  simp [List.getElem?_eq_getElem h]
theorem sizes_replies (l : List Reply) : ∀ d ∈ l.map eReply, d.size = 6 := by
  intro d hd
  obtain ⟨v, _, rfl⟩ := List.mem_map.1 hd
  rfl
theorem tmod_up {k m : Int} (hm : 0 < m) (h : m ≤ 1000) : IntKind.i64.wrap (Int.tmod k m) = Int.tmod k m ∧ IntKind.i64.wrap (Int.tmod k m + m) = Int.tmod k m + m ∧ Int.tmod (Int.tmod k m + m) m = k % m ∧ 0 ≤ k % m ∧ k % m < m := by
  have h1 := Int.emod_nonneg k (show m ≠ 0 by omega)
  have h2 := Int.emod_lt_of_pos k hm
  have h3 : (Int.tmod k m = k % m) ∨ (Int.tmod k m = k % m - m) := by
    rcases Int.lt_or_le k 0 with h | h
    · have e : Int.tmod k m = - Int.tmod (-k) m := by rw [Int.neg_tmod]; omega
      rw [Int.tmod_eq_emod_of_nonneg (show 0 ≤ -k by omega)] at e
      have q1 := Int.emod_nonneg (-k) (show m ≠ 0 by omega)
      have q2 := Int.emod_lt_of_pos (-k) hm
      have q3 : (k % m + (-k) % m) % m = 0 := by rw [← Int.add_emod, Int.add_right_neg, Int.zero_emod]
      have q4 : k % m + (-k) % m = 0 ∨ k % m + (-k) % m = m := by
        have q5 := Int.emod_add_mul_ediv (k % m + (-k) % m) m
        rw [q3] at q5
        rcases Int.lt_or_le ((k % m + (-k) % m) / m) 1 with g | g
        · rcases Int.lt_or_le ((k % m + (-k) % m) / m) 0 with g' | g'
          · have : m * ((k % m + (-k) % m) / m) ≤ m * (-1) := Int.mul_le_mul_of_nonneg_left (by omega) (by omega)
            omega
          · have : (k % m + (-k) % m) / m = 0 := by omega
            rw [this] at q5; omega
        · rcases Int.lt_or_le 1 ((k % m + (-k) % m) / m) with g' | g'
          · have : m * 2 ≤ m * ((k % m + (-k) % m) / m) := Int.mul_le_mul_of_nonneg_left (by omega) (by omega)
            omega
          · have : (k % m + (-k) % m) / m = 1 := by omega
            rw [this] at q5; omega
      rw [e]
      rcases q4 with g | g
      · left; omega
      · right; omega
    · left; exact Int.tmod_eq_emod_of_nonneg h
  refine ⟨?_, ?_, ?_, h1, h2⟩
  · refine i64_wrap ?_ ?_ <;> omega
  · refine i64_wrap ?_ ?_ <;> omega
  · rw [Int.tmod_eq_emod_of_nonneg (by omega), Int.add_emod_right]
    rcases h3 with g | g
    · rw [g]; exact Int.emod_eq_of_lt h1 h2
    · rw [g, ← Int.add_emod_right, Int.sub_add_cancel]; exact Int.emod_eq_of_lt h1 h2

set_option maxHeartbeats 8000000 in
set_option maxRecDepth 100000 in
theorem topRuns_spec (n : Int) (l : List Act) (k : Int) : Pure Try.prog 9 [.data (I n), .data (eActs l), .data (I k)] (.data (.bool true)) := by
  refine spec_of ttok Try.func9 rfl (by kernel_rfl) (by exact Nat.le_of_ble_eq_true rfl) fun hin hie c0 hc0 he => ?_
  have hn0 : c0.es.length ≤ 0 := Nat.le_of_eq (by rw [he]; rfl)
  have hL := liesV_bd n
  have hlies := lies_top n
  generalize liesV n = liar at hL hlies
  refine R [] ?_
  refine W.seq (R [.data (.bool true)] (ho := by exact ⟨alive_top, trivial⟩) ?_)
  refine C (fun hb => ?_) (fun hb => ?_)
  · refine R [.data (.bool true)] (ho := by exact ⟨alive_top, trivial⟩) ?_
    exact W.ret (EndB 0 hn0 rfl)
  have hlen : l.length ≤ 300 := by
    have hb : (bif (!true) then true else decide (300 < ((l.map eAct).length : Int))) = false := hb
    rw [List.length_map] at hb
    have := of_decide_eq_false hb
    omega
  clear hb
  have hm1 : IntKind.i64.wrap (((l.map eAct).length : Int) + 1) = (l.length : Int) + 1 := by rw [List.length_map]; exact i64_wrap (by omega) (by omega)
  obtain ⟨t1, t2, t3, t4, t5⟩ := tmod_up (k := k) (m := (l.length : Int) + 1) (by omega) (by omega)
  have hK : k % ((l.length : Int) + 1) = ((k % ((l.length : Int) + 1)).toNat : Int) := by omega
  generalize hKK : (k % ((l.length : Int) + 1)).toNat = K at hK
  have hKl : K ≤ l.length := by omega
  have hw : IntKind.i64.wrap (IntKind.i64.wrap (Int.tmod k (IntKind.i64.wrap (((l.map eAct).length : Int) + 1)) + ((l.map eAct).length : Int)) + 1) = Int.tmod k ((l.length : Int) + 1) + ((l.length : Int) + 1) := by
    rw [hm1, List.length_map]
    have e : IntKind.i64.wrap (Int.tmod k ((l.length : Int) + 1) + (l.length : Int)) = Int.tmod k ((l.length : Int) + 1) + (l.length : Int) := by
      have := Int.lt_tmod_of_pos k (show (0 : Int) < (l.length : Int) + 1 by omega)
      have := Int.tmod_lt_of_pos k (show (0 : Int) < (l.length : Int) + 1 by omega)
      refine i64_wrap ?_ ?_ <;> omega
    rw [e, show Int.tmod k ((l.length : Int) + 1) + (l.length : Int) + 1 = Int.tmod k ((l.length : Int) + 1) + ((l.length : Int) + 1) by omega]
    exact t2
  refine W.skip ?_
  refine R [.is 32 (.data (I K))] (ho := ?ob) ?_
  case ob =>
    have e1 : Int.tmod (IntKind.i64.wrap (IntKind.i64.wrap (Int.tmod k (IntKind.i64.wrap (((l.map eAct).length : Int) + 1)) + ((l.map eAct).length : Int)) + 1)) (IntKind.i64.wrap (((l.map eAct).length : Int) + 1)) = (K : Int) := by rw [hw, hm1, t3, hK]
    have e2 : IntKind.i64.wrap (((l.map eAct).length : Int) + 1) ≠ 0 := by rw [hm1]; omega
    have e3 : IntKind.i64.wrap (Int.tmod k (IntKind.i64.wrap (((l.map eAct).length : Int) + 1))) = Int.tmod k (IntKind.i64.wrap (((l.map eAct).length : Int) + 1)) := by rw [hm1]; exact t1
    have e4 : IntKind.i64.wrap (Int.tmod (IntKind.i64.wrap (IntKind.i64.wrap (Int.tmod k (IntKind.i64.wrap (((l.map eAct).length : Int) + 1)) + ((l.map eAct).length : Int)) + 1)) (IntKind.i64.wrap (((l.map eAct).length : Int) + 1))) = Int.tmod (IntKind.i64.wrap (IntKind.i64.wrap (Int.tmod k (IntKind.i64.wrap (((l.map eAct).length : Int) + 1)) + ((l.map eAct).length : Int)) + 1)) (IntKind.i64.wrap (((l.map eAct).length : Int) + 1)) := by rw [e1]; exact i64_wrap (by omega) (by omega)
    exact ⟨e2, e3, congrArg (fun v => AV.data (I v)) e1, e2, e4, trivial⟩
  clear hm1 t1 t2 t3 t4 t5 hK hKK hw
  refine R [.data (I liar), .tuple [.data (eReplies (repliesC (newC liar) l)), .data (I 0)]] (ho := by exact ⟨hlies, sizes_acts l, fits_acts l (by omega), run_spec liar l hL (by omega), trivial⟩) ?_
  have htk : (l.map eAct).take K = (l.take K).map eAct := List.map_take.symm
  refine RD [.data (I liar), .tuple [.data (eReplies (repliesC (newC liar) (l.take K))), .data (I 0)]] (ho := ?ob2) ?_
  case ob2 =>
    have hsz : ∀ d ∈ (l.map eAct).take K, d.size = 14 := fun d hd => sizes_acts l d (List.mem_of_mem_take hd)
    have hft : ((l.map eAct).take K).length ≤ maxLen ∧ ((l.map eAct).take K).length * 112 ≤ 140737488355328 := by
      rw [htk]; exact fits_acts _ (by rw [List.length_take]; omega)
    have hrun := pure_2 (run_spec liar (l.take K) hL (by rw [List.length_take]; omega)) (congrArg D.list htk)
    refine ⟨hlies, ⟨trivial, ?_, Nat.zero_le _, ?_⟩, sizes_acts l, hsz, hft, hrun, trivial⟩
    · show (0 : Int) ≤ (K : Int); omega
    · show K ≤ (l.map eAct).length; rw [List.length_map]; exact hKl
  have hla : (((repliesC (newC liar) l).map eReply).length : Int) = ((l.map eAct).length : Int) := by rw [List.length_map, List.length_map, repliesC_length]
  have hlb : (((repliesC (newC liar) (l.take K)).map eReply).length : Int) = (K : Int) := by rw [List.length_map, repliesC_length, List.length_take]; omega
  refine W.seq (R [] ?_)
  refine C (fun hb => ?_) (fun hb => ?_)
  · exfalso
    have hf := hb.symm.trans (bift (bift (bift (beqt 0) (beqt 0)) (show (!(_ == _)) = false from by rw [hla]; exact beqt _)) (show (!(_ == _)) = false from by rw [hlb]; exact beqt _))
    cases hf
  clear hb
  refine W.skip ?_
  refine W.seq (R [] ?_)
  refine W.block (W.loop hc0 (ι := Nat) (fun i => ⟨84, frOf [(2, .data (I K)), (7, .data (eReplies (repliesC (newC liar) l))), (9, .data (eReplies (repliesC (newC liar) (l.take K)))), (11, .data (I i))], []⟩) (fun i => i ≤ K) (fun i => K - i) 0 (by omega) ?_ ?_)
  · exact Le.cut _ 0 (by omega) ⟨⟨by with_unfolding_all rfl, rfl⟩, ⟨by with_unfolding_all rfl, rfl⟩, ⟨by with_unfolding_all rfl, rfl⟩, ⟨by with_unfolding_all rfl, rfl⟩, trivial⟩ (by with_unfolding_all rfl)
  · intro i hi
    refine W.seq (R [] ?_)
    refine C (fun hb => ?_) (fun hb => ?_)
    · have hi : i < K := by have := of_decide_eq_true hb; omega
      clear hb
      have hbeg := repliesC_beg l (newC liar) i K hi hKl
      have h1 := cptr_replies (repliesC (newC liar) l) (k := i) (by rw [repliesC_length]; omega)
      have h2 := cptr_replies (repliesC (newC liar) (l.take K)) (k := i) (by rw [repliesC_length, List.length_take]; omega)
      have e : (repliesC (newC liar) (l.take K)).getD i Reply.zero = (repliesC (newC liar) l).getD i Reply.zero := by rw [List.getD_eq_getElem?_getD, List.getD_eq_getElem?_getD, hbeg]
      rw [e] at h2
      generalize (repliesC (newC liar) l).getD i Reply.zero = x at h1 h2
      have hx1 : (0 : Int) ≤ i ∧ (i : Int) < ((repliesC (newC liar) l).map eReply).length := ⟨by omega, by rw [hla, List.length_map]; omega⟩
      have hx2 : (0 : Int) ≤ i ∧ (i : Int) < ((repliesC (newC liar) (l.take K)).map eReply).length := ⟨by omega, by rw [hlb]; omega⟩
      refine W.skip (W.seq (W.block ?_))
      refine RD [.is 77 (.cptr (eReply x)), .is 81 (.cptr (eReply x))] (ho := by exact ⟨h1, hx1, sizes_replies _, h2, hx2, sizes_replies _, trivial⟩) ?_
      refine C (fun hb => ?_) (fun hb => ?_)
      · exfalso
        have hb : (!(eqD (eReply x) (eReply x))) = true := hb
        rw [nott (eqDt_reply x)] at hb; cases hb
      refine W.skip ?_
      refine R1 [] ?_
      exact ⟨i + 1, by omega, by omega, Le.cut _ 0 (by omega) ⟨⟨by with_unfolding_all rfl, rfl⟩, ⟨by with_unfolding_all rfl, rfl⟩, ⟨by with_unfolding_all rfl, rfl⟩, ⟨sl_int (wrap_up (by omega)), rfl⟩, trivial⟩ (by with_unfolding_all rfl)⟩
    · refine W.exit ?_
      refine R [] ?_
      exact W.ret (EndB 0 hn0 rfl)

end Go.W

/-
  What the reference takes is what a client takes, in plain Lean.
-/
namespace Go.W

theorem leastH_le (l : Nat → Nat → Int) (h : Nat) {v : Nat} (h1 : 1 ≤ v) (hc : 2 ≤ cntH l h v 4) : ∀ k, v ≤ k → leastH l h k ≠ 0 ∧ leastH l h k ≤ v := by
  intro k hk
  induction k with
  | zero => omega
  | succ k ih =>
    simp only [leastH]
    rcases Nat.lt_or_ge k v with h2 | h2
    · have : v = k + 1 := by omega
      subst this
      by_cases h0 : leastH l h k = 0
      · rw [if_pos h0, if_pos (by simpa using hc)]
        omega
      · rw [if_neg h0]
        have := leastH_two l h k h0
        exact ⟨h0, by omega⟩
    · have := ih h2
      rw [if_neg this.1]
      exact this
theorem cntH_two {l : Nat → Nat → Int} {h : Nat} {v : Int} {i k : Nat} (hi : i < 4) (hk : k < i) (h1 : l i h = v) (h2 : l k h = v) : 2 ≤ cntH l h v 4 := by
  have nn : ∀ j : Nat, 0 ≤ (if l j h = v then (1 : Int) else 0) := fun j => by split <;> omega
  have e1 : (if l i h = v then (1 : Int) else 0) = 1 := if_pos h1
  have e2 : (if l k h = v then (1 : Int) else 0) = 1 := if_pos h2
  have n0 := nn 0; have n1 := nn 1; have n2 := nn 2; have n3 := nn 3
  simp only [cntH]
  have hi' : i = 1 ∨ i = 2 ∨ i = 3 := by omega
  have hk' : k = 0 ∨ k = 1 ∨ k = 2 := by omega
  rcases hi' with rfl | rfl | rfl <;> rcases hk' with rfl | rfl | rfl <;> omega
theorem cntH_pair {l : Nat → Nat → Int} {h : Nat} {v : Int} (hc : 2 ≤ cntH l h v 4) : ∃ i k : Nat, i < 4 ∧ k < i ∧ l i h = v ∧ l k h = v := by
  obtain ⟨j, hj, _, e⟩ := cntH_other (-1) hc
  obtain ⟨k, hk, hne, e'⟩ := cntH_other j hc
  rcases Nat.lt_or_ge j k with h1 | h1
  · exact ⟨k, j, hk, h1, e', e⟩
  · exact ⟨j, k, hj, by omega, e, e'⟩

/-- One pair that the reference looks at. -/
def hitT (o v u : Int) : Bool := (within v 1 9 && (u == v)) && (o == 0 || decide (v < o))
def innT (l : Nat → Nat → Int) (h i : Nat) (o : Int) : Nat → Int
  | 0 => o
  | k + 1 => if hitT (innT l h i o k) (l i h) (l k h) then l i h else innT l h i o k
def outT (l : Nat → Nat → Int) (h : Nat) : Nat → Int
  | 0 => 0
  | i + 1 => innT l h i (outT l h i) i

structure TOK (l : Nat → Nat → Int) (h : Nat) (o : Int) : Prop where
  bd : 0 ≤ o ∧ o ≤ 9
  two : o ≠ 0 → 2 ≤ cntH l h o 4
theorem innT_ok {l : Nat → Nat → Int} {h i : Nat} {o : Int} (hi : i < 4) (ho : TOK l h o) : ∀ k, k ≤ i → TOK l h (innT l h i o k) ∧ (o ≠ 0 → innT l h i o k ≠ 0 ∧ innT l h i o k ≤ o) ∧ ∀ j, j < k → 1 ≤ l i h → l i h ≤ 9 → l j h = l i h → innT l h i o k ≠ 0 ∧ innT l h i o k ≤ l i h
  | 0, _ => ⟨ho, fun hn => ⟨hn, Int.le_refl _⟩, fun j hj => by omega⟩
  | k + 1, hk => by
    obtain ⟨h1, h2, h3⟩ := innT_ok hi ho k (by omega)
    simp only [innT]
    by_cases hh : hitT (innT l h i o k) (l i h) (l k h) = true
    · rw [if_pos hh]
      simp only [hitT, within, Bool.and_eq_true, Bool.or_eq_true, decide_eq_true_eq, beq_iff_eq] at hh
      refine ⟨⟨by omega, fun _ => cntH_two hi (by omega) rfl hh.1.2⟩, fun hn => ?_, fun j hj g1 g9 _ => ⟨by omega, Int.le_refl _⟩⟩
      have := h2 hn
      have := h1.bd
      omega
    · rw [if_neg hh]
      refine ⟨h1, h2, fun j hj g1 g9 e => ?_⟩
      rcases Nat.lt_or_ge j k with hjk | hjk
      · exact h3 j hjk g1 g9 e
      · have : j = k := by omega
        subst this
        simp only [hitT, within, Bool.and_eq_true, Bool.or_eq_true, decide_eq_true_eq, beq_iff_eq] at hh
        have := h1.bd
        by_cases e0 : innT l h i o j = 0
        · exact absurd ⟨⟨⟨g1, g9⟩, e⟩, .inl e0⟩ hh
        · refine ⟨e0, ?_⟩
          rcases Int.lt_or_le (l i h) (innT l h i o j) with h5 | h5
          · exact absurd ⟨⟨⟨g1, g9⟩, e⟩, .inr h5⟩ hh
          · exact h5
theorem outT_ok (l : Nat → Nat → Int) (h : Nat) : ∀ i, i ≤ 4 → TOK l h (outT l h i) ∧ ∀ a b, a < i → b < a → 1 ≤ l a h → l a h ≤ 9 → l b h = l a h → outT l h i ≠ 0 ∧ outT l h i ≤ l a h
  | 0, _ => ⟨⟨by simp [outT], fun hn => absurd rfl hn⟩, fun a b ha => by omega⟩
  | i + 1, hi => by
    obtain ⟨h1, h2⟩ := outT_ok l h i (by omega)
    obtain ⟨g1, g2, g3⟩ := innT_ok (show i < 4 by omega) h1 i (Nat.le_refl _)
    refine ⟨g1, fun a b ha hb q1 q9 e => ?_⟩
    rcases Nat.lt_or_ge a i with hai | hai
    · have := h2 a b hai hb q1 q9 e
      have := g2 this.1
      simp only [outT]
      omega
    · have : a = i := by omega
      subst this
      exact g3 b hb q1 q9 e
theorem outT_pick (l : Nat → Nat → Int) (h : Nat) : outT l h 4 = pickH l h := by
  obtain ⟨h1, h2⟩ := outT_ok l h 4 (Nat.le_refl _)
  unfold pickH
  by_cases h0 : outT l h 4 = 0
  · rw [h0]
    apply Classical.byContradiction
    intro hne
    have hl := leastH_two l h 9 (Ne.symm hne)
    obtain ⟨i, k, hi, hk, e1, e2⟩ := cntH_pair hl.1
    exact (h2 i k hi hk (by omega) (by omega) (by rw [e1, e2])).1 h0
  · have hb := h1.bd
    have hv : outT l h 4 = ((outT l h 4).toNat : Int) := by omega
    have := leastH_le l h (v := (outT l h 4).toNat) (by omega) (by rw [← hv]; exact h1.two h0) 9 (by omega)
    have hl := leastH_two l h 9 this.1
    obtain ⟨i, k, hi, hk, e1, e2⟩ := cntH_pair hl.1
    have := h2 i k hi hk (by omega) (by omega) (by rw [e1, e2])
    omega

end Go.W

/-
  The law TopWorks.
-/
namespace Go.W
open Go.Proofs

/-! ### What a client reads in the end -/

theorem cntH_full {l : Nat → Nat → Int} {h : Nat} {v : Int} (hl : ∀ k, k < 4 → l k h = v) (u : Int) : cntH l h u 4 = if u = v then 4 else 0 := by
  simp only [cntH, hl 0 (by omega), hl 1 (by omega), hl 2 (by omega), hl 3 (by omega)]
  by_cases e : v = u
  · rw [if_pos e, if_pos e.symm]; rfl
  · rw [if_neg e, if_neg (fun g => e g.symm)]; rfl
theorem takeV_full {l : Nat → Nat → Int} {v : Int} (hv : 1 ≤ v ∧ v ≤ 9) (hl : ∀ k, k < 4 → l k 0 = v) : takeV l 0 = v := by
  have h1 := leastH_le l 0 (v := v.toNat) (by omega) (by rw [cntH_full hl, if_pos (by omega)]; omega) 9 (by omega)
  have h2 := leastH_two l 0 9 h1.1
  rw [cntH_full hl] at h2
  have hp : leastH l 0 9 = v := by
    refine Decidable.byContradiction fun e => ?_
    rw [if_neg e] at h2; omega
  unfold takeV
  have hpk : pickH l 0 = v := hp
  rw [if_pos, hpk]
  simp only [pickAll, hpk]
  simp
  omega

theorem cptr_order (l : List Int) {k : Nat} (h : k < l.length) : AV.cptr ((l.map I).getD k default) = .cptr (I (l.getD k 0)) := by
  simp [List.getElem?_eq_getElem h]
theorem sizes_order (l : List Int) : ∀ d ∈ l.map I, d.size = 1 := by
  intro d hd
  obtain ⟨v, _, rfl⟩ := List.mem_map.1 hd
  rfl

/-- How it stands while nobody lies. -/
structure Works (liar v : Int) (i : Nat) (c : CrowdS) : Prop where
  well : WellC v c
  played : ∃ n, n ≤ i ∧ Played liar c n
theorem Works.first {liar v : Int} (hv : 1 ≤ v ∧ v ≤ 9) : Works liar v 1 (doC (newC liar) (subA v)).1 := ⟨.new hv liar, 1, Nat.le_refl _, (Played.new liar).do (by omega) _⟩
theorem Works.more {liar v : Int} {i : Nat} {c : CrowdS} (h : Works liar v i c) : Works liar v (i + 1) c := ⟨h.well, by obtain ⟨n, h1, h2⟩ := h.played; exact ⟨n, by omega, h2⟩⟩
theorem Works.acts {liar v : Int} {i : Nat} {c : CrowdS} (h : Works liar v i c) : 0 ≤ c.acts ∧ c.acts ≤ i := by
  obtain ⟨n, h1, h2⟩ := h.played
  have := h2.acts; omega
theorem Works.net {liar v : Int} {i : Nat} {c : CrowdS} (h : Works liar v i c) : c.net.length ≤ 2000 := by have := h.well.short; omega
theorem Works.let {liar v : Int} (hv : 1 ≤ v ∧ v ≤ 9) {i : Nat} {c : CrowdS} (h : Works liar v i c) (hi : i < 600) (n : Int) : Works liar v (i + 1) (doC c (letA n)).1 ∧ Next c (doC c (letA n)).1 n := by
  have ha := h.acts
  obtain ⟨h1, h2⟩ := h.well.let hv (show c.acts < 600 by omega) n
  refine ⟨⟨h1, ?_⟩, h2⟩
  obtain ⟨m, g1, g2⟩ := h.played
  exact ⟨m + 1, by omega, g2.do (by omega) _⟩
/-- The first n letters are delivered. -/
def Came (c : CrowdS) (n : Nat) : Prop := ∀ p : Nat, p < n → ∀ x, c.net[p]? = some x → Got (c.nodes x.to.toNat) x.word
theorem Came.next {c c' : CrowdS} {n : Nat} (h : Came c n) (hn : n < c.net.length) (hx : Next c c' n) : Came c' (n + 1) := by
  obtain ⟨m, e⟩ := hx.pre
  intro p hp x hgx
  rw [e, List.getElem?_append_left (by omega)] at hgx
  rcases Nat.lt_or_ge p n with h1 | h1
  · exact (h p h1 x hgx).grows (hx.grows _)
  · have : p = n := by omega
    subst this
    exact hx.got p rfl x hgx

def readA : Act := ⟨6, 0, 0, 0, .zero, fun _ => 0⟩
theorem read_end {v : Int} (hv : 1 ≤ v ∧ v ≤ 9) {c : CrowdS} (h : Done v c) (ha : c.acts < 600) : ((doC c readA).2.settled 0 == v) = true := by
  have e : (doC c readA).2 = Act.read c.tick readA := by
    unfold doC
    rw [if_neg (by omega)]
    unfold actC
    rw [if_neg (by decide), if_neg (by decide), if_neg (by decide), if_neg (by decide), if_pos (show readA.kind = 6 from rfl)]
  rw [e]
  show (takeV (toldC c.tick readA) 0 == v) = true
  rw [takeV_full hv fun k hk => ?_]
  · simp
  · have : ¬ (((k : Int) == c.tick.liar && !(readA.n == 0)) = true) := by simp [readA]
    unfold toldC
    rw [if_neg this]
    exact h.settled k hk

set_option maxHeartbeats 8000000 in
set_option maxRecDepth 100000 in
theorem topWorks_spec (n w : Int) (order : List Int) : Pure Try.prog 4 [.data (I n), .data (I w), .data (eQ order)] (.data (.bool true)) := by
  refine spec_of ttok Try.func4 rfl (by kernel_rfl) (by exact Nat.le_of_ble_eq_true rfl) fun hin hie c0 hc0 he => ?_
  have hn0 : c0.es.length ≤ 0 := Nat.le_of_eq (by rw [he]; rfl)
  have hL := liesV_bd n
  have hlies := lies_top n
  generalize liesV n = liar at hL hlies
  obtain ⟨t1, t2, t3, t4, t5⟩ := tmod_up (k := w) (m := 9) (by omega) (by omega)
  have hv : 1 ≤ w % 9 + 1 ∧ w % 9 + 1 ≤ 9 := by omega
  have hfirst : Works liar (w % 9 + 1) 1 (doC (newC liar) (subA (w % 9 + 1))).1 := .first hv
  have hdo := do_no (c := newC liar) (a := subA (w % 9 + 1)) (Nat.zero_le _) ⟨by show (0 : Int) ≤ 0; omega, by show (0 : Int) ≤ 600; omega⟩ (fun h => by have : (1 : Int) = 3 := h.2.1; omega)
  have htold : AV.data (I (IntKind.i64.wrap (Int.tmod (IntKind.i64.wrap (Int.tmod w 9 + 9)) 9 + 1))) = .data (I (w % 9 + 1)) := by
    rw [t2, t3, i64_wrap (by omega) (by omega)]
  have hw1 : IntKind.i64.wrap (Int.tmod (IntKind.i64.wrap (Int.tmod w 9 + 9)) 9) = Int.tmod (IntKind.i64.wrap (Int.tmod w 9 + 9)) 9 := by
    rw [t2, t3]; exact i64_wrap (by omega) (by omega)
  generalize w % 9 + 1 = v at hv hfirst hdo htold
  refine R [] ?_
  refine W.seq (R [.data (.bool true)] (ho := by exact ⟨alive_top, trivial⟩) ?_)
  refine CF ?_
  refine W.skip ?_
  refine R [.data (I liar), Hint.on [] (CE (newC liar)) (.tuple [.ptr 0 [], .data (I 0)])] (ho := by exact ⟨hlies, newC_ok liar hL, trivial⟩) ?_
  refine W.seq (R [] ?_)
  refine CF ?_
  refine W.skip ?_
  refine R [.is 32 (.data (I v))] (ho := by exact ⟨by omega, t1, by omega, hw1, htold, trivial⟩) ?_
  generalize doC (newC liar) (subA v) = y at hfirst hdo
  refine R [Hint.on [0, 1] (CE y.1) (.data (eReply y.2))] (ho := by with_unfolding_all exact ⟨fn_act hdo (actD (a := subA v) rfl rfl rfl rfl rfl rfl (fun _ => rfl)), trivial⟩) ?_
  generalize y.1 = c1 at hfirst
  refine W.seq (R [] ?_)
  refine W.block (W.loop hc0 (ι := Nat × CrowdS) (fun x => ⟨104, frOf [(1, .data (I v)), (2, .data (eQ order)), (7, .ptr 0 []), (9, .data (I x.1))], CE x.2⟩) (fun x => x.1 ≤ 100 ∧ Works liar v (x.1 + 1) x.2) (fun x => 100 - x.1) (0, c1) ⟨by omega, hfirst⟩ ?_ ?_)
  · exact Le.cut _ 2 (by omega) ⟨⟨by with_unfolding_all rfl, rfl⟩, ⟨by with_unfolding_all rfl, rfl⟩, ⟨by with_unfolding_all rfl, rfl⟩, ⟨by with_unfolding_all rfl, rfl⟩, trivial⟩ (by with_unfolding_all rfl)
  · rintro ⟨i, c⟩ ⟨hi, hc⟩
    simp only at hi hc
    refine W.seq (R [] ?_)
    refine C (fun hb => ?_) (fun hb => ?_)
    · have hii : i < order.length ∧ i < 100 := by
        have hb : (bif decide ((i : Int) < ((order.map I).length : Int)) then decide ((i : Int) < 100) else false) = true := hb
        rw [bif_and, List.length_map] at hb
        simp only [Bool.and_eq_true, decide_eq_true_eq] at hb
        omega
      clear hb
      have hac := hc.acts
      have hnet := hc.net
      have hshort := hc.well.short
      have hlm : ((c.net.map eLetter).length : Int) = (c.net.length : Int) := by rw [List.length_map]
      refine W.skip (W.seq (W.block ?_))
      refine R [Hint.on [0, 1] (CE c) (.data (eLetters c.net))] (ho := by exact ⟨crowdNet_spec c hnet, trivial⟩) ?_
      refine R [] ?_
      refine C (fun hb => ?_) (fun hb => ?_)
      · have hpos : (0 : Int) < (c.net.length : Int) := by
          have hb : decide ((0 : Int) < ((c.net.map eLetter).length : Int)) = true := hb
          rw [hlm] at hb
          exact of_decide_eq_true hb
        clear hb
        have hcp := cptr_order order hii.1
        generalize order.getD i 0 = o at hcp
        obtain ⟨m1, m2, m3, m4, m5⟩ := tmod_up (k := o) (m := (c.net.length : Int)) hpos (by omega)
        have hix : (0 : Int) ≤ i ∧ (i : Int) < (order.map I).length := ⟨by omega, by rw [List.length_map]; omega⟩
        have hne : ((c.net.map eLetter).length : Int) ≠ 0 := by rw [hlm]; omega
        have hm1 : IntKind.i64.wrap (Int.tmod o ((c.net.map eLetter).length : Int)) = Int.tmod o ((c.net.map eLetter).length : Int) := by rw [hlm]; exact m1
        have hm2 : Int.tmod (IntKind.i64.wrap (Int.tmod o ((c.net.map eLetter).length : Int) + ((c.net.map eLetter).length : Int))) ((c.net.map eLetter).length : Int) = o % (c.net.length : Int) := by rw [hlm, m2, m3]
        have hm3 : IntKind.i64.wrap (Int.tmod (IntKind.i64.wrap (Int.tmod o ((c.net.map eLetter).length : Int) + ((c.net.map eLetter).length : Int))) ((c.net.map eLetter).length : Int)) = Int.tmod (IntKind.i64.wrap (Int.tmod o ((c.net.map eLetter).length : Int) + ((c.net.map eLetter).length : Int))) ((c.net.map eLetter).length : Int) := by
          rw [hm2]; exact i64_wrap (by omega) (by omega)
        have htm : AV.data (I (Int.tmod (IntKind.i64.wrap (Int.tmod o ((c.net.map eLetter).length : Int) + ((c.net.map eLetter).length : Int))) ((c.net.map eLetter).length : Int))) = .data (I (o % (c.net.length : Int))) := by rw [hm2]
        generalize o % (c.net.length : Int) = m at htm
        have hdo := do_no (c := c) (a := letA m) hnet ⟨hac.1, by omega⟩ (fun h => by have : (2 : Int) = 3 := h.2.1; omega)
        have hnx := (hc.let hv (by omega) m).1
        generalize doC c (letA m) = y at hdo hnx
        refine R1 [.is 55 (.cptr (I o)), .is 62 (.data (I m)), Hint.on [0, 1] (CE y.1) (.data (eReply y.2))] (ho := by with_unfolding_all exact ⟨hcp, hix, sizes_order order, hne, hm1, htm, hne, hm3, fn_act hdo (actD (a := letA m) rfl rfl rfl rfl rfl rfl (fun _ => rfl)), trivial⟩) ?_
        refine R1 [] ?_
        exact ⟨(i + 1, y.1), ⟨by show i + 1 ≤ 100; omega, hnx⟩, by show 100 - (i + 1) < 100 - i; omega, Le.cut _ 2 (by omega) ⟨⟨by with_unfolding_all rfl, rfl⟩, ⟨by with_unfolding_all rfl, rfl⟩, ⟨by with_unfolding_all rfl, rfl⟩, ⟨sl_int (wrap_up (by omega)), rfl⟩, trivial⟩ (by with_unfolding_all rfl)⟩
      · refine W.skip ?_
        refine R1 [] ?_
        exact ⟨(i + 1, c), ⟨by show i + 1 ≤ 100; omega, hc.more⟩, by show 100 - (i + 1) < 100 - i; omega, Le.cut _ 2 (by omega) ⟨⟨by with_unfolding_all rfl, rfl⟩, ⟨by with_unfolding_all rfl, rfl⟩, ⟨by with_unfolding_all rfl, rfl⟩, ⟨sl_int (wrap_up (by omega)), rfl⟩, trivial⟩ (by with_unfolding_all rfl)⟩
    · clear hb
      refine W.exit ?_
      have hc : Works liar v 101 c := ⟨hc.well, by obtain ⟨n, h1, h2⟩ := hc.played; exact ⟨n, by omega, h2⟩⟩
      refine W.seq (R [] ?_)
      refine W.block (W.loop hc0 (ι := Nat × CrowdS) (fun x => ⟨104, frOf [(1, .data (I v)), (7, .ptr 0 []), (11, .data (I x.1))], CE x.2⟩) (fun x => x.1 ≤ 200 ∧ x.1 ≤ x.2.net.length ∧ Works liar v (x.1 + 101) x.2 ∧ Came x.2 x.1) (fun x => 200 - x.1) (0, c) ⟨by omega, by omega, hc, fun p hp => by omega⟩ ?_ ?_)
      · exact Le.cut _ 2 (by omega) ⟨⟨by with_unfolding_all rfl, rfl⟩, ⟨by with_unfolding_all rfl, rfl⟩, ⟨by with_unfolding_all rfl, rfl⟩, trivial⟩ (by with_unfolding_all rfl)
      · rintro ⟨i, c⟩ ⟨hi, hil, hc, hcame⟩
        simp only at hi hil hc hcame
        have hac := hc.acts
        have hnet := hc.net
        have hshort := hc.well.short
        have hlm : ((c.net.map eLetter).length : Int) = (c.net.length : Int) := by rw [List.length_map]
        refine W.seq (R [Hint.on [0, 1] (CE c) (.data (eLetters c.net))] (ho := by exact ⟨crowdNet_spec c hnet, trivial⟩) ?_)
        refine C (fun hb => ?_) (fun hb => ?_)
        · have hii : i < c.net.length := by
            have hb : (bif decide ((i : Int) < ((c.net.map eLetter).length : Int)) then decide ((i : Int) < 200) else false) = true := hb
            rw [bif_and, hlm] at hb
            simp only [Bool.and_eq_true, decide_eq_true_eq] at hb
            omega
          clear hb
          have hdo := do_no (c := c) (a := letA i) hnet ⟨hac.1, by omega⟩ (fun h => by have : (2 : Int) = 3 := h.2.1; omega)
          obtain ⟨hnx, hnn⟩ := hc.let hv (by omega) i
          have hcn := hcame.next hii hnn
          have hln : i + 1 ≤ (doC c (letA i)).1.net.length := by
            obtain ⟨m, e⟩ := hnn.pre
            rw [e, List.length_append]; omega
          generalize doC c (letA i) = y at hdo hnx hcn hln
          refine W.skip (W.seq (W.block ?_))
          refine R1 [Hint.on [0, 1] (CE y.1) (.data (eReply y.2))] (ho := by with_unfolding_all exact ⟨fn_act hdo (actD (a := letA i) rfl rfl rfl rfl rfl rfl (fun _ => rfl)), trivial⟩) ?_
          refine R1 [] ?_
          exact ⟨(i + 1, y.1), ⟨by show i + 1 ≤ 200; omega, hln, by rw [show i + 1 + 101 = i + 101 + 1 by omega]; exact hnx, hcn⟩, by show 200 - (i + 1) < 200 - i; omega, Le.cut _ 2 (by omega) ⟨⟨by with_unfolding_all rfl, rfl⟩, ⟨by with_unfolding_all rfl, rfl⟩, ⟨sl_int (wrap_up (by omega)), rfl⟩, trivial⟩ (by with_unfolding_all rfl)⟩
        · have hii : i = c.net.length := by
            have hb : (bif decide ((i : Int) < ((c.net.map eLetter).length : Int)) then decide ((i : Int) < 200) else false) = false := hb
            rw [bif_and, hlm] at hb
            simp only [Bool.and_eq_false_iff, decide_eq_false_iff_not] at hb
            omega
          clear hb
          have hdone : Done v c := hc.well.all hv fun p x hp => hcame p (by rw [hii]; exact (List.getElem?_eq_some_iff.1 hp).1) x hp
          have hgood := hc.well.inv.good
          refine W.exit ?_
          refine W.seq (R [] ?_)
          refine W.block (W.loop hc0 (ι := Nat) (fun k => ⟨104, frOf [(1, .data (I v)), (7, .ptr 0 []), (80, .data (I k))], CE c⟩) (fun k => k ≤ 4) (fun k => 4 - k) 0 (by omega) ?_ ?_)
          · exact Le.cut _ 2 (by omega) ⟨⟨by with_unfolding_all rfl, rfl⟩, ⟨by with_unfolding_all rfl, rfl⟩, ⟨by with_unfolding_all rfl, rfl⟩, trivial⟩ (by with_unfolding_all rfl)
          · intro k hk
            refine R [] ?_
            refine W.seq (C (fun hb => ?_) (fun hb => ?_))
            · have hk : k < 4 := by have := of_decide_eq_true hb; omega
              clear hb
              have hq : (c.nodes k).queue.length ≤ 1000000 := by have := (hgood k hk).len; omega
              have h04 : (0 : Int) ≤ 0 ∧ (0 : Int) < 4 := by omega
              have e1 := hdone.height k hk
              have e2 := hdone.settled k hk
              refine W.skip (W.seq (W.block ?_))
              refine R [] ?_
              refine R [Hint.on [0, 1] (CE c) (.data (eNode (c.nodes k)))] (ho := by exact ⟨crowdNode_spec c (k : Nat) (by omega) hq, sameNz _ _, trivial⟩) ?_
              refine R [] (ho := by exact ⟨fun _ => h04, trivial⟩) ?_
              refine C (fun hb => ?_) (fun hb => ?_)
              · exfalso
                have hb : (bif !((c.nodes k).height == 1) then true else !((c.nodes k).settled 0 == v)) = true := hb
                rw [e1, e2] at hb
                simp at hb
              clear hb
              refine W.skip ?_
              refine R1 [] ?_
              exact ⟨k + 1, by omega, by omega, Le.cut _ 2 (by omega) ⟨⟨by with_unfolding_all rfl, rfl⟩, ⟨by with_unfolding_all rfl, rfl⟩, ⟨sl_int (wrap_up (by omega)), rfl⟩, trivial⟩ (by with_unfolding_all rfl)⟩
            · clear hb
              have hrd := read_end hv hdone (by omega)
              have hdo := do_no (c := c) (a := readA) hnet ⟨hac.1, by omega⟩ (fun h => by have : (6 : Int) = 3 := h.2.1; omega)
              have h04 : (0 : Int) ≤ 0 ∧ (0 : Int) < 4 := by omega
              generalize doC c readA = y at hrd hdo
              refine W.exit ?_
              refine R [Hint.on [0, 1] (CE y.1) (.data (eReply y.2))] (ho := by with_unfolding_all exact ⟨fn_act hdo (actD (a := readA) rfl rfl rfl rfl rfl rfl (fun _ => rfl)), h04, trivial⟩) ?_
              exact W.ret (EndB 0 hn0 hrd)

end Go.W
