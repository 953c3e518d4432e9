/-
  Texts for the law TopOrigin: Hi Hk Th.
-/
import Derived.Test.YthpjdjofcbnoiabK2
import Derived.Test.YthpjdjofcbnoiabPj
import Derived.Test.YthpjdjofcbnoiabPp

/-
  Package top: acts that are played.
-/
namespace Go.W
open Go.Proofs

theorem cptr_acts (l : List Act) {k : Nat} (h : k < l.length) : AV.cptr ((l.map eAct).getD k default) = .cptr (eAct (l.getD k Act.zero)) := by
  simp [List.getElem?_eq_getElem h]
theorem sizes_acts (l : List Act) : ∀ d ∈ l.map eAct, d.size = 14 := by
  intro d hd
  obtain ⟨v, _, rfl⟩ := List.mem_map.1 hd
  rfl
theorem sameAA (a b : Act) : Same (eAct a) (eAct b) := ⟨rfl, fun i hi => by
  match i, hi with
  | 0, _ => trivial
  | 1, _ => trivial
  | 2, _ => trivial
  | 3, _ => trivial
  | 4, _ => exact sameWW _ _
  | 5, _ => exact sameVV _ _⟩

set_option maxHeartbeats 8000000 in
set_option maxRecDepth 100000 in
theorem play_quiet (liar : Int) (l : List Act) (hl : -1 ≤ liar ∧ liar < 4) : Fn Try.prog 27 [.data (I liar), .data (eActs l), .func 28 []] [] (.tuple [.ptr 0 [], .data (.bool true)]) (CE (played liar l)) := by
  refine spec_of ttok Try.func27 rfl (by kernel_rfl) (by exact Nat.le_of_ble_eq_true rfl) fun hin hie c0 hc0 he => ?_
  have hn0 : c0.es.length ≤ 0 := Nat.le_of_eq (by rw [he]; rfl)
  have hz : c0.es.length = 0 := by rw [he]; rfl
  refine R [] ?_
  refine W.seq (R [.data (.bool true)] (ho := by exact ⟨alive_top, trivial⟩) ?_)
  refine CF ?_
  refine W.skip ?_
  refine R [Hint.on [] (CE (newC liar)) (.tuple [.ptr 0 [], .data (I 0)])] (ho := by exact ⟨newC_ok liar hl, trivial⟩) ?_
  refine W.seq (R [] ?_)
  refine CF ?_
  refine W.skip ?_
  refine W.seq (R [] ?_)
  refine W.block (W.loop hc0 (ι := Nat) (fun i => ⟨52, frOf [(1, .data (eActs l)), (2, .func 28 []), (8, .ptr 0 []), (10, .data (I i))], CE (playC (newC liar) (l.take i))⟩) (fun i => i ≤ 300 ∧ i ≤ l.length) (fun i => 300 - i) 0 (by omega) ?_ ?_)
  · exact Le.cut _ 2 (by omega) ⟨⟨by with_unfolding_all rfl, rfl⟩, ⟨by with_unfolding_all rfl, rfl⟩, ⟨by with_unfolding_all rfl, rfl⟩, ⟨by with_unfolding_all rfl, rfl⟩, trivial⟩ (by with_unfolding_all rfl)
  · intro i ⟨hi3, hil⟩
    refine W.seq (R [] ?_)
    refine C (fun hb => ?_) (fun hb => ?_)
    · have hii : i < l.length ∧ i < 300 := by
        have hb : (bif decide ((i : Int) < ((l.map eAct).length : Int)) then decide ((i : Int) < 300) else false) = true := hb
        rw [bif_and, List.length_map] at hb
        simp only [Bool.and_eq_true, decide_eq_true_eq] at hb
        omega
      clear hb
      have hp := Played.play liar l i hil (by omega)
      have hT := playC_take (newC liar) l hii.1
      generalize playC (newC liar) (l.take i) = c at hp hT ⊢
      have hac : 0 ≤ c.acts ∧ c.acts ≤ 600 := by have := hp.acts; omega
      have hix : (0 : Int) ≤ i ∧ (i : Int) < (l.map eAct).length := ⟨by omega, by rw [List.length_map]; omega⟩
      refine W.skip (W.seq (W.block ?_))
      generalize hx : l.getD i Act.zero = x at hT
      have hcp : AV.cptr ((l.map eAct).getD i default) = .cptr (eAct x) := by rw [cptr_acts _ hii.1, hx]
      by_cases hd : drops c x
      case' pos =>
        have hdo := do_drop hp.net hac hd
        generalize doC c x = y at hdo hT
        refine R [.is 38 (.cptr (eAct x)), Hint.on [0, 1] [.var (eCrowd y.1) [([1], 2)], .row 7 (c.net.map eLetter), .row 7 (y.1.net.map eLetter)] (.data (eReply y.2))] (ho := by exact ⟨hcp, hix, sizes_acts l, hdo, sameRR _ _, trivial⟩) ?_
        refine W.le hc0 (Le.pick [0, 2, 3] [(1, .data (eActs l)), (2, .func 28 []), (8, .ptr 0 []), (10, .data (I i)), (11, .ptr 2 [])] (es' := CE y.1 ++ [.var (eReply y.2) []]) (fun k hk => by omega) (by with_unfolding_all rfl) (by with_unfolding_all rfl) ⟨by with_unfolding_all rfl, by with_unfolding_all rfl, by with_unfolding_all rfl, by with_unfolding_all rfl, by with_unfolding_all rfl, trivial⟩) ?_
      case' neg =>
        have hdo := do_no hp.net hac hd
        generalize doC c x = y at hdo hT
        refine R [.is 38 (.cptr (eAct x)), Hint.on [0, 1] (CE y.1) (.data (eReply y.2))] (ho := by exact ⟨hcp, hix, sizes_acts l, hdo, sameRR _ _, trivial⟩) ?_
        refine W.le hc0 (Le.cut [(1, .data (eActs l)), (2, .func 28 []), (8, .ptr 0 []), (10, .data (I i)), (11, .ptr 2 [])] 3 (by omega) (es' := CE y.1 ++ [.var (eReply y.2) []]) ⟨⟨by with_unfolding_all rfl, rfl⟩, ⟨by with_unfolding_all rfl, rfl⟩, ⟨by with_unfolding_all rfl, rfl⟩, ⟨by with_unfolding_all rfl, rfl⟩, ⟨by with_unfolding_all rfl, rfl⟩, trivial⟩ (by with_unfolding_all rfl)) ?_
      all_goals
        refine RD [.is 45 (.cptr (eAct x)), Hint.on [0, 1] (CE y.1) (.data (.bool true))] (ho := by exact ⟨hcp, hix, sizes_acts l, quiet_top y.1 x y.2, trivial⟩) ?_
        refine CF ?_
        refine W.skip ?_
        refine R1 [] ?_
        refine ⟨i + 1, by omega, by omega, Le.cut _ 2 (by omega) ⟨⟨by with_unfolding_all rfl, rfl⟩, ⟨by with_unfolding_all rfl, rfl⟩, ⟨by with_unfolding_all rfl, rfl⟩, ⟨sl_int (wrap_up (by omega)), rfl⟩, trivial⟩ ?_⟩
        rw [hT]
        with_unfolding_all rfl
    · have hb : (bif decide ((i : Int) < ((l.map eAct).length : Int)) then decide ((i : Int) < 300) else false) = false := hb
      rw [bif_and, List.length_map] at hb
      simp only [Bool.and_eq_false_iff, decide_eq_false_iff_not] at hb
      have hend := played_end (liar := liar) (l := l) (i := i) (by omega) hi3
      rw [hend]
      refine W.exit ?_
      refine R [] ?_
      exact W.ret (End 2 (by omega) ⟨rfl, rfl⟩)

end Go.W

/-
  Package top: acts that are played; what looks at them keeps a variable, and reads another.
-/
namespace Go.W
open Go.Proofs

set_option maxHeartbeats 8000000 in
set_option maxRecDepth 100000 in
theorem play_var2 (liar : Int) (l : List Act) (hl : -1 ≤ liar ∧ liar < 4) (f : FuncId) (Z : Nat → D) (L : D)
    (hf : ∀ i c x y, i < 300 → i < l.length → Played liar c i → c = playC (newC liar) (l.take i) → x = l.getD i Act.zero → y = doC c x →
      Fn Try.prog f [.ptr 0 [], .data (eAct x), .data (eReply y.2), .ptr 2 [], .ptr 3 []] (CE y.1 ++ [.var (Z i) [], .var L []]) (.data (.bool true)) (CE y.1 ++ [.var (Z (i + 1)) [], .var L []])) :
    ∃ d, Fn Try.prog 27 [.data (I liar), .data (eActs l), .func f [.ptr 0 [], .ptr 1 []]] [.var (Z 0) [], .var L []] (.tuple [.undef, .data (.bool true)]) [.var d [], .var L []] := by
  refine ⟨Z (min 300 l.length), ?_⟩
  refine spec_of ttok Try.func27 rfl (by kernel_rfl) (by exact Nat.le_of_ble_eq_true rfl) fun hin hie c0 hc0 he => ?_
  have hn0 : c0.es.length ≤ 2 := Nat.le_of_eq (by rw [he]; rfl)
  have hz : c0.es.length = 2 := by rw [he]; rfl
  refine R [] ?_
  refine W.seq (R [.data (.bool true)] (ho := by exact ⟨alive_top, trivial⟩) ?_)
  refine CF ?_
  refine W.skip ?_
  refine R [Hint.on [] (CE (newC liar)) (.tuple [.ptr 0 [], .data (I 0)])] (ho := by exact ⟨newC_ok liar hl, trivial⟩) ?_
  refine W.seq (R [] ?_)
  refine CF ?_
  refine W.skip ?_
  refine W.seq (R [] ?_)
  refine W.block (W.loop hc0 (ι := Nat) (fun i => ⟨52, frOf [(1, .data (eActs l)), (2, .func f [.ptr 0 [], .ptr 1 []]), (8, .ptr 2 []), (10, .data (I i))], [.var (Z i) [], .var L [], .var (eCrowd (playC (newC liar) (l.take i))) [([1], 3)], .row 7 ((playC (newC liar) (l.take i)).net.map eLetter)]⟩) (fun i => i ≤ 300 ∧ i ≤ l.length) (fun i => 300 - i) 0 (by omega) ?_ ?_)
  · exact Le.cut _ 4 (by omega) ⟨⟨by with_unfolding_all rfl, rfl⟩, ⟨by with_unfolding_all rfl, rfl⟩, ⟨by with_unfolding_all rfl, rfl⟩, ⟨by with_unfolding_all rfl, rfl⟩, trivial⟩ (by with_unfolding_all rfl)
  · intro i ⟨hi3, hil⟩
    refine W.seq (R [] ?_)
    refine C (fun hb => ?_) (fun hb => ?_)
    · have hii : i < l.length ∧ i < 300 := by
        have hb : (bif decide ((i : Int) < ((l.map eAct).length : Int)) then decide ((i : Int) < 300) else false) = true := hb
        rw [bif_and, List.length_map] at hb
        simp only [Bool.and_eq_true, decide_eq_true_eq] at hb
        omega
      clear hb
      have hp := Played.play liar l i hil (by omega)
      have hT := playC_take (newC liar) l hii.1
      generalize hcc : playC (newC liar) (l.take i) = c at hp hT ⊢
      have hac : 0 ≤ c.acts ∧ c.acts ≤ 600 := by have := hp.acts; omega
      have hix : (0 : Int) ≤ i ∧ (i : Int) < (l.map eAct).length := ⟨by omega, by rw [List.length_map]; omega⟩
      refine W.skip (W.seq (W.block ?_))
      generalize hx : l.getD i Act.zero = x at hT
      have hcp : AV.cptr ((l.map eAct).getD i default) = .cptr (eAct x) := by rw [cptr_acts _ hii.1, hx]
      by_cases hd : drops c x
      case' pos =>
        have hdo := do_drop hp.net hac hd
        generalize hyy : doC c x = y at hdo hT
        refine R [.is 38 (.cptr (eAct x)), Hint.on [2, 3] [.var (eCrowd y.1) [([1], 2)], .row 7 (c.net.map eLetter), .row 7 (y.1.net.map eLetter)] (.data (eReply y.2))] (ho := by exact ⟨hcp, hix, sizes_acts l, hdo, sameRR _ _, trivial⟩) ?_
        refine W.le hc0 (Le.pick [0, 1, 2, 4, 5] [(1, .data (eActs l)), (2, .func f [.ptr 0 [], .ptr 1 []]), (8, .ptr 2 []), (10, .data (I i)), (11, .ptr 4 [])] (es' := [.var (Z i) [], .var L [], .var (eCrowd y.1) [([1], 3)], .row 7 (y.1.net.map eLetter), .var (eReply y.2) []]) (fun k hk => by rcases (by omega : k = 0 ∨ k = 1) with rfl | rfl <;> rfl) (by with_unfolding_all rfl) (by with_unfolding_all rfl) ⟨by with_unfolding_all rfl, by with_unfolding_all rfl, by with_unfolding_all rfl, by with_unfolding_all rfl, by with_unfolding_all rfl, trivial⟩) ?_
      case' neg =>
        have hdo := do_no hp.net hac hd
        generalize hyy : doC c x = y at hdo hT
        refine R [.is 38 (.cptr (eAct x)), Hint.on [2, 3] (CE y.1) (.data (eReply y.2))] (ho := by exact ⟨hcp, hix, sizes_acts l, hdo, sameRR _ _, trivial⟩) ?_
        refine W.le hc0 (Le.cut [(1, .data (eActs l)), (2, .func f [.ptr 0 [], .ptr 1 []]), (8, .ptr 2 []), (10, .data (I i)), (11, .ptr 4 [])] 5 (by omega) (es' := [.var (Z i) [], .var L [], .var (eCrowd y.1) [([1], 3)], .row 7 (y.1.net.map eLetter), .var (eReply y.2) []]) ⟨⟨by with_unfolding_all rfl, rfl⟩, ⟨by with_unfolding_all rfl, rfl⟩, ⟨by with_unfolding_all rfl, rfl⟩, ⟨by with_unfolding_all rfl, rfl⟩, ⟨by with_unfolding_all rfl, rfl⟩, trivial⟩ (by with_unfolding_all rfl)) ?_
      all_goals
        refine RD [.is 45 (.cptr (eAct x)), Hint.on [2, 3, 0, 1] (CE y.1 ++ [.var (Z (i + 1)) [], .var L []]) (.data (.bool true))] (ho := by exact ⟨hcp, hix, sizes_acts l, hf i c x y hii.2 hii.1 hp hcc.symm hx.symm hyy.symm, trivial⟩) ?_
        refine CF ?_
        refine W.skip ?_
        refine R1 [] ?_
        refine ⟨i + 1, by omega, by omega, Le.cut _ 4 (by omega) ⟨⟨by with_unfolding_all rfl, rfl⟩, ⟨by with_unfolding_all rfl, rfl⟩, ⟨by with_unfolding_all rfl, rfl⟩, ⟨sl_int (wrap_up (by omega)), rfl⟩, trivial⟩ ?_⟩
        rw [hT]
        with_unfolding_all rfl
    · have hb : (bif decide ((i : Int) < ((l.map eAct).length : Int)) then decide ((i : Int) < 300) else false) = false := hb
      rw [bif_and, List.length_map] at hb
      simp only [Bool.and_eq_false_iff, decide_eq_false_iff_not] at hb
      have hend : i = min 300 l.length := by omega
      refine W.exit ?_
      refine R [] ?_
      rw [← hend]
      exact W.ret (End 2 (by omega) ⟨rfl, rfl⟩)

end Go.W

/-
  The law TopOrigin.
-/
namespace Go.W
open Go.Proofs

theorem mays_set (m : Nat → Bool) (k : Nat) : (eBools10 m).set [k] (.bool true) = eBools10 (upd m k true) := by
  simp only [eBools10, D.set, set_nil, upd]
  congr 1
  funext j
  exact bif_map D.bool _ _ _

set_option maxHeartbeats 8000000 in
set_option maxRecDepth 100000 in
theorem origin_look (c : CrowdS) (a : Act) (r : Reply) (m : Nat → Bool) (liar : Int) (hg : ∀ k, k < 4 → GoodN (c.nodes k))
    (h1 : r.code = 0 → a.kind = 1 → 1 ≤ a.value ∧ a.value ≤ 9) (h5 : r.code = 0 → a.kind = 5 → a.word.kind = 1 → 1 ≤ a.word.value ∧ a.word.value ≤ 9)
    (hst : ∀ k h : Nat, k < 4 → h < 4 → (c.nodes k).settled h ≠ 0 → m2S a r m ((c.nodes k).settled h).toNat = true) :
    Fn Try.prog 45 [.ptr 0 [], .data (eAct a), .data (eReply r), .ptr 2 [], .ptr 3 []] (CE c ++ [.var (eBools10 m) [], .var (I liar) []]) (.data (.bool true)) (CE c ++ [.var (eBools10 (m2S a r m)) [], .var (I liar) []]) := by
  refine spec_of ttok Try.func45 rfl (by kernel_rfl) (by exact Nat.le_of_ble_eq_true rfl) fun hin hie c0 hc0 he => ?_
  have hn0 : c0.es.length ≤ 4 := Nat.le_of_eq (by rw [he]; rfl)
  refine R [] ?_
  refine W.seq (R [] ?_)
  refine C (fun hb => ?zp) (fun hb => ?zq)
  case' zp =>
    have hc : r.code = 0 ∧ a.kind = 1 := by
      have hb : (bif r.code == 0 then a.kind == 1 else false) = true := hb
      rw [bif_and] at hb
      simpa only [Bool.and_eq_true, beq_iff_eq] using hb
    have hv := h1 hc.1 hc.2
    have em : m1S a r m = upd m a.value.toNat true := by unfold m1S; rw [if_pos hc]
    refine R1 [] (ho := by exact ⟨⟨by omega, by omega⟩, trivial⟩) ?_
    refine W.ents (es' := CE c ++ [.var (eBools10 (m1S a r m)) [], .var (I liar) [], .var (eAct a) [], .var (eReply r) []]) ?_ ?_
    · rw [em]
      with_unfolding_all exact congrArg (fun d => CE c ++ [Ent.var d [], .var (I liar) [], .var (eAct a) [], .var (eReply r) []]) (mays_set m a.value.toNat)
    refine W.le hc0 (Le.cut [(0, .ptr 0 []), (3, .ptr 2 []), (4, .ptr 3 []), (6, .ptr 4 []), (7, .ptr 5 [])] 6 (by omega) (es' := CE c ++ [.var (eBools10 (m1S a r m)) [], .var (I liar) [], .var (eAct a) [], .var (eReply r) []]) ⟨⟨by with_unfolding_all rfl, rfl⟩, ⟨by with_unfolding_all rfl, rfl⟩, ⟨by with_unfolding_all rfl, rfl⟩, ⟨by with_unfolding_all rfl, rfl⟩, ⟨by with_unfolding_all rfl, rfl⟩, trivial⟩ (by with_unfolding_all rfl)) ?zpp
  case' zq =>
    have hc : ¬ (r.code = 0 ∧ a.kind = 1) := by
      have hb : (bif r.code == 0 then a.kind == 1 else false) = false := hb
      rw [bif_and] at hb
      intro h
      rw [h.1, h.2] at hb
      cases hb
    have em : m1S a r m = m := by unfold m1S; rw [if_neg hc]
    refine W.skip ?_
    refine W.le hc0 (Le.cut [(0, .ptr 0 []), (3, .ptr 2 []), (4, .ptr 3 []), (6, .ptr 4 []), (7, .ptr 5 [])] 6 (by omega) (es' := CE c ++ [.var (eBools10 (m1S a r m)) [], .var (I liar) [], .var (eAct a) [], .var (eReply r) []]) ⟨⟨by with_unfolding_all rfl, rfl⟩, ⟨by with_unfolding_all rfl, rfl⟩, ⟨by with_unfolding_all rfl, rfl⟩, ⟨by with_unfolding_all rfl, rfl⟩, ⟨by with_unfolding_all rfl, rfl⟩, trivial⟩ (by rw [em]; with_unfolding_all rfl)) ?zqq
  all_goals
    clear hb
    refine W.seq (R [] ?_)
    refine C (fun hb => ?_) (fun hb => ?_)
    have hc5 : (r.code = 0 ∧ a.kind = 5) ∧ a.word.kind = 1 := by
      have hb : (bif (bif r.code == 0 then a.kind == 5 else false) then a.word.kind == 1 else false) = true := hb
      rw [bif_and, bif_and] at hb
      simpa only [Bool.and_eq_true, beq_iff_eq] using hb
    have hv5 := h5 hc5.1.1 hc5.1.2 hc5.2
    have em5 : m2S a r m = upd (m1S a r m) a.word.value.toNat true := by unfold m2S; rw [if_pos hc5]
    refine R1 [] (ho := by exact ⟨⟨by omega, by omega⟩, trivial⟩) ?_
    refine W.ents (es' := CE c ++ [.var (eBools10 (m2S a r m)) [], .var (I liar) [], .var (eAct a) [], .var (eReply r) []]) ?_ ?_
    · rw [em5]
      with_unfolding_all exact congrArg (fun d => CE c ++ [Ent.var d [], .var (I liar) [], .var (eAct a) [], .var (eReply r) []]) (mays_set (m1S a r m) a.word.value.toNat)
    refine W.le hc0 (Le.cut [(0, .ptr 0 []), (3, .ptr 2 []), (4, .ptr 3 [])] 4 (by omega) (es' := CE c ++ [.var (eBools10 (m2S a r m)) [], .var (I liar) []]) ⟨⟨by with_unfolding_all rfl, rfl⟩, ⟨by with_unfolding_all rfl, rfl⟩, ⟨by with_unfolding_all rfl, rfl⟩, trivial⟩ (by with_unfolding_all rfl)) ?_
    rotate_left
    have hc5 : ¬ ((r.code = 0 ∧ a.kind = 5) ∧ a.word.kind = 1) := by
      have hb : (bif (bif r.code == 0 then a.kind == 5 else false) then a.word.kind == 1 else false) = false := hb
      rw [bif_and, bif_and] at hb
      intro h
      rw [h.1.1, h.1.2, h.2] at hb
      cases hb
    have em5 : m2S a r m = m1S a r m := by unfold m2S; rw [if_neg hc5]
    refine W.skip ?_
    refine W.le hc0 (Le.cut [(0, .ptr 0 []), (3, .ptr 2 []), (4, .ptr 3 [])] 4 (by omega) (es' := CE c ++ [.var (eBools10 (m2S a r m)) [], .var (I liar) []]) ⟨⟨by with_unfolding_all rfl, rfl⟩, ⟨by with_unfolding_all rfl, rfl⟩, ⟨by with_unfolding_all rfl, rfl⟩, trivial⟩ (by rw [em5]; with_unfolding_all rfl)) ?_
    all_goals
      clear hb
      refine W.seq (R [] ?_)
      refine W.block (W.loop hc0 (ι := Nat) (fun i => ⟨66, frOf [(0, .ptr 0 []), (3, .ptr 2 []), (4, .ptr 3 []), (41, .data (I i))], CE c ++ [.var (eBools10 (m2S a r m)) [], .var (I liar) []]⟩) (fun i => i ≤ 4) (fun i => 4 - i) 0 (by omega) ?_ ?_)
      · exact Le.cut _ 4 (by omega) ⟨⟨by with_unfolding_all rfl, rfl⟩, ⟨by with_unfolding_all rfl, rfl⟩, ⟨by with_unfolding_all rfl, rfl⟩, ⟨by with_unfolding_all rfl, rfl⟩, trivial⟩ (by with_unfolding_all rfl)
      · intro i hi
        refine R [] ?_
        refine W.seq (C (fun hb => ?_) (fun hb => ?_))
        · have hi : i < 4 := by have := of_decide_eq_true hb; omega
          clear hb
          have hgi := hg i hi
          have hq : (c.nodes i).queue.length ≤ 1000000 := by have := hgi.len; omega
          refine W.skip (W.seq (W.block ?_))
          refine R [] ?_
          refine R [Hint.on [0, 1] (CE c) (.data (eNode (c.nodes i)))] (ho := by exact ⟨crowdNode_spec c (i : Nat) (by omega) hq, trivial⟩) ?_
          refine W.block (W.loop hc0 (ι := Nat) (fun h => ⟨66, frOf [(0, .ptr 0 []), (3, .ptr 2 []), (4, .ptr 3 []), (9, .data (I i)), (41, .data (I i)), (47, .data (eVotes (c.nodes i).settled)), (48, .data (I h))], CE c ++ [.var (eBools10 (m2S a r m)) [], .var (I liar) []]⟩) (fun h => h ≤ 4) (fun h => 4 - h) 0 (by omega) ?_ ?_)
          · exact Le.cut _ 4 (by omega) ⟨⟨by with_unfolding_all rfl, rfl⟩, ⟨by with_unfolding_all rfl, rfl⟩, ⟨by with_unfolding_all rfl, rfl⟩, ⟨by with_unfolding_all rfl, rfl⟩, ⟨by with_unfolding_all rfl, rfl⟩, ⟨by with_unfolding_all rfl, rfl⟩, ⟨by with_unfolding_all rfl, rfl⟩, trivial⟩ (by with_unfolding_all rfl)
          · intro h hh
            refine R [] ?_
            refine W.seq (C (fun hb => ?_) (fun hb => ?_))
            · have hh : h < 4 := by have := of_decide_eq_true hb; omega
              have hhi : (0 : Int) ≤ h ∧ (h : Int) < 4 := by omega
              clear hb
              have hs := hgi.settled h hh
              refine W.skip (W.seq (W.block ?_))
              refine R [] (ho := by exact ⟨hhi, trivial⟩) ?_
              have hb10 : 0 ≤ (c.nodes i).settled h ∧ (c.nodes i).settled h < 10 := by omega
              refine R [] (ho := by exact ⟨fun _ => hb10, trivial⟩) ?_
              refine C (fun hb => ?_) (fun hb => ?_)
              · exfalso
                have hb : (bif (bif !((c.nodes i).settled h == 0) then !((i : Int) == liar) else false) then !(m2S a r m ((c.nodes i).settled h).toNat) else false) = true := hb
                rw [bif_and, bif_and] at hb
                simp only [Bool.and_eq_true, Bool.not_eq_true', beq_eq_false_iff_ne] at hb
                have := hst i h hi hh hb.1.1
                rw [this] at hb
                cases hb.2
              refine W.skip ?_
              refine R1 [] ?_
              exact ⟨h + 1, by omega, by omega, Le.cut _ 4 (by omega) ⟨⟨by with_unfolding_all rfl, rfl⟩, ⟨by with_unfolding_all rfl, rfl⟩, ⟨by with_unfolding_all rfl, rfl⟩, ⟨by with_unfolding_all rfl, rfl⟩, ⟨by with_unfolding_all rfl, rfl⟩, ⟨by with_unfolding_all rfl, rfl⟩, ⟨sl_int (wrap_up (by omega)), rfl⟩, trivial⟩ (by with_unfolding_all rfl)⟩
            · refine W.exit ?_
              refine R1 [] ?_
              exact ⟨i + 1, by omega, by omega, Le.cut _ 4 (by omega) ⟨⟨by with_unfolding_all rfl, rfl⟩, ⟨by with_unfolding_all rfl, rfl⟩, ⟨by with_unfolding_all rfl, rfl⟩, ⟨sl_int (wrap_up (by omega)), rfl⟩, trivial⟩ (by with_unfolding_all rfl)⟩
        · refine W.exit ?_
          refine R [] ?_
          exact W.ret (EndB 4 hn0 rfl)

set_option maxHeartbeats 8000000 in
set_option maxRecDepth 100000 in
theorem topOrigin_spec (n : Int) (l : List Act) : Pure Try.prog 13 [.data (I n), .data (eActs l)] (.data (.bool true)) := by
  refine spec_of ttok Try.func13 rfl (by kernel_rfl) (by exact Nat.le_of_ble_eq_true rfl) fun hin hie c0 hc0 he => ?_
  have hn0 : c0.es.length ≤ 0 := Nat.le_of_eq (by rw [he]; rfl)
  have hL := liesV_bd n
  have hlies := lies_top n
  generalize liesV n = liar at hL hlies
  obtain ⟨d, hp⟩ := play_var2 liar l hL 45 (fun i => eBools10 (mayW liar l i)) (I liar) fun i c x y h3 hl hp hc hx hy => by
    subst hy
    have hp' := hp.do (by omega) x
    have hm := mayW_ok liar l (i + 1) hl
    rw [playC_take _ _ hl, ← hc, ← hx] at hm
    have e2 : mayW liar l (i + 1) = m2S x (doC c x).2 (mayW liar l i) := by rw [hx, hc]; rfl
    simp only [e2]
    rw [e2] at hm
    refine origin_look (doC c x).1 x (doC c x).2 (mayW liar l i) liar hp'.inv.good (fun g1 g2 => brings_bd ⟨g1, .inl ⟨g2, rfl⟩⟩) (fun g1 g2 g3 => brings_bd ⟨g1, .inr ⟨g2, g3, rfl⟩⟩) fun k h hk hh hn => ?_
    obtain ⟨v, e, hv⟩ := (hm.nodes k hk).settled h hn
    rw [e]; exact hv
  refine R [] ?_
  refine R [] ?_
  refine R [.data (I liar)] (ho := by exact ⟨hlies, trivial⟩) ?_
  refine R [Hint.on [1, 0] [.var d [], .var (I liar) []] (.tuple [.undef, .data (.bool true)])] (ho := by exact ⟨hp, trivial⟩) ?_
  refine R [] ?_
  exact W.ret (EndB 0 hn0 rfl)

end Go.W
