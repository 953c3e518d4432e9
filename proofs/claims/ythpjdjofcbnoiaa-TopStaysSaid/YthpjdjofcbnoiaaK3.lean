/-
  Texts for the law TopStays: Hi Hj Tb.
-/
import Derived.Test.YthpjdjofcbnoiaaK2
import Derived.Test.YthpjdjofcbnoiaaPj
import Derived.Test.YthpjdjofcbnoiaaPl

/-
  Package top: acts that are played.
-/
namespace Go.W
open Go.Proofs

theorem cptr_acts (l : List Act) {k : Nat} (h : k < l.length) : AV.cptr ((l.map eAct).getD k default) = .cptr (eAct (l.getD k Act.zero)) := by
  simp [List.getElem?_eq_getElem h]
theorem sizes_acts (l : List Act) : ∀ d ∈ l.map eAct, d.size = 14 := by
  intro d hd
  obtain ⟨v, _, rfl⟩ := List.mem_map.1 hd
  rfl
theorem sameAA (a b : Act) : Same (eAct a) (eAct b) := ⟨rfl, fun i hi => by
  match i, hi with
  | 0, _ => trivial
  | 1, _ => trivial
  | 2, _ => trivial
  | 3, _ => trivial
  | 4, _ => exact sameWW _ _
  | 5, _ => exact sameVV _ _⟩

set_option maxHeartbeats 8000000 in
set_option maxRecDepth 100000 in
theorem play_quiet (liar : Int) (l : List Act) (hl : -1 ≤ liar ∧ liar < 4) : Fn Try.prog 36 [.data (I liar), .data (eActs l), .func 37 []] [] (.tuple [.ptr 0 [], .data (.bool true)]) (CE (played liar l)) := by
  refine spec_of ttok Try.func36 rfl (by kernel_rfl) (by exact Nat.le_of_ble_eq_true rfl) fun hin hie c0 hc0 he => ?_
  have hn0 : c0.es.length ≤ 0 := Nat.le_of_eq (by rw [he]; rfl)
  have hz : c0.es.length = 0 := by rw [he]; rfl
  refine R [] ?_
  refine W.seq (R [.data (.bool true)] (ho := by exact ⟨alive_top, trivial⟩) ?_)
  refine CF ?_
  refine W.skip ?_
  refine R [Hint.on [] (CE (newC liar)) (.tuple [.ptr 0 [], .data (I 0)])] (ho := by exact ⟨newC_ok liar hl, trivial⟩) ?_
  refine W.seq (R [] ?_)
  refine CF ?_
  refine W.skip ?_
  refine W.seq (R [] ?_)
  refine W.block (W.loop hc0 (ι := Nat) (fun i => ⟨52, frOf [(1, .data (eActs l)), (2, .func 37 []), (8, .ptr 0 []), (10, .data (I i))], CE (playC (newC liar) (l.take i))⟩) (fun i => i ≤ 300 ∧ i ≤ l.length) (fun i => 300 - i) 0 (by omega) ?_ ?_)
  · exact Le.cut _ 2 (by omega) ⟨⟨by with_unfolding_all rfl, rfl⟩, ⟨by with_unfolding_all rfl, rfl⟩, ⟨by with_unfolding_all rfl, rfl⟩, ⟨by with_unfolding_all rfl, rfl⟩, trivial⟩ (by with_unfolding_all rfl)
  · intro i ⟨hi3, hil⟩
    refine W.seq (R [] ?_)
    refine C (fun hb => ?_) (fun hb => ?_)
    · have hii : i < l.length ∧ i < 300 := by
        have hb : (bif decide ((i : Int) < ((l.map eAct).length : Int)) then decide ((i : Int) < 300) else false) = true := hb
        rw [bif_and, List.length_map] at hb
        simp only [Bool.and_eq_true, decide_eq_true_eq] at hb
        omega
      clear hb
      have hp := Played.play liar l i hil (by omega)
      have hT := playC_take (newC liar) l hii.1
      generalize playC (newC liar) (l.take i) = c at hp hT ⊢
      have hac : 0 ≤ c.acts ∧ c.acts ≤ 600 := by have := hp.acts; omega
      have hix : (0 : Int) ≤ i ∧ (i : Int) < (l.map eAct).length := ⟨by omega, by rw [List.length_map]; omega⟩
      refine W.skip (W.seq (W.block ?_))
      generalize hx : l.getD i Act.zero = x at hT
      have hcp : AV.cptr ((l.map eAct).getD i default) = .cptr (eAct x) := by rw [cptr_acts _ hii.1, hx]
      by_cases hd : drops c x
      case' pos =>
        have hdo := do_drop hp.net hac hd
        generalize doC c x = y at hdo hT
        refine R [.is 38 (.cptr (eAct x)), Hint.on [0, 1] [.var (eCrowd y.1) [([1], 2)], .row 7 (c.net.map eLetter), .row 7 (y.1.net.map eLetter)] (.data (eReply y.2))] (ho := by exact ⟨hcp, hix, sizes_acts l, hdo, sameRR _ _, trivial⟩) ?_
        refine W.le hc0 (Le.pick [0, 2, 3] [(1, .data (eActs l)), (2, .func 37 []), (8, .ptr 0 []), (10, .data (I i)), (11, .ptr 2 [])] (es' := CE y.1 ++ [.var (eReply y.2) []]) (fun k hk => by omega) (by with_unfolding_all rfl) (by with_unfolding_all rfl) ⟨by with_unfolding_all rfl, by with_unfolding_all rfl, by with_unfolding_all rfl, by with_unfolding_all rfl, by with_unfolding_all rfl, trivial⟩) ?_
      case' neg =>
        have hdo := do_no hp.net hac hd
        generalize doC c x = y at hdo hT
        refine R [.is 38 (.cptr (eAct x)), Hint.on [0, 1] (CE y.1) (.data (eReply y.2))] (ho := by exact ⟨hcp, hix, sizes_acts l, hdo, sameRR _ _, trivial⟩) ?_
        refine W.le hc0 (Le.cut [(1, .data (eActs l)), (2, .func 37 []), (8, .ptr 0 []), (10, .data (I i)), (11, .ptr 2 [])] 3 (by omega) (es' := CE y.1 ++ [.var (eReply y.2) []]) ⟨⟨by with_unfolding_all rfl, rfl⟩, ⟨by with_unfolding_all rfl, rfl⟩, ⟨by with_unfolding_all rfl, rfl⟩, ⟨by with_unfolding_all rfl, rfl⟩, ⟨by with_unfolding_all rfl, rfl⟩, trivial⟩ (by with_unfolding_all rfl)) ?_
      all_goals
        refine RD [.is 45 (.cptr (eAct x)), Hint.on [0, 1] (CE y.1) (.data (.bool true))] (ho := by exact ⟨hcp, hix, sizes_acts l, quiet_top y.1 x y.2, trivial⟩) ?_
        refine CF ?_
        refine W.skip ?_
        refine R1 [] ?_
        refine ⟨i + 1, by omega, by omega, Le.cut _ 2 (by omega) ⟨⟨by with_unfolding_all rfl, rfl⟩, ⟨by with_unfolding_all rfl, rfl⟩, ⟨by with_unfolding_all rfl, rfl⟩, ⟨sl_int (wrap_up (by omega)), rfl⟩, trivial⟩ ?_⟩
        rw [hT]
        with_unfolding_all rfl
    · have hb : (bif decide ((i : Int) < ((l.map eAct).length : Int)) then decide ((i : Int) < 300) else false) = false := hb
      rw [bif_and, List.length_map] at hb
      simp only [Bool.and_eq_false_iff, decide_eq_false_iff_not] at hb
      have hend := played_end (liar := liar) (l := l) (i := i) (by omega) hi3
      rw [hend]
      refine W.exit ?_
      refine R [] ?_
      exact W.ret (End 2 (by omega) ⟨rfl, rfl⟩)

end Go.W

/-
  Package top: acts that are played; what looks at them keeps a variable.
-/
namespace Go.W
open Go.Proofs

set_option maxHeartbeats 8000000 in
set_option maxRecDepth 100000 in
theorem play_var (liar : Int) (l : List Act) (hl : -1 ≤ liar ∧ liar < 4) (f : FuncId) (Z : Nat → D)
    (hf : ∀ i c x y, i < 300 → i < l.length → Played liar c i → c = playC (newC liar) (l.take i) → x = l.getD i Act.zero → y = doC c x →
      Fn Try.prog f [.ptr 0 [], .data (eAct x), .data (eReply y.2), .ptr 2 []] (CE y.1 ++ [.var (Z i) []]) (.data (.bool true)) (CE y.1 ++ [.var (Z (i + 1)) []])) :
    ∃ d, Fn Try.prog 36 [.data (I liar), .data (eActs l), .func f [.ptr 0 []]] [.var (Z 0) []] (.tuple [.undef, .data (.bool true)]) [.var d []] := by
  refine ⟨Z (min 300 l.length), ?_⟩
  refine spec_of ttok Try.func36 rfl (by kernel_rfl) (by exact Nat.le_of_ble_eq_true rfl) fun hin hie c0 hc0 he => ?_
  have hn0 : c0.es.length ≤ 1 := Nat.le_of_eq (by rw [he]; rfl)
  have hz : c0.es.length = 1 := by rw [he]; rfl
  refine R [] ?_
  refine W.seq (R [.data (.bool true)] (ho := by exact ⟨alive_top, trivial⟩) ?_)
  refine CF ?_
  refine W.skip ?_
  refine R [Hint.on [] (CE (newC liar)) (.tuple [.ptr 0 [], .data (I 0)])] (ho := by exact ⟨newC_ok liar hl, trivial⟩) ?_
  refine W.seq (R [] ?_)
  refine CF ?_
  refine W.skip ?_
  refine W.seq (R [] ?_)
  refine W.block (W.loop hc0 (ι := Nat) (fun i => ⟨52, frOf [(1, .data (eActs l)), (2, .func f [.ptr 0 []]), (8, .ptr 1 []), (10, .data (I i))], [.var (Z i) [], .var (eCrowd (playC (newC liar) (l.take i))) [([1], 2)], .row 7 ((playC (newC liar) (l.take i)).net.map eLetter)]⟩) (fun i => i ≤ 300 ∧ i ≤ l.length) (fun i => 300 - i) 0 (by omega) ?_ ?_)
  · exact Le.cut _ 3 (by omega) ⟨⟨by with_unfolding_all rfl, rfl⟩, ⟨by with_unfolding_all rfl, rfl⟩, ⟨by with_unfolding_all rfl, rfl⟩, ⟨by with_unfolding_all rfl, rfl⟩, trivial⟩ (by with_unfolding_all rfl)
  · intro i ⟨hi3, hil⟩
    refine W.seq (R [] ?_)
    refine C (fun hb => ?_) (fun hb => ?_)
    · have hii : i < l.length ∧ i < 300 := by
        have hb : (bif decide ((i : Int) < ((l.map eAct).length : Int)) then decide ((i : Int) < 300) else false) = true := hb
        rw [bif_and, List.length_map] at hb
        simp only [Bool.and_eq_true, decide_eq_true_eq] at hb
        omega
      clear hb
      have hp := Played.play liar l i hil (by omega)
      have hT := playC_take (newC liar) l hii.1
      generalize hcc : playC (newC liar) (l.take i) = c at hp hT ⊢
      have hac : 0 ≤ c.acts ∧ c.acts ≤ 600 := by have := hp.acts; omega
      have hix : (0 : Int) ≤ i ∧ (i : Int) < (l.map eAct).length := ⟨by omega, by rw [List.length_map]; omega⟩
      refine W.skip (W.seq (W.block ?_))
      generalize hx : l.getD i Act.zero = x at hT
      have hcp : AV.cptr ((l.map eAct).getD i default) = .cptr (eAct x) := by rw [cptr_acts _ hii.1, hx]
      by_cases hd : drops c x
      case' pos =>
        have hdo := do_drop hp.net hac hd
        generalize hyy : doC c x = y at hdo hT
        refine R [.is 38 (.cptr (eAct x)), Hint.on [1, 2] [.var (eCrowd y.1) [([1], 2)], .row 7 (c.net.map eLetter), .row 7 (y.1.net.map eLetter)] (.data (eReply y.2))] (ho := by exact ⟨hcp, hix, sizes_acts l, hdo, sameRR _ _, trivial⟩) ?_
        refine W.le hc0 (Le.pick [0, 1, 3, 4] [(1, .data (eActs l)), (2, .func f [.ptr 0 []]), (8, .ptr 1 []), (10, .data (I i)), (11, .ptr 3 [])] (es' := [.var (Z i) [], .var (eCrowd y.1) [([1], 2)], .row 7 (y.1.net.map eLetter), .var (eReply y.2) []]) (fun k hk => by rw [show k = 0 by omega]; rfl) (by with_unfolding_all rfl) (by with_unfolding_all rfl) ⟨by with_unfolding_all rfl, by with_unfolding_all rfl, by with_unfolding_all rfl, by with_unfolding_all rfl, by with_unfolding_all rfl, trivial⟩) ?_
      case' neg =>
        have hdo := do_no hp.net hac hd
        generalize hyy : doC c x = y at hdo hT
        refine R [.is 38 (.cptr (eAct x)), Hint.on [1, 2] (CE y.1) (.data (eReply y.2))] (ho := by exact ⟨hcp, hix, sizes_acts l, hdo, sameRR _ _, trivial⟩) ?_
        refine W.le hc0 (Le.cut [(1, .data (eActs l)), (2, .func f [.ptr 0 []]), (8, .ptr 1 []), (10, .data (I i)), (11, .ptr 3 [])] 4 (by omega) (es' := [.var (Z i) [], .var (eCrowd y.1) [([1], 2)], .row 7 (y.1.net.map eLetter), .var (eReply y.2) []]) ⟨⟨by with_unfolding_all rfl, rfl⟩, ⟨by with_unfolding_all rfl, rfl⟩, ⟨by with_unfolding_all rfl, rfl⟩, ⟨by with_unfolding_all rfl, rfl⟩, ⟨by with_unfolding_all rfl, rfl⟩, trivial⟩ (by with_unfolding_all rfl)) ?_
      all_goals
        refine RD [.is 45 (.cptr (eAct x)), Hint.on [1, 2, 0] (CE y.1 ++ [.var (Z (i + 1)) []]) (.data (.bool true))] (ho := by exact ⟨hcp, hix, sizes_acts l, hf i c x y hii.2 hii.1 hp hcc.symm hx.symm hyy.symm, trivial⟩) ?_
        refine CF ?_
        refine W.skip ?_
        refine R1 [] ?_
        refine ⟨i + 1, by omega, by omega, Le.cut _ 3 (by omega) ⟨⟨by with_unfolding_all rfl, rfl⟩, ⟨by with_unfolding_all rfl, rfl⟩, ⟨by with_unfolding_all rfl, rfl⟩, ⟨sl_int (wrap_up (by omega)), rfl⟩, trivial⟩ ?_⟩
        rw [hT]
        with_unfolding_all rfl
    · have hb : (bif decide ((i : Int) < ((l.map eAct).length : Int)) then decide ((i : Int) < 300) else false) = false := hb
      rw [bif_and, List.length_map] at hb
      simp only [Bool.and_eq_false_iff, decide_eq_false_iff_not] at hb
      have hend : i = min 300 l.length := by omega
      refine W.exit ?_
      refine R [] ?_
      rw [← hend]
      exact W.ret (End 1 (by omega) ⟨rfl, rfl⟩)

end Go.W

/-
  The law TopStays.
-/
namespace Go.W
open Go.Proofs

set_option maxHeartbeats 8000000 in
set_option maxRecDepth 100000 in
theorem stays_look (c : CrowdS) (a : Act) (r : Reply) (w : Nat → Nat → Int) (hg : ∀ k, k < 4 → GoodN (c.nodes k)) (hst : ∀ k h : Nat, k < 4 → h < 4 → w k h ≠ 0 → (c.nodes k).settled h = w k h) :
    Fn Try.prog 44 [.ptr 0 [], .data (eAct a), .data (eReply r), .ptr 2 []] (CE c ++ [.var (eInts44 w) []]) (.data (.bool true)) (CE c ++ [.var (eInts44 (stS c w 4)) []]) := by
  refine spec_of ttok Try.func44 rfl (by kernel_rfl) (by exact Nat.le_of_ble_eq_true rfl) fun hin hie c0 hc0 he => ?_
  have hn0 : c0.es.length ≤ 3 := Nat.le_of_eq (by rw [he]; rfl)
  refine R [] ?_
  refine W.seq (R [] ?_)
  refine W.block (W.loop hc0 (ι := Nat) (fun i => ⟨63, frOf [(0, .ptr 0 []), (3, .ptr 2 []), (12, .data (I i))], CE c ++ [.var (eInts44 (stS c w i)) []]⟩) (fun i => i ≤ 4) (fun i => 4 - i) 0 (by omega) ?_ ?_)
  · exact Le.cut _ 3 (by omega) ⟨⟨by with_unfolding_all rfl, rfl⟩, ⟨by with_unfolding_all rfl, rfl⟩, ⟨by with_unfolding_all rfl, rfl⟩, trivial⟩ (by with_unfolding_all rfl)
  · intro i hi
    refine R [] ?_
    refine W.seq (C (fun hb => ?_) (fun hb => ?_))
    · have hi : i < 4 := by have := of_decide_eq_true hb; omega
      have hii : (0 : Int) ≤ i ∧ (i : Int) < 4 := by omega
      clear hb
      have hgi := hg i hi
      have hq : (c.nodes i).queue.length ≤ 1000000 := by have := hgi.len; omega
      refine W.skip (W.seq (W.block ?_))
      refine R [] ?_
      refine R [Hint.on [0, 1] (CE c) (.data (eNode (c.nodes i)))] (ho := by exact ⟨crowdNode_spec c (i : Nat) (by omega) hq, sameNz _ _, trivial⟩) ?_
      have hgd := goodN_spec (c.nodes i)
      rw [(goodN_iff _).2 hgi] at hgd
      refine W.seq (R [.data (.bool true)] (ho := by exact ⟨hgd, trivial⟩) ?_)
      refine CF ?_
      refine W.skip ?_
      refine W.seq (R [.is 23 (.data (eVotes (w i)))] (ho := by exact ⟨hii, congrArg (fun v => AV.data (eVotes v)) (show stS c w i i = w i by rw [stS_at, if_neg (by omega)]), trivial⟩) ?_)
      refine W.block (W.loop hc0 (ι := Nat) (fun h => ⟨63, frOf [(0, .ptr 0 []), (3, .ptr 2 []), (8, .data (I i)), (9, .ptr 3 []), (12, .data (I i)), (23, .data (eVotes (w i))), (24, .data (I h))], CE c ++ [.var (eInts44 (stS c w i)) [], .var (eNode (c.nodes i)) []]⟩) (fun h => h ≤ 4) (fun h => 4 - h) 0 (by omega) ?_ ?_)
      · exact Le.cut _ 4 (by omega) ⟨⟨by with_unfolding_all rfl, rfl⟩, ⟨by with_unfolding_all rfl, rfl⟩, ⟨by with_unfolding_all rfl, rfl⟩, ⟨by with_unfolding_all rfl, rfl⟩, ⟨by with_unfolding_all rfl, rfl⟩, ⟨by with_unfolding_all rfl, rfl⟩, ⟨by with_unfolding_all rfl, rfl⟩, trivial⟩ (by with_unfolding_all rfl)
      · intro h hh
        refine R [] ?_
        refine W.seq (C (fun hb => ?_) (fun hb => ?_))
        · have hh : h < 4 := by have := of_decide_eq_true hb; omega
          have hhi : (0 : Int) ≤ h ∧ (h : Int) < 4 := by omega
          clear hb
          refine W.skip (W.seq (W.block ?_))
          refine R [] (ho := by exact ⟨hhi, trivial⟩) ?_
          have hw : (h : Int) > 0 → IntKind.i64.wrap ((h : Int) - 1) = ((h - 1 : Nat) : Int) := fun g => by rw [i64_wrap (by omega) (by omega)]; omega
          refine R [] (ho := ?ob) ?_
          case ob =>
            refine ⟨fun _ => hhi, fun _ => hhi, fun g => ?_, trivial⟩
            rw [bif_and] at g
            simp only [Bool.and_eq_true, decide_eq_true_eq] at g
            rw [hw g.2]; omega
          refine C (fun hb => ?_) (fun hb => ?_)
          · exfalso
            have hb : (bif (bif !(w i h == 0) then !((c.nodes i).settled h == w i h) else false) then true else (bif (bif !((c.nodes i).settled h == 0) then decide (0 < (h : Int)) else false) then (c.nodes i).settled (IntKind.i64.wrap ((h : Int) - 1)).toNat == 0 else false)) = true := hb
            rw [bif_or, bif_and, bif_and, bif_and] at hb
            simp only [Bool.or_eq_true, Bool.and_eq_true, Bool.not_eq_true', beq_eq_false_iff_ne, decide_eq_true_eq, beq_iff_eq] at hb
            rcases hb with ⟨g1, g2⟩ | ⟨⟨g1, g2⟩, g3⟩
            · exact g2 (hst i h hi hh g1)
            · rw [hw g2, Int.toNat_natCast] at g3
              have s1 := hgi.settled h hh
              have s2 := hgi.settled (h - 1) (by omega)
              omega
          refine W.skip ?_
          refine R1 [] ?_
          exact ⟨h + 1, by omega, by omega, Le.cut _ 4 (by omega) ⟨⟨by with_unfolding_all rfl, rfl⟩, ⟨by with_unfolding_all rfl, rfl⟩, ⟨by with_unfolding_all rfl, rfl⟩, ⟨by with_unfolding_all rfl, rfl⟩, ⟨by with_unfolding_all rfl, rfl⟩, ⟨by with_unfolding_all rfl, rfl⟩, ⟨sl_int (wrap_up (by omega)), rfl⟩, trivial⟩ (by with_unfolding_all rfl)⟩
        · refine W.exit ?_
          refine R1 [] (ho := by exact ⟨hii, sameVV _ _, trivial⟩) ?_
          refine R1 [] ?_
          refine ⟨i + 1, by omega, by omega, Le.cut _ 3 (by omega) ⟨⟨by with_unfolding_all rfl, rfl⟩, ⟨by with_unfolding_all rfl, rfl⟩, ⟨sl_int (wrap_up (by omega)), rfl⟩, trivial⟩ ?_⟩
          have := inner_set (stS c w i) i (c.nodes i).settled
          simp only [stS]
          rw [← this]
          with_unfolding_all rfl
    · have hi : i = 4 := by have := of_decide_eq_false hb; omega
      subst hi
      refine W.exit ?_
      refine R [] ?_
      exact W.ret (EndB 3 hn0 rfl)

set_option maxHeartbeats 8000000 in
set_option maxRecDepth 100000 in
theorem topStays_spec (n : Int) (l : List Act) : Pure Try.prog 13 [.data (I n), .data (eActs l)] (.data (.bool true)) := by
  refine spec_of ttok Try.func13 rfl (by kernel_rfl) (by exact Nat.le_of_ble_eq_true rfl) fun hin hie c0 hc0 he => ?_
  have hn0 : c0.es.length ≤ 0 := Nat.le_of_eq (by rw [he]; rfl)
  have hL := liesV_bd n
  refine R [] ?_
  refine R [] ?_
  have hlies := lies_top n
  generalize liesV n = liar at hL hlies
  obtain ⟨d, hp⟩ := play_var liar l hL 44 (fun i => eInts44 (stW liar l i)) fun i c x y h3 hl hp hc hx hy => by
    subst hy
    have hp' := hp.do (by omega) x
    have e : (doC c x).1 = playC (newC liar) (l.take (i + 1)) := by rw [playC_take _ _ hl, ← hc, ← hx]
    have := stays_look (doC c x).1 x (doC c x).2 (stW liar l i) hp'.inv.good fun k h hk hh hn => by
      have h1 := stW_at liar l hk i h hn
      rw [← hc] at h1
      rw [doC_settled x hh (by rw [h1]; exact hn), h1]
    have e2 : stW liar l (i + 1) = stS (doC c x).1 (stW liar l i) 4 := by rw [e]; rfl
    simp only [e2]
    exact this
  refine R [.data (I liar), Hint.on [0] [.var d []] (.tuple [.undef, .data (.bool true)])] (ho := by exact ⟨hlies, hp, trivial⟩) ?_
  refine R [] ?_
  exact W.ret (EndB 0 hn0 rfl)

end Go.W
